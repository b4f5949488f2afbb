/- Runs in stages: a call that was run once is a summary; tables whose summaries may pass. -/
import Derived.Test.YtjddgepodiabkaaGreatDoorGevKM
namespace Go.Gev
noncomputable section
def andK(a b:Bool):Bool:=Bool.rec (motive:=λ_=>Bool) false b a
def eqON:Option Nat→Option Nat→Bool
 |none,none=>true
 |some a,some b=>Nat.beq a b
 |_,_=>false
def eqAd:Option Addr→Option Addr→Bool
 |none,none=>true
 |some a,some b=>andK (Nat.beq a.block b.block) (andK (Nat.beq a.off b.off) (eqON a.spot b.spot))
 |_,_=>false
def eqKd:IntKind→IntKind→Bool
 |.i64,.i64=>true
 |.u64,.u64=>true
 |.u8,.u8=>true
 |.i32,.i32=>true
 |.u32,.u32=>true
 |_,_=>false
def eqIn:Int→Int→Bool
 |.ofNat a,.ofNat b=>Nat.beq a b
 |.negSucc a,.negSucc b=>Nat.beq a b
 |_,_=>false
def eqBo:Bool→Bool→Bool
 |true,true=>true
 |false,false=>true
 |_,_=>false
def eqBy:List UInt8→List UInt8→Bool
 |[],[]=>true
 |a::as,b::bs=>andK (Nat.beq a.toNat b.toNat) (eqBy as bs)
 |_,_=>false
def eqV0:Value→Value→Bool
 |.bool a,.bool b=>eqBo a b
 |.int k a,.int l b=>andK (eqKd k l) (eqIn a b)
 |.string a,.string b=>eqBy a.data.toList b.data.toList
 |.pointer a,.pointer b=>eqAd a b
 |.slice a n c,.slice b m d=>andK (eqAd a b) (andK (Nat.beq n m) (Nat.beq c d))
 |.map a,.map b=>eqON a b
 |.chan a,.chan b=>eqON a b
 |.nilFunc,.nilFunc=>true
 |.nilIface,.nilIface=>true
 |_,_=>false
def P_0:List Value→List Value→Bool
 |[],[]=>true
 |a::as,b::bs=>andK (eqV0 a b) (P_0 as bs)
 |_,_=>false
def eqFn:Fn→Fn→Bool
 |.func a,.func b=>Nat.beq a b
 |_,_=>false
def eqV1:Value→Value→Bool
 |.agg a,.agg b=>P_0 a.toList b.toList
 |a,b=>eqV0 a b
def T_3:List Value→List Value→Bool
 |[],[]=>true
 |a::as,b::bs=>andK (eqV1 a b) (T_3 as bs)
 |_,_=>false
def eqV:Value→Value→Bool
 |.agg a,.agg b=>T_3 a.toList b.toList
 |.tuple a,.tuple b=>T_3 a.toList b.toList
 |.iface t a,.iface u b=>andK (Nat.beq t u) (eqV0 a b)
 |.func f a b,.func g c d=>andK (eqFn f g) (andK (P_0 a.toList c.toList) (P_0 b.toList d.toList))
 |a,b=>eqV0 a b
def eqOV:Option Value→Option Value→Bool
 |none,none=>true
 |some a,some b=>eqV a b
 |_,_=>false
def eqTV(s:Tr Value):Tr Value→Bool:=
 Tr.rec (motive:=λ_=>Tr Value→Bool) (λt=>Tr.rec (motive:=λ_=>Bool) true (λ_ _ _ _ _=>false) t)
  (λv _ _ il ir t=>Tr.rec (motive:=λ_=>Bool) false (λw l r _ _=>andK (eqOV v w) (andK (il l) (ir r))) t) s
def eqNs:List Nat→List Nat→Bool
 |[],[]=>true
 |a::as,b::bs=>andK (Nat.beq a b) (eqNs as bs)
 |_,_=>false
def eqMs:List MapEntry→List MapEntry→Bool
 |[],[]=>true
 |a::as,b::bs=>andK (andK (eqV a.key b.key) (andK (eqV a.val b.val) (Nat.beq a.born b.born))) (eqMs as bs)
 |_,_=>false
def eqBl:Blk→Blk→Bool
 |.row c n e u rw fl,.row c2 n2 e2 u2 rw2 fl2=>andK (andK (Nat.beq n n2) (andK (Nat.beq e e2) (andK (Nat.beq u u2) (andK (eqBo rw rw2) (eqBo fl fl2))))) (eqTV c c2)
 |.mp a n,.mp b m=>andK (Nat.beq n m) (eqMs a b)
 |.it m a s l,.it m2 a2 s2 l2=>andK (andK (eqON m m2) (Nat.beq a a2)) (andK (eqNs s s2) (Nat.beq l l2))
 |.lp a,.lp b=>Nat.beq a b
 |_,_=>false
def orG(a b:List Value→Hs→An)(args:List Value)(h:Hs):An:=Option.rec (motive:=λ_=>An) (b args h) (λo=>some o) (a args h)
end
theorem andK_true{a b:Bool}(h:andK a b=true):a=true∧b=true:=by cases a<;>cases b<;>first|exact⟨rfl,rfl⟩|cases h
theorem H_k:∀{a b:Option Nat},eqON a b=true→a=b
 |none,none,_=>rfl
 |some _,some _,h=>congrArg some (Nat.eq_of_beq_eq_true h)
 |none,some _,h=>by cases h
 |some _,none,h=>by cases h
theorem P_q:∀{a b:Option Addr},eqAd a b=true→a=b
 |none,none,_=>rfl
 |some a,some b,h=>by
  obtain⟨h1,h⟩:=andK_true h
  obtain⟨h2,h3⟩:=andK_true h
  cases a;cases b
  have:=Nat.eq_of_beq_eq_true h1
  have:=Nat.eq_of_beq_eq_true h2
  have:=H_k h3
  simp_all
 |none,some _,h=>by cases h
 |some _,none,h=>by cases h
theorem P_x{a b:IntKind}(h:eqKd a b=true):a=b:=by cases a<;>cases b<;>first|rfl|cases h
theorem P_v{a b:Int}(h:eqIn a b=true):a=b:=by
 cases a<;>cases b<;>first|exact congrArg _ (Nat.eq_of_beq_eq_true h)|cases h
theorem F_k{a b:Bool}(h:eqBo a b=true):a=b:=by cases a<;>cases b<;>first|rfl|cases h
theorem P_t:∀{a b:List UInt8},eqBy a b=true→a=b:=by
 intro a
 induction a with
 |nil=>intro b h;cases b with
  |nil=>rfl
  |cons=>cases h
 | cons x xs ih => intro b h; cases b with
  |nil=>cases h
  |cons y ys=>
   obtain⟨h1,h2⟩:=andK_true h
   rw[ih h2,UInt8.toNat_inj.1 (Nat.eq_of_beq_eq_true h1)]
theorem F_o{a b:Value}(h:eqV0 a b=true):a=b:=by
 cases a<;>cases b<;>try cases h
 ·exact congrArg _ (F_k h)
 ·obtain⟨h1,h2⟩:=andK_true h
  rw[P_x h1,P_v h2]
 ·rename_i a b
  have:=P_t h
  congr 1
  exact ByteArray.ext (Array.ext' this)
 ·exact congrArg _ (P_q h)
 ·obtain⟨h1,h⟩:=andK_true h
  obtain⟨h2,h3⟩:=andK_true h
  rw[P_q h1,Nat.eq_of_beq_eq_true h2,Nat.eq_of_beq_eq_true h3]
 ·exact congrArg _ (H_k h)
 ·exact congrArg _ (H_k h)
 ·rfl
 ·rfl
theorem H_l:∀{a b:List Value},P_0 a b=true→a=b:=by
 intro a
 induction a with
 |nil=>intro b h;cases b with
  |nil=>rfl
  |cons=>cases h
 | cons x xs ih => intro b h; cases b with
  |nil=>cases h
  |cons y ys=>
   obtain⟨h1,h2⟩:=andK_true h
   rw[ih h2,F_o h1]
theorem X_d{a b:Fn}(h:eqFn a b=true):a=b:=by
 cases a<;>cases b<;>first|exact congrArg _ (Nat.eq_of_beq_eq_true h)|cases h
theorem X_l{a b:Value}(h:eqV1 a b=true):a=b:=by
 unfold eqV1 at h
 split at h
 ·rw[Array.ext' (H_l h)]
 ·exact F_o h
theorem L_r:∀{a b:List Value},T_3 a b=true→a=b:=by
 intro a
 induction a with
 |nil=>intro b h;cases b with
  |nil=>rfl
  |cons=>cases h
 | cons x xs ih => intro b h; cases b with
  |nil=>cases h
  |cons y ys=>
   obtain⟨h1,h2⟩:=andK_true h
   rw[ih h2,X_l h1]
theorem eqV_eq{a b:Value}(h:eqV a b=true):a=b:=by
 unfold eqV at h
 split at h
 ·rw[Array.ext' (L_r h)]
 ·rw[Array.ext' (L_r h)]
 ·obtain⟨h1,h2⟩:=andK_true h
  rw[Nat.eq_of_beq_eq_true h1,F_o h2]
 ·obtain⟨h1,h⟩:=andK_true h
  obtain⟨h2,h3⟩:=andK_true h
  rw[X_d h1,Array.ext' (H_l h2),Array.ext' (H_l h3)]
 ·exact F_o h
theorem X_i:∀{a b:Option Value},eqOV a b=true→a=b
 |none,none,_=>rfl
 |some _,some _,h=>congrArg some (eqV_eq h)
 |none,some _,h=>by cases h
 |some _,none,h=>by cases h
theorem X_k:∀{a b:Tr Value},eqTV a b=true→a=b:=by
 intro a
 induction a with
 |e=>intro b h;cases b with
  |e=>rfl
  |n=>cases h
 | n v l r il ir => intro b h; cases b with
  |e=>cases h
  |n w l2 r2=>
   obtain⟨h1,h⟩:=andK_true (show andK (eqOV v w) (andK (eqTV l l2) (eqTV r r2))=true from h)
   obtain⟨h2,h3⟩:=andK_true h
   rw[X_i h1,il h2,ir h3]
theorem X_g:∀{a b:List Nat},eqNs a b=true→a=b:=by
 intro a
 induction a with
 |nil=>intro b h;cases b with
  |nil=>rfl
  |cons=>cases h
 | cons x xs ih => intro b h; cases b with
  |nil=>cases h
  |cons y ys=>
   obtain⟨h1,h2⟩:=andK_true h
   rw[ih h2,Nat.eq_of_beq_eq_true h1]
theorem X_f:∀{a b:List MapEntry},eqMs a b=true→a=b:=by
 intro a
 induction a with
 |nil=>intro b h;cases b with
  |nil=>rfl
  |cons=>cases h
 | cons x xs ih => intro b h; cases b with
  |nil=>cases h
  |cons y ys=>
   obtain⟨h1,h2⟩:=andK_true h
   obtain⟨h3,h4⟩:=andK_true h1
   obtain⟨h5,h6⟩:=andK_true h4
   cases x;cases y
   have:=eqV_eq h3
   have:=eqV_eq h5
   have:=Nat.eq_of_beq_eq_true h6
   rw[ih h2]
   simp_all
theorem P_r{a b:Blk}(h:eqBl a b=true):a=b:=by
 cases a<;>cases b<;>try cases h
 ·obtain⟨h1,h2⟩:=andK_true h
  obtain⟨h3,h1⟩:=andK_true h1
  obtain⟨h4,h1⟩:=andK_true h1
  obtain⟨h5,h1⟩:=andK_true h1
  obtain⟨h6,h7⟩:=andK_true h1
  rw[Nat.eq_of_beq_eq_true h3,Nat.eq_of_beq_eq_true h4,Nat.eq_of_beq_eq_true h5,F_k h6,F_k h7,X_k h2]
 ·obtain⟨h1,h2⟩:=andK_true h
  rw[Nat.eq_of_beq_eq_true h1,X_f h2]
 ·obtain⟨h1,h2⟩:=andK_true h
  obtain⟨h3,h4⟩:=andK_true h1
  obtain⟨h5,h6⟩:=andK_true h2
  rw[H_k h3,Nat.eq_of_beq_eq_true h4,X_g h5,Nat.eq_of_beq_eq_true h6]
 ·exact congrArg _ (Nat.eq_of_beq_eq_true h)
theorem U_6{a b:List Value→Hs→An}{args:List Value}{h:Hs}{o:Out}(hh:orG a b args h=some o):a args h=some o∨b args h=some o:=by
 unfold orG at hh
 cases ha:a args h with
 |none=>rw[ha] at hh;exact .inr hh
 |some x=>rw[ha] at hh;exact .inl hh
theorem SumOk.or{P:Program}{f:FuncId}{a b:List Value→Hs→An}(ha:SumOk P f a)(hb:SumOk P f b):SumOk P f (orG a b):=
 ⟨ha.ff,λargs args' v h h' B ρ w hr hl Rl=>(U_6 hr).elim (λhr=>ha.ok args args' v h h' B ρ w hr hl Rl) (λhr=>hb.ok args args' v h h' B ρ w hr hl Rl)⟩
noncomputable def tabF(tab:RnK→RnK)(sums:List (Nat × SmK)):RnK→RnK:=λR f args h=>Option.rec (motive:=λ_=>An) (tab R f args h) (λg=>Option.rec (motive:=λ_=>An) (tab R f args h) (λo=>some o) (g args h)) ((mkTabS sums).getK f)
theorem runF_ok{P:Program}(hm:P.follows .mixedOrders=true)(hN:Named P){F:Nat}{tab:RnK→RnK}(hT:TabOk P F tab){sums:List (Nat × SmK)}(hS:SumsOk P sums):∀(d:Nat)(f:FuncId)(args:List Value)(args':Array Value)(v:Value)(h h':Hs)(B:Nat)(ρ:Ren)(w:World),runK (tabF tab sums) d f args h=some (.val v h')→VL ρ args args'.toList→HR B ρ h w →
 Calls P f args' w (λe w'=>∃v' ρ',e=.returned v'∧VR ρ' v v'∧St B ρ h w ρ' h' w'):=by
 intro d
 have hun:∀d f args h o,runK (tabF tab sums) (d+1) f args h=some o→(∃g,SumOk P f g∧g args h=some o)∨tab (runK (tabF tab sums) d) f args h=some o:=λd f args h o hh=>by
  have hh:ifB (Nat.beq f 1000000000) none (tabF tab sums (runK (tabF tab sums) d) f args h)=some o:=hh
  cases hb:Nat.beq f 1000000000 with
  |true=>rw[hb] at hh;cases hh
  | false =>
   rw[hb] at hh
   have hh:Option.rec (motive:=λ_=>An) (tab (runK (tabF tab sums) d) f args h) (λg=>Option.rec (motive:=λ_=>An) (tab (runK (tabF tab sums) d) f args h) (λo=>some o) (g args h)) ((mkTabS sums).getK f)=some o:=hh
   cases hg:(mkTabS sums).getK f with
   |none=>rw[hg] at hh;exact .inr hh
   |some g=>
    rw[hg] at hh
    simp only at hh
    cases hgo:g args h with
    |none=>rw[hgo] at hh;exact .inr hh
    |some o2=>rw[hgo] at hh;exact .inl ⟨g,I_7 hS hg,by rw[hgo];exact hh⟩
 induction d with
 |zero=>intro f args args' v h h' B ρ w hr;cases hr
 | succ d ih =>
  intro f args args' v h h' B ρ w hr hl Rl
  rcases hun _ _ _ _ _ hr with⟨g,hg,hr⟩|hr
  ·exact hg.ok args args' v h h' B ρ w hr hl Rl
  refine H_j hm hN (E_a ih) (λρ f args args' v h h' _ hh=>?_) (λargs h=>?_) f args args' v h h' B ρ w (hT _ _ _ _ _ hr) hl Rl
  ·have hh:runK (tabF tab sums) d f args h=some (.val v h'):=hh
   cases d with
   |zero=>cases hh
   |succ d=>
    rcases hun _ _ _ _ _ hh with⟨g,hg,_⟩|hh
    ·exact hg.ff
    have hh:=hT _ _ _ _ _ hh
    unfold callT at hh
    cases hg:KF P f with
    |none=>rw[hg] at hh;cases hh
    |some g=>exact T_k hg
  ·cases d with
   |zero=>rfl
   |succ d=>rfl
noncomputable section
def E{α:Type}:Tr α:=.e
def M{α:Type}(l r:Tr α):Tr α:=.n none l r
def W{α:Type}(v:α)(l r:Tr α):Tr α:=.n (some v) l r
end
end Go.Gev
