import Derived.Test.YtnbnmojckhcdeaaGreatDoorGevMm
import Derived.Test.YtnbnmojckhcdeaaGreatDoorGevHos
namespace Go.Gev
open Go.RowKit
inductive VW (n:Nat) (s:Nat→Nat) (wk:Bool):Value→Value→Prop
 |dunno (v:Value) (h:wk=true∨v=.chan none):VW n s wk (.chan none) v
 |bool (b:Bool):VW n s wk (.bool b) (.bool b)
 |int (k:IntKind) (i:Int):VW n s wk (.int k i) (.int k i)
 |string (x:ByteArray):VW n s wk (.string x) (.string x)
 |nilptr:VW n s wk (.pointer none) (.pointer none)
 |ptr (id off:Nat) (h:id<n):VW n s wk (.pointer (some ⟨id,off,none⟩)) (.pointer (some ⟨s id,off,none⟩))
 |nilslice:VW n s wk (.slice none 0 0) (.slice none 0 0)
 |nilmap:VW n s wk (.map none) (.map none)
 |map (id:Nat) (h:id<n):VW n s wk (.map (some id)) (.map (some (s id)))
 |slice (id off l c c':Nat) (h:id<n) (h1:l≤c) (h2:c≤c') (h3:wk=true∨c'=c):VW n s wk (.slice (some ⟨id,off,none⟩) l c) (.slice (some ⟨s id,off,none⟩) l c')
 |empty (b o k:Nat):VW n s wk (.slice (some ⟨b,o,some k⟩) 0 0) (.slice (some ⟨b,o,some k⟩) 0 0)
 |nilFunc:VW n s wk .nilFunc .nilFunc
 |nilIface:VW n s wk .nilIface .nilIface
 |func (f:FuncId):VW n s wk (.func (.func f) #[] #[]) (.func (.func f) #[] #[])
 |iface (t:TypeId) (v v':Value) (h:VW n s wk v v'):VW n s wk (.iface t v) (.iface t v')
 |agg (xs ys:Array Value) (h:xs.size=ys.size) (h':∀i (a:i<xs.size) (b:i<ys.size),VW n s wk xs[i] ys[i]):VW n s wk (.agg xs) (.agg ys)
 |tuple (xs ys:Array Value) (h:xs.size=ys.size) (h':∀i (a:i<xs.size) (b:i<ys.size),VW n s wk xs[i] ys[i]):VW n s wk (.tuple xs) (.tuple ys)
theorem VW.down{n:Nat}{s:Nat→Nat}{wk:Bool}{ρ ρ0:Ren}(hρ:∀id,id<n→ρ0 id=ρ (s id)){v0 v:Value}(h:VW n s wk v0 v):∀v',VR ρ v v'→VR ρ0 v0 v':=by
 induction h with
 |dunno v _=>exactλv' _=>.dunno v'
 |bool b=>exactλv' g=>by cases g;exact .bool _
 |int k i=>exactλv' g=>by cases g;exact .int _ _
 |string x=>exactλv' g=>by cases g;exact .string _
 |nilptr=>exactλv' g=>by cases g;exact .nilptr
 |ptr id off h=>exactλv' g=>by cases g with
  |ptr _ _ H e=>exact .ptr id off H ((hρ id h).trans e)
 |nilslice=>exactλv' g=>by cases g;exact .nilslice
 |nilmap=>exactλv' g=>by cases g;exact .nilmap
 |map id h=>exactλv' g=>by cases g with
  |map _ H e=>exact .map id H ((hρ id h).trans e)
 |slice id off l c c' h h1 h2 h3=>exactλv' g=>by cases g with
  |slice _ _ _ _ c2 H e g1 g2 g3 g4=>exact .slice id off l c c2 H ((hρ id h).trans e) h1 (lTr h2 g2) g3 g4
 |empty b o k=>exactλv' g=>by cases g with
  |empty _ _ _ a' c' h3=>exact .empty _ _ _ a' c' h3
 |nilFunc=>exactλv' g=>by cases g;exact .nilFunc
 |nilIface=>exactλv' g=>by cases g;exact .nilIface
 | func f =>
  intro v' g
  cases g with
  |func _ _ f' _ c' hn h1 h2 h3 h4=>
   exact .func _ _ f' _ c' hn h1 (λi a=>by simp at a) h3 (λi a=>by simp at a)
 |iface t v v2 _ ih=>exactλv' g=>by cases g with
  |iface _ _ v3 h=>exact .iface t v v3 (ih v3 h)
 |agg xs ys h _ ih=>exactλv' g=>by cases g with
  |agg _ zs h1 h2=>exact .agg xs zs (h.trans h1) λi a b=>ih i a (by omega) _ (h2 i (by omega) b)
 |tuple xs ys h _ ih=>exactλv' g=>by cases g with
  |tuple _ zs h1 h2=>exact .tuple xs zs (h.trans h1) λi a b=>ih i a (by omega) _ (h2 i (by omega) b)
theorem VW.up{n:Nat}{s:Nat→Nat}{ρ ρ0:Ren}(hρ:∀id H,ρ0 id=some H→ρ (s id)=some H){v0 v:Value}(h:VW n s false v0 v):∀v',VR ρ0 v0 v'→VR ρ v v':=by
 induction h with
 |dunno v hv=>
  rcases hv with hv|hv
  ·cases hv
  ·subst hv;exactλv' g=>.dunno v'
 |bool b=>exactλv' g=>by cases g;exact .bool _
 |int k i=>exactλv' g=>by cases g;exact .int _ _
 |string x=>exactλv' g=>by cases g;exact .string _
 |nilptr=>exactλv' g=>by cases g;exact .nilptr
 |ptr id off h=>exactλv' g=>by cases g with
  |ptr _ _ H e=>exact .ptr (s id) off H (hρ id H e)
 |nilslice=>exactλv' g=>by cases g;exact .nilslice
 |nilmap=>exactλv' g=>by cases g;exact .nilmap
 |map id h=>exactλv' g=>by cases g with
  |map _ H e=>exact .map (s id) H (hρ id H e)
 | slice id off l c c' h h1 h2 h3 =>
  rcases h3 with h3|h3
  ·cases h3
  ·subst h3
   exactλv' g=>by cases g with
   |slice _ _ _ _ c2 H e g1 g2 g3 g4=>exact .slice (s id) off l _ c2 H (hρ id H e) g1 g2 g3 g4
 |empty b o k=>exactλv' g=>by cases g with
  |empty _ _ _ a' c' h3=>exact .empty _ _ _ a' c' h3
 |nilFunc=>exactλv' g=>by cases g;exact .nilFunc
 |nilIface=>exactλv' g=>by cases g;exact .nilIface
 | func f =>
  intro v' g
  cases g with
  |func _ _ f' _ c' hn h1 h2 h3 h4=>
   exact .func _ _ f' _ c' hn h1 (λi a=>by simp at a) h3 (λi a=>by simp at a)
 |iface t v v2 _ ih=>exactλv' g=>by cases g with
  |iface _ _ v3 h=>exact .iface t v2 v3 (ih v3 h)
 |agg xs ys h _ ih=>exactλv' g=>by cases g with
  |agg _ zs h1 h2=>exact .agg ys zs (h.symm.trans h1) λi a b=>ih i (by omega) a _ (h2 i (by omega) b)
 |tuple xs ys h _ ih=>exactλv' g=>by cases g with
  |tuple _ zs h1 h2=>exact .tuple ys zs (h.symm.trans h1) λi a b=>ih i (by omega) a _ (h2 i (by omega) b)
theorem VW.flat{n:Nat}{s:Nat→Nat}{wk:Bool}{v0 v:Value}(h:VW n s wk v0 v)(hf:flat1 v0=true):flat1 v=true:=by
 cases h<;>first|rfl|exact hf|(simp[flat1] at hf)
theorem VW.mono{n n':Nat}{s s':Nat→Nat}{wk:Bool}(hn:n≤n')(hs:∀id,id<n→s' id=s id){v0 v:Value}(h:VW n s wk v0 v):VW n' s' wk v0 v:=by
 induction h with
 |dunno v h=>exact .dunno v h
 |bool b=>exact .bool b
 |int k i=>exact .int k i
 |string x=>exact .string x
 |nilptr=>exact .nilptr
 |ptr id off h=>rw[←hs id h];exact .ptr id off (llN h hn)
 |nilslice=>exact .nilslice
 |nilmap=>exact .nilmap
 |map id h=>rw[←hs id h];exact .map id (llN h hn)
 |slice id off l c c' h h1 h2 h3=>rw[←hs id h];exact .slice id off l c c' (llN h hn) h1 h2 h3
 |empty b o k=>exact .empty b o k
 |nilFunc=>exact .nilFunc
 |nilIface=>exact .nilIface
 |func f=>exact .func f
 |iface t v v' _ ih=>exact .iface t v v' ih
 |agg xs ys h _ ih=>exact .agg xs ys h ih
 |tuple xs ys h _ ih=>exact .tuple xs ys h ih
inductive MW (n:Nat) (s:Nat→Nat) (wk:Bool):List MapEntry→List MapEntry→Prop
 |nil:MW n s wk [] []
 |cons {e e':MapEntry} {es es':List MapEntry} (hk:e'.key=e.key) (hb:e'.born=e.born) (hv:VW n s wk e.val e'.val) (t:MW n s wk es es'):MW n s wk (e::es) (e'::es')
theorem MW.mono{n n':Nat}{s s':Nat→Nat}{wk:Bool}(hn:n≤n')(hs:∀id,id<n→s' id=s id){es es':List MapEntry}(h:MW n s wk es es'):MW n' s' wk es es':=by
 induction h with
 |nil=>exact .nil
 |cons a b c _ ih=>exact .cons a b (c.mono hn hs) ih
inductive BW (n:Nat) (s:Nat→Nat):Blk→Blk→Prop
 |row (c0 c:Tr Value) (n0 n1 e u:Nat) (rw0 rw fl0 fl:Bool) (hrw:rw0=true→rw=true∧n0=n1∧(∀i,(c0.get i).isSome=true↔i<n0)∧∀i,(c.get i).isSome=true↔i<n1) (hfl:fl0=true→fl=true∧∀i v0,c0.get i=some v0→flat1 v0=true)
  (hc:∀i v0,c0.get i=some v0→∃v,c.get i=some v∧VW n s true v0 v):BW n s (.row c0 n0 e u rw0 fl0) (.row c n1 e u rw fl)
 |mp (es es':List MapEntry) (cl:Nat) (h:MW n s true es es'):BW n s (.mp es cl) (.mp es' cl)
inductive BU (n:Nat) (s:Nat→Nat):Blk→Blk→Prop
 |row (c0 c:Tr Value) (n0 e u:Nat) (rw fl:Bool) (hc:∀i,(c0.get i=none∧c.get i=none)∨∃v0 v,c0.get i=some v0∧c.get i=some v∧VW n s false v0 v):BU n s (.row c0 n0 e u rw fl) (.row c n0 e u rw fl)
 |mp (es es':List MapEntry) (cl:Nat) (h:MW n s false es es'):BU n s (.mp es cl) (.mp es' cl)
theorem BU.rw_eq{n:Nat}{s:Nat→Nat}{b0 b:Blk}(h:BU n s b0 b):isRw b=isRw b0:=by cases h<;>rfl
theorem BW.rw_imp{n:Nat}{s:Nat→Nat}{b0 b:Blk}(h:BW n s b0 b)(hr:isRw b0=true):isRw b=true:=by
 cases h with
 |row c0 c n0 n1 e u rw0 rw fl0 fl hrw=>exact(hrw hr).1
 |mp=>rfl
theorem MW.me{n:Nat}{s:Nat→Nat}{wk:Bool}{ρ ρ0:Ren}(hd:∀v0 v v',VW n s wk v0 v→VR ρ v v'→VR ρ0 v0 v'){es es1:List MapEntry}(h:MW n s wk es es1):∀es',ME ρ es1 es'→ME ρ0 es es':=by
 induction h with
 |nil=>exactλes' g=>by cases g;exact .nil
 |cons a b c _ ih=>
  intro es' g
  cases g with
  |cons hk hb hv t=>exact .cons (hk.trans a) (hb.trans b) (hd _ _ _ c hv) (ih _ t)
theorem MW.mk{n:Nat}{s:Nat→Nat}{wk:Bool}{ρ ρ0:Ren}(hd:∀v0 v v',VW n s wk v0 v→VR ρ v v'→VR ρ0 v0 v'){es es1:List MapEntry}(h:MW n s wk es es1):∀es',MK ρ es1 es'→MK ρ0 es es':=by
 induction h with
 |nil=>exactλes' g=>by cases g;exact .nil
 |cons a b c _ ih=>
  intro es' g
  cases g with
  |cons hk hv t=>exact .cons (hk.trans a) (hd _ _ _ c hv) (ih _ t)
theorem MW.me_up{n:Nat}{s:Nat→Nat}{ρ ρ0:Ren}(hd:∀v0 v v',VW n s false v0 v→VR ρ0 v0 v'→VR ρ v v'){es es1:List MapEntry}(h:MW n s false es es1):∀es',ME ρ0 es es'→ME ρ es1 es':=by
 induction h with
 |nil=>exactλes' g=>by cases g;exact .nil
 |cons a b c _ ih=>
  intro es' g
  cases g with
  |cons hk hb hv t=>exact .cons (hk.trans a.symm) (hb.trans b.symm) (hd _ _ _ c hv) (ih _ t)
theorem MW.mk_up{n:Nat}{s:Nat→Nat}{ρ ρ0:Ren}(hd:∀v0 v v',VW n s false v0 v→VR ρ0 v0 v'→VR ρ v v'){es es1:List MapEntry}(h:MW n s false es es1):∀es',MK ρ0 es es'→MK ρ es1 es':=by
 induction h with
 |nil=>exactλes' g=>by cases g;exact .nil
 |cons a b c _ ih=>
  intro es' g
  cases g with
  |cons hk hv t=>exact .cons (hk.trans a.symm) (hd _ _ _ c hv) (ih _ t)
theorem MW.born{n:Nat}{s:Nat→Nat}{wk:Bool}{es es1:List MapEntry}(h:MW n s wk es es1)(p:Nat→Prop):(∀e∈es1,p e.born)↔(∀e∈es,p e.born):=by
 induction h with
 |nil=>simp
 |cons a b c _ ih=>simp[b,ih]
theorem BW.down{B n:Nat}{s:Nat→Nat}{ρ ρ0:Ren}{w:World}{id:Nat}(hρ:∀id,id<n→ρ0 id=ρ (s id))(hid:id<n){b0 b:Blk}(h:BW n s b0 b)(g:BR B ρ w (s id) b):BR B ρ0 w id b0:=by
 have hd:∀v0 v v',VW n s true v0 v→VR ρ v v'→VR ρ0 v0 v':=λv0 v v' a b=>a.down hρ v' b
 cases h with
 | row c0 c n0 n1 e u rw0 rw fl0 fl hrw hfl hc =>
  obtain⟨H,arr,fz,h1,h2,h3,h4,h5,h6,h7⟩:=g
  refine⟨H,arr,fz,(hρ id hid).trans h1,h2,h3,h4,λi v hv=>?_,λhr=>?_,λhr i v hv=>?_⟩
  ·obtain⟨x,x1,x2⟩:=hc i v hv
   obtain⟨y,y1,y2⟩:=h5 i x x1
   exact⟨y,y1,hd _ _ _ x2 y2⟩
  ·obtain⟨r1,r2,r3,_⟩:=hrw hr
   obtain⟨q1,q2,q3,q4,q5⟩:=h6 r1
   exact⟨q1,q2,q3,by rw[r2];exact q4,r3⟩
  ·exact(hfl hr).2 i v hv
 |mp es es1 cl h=>
  obtain⟨H,es',h1,h2,h3,h4⟩:=g
  refine⟨H,es',(hρ id hid).trans h1,h2,h3,?_⟩
  rcases h4 with⟨q1,q2⟩|⟨q1,q2,es'',q3,q4⟩
  ·exact .inl ⟨h.me hd _ q1,(h.born (λk=>k<1000000000000)).1 q2⟩
  ·exact .inr ⟨(h.born (λk=>1000000000000≤k)).1 q1,q2,es'',q3,h.mk hd _ q4⟩
theorem BU.up{B n:Nat}{s:Nat→Nat}{ρ ρ0:Ren}{w:World}{id:Nat}(hρ:∀id H,ρ0 id=some H→ρ (s id)=some H){b0 b:Blk}(h:BU n s b0 b)(g:BR B ρ0 w id b0):BR B ρ w (s id) b:=by
 have hd:∀v0 v v',VW n s false v0 v→VR ρ0 v0 v'→VR ρ v v':=λv0 v v' a b=>a.up hρ v' b
 cases h with
 | row c0 c n0 e u rw fl hc =>
  obtain⟨H,arr,fz,h1,h2,h3,h4,h5,h6,h7⟩:=g
  refine⟨H,arr,fz,hρ id H h1,h2,h3,h4,λi v hv=>?_,λhr=>?_,λhr i v hv=>?_⟩
  ·rcases hc i with⟨q1,q2⟩|⟨w0,w1,q1,q2,q3⟩
   ·rw[q2] at hv;cases hv
   ·rw[q2] at hv;injection hv with hv;subst hv
    obtain⟨y,y1,y2⟩:=h5 i w0 q1
    exact⟨y,y1,hd _ _ _ q3 y2⟩
  ·obtain⟨q1,q2,q3,q4,q5⟩:=h6 hr
   refine⟨q1,q2,q3,q4,λi=>?_⟩
   rw[←q5 i]
   rcases hc i with⟨q1,q2⟩|⟨w0,w1,q1,q2,q3⟩<;>rw[q1,q2]<;>simp
  ·rcases hc i with⟨q1,q2⟩|⟨w0,w1,q1,q2,q3⟩
   ·rw[q2] at hv;cases hv
   ·rw[q2] at hv;injection hv with hv;subst hv
    exact q3.flat (h7 hr i w0 q1)
 |mp es es1 cl h=>
  obtain⟨H,es',h1,h2,h3,h4⟩:=g
  refine⟨H,es',hρ id H h1,h2,h3,?_⟩
  rcases h4 with⟨q1,q2⟩|⟨q1,q2,es'',q3,q4⟩
  ·exact .inl ⟨h.me_up hd _ q1,(h.born (λk=>k<1000000000000)).2 q2⟩
  ·exact .inr ⟨(h.born (λk=>1000000000000≤k)).2 q1,q2,es'',q3,h.mk_up hd _ q4⟩
structure Emb (s:Nat→Nat) (h0 h:Hs):Prop where
 at_:∀id b0,h0.hp.get id=some b0→id<h0.nx∧∃b,h.hp.get (s id)=some b∧BW h0.nx s b0 b
 lt:∀id,id<h0.nx→s id<h.nx
 inj:∀id id' b b',h0.hp.get id=some b→h0.hp.get id'=some b'→isRw b=true→id≠id'→s id≠s id'
def K_c(s:Nat→Nat)(n0 nx:Nat)(id:Nat):Nat:=if id<n0 then s id else nx+(id-n0)
structure Frm (s:Nat→Nat) (h0 h0' h h':Hs):Prop where
 nx:h'.nx=h.nx+(h0'.nx-h0.nx)
 lo:h'.lo≤h.lo
 lo1:∀id b0,h0.hp.get id=some b0→isRw b0=true→h0'.lo≤id→h'.lo≤s id
 lo2:∀x,x≤h.lo→(∀id b0,h0.hp.get id=some b0→isRw b0=true→h0'.lo≤id→x≤s id)→x≤h'.lo
 /-- as it was -/
 old:∀k,k<h.nx→(∀id b0,h0.hp.get id=some b0→isRw b0=true→h0'.lo≤id→s id≠k)→h'.hp.get k=h.hp.get k
 /-- turned, or new -/
 new:∀id,(h0.nx≤id∧id<h0'.nx)∨(∃b0,h0.hp.get id=some b0∧isRw b0=true∧h0'.lo≤id) →
  (h0'.hp.get id=none∧h'.hp.get (K_c s h0.nx h.nx id)=none)∨∃b0 b,h0'.hp.get id=some b0∧h'.hp.get (K_c s h0.nx h.nx id)=some b∧BU h0'.nx (K_c s h0.nx h.nx) b0 b
 beyond:∀k,h'.nx≤k→h'.hp.get k=h.hp.get k
section
variable {B:Nat} {ρ ρ1:Ren} {s:Nat→Nat} {h0 h0' h h':Hs} {w w':World} {v0 v v':Value}
def Y_h(ρ:Ren)(s:Nat→Nat)(n0:Nat):Ren:=λid=>if id<n0 then ρ (s id) else none
def upR(ρ ρ1:Ren)(n0 nx:Nat):Ren:=λk=>if k<nx then ρ k else ρ1 (k-nx+n0)
theorem Emb.hr(E:Emb s h0 h)(R:HR B ρ h w):HR B (Y_h ρ s h0.nx) h0 w:=by
 refine⟨R.base,λid hid=>by simp[Y_h];omega,λid b0 hb=>?_,λid id' b b' H H' hb hb' hne hr he he'=>?_⟩
 ·obtain⟨g1,b,g2,g3⟩:=E.at_ id b0 hb
  exact g3.down (λid hid=>by simp[Y_h,hid]) g1 (R.has _ _ g2)
 ·obtain⟨g1,c,g2,g3⟩:=E.at_ id b hb
  obtain⟨g1',c',g2',g3'⟩:=E.at_ id' b' hb'
  simp only[Y_h,if_pos g1,if_pos g1'] at he he'
  exact R.inj _ _ _ _ H H' g2 g2' (E.inj id id' b b' hb hb' hr hne) (g3.rw_imp hr) he he'
theorem Frm.st(F:Frm s h0 h0' h h')(E:Emb s h0 h)(R:HR B ρ h w)(S:St B (Y_h ρ s h0.nx) h0 w ρ1 h0' w')(hu:VW h0'.nx (K_c s h0.nx h.nx) false v0 v)(hv:VR ρ1 v0 v') :
 VR (upR ρ ρ1 h0.nx h.nx) v v'∧St B ρ h w (upR ρ ρ1 h0.nx h.nx) h' w':=by
 have hup:∀id H,ρ1 id=some H→upR ρ ρ1 h0.nx h.nx (K_c s h0.nx h.nx id)=some H:=λid H e=>by
  unfold upR K_c
  by_cases hid:id<h0.nx
  ·have:=S.old id hid
   rw[e] at this
   rw[if_pos hid,if_pos (E.lt id hid)]
   simp only[Y_h,if_pos hid] at this
   exact this.symm
  ·rw[if_neg hid,if_neg (by omega),show h.nx+(id-h0.nx)-h.nx+h0.nx=id by omega]
   exact e
 have hle:ρ.le (upR ρ ρ1 h0.nx h.nx):=λk H e=>by
  unfold upR
  by_cases hk:k<h.nx
  ·rw[if_pos hk];exact e
  ·rw[R.dom k (by omega)] at e;cases e
 have hold:∀k,k<h.nx→upR ρ ρ1 h0.nx h.nx k=ρ k:=λk hk=>if_pos hk
 have n0:=S.nx
 -- turned ones
 have hrel:∀id b0,h0.hp.get id=some b0→isRw b0=true→∃b,h.hp.get (s id)=some b∧isRw b=true∧id<h0.nx:=λid b0 g r=>by
  obtain⟨g1,b,g2,g3⟩:=E.at_ id b0 g
  exact⟨b,g2,g3.rw_imp r,g1⟩
 -- what a place of the greater memory is now
 have hcl:∀k b,h'.hp.get k=some b→(k<h.nx∧h.hp.get k=some b∧∀id b0,h0.hp.get id=some b0→isRw b0=true→h0'.lo≤id→s id≠k) ∨
  (∃id b0 c0 c,k=s id∧id<h0.nx∧h0.hp.get id=some b0∧isRw b0=true∧h0'.lo≤id∧h0'.hp.get id=some c0∧BU h0'.nx (K_c s h0.nx h.nx) c0 b∧h.hp.get k=some c∧isRw c=true) ∨
  (∃id c0,h0.nx≤id∧id<h0'.nx∧k=h.nx+(id-h0.nx)∧h0'.hp.get id=some c0∧BU h0'.nx (K_c s h0.nx h.nx) c0 b):=λk b hb=>by
  rcases logQ k h.nx with hk|hk
  ·by_cases ht:∃id b0,h0.hp.get id=some b0∧isRw b0=true∧h0'.lo≤id∧s id=k
   ·obtain⟨id,b0,g1,g2,g3,g4⟩:=ht
    obtain⟨c,q1,q2,q3⟩:=hrel id b0 g1 g2
    refine .inr (.inl ⟨id,b0,?_⟩)
    have e:K_c s h0.nx h.nx id=k:=by unfold K_c;rw[if_pos q3];exact g4
    rcases F.new id (.inr ⟨b0,g1,g2,g3⟩) with⟨_,x⟩|⟨c0,b',x1,x2,x3⟩
    ·rw[e,hb] at x;cases x
    ·rw[e,hb] at x2;injection x2 with x2;subst x2
     exact⟨c0,c,g4.symm,q3,g1,g2,g3,x1,x3,by rw[←g4];exact q1,q2⟩
   ·have hn:∀id b0,h0.hp.get id=some b0→isRw b0=true→h0'.lo≤id→s id≠k:=λid b0 a b c d=>ht ⟨id,b0,a,b,c,d⟩
    exact .inl ⟨hk,by rw[←F.old k hk hn];exact hb,hn⟩
  ·rcases logQ k h'.nx with hk2|hk2
   ·have hnx:=F.nx
    refine .inr (.inr ⟨k-h.nx+h0.nx,?_⟩)
    have e:K_c s h0.nx h.nx (k-h.nx+h0.nx)=k:=by unfold K_c;rw[if_neg (by omega)];omega
    rcases F.new (k-h.nx+h0.nx) (.inl ⟨by omega,by omega⟩) with⟨_,x⟩|⟨c0,b',x1,x2,x3⟩
    ·rw[e,hb] at x;cases x
    ·rw[e,hb] at x2;injection x2 with x2;subst x2
     exact⟨c0,by omega,by omega,by omega,x1,x3⟩
   ·rw[F.beyond k hk2] at hb
    have:=R.lt hb;have:=F.nx;omega
 have hfr:∀k H,k<h.nx→ρ k=some H→(∀id b0,h0.hp.get id=some b0→isRw b0=true→h0'.lo≤id→s id≠k)→(∃b,h.hp.get k=some b)→w'.heap[H.blk]?=w.heap[H.blk]?:=λk H hk he hn hb=>by
  obtain⟨b,hb⟩:=hb
  obtain⟨H2,e1,e2⟩:=(R.has k b hb).host_lt
  rw[he] at e1;injection e1 with e1;subst e1
  refine S.frame H.blk e2 λid b0 H0 g1 g2 g3 g4=>?_
  obtain⟨c,q1,q2,q3⟩:=hrel id b0 g1 g2
  simp only[Y_h,if_pos q3] at g3
  exact R.inj (s id) k c b H0 H q1 hb (hn id b0 g1 g2 g4) q2 g3 he
 -- a place below that is there now was there, and is alike
 have hwas:∀k b,h'.hp.get k=some b→k<h.nx→∃c,h.hp.get k=some c∧isRw c=isRw b:=λk b hb hk=>by
  rcases hcl k b hb with⟨_,g,_⟩|⟨id,b0,c0,c,g1,g2,g3,g4,g5,g6,g7,g8,g9⟩|⟨id,c0,g1,g2,g3,_⟩
  ·exact⟨b,g,rfl⟩
  ·refine⟨c,g8,?_⟩
   obtain⟨b1,r1,r2,_⟩:=S.gone id c0 g6 g2
   rw[g3] at r1;injection r1 with r1;subst r1
   rw[g9,g7.rw_eq,←r2,g4]
  ·omega
 have hmix : ∀ k k' b b' H H', h'.hp.get k = some b → h'.hp.get k' = some b' → h.nx ≤ k → k' < h.nx → upR ρ ρ1 h0.nx h.nx k = some H → ρ k' = some H' → H.blk ≠ H'.blk := fun k k' b b' H H' hb hb' hk hk' he he' => by
  rcases hcl k b hb with⟨g,_,_⟩|⟨id,b0,c0,c,g1,g2,g3,g4,g5,g6,g7,g8,g9⟩|⟨id,c0,g1,g2,g3,g4,g5⟩
  ·omega
  ·have:=E.lt id g2;omega
  ·have he2:ρ1 id=some H:=by
    unfold upR at he
    rw[if_neg (by omega),show k-h.nx+h0.nx=id by omega] at he
    exact he
   obtain⟨c,q1,q2⟩:=hwas k' b' hb' hk'
   rcases S.fresh id H g1 he2 with r|⟨id0,b1,H0,r1,r2,r3,r4,r5⟩
   ·obtain⟨H2,e1,e2⟩:=(R.has k' c q1).host_lt
    rw[he'] at e1;injection e1 with e1;subst e1
    omega
   ·obtain⟨c1,x1,x2,x3⟩:=hrel id0 b1 r1 r2
    have r3b:=r3
    simp only[Y_h,if_pos x3] at r3
    by_cases e:s id0=k'
    ·-- turned: it is there still
     rcases hcl k' b' hb' with⟨_,_,g⟩|⟨id2,b2,c2,c3,y1,y2,y3,y4,y5,y6,y7,y8,y9⟩|⟨id2,c2,y1,y2,y3,_⟩
     ·exact absurd e (g id0 b1 r1 r2 r4)
     ·have e3:id0=id2:=by
       by_cases e4:id0=id2
       ·exact e4
       ·exact absurd (e.trans y1) (E.inj id0 id2 b1 b2 r1 y3 r2 e4)
      subst e3
      refine S.hr.inj id id0 c0 c2 H H' g4 y6 (by omega) (S.newrw id c0 g4 g1) he2 ?_
      rw[S.old id0 x3]
      simp only[Y_h,if_pos x3]
      rw[←y1];exact he'
     ·omega
    ·have:=R.inj (s id0) k' c1 c H0 H' x1 q1 e x2 r3 he'
     rw[r5] at this
     exact this
 refine⟨hu.up hup v' hv,⟨⟨lTr R.base S.size,λk hk=>?_,λk b hb=>?_,λk k' b b' H H' hb hb' hne hr he he'=>?_⟩,?_,hle,hold,S.below,S.size,F.lo,λk b hb hk=>?_,λk b hb hk=>?_,λk b hb hk=>?_,λk hk hno=>?_,λk H hk he=>?_⟩⟩
 ·have:=F.nx
  unfold upR
  rw[if_neg (by omega)]
  exact S.hr.dom _ (by omega)
 ·rcases hcl k b hb with⟨g1,g2,g3⟩|⟨id,b0,c0,c,g1,g2,g3,g4,g5,g6,g7,g8,g9⟩|⟨id,c0,g1,g2,g3,g4,g5⟩
  ·exact(R.has k b g2).mono hle λH he=>hfr k H g1 he g3 ⟨b,g2⟩
  ·have e:K_c s h0.nx h.nx id=k:=by unfold K_c;rw[if_pos g2];exact g1.symm
   rw[←e]
   exact g7.up hup (S.hr.has id c0 g6)
  ·have e:K_c s h0.nx h.nx id=k:=by unfold K_c;rw[if_neg (by omega)];exact g3.symm
   rw[←e]
   exact g5.up hup (S.hr.has id c0 g4)
 ·rcases logQ k h.nx with hk|hk<;>rcases logQ k' h.nx with hk'|hk'
  ·rw[hold k hk] at he
   rw[hold k' hk'] at he'
   obtain⟨c,q1,q2⟩:=hwas k b hb hk
   obtain⟨c',q1',q2'⟩:=hwas k' b' hb' hk'
   exact R.inj k k' c c' H H' q1 q1' hne (q2.trans hr) he he'
  ·rw[hold k hk] at he
   exactλe=>hmix k' k b' b H' H hb' hb hk' hk he' he e.symm
  ·rw[hold k' hk'] at he'
   exact hmix k k' b b' H H' hb hb' hk hk' he he'
  ·rcases hcl k b hb with⟨g,_,_⟩|⟨id,b0,c0,c,g1,g2,_⟩|⟨id,c0,g1,g2,g3,g4,g5⟩
   ·omega
   ·have:=E.lt id g2;omega
   rcases hcl k' b' hb' with⟨g,_,_⟩|⟨id',b0,c0',c,g1',g2',_⟩|⟨id',c0',g1',g2',g3',g4',g5'⟩
   ·omega
   ·have:=E.lt id' g2';omega
   have he2:ρ1 id=some H:=by
    unfold upR at he
    rw[if_neg (by omega),show k-h.nx+h0.nx=id by omega] at he
    exact he
   have he2':ρ1 id'=some H':=by
    unfold upR at he'
    rw[if_neg (by omega),show k'-h.nx+h0.nx=id' by omega] at he'
    exact he'
   exact S.hr.inj id id' c0 c0' H H' g4 g4' (by omega) (S.newrw id c0 g4 g1) he2 he2'
 ·have:=F.nx;omega
 ·have hk2:=R.lt hb
  rw[F.old k hk2 λid b0 g1 g2 g3 e=>?_]
  ·exact hb
  ·have:=F.lo1 id b0 g1 g2 g3;omega
 ·obtain⟨c,q1,q2⟩:=hwas k b hb hk
  refine⟨c,q1,q2,λhlo=>?_⟩
  rw[F.old k hk λid b0 g1 g2 g3 e=>?_] at hb
  ·rw[q1] at hb;injection hb
  ·have:=F.lo1 id b0 g1 g2 g3;omega
 ·rcases hcl k b hb with⟨g,_,_⟩|⟨id,b0,c0,c,g1,g2,_⟩|⟨id,c0,g1,g2,g3,g4,g5⟩
  ·omega
  ·have:=E.lt id g2;omega
  ·rw[g5.rw_eq];exact S.newrw id c0 g4 g1
 ·refine S.frame k hk λid b0 H0 g1 g2 g3 g4=>?_
  obtain⟨c,q1,q2,q3⟩:=hrel id b0 g1 g2
  simp only[Y_h,if_pos q3] at g3
  exact hno (s id) c H0 q1 q2 g3 (F.lo1 id b0 g1 g2 g4)
 ·unfold upR at he
  rw[if_neg (by omega)] at he
  rcases S.fresh (k-h.nx+h0.nx) H (by omega) he with r|⟨id0,b1,H0,r1,r2,r3,r4,r5⟩
  ·exact .inl r
  ·obtain⟨c1,x1,x2,x3⟩:=hrel id0 b1 r1 r2
   simp only[Y_h,if_pos x3] at r3
   exact .inr ⟨s id0,c1,H0,x1,x2,r3,F.lo1 id0 b1 r1 r2 r4,r5⟩
end
inductive VWs (n:Nat) (s:Nat→Nat):List Value→List Value→Prop
 |nil:VWs n s [] []
 |cons {a b:Value} {as bs:List Value} (h:VW n s true a b) (t:VWs n s as bs):VWs n s (a::as) (b::bs)
theorem VWs.down{n:Nat}{s:Nat→Nat}{ρ ρ0:Ren}(hρ:∀id,id<n→ρ0 id=ρ (s id)){as bs:List Value}(h:VWs n s as bs):∀cs,VL ρ bs cs→VL ρ0 as cs:=by
 induction h with
 |nil=>exactλcs g=>by rw[g.nil_left];exact VL.nil
 |cons a _ ih=>
  intro cs g
  obtain⟨y,zs,rfl,g1,g2⟩:=g.head
  exact .cons (a.down hρ y g1) (ih zs g2)
abbrev Runs0:=List Value→Hs→Value→Hs→Prop
def FmP(K:Runs0)(args:List Value)(h:Hs)(v:Value)(h':Hs):Prop:=
 ∃(s:Nat→Nat) (args0:List Value) (h0 h0':Hs) (v0:Value),K args0 h0 v0 h0'∧Emb s h0 h∧VWs h0.nx s args0 args∧VW h0'.nx (K_c s h0.nx h.nx) false v0 v∧Frm s h0 h0' h h'
open Classical in
noncomputable def fmG(K:Runs0)(args:List Value)(h:Hs):An:=if e:∃p:Value × Hs,FmP K args h p.1 p.2 then some (.val (Classical.choose e).1 (Classical.choose e).2) else none
theorem AD9{K:Runs0}{args:List Value}{h h':Hs}{v:Value}(e:FmP K args h v h'):∃v h',fmG K args h=some (.val v h')∧FmP K args h v h':=by
 have e':∃p:Value × Hs,FmP K args h p.1 p.2:=⟨(v,h'),e⟩
 refine⟨(Classical.choose e').1,(Classical.choose e').2,?_,Classical.choose_spec e'⟩
 unfold fmG
 rw[dif_pos e']
theorem AV3{K:Runs0}{args:List Value}{h h':Hs}{v:Value}(e:fmG K args h=some (.val v h')):FmP K args h v h':=by
 unfold fmG at e
 split at e
 ·rename_i g
  injection e with e
  injection e with e1 e2
  rw[←e1,←e2]
  exact Classical.choose_spec g
 ·cases e
def KOk(P:Program)(f:FuncId)(K:Runs0):Prop:=∀(args:List Value)(args':Array Value)(v:Value)(h h':Hs)(B:Nat)(ρ:Ren)(w:World),K args h v h'→VL ρ args args'.toList→HR B ρ h w →
 Calls P f args' w (λe w'=>∃v' ρ',e=.returned v'∧VR ρ' v v'∧St B ρ h w ρ' h' w')
theorem Bi9{P:Program}{f:FuncId}{K:Runs0}(hf:(FF P f).isSome=true)(hK:KOk P f K):SumOk P f (fmG K):=
 ⟨Option.isSome_iff_exists.1 hf,λargs args' v h h' B ρ w hr hl R=>by
  obtain⟨s,args0,h0,h0',v0,k,E,hw,hu,F⟩:=AV3 hr
  refine(hK args0 args' v0 h0 h0' B (Y_h ρ s h0.nx) w k (hw.down (λid hid=>by simp[Y_h,hid]) _ hl) (E.hr R)).mono λe w' hh=>?_
  obtain⟨v',ρ1,e1,e2,S⟩:=hh
  obtain⟨g1,g2⟩:=F.st E R S hu e2
  exact⟨v',_,e1,g1,g2⟩⟩
end Go.Gev
namespace Go.Gev
open Go.RowKit
noncomputable section
def Tr.mapO{α β:Type}(f:α→Option β):Tr α→Tr β
 |.e=>.e
 |.n v l r=>.n (v.bind f) (Tr.mapO f l) (Tr.mapO f r)
theorem Tr.getp_mapO{α β:Type}(f:α→Option β)(p:List Bool):∀(t:Tr α),Tr.getp p (Tr.mapO f t)=(Tr.getp p t).bind f:=by
 induction p with
 |nil=>intro t;cases t with
  |e=>rfl
  |n v l r=>rfl
 |cons b p ih=>intro t;cases t with
  |e=>rw[Tr.mapO,Tr.getp_e,Tr.getp_e];rfl
  |n v l r=>rw[Tr.mapO,Tr.getp_cons,Tr.getp_cons];cases b<;>simp[ih]
theorem Tr.get_mapO{α β:Type}(f:α→Option β)(t:Tr α)(k:Nat):(Tr.mapO f t).get k=(t.get k).bind f:=Tr.getp_mapO f _ t
theorem Tr.build{α:Type}(F:Nat→Option α)(t:Tr α):∀n:Nat,∃t':Tr α,∀k,t'.get k=if k<n then F k else t.get k:=by
 intro n
 induction n with
 |zero=>exact⟨t,λk=>by simp⟩
 | succ n ih =>
  obtain⟨t',h⟩:=ih
  refine⟨t'.set n (F n),λk=>?_⟩
  rw[tgS]
  by_cases e:n=k
  ·subst e;simp
  ·rw[if_neg e,h k]
   by_cases e2:k<n
   ·rw[if_pos e2,if_pos (by omega)]
   ·rw[if_neg e2,if_neg (by omega)]
def ok0(n:Nat):Value→Bool
 |.chan none=>true
 |.bool _=>true
 |.int _ _=>true
 |.string _=>true
 |.pointer none=>true
 |.pointer (some ⟨id,_,none⟩)=>Nat.blt id n
 |.slice none l c=>andK (Nat.beq l 0) (Nat.beq c 0)
 |.slice (some ⟨id,_,none⟩) l c=>andK (Nat.blt id n) (Nat.ble l c)
 |.slice (some ⟨_,_,some _⟩) l c=>andK (Nat.beq l 0) (Nat.beq c 0)
 |.map none=>true
 |.map (some id)=>Nat.blt id n
 |.nilFunc=>true
 |.nilIface=>true
 |_=>false
def okL0(n:Nat):List Value→Bool
 |[]=>true
 |v::l=>andK (ok0 n v) (okL0 n l)
def ok1(n:Nat):Value→Bool
 |.agg xs=>okL0 n xs.toList
 |.iface _ v=>ok0 n v
 |v=>ok0 n v
def okL1(n:Nat):List Value→Bool
 |[]=>true
 |v::l=>andK (ok1 n v) (okL1 n l)
def ok2(n:Nat):Value→Bool
 |.tuple xs=>okL1 n xs.toList
 |v=>ok1 n v
theorem Y_z{a b:Nat}(h:Nat.blt a b=true):a<b:=by rw[blt_eq] at h;exact of_decide_eq_true h
theorem Ao4{n:Nat}(s:Nat→Nat){v:Value}(h:ok0 n v=true):∃v',VW n s false v v':=by
 unfold ok0 at h
 split at h
 ·exact⟨_,.dunno _ (.inr rfl)⟩
 ·exact⟨_,.bool _⟩
 ·exact⟨_,.int _ _⟩
 ·exact⟨_,.string _⟩
 ·exact⟨_,.nilptr⟩
 ·exact⟨_,.ptr _ _ (Y_z h)⟩
 ·obtain⟨h1,h2⟩:=B_1 h
  rw[ebT h1,ebT h2]
  exact⟨_,.nilslice⟩
 ·obtain⟨h1,h2⟩:=B_1 h
  exact⟨_,.slice _ _ _ _ _ (Y_z h1) (lbT h2) (lR _) (.inr rfl)⟩
 ·obtain⟨h1,h2⟩:=B_1 h
  rw[ebT h1,ebT h2]
  exact⟨_,.empty _ _ _⟩
 ·exact⟨_,.nilmap⟩
 ·exact⟨_,.map _ (Y_z h)⟩
 ·exact⟨_,.nilFunc⟩
 ·exact⟨_,.nilIface⟩
 ·cases h
inductive VWl (n:Nat) (s:Nat→Nat) (wk:Bool):List Value→List Value→Prop
 |nil:VWl n s wk [] []
 |cons {a b:Value} {as bs:List Value} (h:VW n s wk a b) (t:VWl n s wk as bs):VWl n s wk (a::as) (b::bs)
theorem VWl.arr{n:Nat}{s:Nat→Nat}{wk:Bool}{as bs:List Value}(h:VWl n s wk as bs):as.length=bs.length∧∀i (a:i<as.length) (b:i<bs.length),VW n s wk as[i] bs[i]:=by
 induction h with
 |nil=>exact⟨rfl,λi a=>by simp at a⟩
 |cons h _ ih=>
  refine⟨by simp[ih.1],λi a b=>?_⟩
  cases i with
  |zero=>exact h
  |succ i=>exact ih.2 i (by simpa using a) (by simpa using b)
theorem VWl.agg{n:Nat}{s:Nat→Nat}{wk:Bool}{as bs:List Value}(h:VWl n s wk as bs):VW n s wk (.agg as.toArray) (.agg bs.toArray):=
 .agg _ _ (by simpa using h.arr.1) λi a b=>by simpa using h.arr.2 i (by simpa using a) (by simpa using b)
theorem VWl.tuple{n:Nat}{s:Nat→Nat}{wk:Bool}{as bs:List Value}(h:VWl n s wk as bs):VW n s wk (.tuple as.toArray) (.tuple bs.toArray):=
 .tuple _ _ (by simpa using h.arr.1) λi a b=>by simpa using h.arr.2 i (by simpa using a) (by simpa using b)
theorem Ba4{n:Nat}(s:Nat→Nat):∀{l:List Value},okL0 n l=true→∃l',VWl n s false l l':=by
 intro l
 induction l with
 |nil=>exactλ_=>⟨[],.nil⟩
 |cons v l ih=>
  intro h
  obtain⟨h1,h2⟩:=B_1 h
  obtain⟨v',g⟩:=Ao4 s h1
  obtain⟨l',g'⟩:=ih h2
  exact⟨v'::l',.cons g g'⟩
theorem t_u{n:Nat}(s:Nat→Nat){v:Value}(h:ok1 n v=true):∃v',VW n s false v v':=by
 unfold ok1 at h
 split at h
 ·rename_i xs
  obtain⟨l',g⟩:=Ba4 s h
  have:=g.agg
  exact⟨_,by simpa using this⟩
 ·obtain⟨v',g⟩:=Ao4 s h
  exact⟨_,.iface _ _ _ g⟩
 ·exact Ao4 s h
theorem Ba5{n:Nat}(s:Nat→Nat):∀{l:List Value},okL1 n l=true→∃l',VWl n s false l l':=by
 intro l
 induction l with
 |nil=>exactλ_=>⟨[],.nil⟩
 |cons v l ih=>
  intro h
  obtain⟨h1,h2⟩:=B_1 h
  obtain⟨v',g⟩:=t_u s h1
  obtain⟨l',g'⟩:=ih h2
  exact⟨v'::l',.cons g g'⟩
theorem Bm5{n:Nat}(s:Nat→Nat){v:Value}(h:ok2 n v=true):∃v',VW n s false v v':=by
 unfold ok2 at h
 split at h
 ·rename_i xs
  obtain⟨l',g⟩:=Ba5 s h
  have:=g.tuple
  exact⟨_,by simpa using this⟩
 ·exact t_u s h
def allT{α:Type}(f:α→Bool):Tr α→Bool
 |.e=>true
 |.n v l r=>andK (match v with|none=>true|some x=>f x) (andK (allT f l) (allT f r))
theorem y_u{α:Type}{f:α→Bool}(p:List Bool):∀{t:Tr α}{x:α},allT f t=true→Tr.getp p t=some x→f x=true:=by
 induction p with
 | nil => intro t x h e; cases t with
  |e=>cases e
  |n v l r=>
   have e:v=some x:=e
   subst e
   exact(B_1 h).1
 | cons b p ih => intro t x h e; cases t with
  |e=>rw[Tr.getp_e] at e;cases e
  |n v l r=>
   rw[Tr.getp_cons] at e
   obtain⟨_,h2⟩:=B_1 h
   obtain⟨h3,h4⟩:=B_1 h2
   cases b with
   |false=>exact ih h3 e
   |true=>exact ih h4 e
theorem Z_3{α:Type}{f:α→Bool}{t:Tr α}{k:Nat}{x:α}(h:allT f t=true)(e:t.get k=some x):f x=true:=y_u _ h e
def okMs(n:Nat):List MapEntry→Bool
 |[]=>true
 |e::es=>andK (ok1 n e.val) (okMs n es)
def okB(n:Nat):Blk→Bool
 |.row c _ _ _ _ fl=>andK (allT (ok1 n) c) (Bool.rec (motive:=λ_=>Bool) true (allT flat1 c) fl)
 |.mp es _=>okMs n es
 |_=>false
theorem Ba6{n:Nat}(s:Nat→Nat):∀{es:List MapEntry},okMs n es=true→∃es',MW n s false es es':=by
 intro es
 induction es with
 |nil=>exactλ_=>⟨[],.nil⟩
 |cons e es ih=>
  intro h
  obtain⟨h1,h2⟩:=B_1 h
  obtain⟨v',g⟩:=t_u s h1
  obtain⟨es',g'⟩:=ih h2
  exact⟨⟨e.key,v',e.born⟩::es',.cons rfl rfl g g'⟩
theorem Bm6{n:Nat}(s:Nat→Nat){b:Blk}(h:okB n b=true):∃b',BU n s b b':=by
 cases b with
 |mp es cl=>
  obtain⟨es',g⟩:=Ba6 s h
  exact⟨_,.mp es es' cl g⟩
 |it m a b c=>cases h
 |lp st=>cases h
 | row c m e u rw fl =>
  obtain⟨h1,_⟩:=B_1 h
  have key:∀v,ok1 n v=true→∃v',VW n s false v v':=λv hv=>t_u s hv
  open Classical in
  refine⟨.row (Tr.mapO (λv=>if hv:ok1 n v=true then some (Classical.choose (key v hv)) else none) c) m e u rw fl,.row _ _ _ _ _ _ _ λi=>?_⟩
  rw[Tr.get_mapO]
  cases hc:c.get i with
  |none=>exact .inl ⟨rfl,rfl⟩
  |some v=>
   have hv:=Z_3 h1 hc
   refine .inr ⟨v,Classical.choose (key v hv),rfl,?_,Classical.choose_spec (key v hv)⟩
   show (some v).bind _=_
   rw[Option.bind_some,dif_pos hv]
def noFn:Value→Bool
 |.func _ _ _=>false
 |_=>true
def isD:Blk→Option Blk
 |.row c n e u rw fl=>match allT noFn c with
  |true=>some (.row c n e u rw fl)
  |false=>none
 |.mp es cl=>some (.mp es cl)
 |_=>none
def V_z(h:Hs):Hs:=⟨Tr.mapO isD h.hp,h.nx,h.lo⟩
theorem AE8{b c:Blk}(h:isD b=some c):c=b:=by
 cases b with
 |row x n e u rw fl=>
  have h:(match allT noFn x with|true=>some (Blk.row x n e u rw fl)|false=>none)=some c:=h
  cases hx:allT noFn x with
  |true=>rw[hx] at h;injection h with h;exact h.symm
  |false=>rw[hx] at h;cases h
 |mp es cl=>injection h with h;exact h.symm
 |it a b c d=>cases h
 |lp s=>cases h
theorem AA0{α:Type}{f g:α→Bool}(hfg:∀x,f x=true→g x=true):∀{t:Tr α},allT f t=true→allT g t=true:=by
 intro t
 induction t with
 |e=>intro _;rfl
 |n v l r il ir=>
  intro h
  obtain⟨h1,h2⟩:=B_1 h
  obtain⟨h3,h4⟩:=B_1 h2
  show andK _ (andK (allT g l) (allT g r))=true
  rw[il h3,ir h4]
  cases v with
  |none=>rfl
  |some x=>show andK (g x) (andK true true)=true;rw[hfg x h1];rfl
def okH(h:Hs):Bool:=allT (okB h.nx) h.hp
theorem Ba3{n:Nat}{b:Blk}(h:okB n b=true):isD b=some b:=by
 cases b with
 | row x m e u rw fl =>
  have h1:=AA0 (g:=noFn) (λv hv=>by
   cases v with
   |func f a c=>cases hv
   |_=>rfl) (B_1 h).1
  show (match allT noFn x with|true=>some (Blk.row x m e u rw fl)|false=>none)=_
  rw[h1]
 |mp es cl=>rfl
 |it a b c d=>cases h
 |lp s=>cases h
theorem St.clean{B:Nat}{ρ ρ':Ren}{h h':Hs}{w w':World}(hk:okH h=true)(S:St B ρ h w ρ' h' w'):St B ρ h w ρ' (V_z h') w':=by
 have get:∀id b,(V_z h').hp.get id=some b→h'.hp.get id=some b:=λid b e=>by
  have e:(Tr.mapO isD h'.hp).get id=some b:=e
  rw[Tr.get_mapO] at e
  cases hb:h'.hp.get id with
  |none=>rw[hb] at e;cases e
  |some c=>rw[hb] at e;have:=AE8 (show isD c=some b from e);rw[this]
 refine⟨⟨S.hr.base,S.hr.dom,λid b e=>S.hr.has id b (get id b e),λid id' b b' H H' e e'=>S.hr.inj id id' b b' H H' (get _ _ e) (get _ _ e')⟩,S.nx,S.le,S.old,S.below,S.size,S.lo,λid b e hl=>?_,λid b e hid=>S.gone id b (get _ _ e) hid,
  λid b e hid=>S.newrw id b (get _ _ e) hid,S.frame,S.fresh⟩
 show (Tr.mapO isD h'.hp).get id=some b
 rw[Tr.get_mapO,S.keep id b e hl]
 exact Ba3 (Z_3 hk e)
def RunsOf(tab:RnK→RnK)(d:Nat)(f:FuncId):Runs0:=λargs h v h''=>okH h=true∧∃h',runK tab d f args h=some (.val v h')∧h''=V_z h'
theorem KOk.runs{P:Program}(hm:P.follows .mixedOrders=true)(hN:Named P){F:Nat}{tab:RnK→RnK}(hT:TabOk P F tab){sums:List (Nat × SmK)}(hS:SumsOk P sums)(d:Nat)(f:FuncId):KOk P f (RunsOf (tabF tab sums) d f):=
 λargs args' v h h'' B ρ w hr hl R=>by
  obtain⟨hk,h',hr,rfl⟩:=hr
  refine(i_3 hm hN hT hS d f args args' v h h' B ρ w hr hl R).mono λe w' hh=>?_
  obtain⟨v',ρ',h1,h2,h3⟩:=hh
  exact⟨v',ρ',h1,h2,h3.clean hk⟩
theorem KOk.sub{P:Program}{f:FuncId}{K K':Runs0}(h:KOk P f K)(hs:∀a h v h',K' a h v h'→K a h v h'):KOk P f K':=
 λargs args' v h0 h' B ρ w hr hl R=>h args args' v h0 h' B ρ w (hs _ _ _ _ hr) hl R
theorem Bz6(s:Nat→Nat)(P:Nat→Prop)(lo:Nat):∀n:Nat,∃x,x≤lo∧(∀id,id<n→P id→x≤s id)∧∀y,y≤lo→(∀id,id<n→P id→y≤s id)→y≤x:=by
 intro n
 induction n with
 |zero=>exact⟨lo,lR _,λid h=>by omega,λy h _=>h⟩
 | succ n ih =>
  obtain⟨x,h1,h2,h3⟩:=ih
  by_cases hp:P n
  ·refine⟨min x (s n),by omega,λid hid hP=>?_,λy hy hall=>?_⟩
   ·by_cases e:id=n
    ·subst e;omega
    ·have:=h2 id (by omega) hP;omega
   ·have a1:=h3 y hy λid hid hP=>hall id (by omega) hP
    have a2:=hall n (by omega) hp
    omega
  ·refine⟨x,h1,λid hid hP=>?_,λy hy hall=>h3 y hy λid hid hP=>hall id (by omega) hP⟩
   by_cases e:id=n
   ·subst e;exact absurd hP hp
   ·exact h2 id (by omega) hP
theorem Frm.ex{s:Nat→Nat}{h0 h0' h:Hs}(E:Emb s h0 h)(hn:h0.nx≤h0'.nx)(hk:okH h0'=true):∃h',Frm s h0 h0' h h':=by
 have hmv:∀id b0,h0'.hp.get id=some b0→∃b,BU h0'.nx (K_c s h0.nx h.nx) b0 b:=λid b0 e=>Bm6 _ (Z_3 hk e)
 let T:Nat→Prop:=λid=>∃b0,h0.hp.get id=some b0∧isRw b0=true∧h0'.lo≤id
 open Classical in
 let mv:Nat→Option Blk:=λid=>if e:∃b0,h0'.hp.get id=some b0 then some (Classical.choose (hmv id (Classical.choose e) (Classical.choose_spec e))) else none
 have mv1:∀id,(h0'.hp.get id=none∧mv id=none)∨∃b0 b,h0'.hp.get id=some b0∧mv id=some b∧BU h0'.nx (K_c s h0.nx h.nx) b0 b:=λid=>by
  by_cases e:∃b0,h0'.hp.get id=some b0
  ·refine .inr ⟨Classical.choose e,Classical.choose (hmv id (Classical.choose e) (Classical.choose_spec e)),Classical.choose_spec e,?_,Classical.choose_spec (hmv id (Classical.choose e) (Classical.choose_spec e))⟩
   show dite _ _ _=_
   rw[dif_pos e]
  ·refine .inl ⟨?_,?_⟩
   ·cases hg:h0'.hp.get id with
    |none=>rfl
    |some b=>exact absurd ⟨b,hg⟩ e
   ·show dite _ _ _=_
    rw[dif_neg e]
 open Classical in
 obtain⟨t,ht⟩:=Tr.build (λk=>if k<h.nx then (if e:∃id,T id∧s id=k then mv (Classical.choose e) else h.hp.get k) else mv (k-h.nx+h0.nx)) h.hp (h.nx+(h0'.nx-h0.nx))
 obtain⟨lo,l1,l2,l3⟩:=Bz6 s T h.lo h0.nx
 have inT:∀id,T id→id<h0.nx:=λid ⟨b0,g,_⟩=>(E.at_ id b0 g).1
 have uniq:∀id id',T id→T id'→s id=s id'→id=id':=λid id' ⟨b0,g1,g2,g3⟩ ⟨b1,q1,q2,q3⟩ e=>by
  by_cases hh:id=id'
  ·exact hh
  ·exact absurd e (E.inj id id' b0 b1 g1 q1 g2 hh)
 refine⟨⟨t,h.nx+(h0'.nx-h0.nx),lo⟩,rfl,l1,λid b0 g1 g2 g3=>l2 id (inT id ⟨b0,g1,g2,g3⟩) ⟨b0,g1,g2,g3⟩,λx hx hall=>l3 x hx λid _ ⟨b0,g1,g2,g3⟩=>hall id b0 g1 g2 g3,λk hk2 hno=>?_,λid hid=>?_,λk hk2=>?_⟩
 ·show t.get k=_
  rw[ht k,if_pos (by omega)]
  show (if k<h.nx then _ else _)=_
  rw[if_pos hk2,dif_neg]
  exactλ⟨id,⟨b0,g1,g2,g3⟩,e⟩=>hno id b0 g1 g2 g3 e
 ·show (h0'.hp.get id=none∧t.get (K_c s h0.nx h.nx id)=none)∨∃b0 b,_∧t.get (K_c s h0.nx h.nx id)=some b∧_
  have e:t.get (K_c s h0.nx h.nx id)=mv id:=by
   rcases hid with⟨a,b⟩|hT
   ·unfold K_c
    rw[if_neg (by omega),ht,if_pos (by omega)]
    show (if h.nx+(id-h0.nx)<h.nx then _ else _)=_
    rw[if_neg (by omega),show h.nx+(id-h0.nx)-h.nx+h0.nx=id by omega]
   ·have hT:T id:=hT
    have hlt:=inT id hT
    have hlt2:=E.lt id hlt
    unfold K_c
    rw[if_pos hlt,ht,if_pos (by omega)]
    show (if s id<h.nx then _ else _)=_
    have ex:∃id2,T id2∧s id2=s id:=⟨id,hT,rfl⟩
    rw[if_pos hlt2,dif_pos ex,uniq _ _ (Classical.choose_spec ex).1 hT (Classical.choose_spec ex).2]
  rw[e]
  exact mv1 id
 ·have hk2:h.nx+(h0'.nx-h0.nx)≤k:=hk2
  show t.get k=_
  rw[ht k,if_neg (by omega)]
theorem VW.trans{n n':Nat}{s s':Nat→Nat}{v0 v1:Value}(h:VW n s true v0 v1):∀v2,VW n' s' true v1 v2→VW n (λid=>s' (s id)) true v0 v2:=by
 induction h with
 |dunno v _=>exactλv2 _=>.dunno v2 (.inl rfl)
 |bool b=>exactλv2 g=>by cases g;exact .bool _
 |int k i=>exactλv2 g=>by cases g;exact .int _ _
 |string x=>exactλv2 g=>by cases g;exact .string _
 |nilptr=>exactλv2 g=>by cases g;exact .nilptr
 |ptr id off h=>exactλv2 g=>by cases g;exact .ptr id off h
 |nilslice=>exactλv2 g=>by cases g;exact .nilslice
 |nilmap=>exactλv2 g=>by cases g;exact .nilmap
 |map id h=>exactλv2 g=>by cases g;exact .map id h
 |slice id off l c c' h h1 h2 h3=>
  intro v2 g
  cases g with
  |slice _ _ _ _ c2 g1 g2 g3 g4=>exact .slice id off l c c2 h h1 (lTr h2 g3) (.inl rfl)
 |empty b o k=>exactλv2 g=>by cases g;exact .empty _ _ _
 |nilFunc=>exactλv2 g=>by cases g;exact .nilFunc
 |nilIface=>exactλv2 g=>by cases g;exact .nilIface
 |func f=>exactλv2 g=>by cases g;exact .func f
 |iface t v v2 _ ih=>
  intro v3 g
  cases g with
  |iface _ _ v4 h=>exact .iface t v v4 (ih v4 h)
 |agg xs ys h _ ih=>
  intro v3 g
  cases g with
  |agg _ zs h1 h2=>exact .agg xs zs (h.trans h1) λi a b=>ih i a (by omega) _ (h2 i (by omega) b)
 |tuple xs ys h _ ih=>
  intro v3 g
  cases g with
  |tuple _ zs h1 h2=>exact .tuple xs zs (h.trans h1) λi a b=>ih i a (by omega) _ (h2 i (by omega) b)
theorem MW.trans{n n':Nat}{s s':Nat→Nat}{es es1:List MapEntry}(h:MW n s true es es1):∀es2,MW n' s' true es1 es2→MW n (λid=>s' (s id)) true es es2:=by
 induction h with
 |nil=>exactλes2 g=>by cases g;exact .nil
 |cons a b c _ ih=>
  intro es2 g
  cases g with
  |cons hk hb hv t=>exact .cons (hk.trans a) (hb.trans b) (c.trans _ hv) (ih _ t)
theorem BW.trans{n n':Nat}{s s':Nat→Nat}{b0 b1 b2:Blk}(h:BW n s b0 b1)(g:BW n' s' b1 b2):BW n (λid=>s' (s id)) b0 b2:=by
 cases h with
 | row c0 c n0 n1 e u rw0 rw fl0 fl hrw hfl hc =>
  cases g with
  |row _ c2 _ n2 _ _ _ rw2 _ fl2 grw gfl gc=>
   refine .row c0 c2 n0 n2 e u rw0 rw2 fl0 fl2 (λh=>⟨(grw (hrw h).1).1,(hrw h).2.1.trans (grw (hrw h).1).2.1,(hrw h).2.2.1,(grw (hrw h).1).2.2.2⟩) (λh=>⟨(gfl (hfl h).1).1,(hfl h).2⟩) (λi v0 hv=>?_)
   obtain⟨v,x1,x2⟩:=hc i v0 hv
   obtain⟨v2,y1,y2⟩:=gc i v x1
   exact⟨v2,y1,x2.trans _ y2⟩
 |mp es es1 cl h=>
  cases g with
  |mp _ es2 _ g=>exact .mp es es2 cl (h.trans _ g)
theorem BW.mono{n n':Nat}{s s':Nat→Nat}(hn:n≤n')(hs:∀id,id<n→s' id=s id){b0 b:Blk}(h:BW n s b0 b):BW n' s' b0 b:=by
 cases h with
 | row c0 c n0 n1 e u rw0 rw fl0 fl hrw hfl hc =>
  exact .row c0 c n0 n1 e u rw0 rw fl0 fl hrw hfl (λi v0 hv=>by
   obtain⟨v,y1,y2⟩:=hc i v0 hv
   exact⟨v,y1,y2.mono hn hs⟩)
 |mp es es' cl h=>exact .mp es es' cl (h.mono hn hs)
theorem Emb.trans{s s':Nat→Nat}{h0 h1 h2:Hs}(E:Emb s h0 h1)(E':Emb s' h1 h2):Emb (λid=>s' (s id)) h0 h2:=by
 refine⟨λid b0 g=>?_,λid hid=>E'.lt _ (E.lt _ hid),λid id' b b' g g' hr hne=>?_⟩
 ·obtain⟨q1,b,q2,q3⟩:=E.at_ id b0 g
  obtain⟨_,c,r2,r3⟩:=E'.at_ _ b q2
  exact⟨q1,c,r2,q3.trans r3⟩
 ·obtain⟨q1,c,q2,q3⟩:=E.at_ id b g
  obtain⟨q1',c',q2',q3'⟩:=E.at_ id' b' g'
  exact E'.inj _ _ c c' q2 q2' (q3.rw_imp hr) (E.inj id id' b b' g g' hr hne)
theorem Emb.ext{s:Nat→Nat}{h0 h h':Hs}(E:Emb s h0 h)(hn:h.nx≤h'.nx)(hg:∀k,k<h.nx→h'.hp.get k=h.hp.get k):Emb s h0 h':=by
 refine⟨λid b0 g=>?_,λid hid=>llN (E.lt id hid) hn,E.inj⟩
 obtain⟨q1,b,q2,q3⟩:=E.at_ id b0 g
 exact⟨q1,b,by rw[hg _ (E.lt id q1)];exact q2,q3⟩
inductive SB where
 |row (e u:Nat) (rw:Bool) (L:List Value)
 |mp (es:List MapEntry) (cl:Nat)
def SB.blk:SB→Blk
 |.row e u rw L=>.row (ofList L) L.length e u rw false
 |.mp es cl=>.mp es cl
def J_3(L:List SB):Hs:=⟨ofList (L.map SB.blk),L.length,L.length⟩
theorem Y_u(L:List SB)(id:Nat):(J_3 L).hp.get id=(L[id]?).map SB.blk:=by
 show (ofList (L.map SB.blk)).get id=_
 rw[C_q,List.getElem?_map]
def AE5(h0 h0':Hs):Nat→Bool
 |0=>true
 | k + 1 => andK (AE5 h0 h0' k) (match h0'.hp.getK k with
  |none=>true
  |some b=>match h0.hp.getK k with
   |none=>false
   |some b0=>andK (eqBo (isRw b0) (isRw b)) (match andK (isRw b0) (Nat.ble h0'.lo k) with|true=>true|false=>eqBl b0 b))
end
end Go.Gev
namespace Go.Gev
noncomputable section
def refs0:Value→List Nat
 |.pointer (some ⟨id,_,none⟩)=>[id]
 |.slice (some ⟨id,_,none⟩) _ _=>[id]
 |.map (some id)=>[id]
 |_=>[]
def f_9:List Value→List Nat
 |[]=>[]
 |v::l=>refs0 v++f_9 l
def refs1:Value→List Nat
 |.agg xs=>f_9 xs.toList
 |v=>refs0 v
def AI7:List Value→List Nat
 |[]=>[]
 |v::l=>refs1 v++AI7 l
def AI8:List MapEntry→List Nat
 |[]=>[]
 |e::l=>refs1 e.val++AI8 l
def Bn9:SB→List Nat
 |.row _ _ _ L=>f_9 L
 |.mp es _=>AI8 es
def memM(a:Nat):List Nat→Bool
 |[]=>false
 |b::l=>Bool.rec (motive:=λ_=>Bool) (memM a l) true (Nat.beq a b)
def pinL:List SB→Nat→List Nat→Bool
 |[],_,_=>true
 |x::xs,i,known=>andK (memM i known) (pinL xs (Nat.succ i) (Bn9 x++known))
def pinK(args:List Value)(A:List SB):Bool:=pinL A 0 (AI7 args)
theorem AY2{a:Nat}:∀{l:List Nat},memM a l=true→a∈l:=by
 intro l
 induction l with
 |nil=>intro h;cases h
 |cons b l ih=>
  intro h
  unfold memM at h
  cases hb:Nat.beq a b with
  |true=>exact mcQ.2 (.inl (ebT hb))
  |false=>rw[hb] at h;exact mcM _ (ih h)
section
variable {n:Nat} {s s2:Nat→Nat} {wk:Bool}
theorem U_y{v0 v:Value}(h:VW n s wk v0 v)(h2:VW n s2 wk v0 v):∀id∈refs0 v0,s id=s2 id:=by
 intro id hid
 cases h with
 |ptr i o hl=>
  have:id=i:=by simpa [refs0] using hid
  subst this
  generalize e:(Value.pointer (some ⟨s id,o,none⟩))=x at h2
  cases h2 with
  |ptr _ _ _=>injection e with e;injection e with e;injection e
 |slice i o l c c' hl h1 h2' h3=>
  have:id=i:=by simpa [refs0] using hid
  subst this
  generalize e:(Value.slice (some ⟨s id,o,none⟩) l c')=x at h2
  cases h2 with
  |slice _ _ _ _ _ _ _ _ _=>injection e with e _ _;injection e with e;injection e
 |map i hl=>
  have:id=i:=by simpa [refs0] using hid
  subst this
  generalize e:(Value.map (some (s id)))=x at h2
  cases h2 with
  |map _ _=>injection e with e;injection e
 |_=>simp[refs0] at hid
theorem g_a:∀{L:List Value}{id:Nat},id∈f_9 L→∃(i:Nat) (v:Value),L[i]?=some v∧id∈refs0 v:=by
 intro L
 induction L with
 |nil=>intro id h;simp[f_9] at h
 | cons v L ih =>
  intro id h
  rcases List.mem_append.1 h with e|e
  ·exact⟨0,v,rfl,e⟩
  ·obtain⟨i,w,q1,q2⟩:=ih e
   exact⟨i+1,w,by simpa using q1,q2⟩
theorem m_6{v0 v:Value}(h:VW n s wk v0 v)(h2:VW n s2 wk v0 v):∀id∈refs1 v0,s id=s2 id:=by
 intro id hid
 cases h with
 | agg xs ys h1 h' =>
  cases h2 with
  |agg _ _ g1 g'=>
   obtain⟨i,w,q1,q2⟩:=g_a (show id∈f_9 xs.toList from hid)
   obtain⟨hi,e⟩:=geI.1 q1
   have hi:i<xs.size:=by simpa using hi
   have e:xs[i]=w:=by simpa using e
   subst e
   exact U_y (h' i hi (by omega)) (g' i hi (by omega)) id q2
 |ptr i o hl=>exact U_y (.ptr i o hl) h2 id hid
 |slice i o l c c' hl h1 h2' h3=>exact U_y (.slice i o l c c' hl h1 h2' h3) h2 id hid
 |map i hl=>exact U_y (.map i hl) h2 id hid
 |_=>simp[refs1,refs0] at hid
theorem Aq1:∀{as bs:List Value},VWs n s as bs→VWs n s2 as bs→∀id∈AI7 as,s id=s2 id:=by
 intro as bs h
 induction h with
 |nil=>intro _ id hid;simp[AI7] at hid
 | cons h _ ih =>
  intro g id hid
  cases g with
  |cons g1 g2=>
   rcases List.mem_append.1 hid with e|e
   ·exact m_6 h g1 id e
   ·exact ih g2 id e
theorem Aq2:∀{as bs:List MapEntry},MW n s true as bs→MW n s2 true as bs→∀id∈AI8 as,s id=s2 id:=by
 intro as bs h
 induction h with
 |nil=>intro _ id hid;simp[AI8] at hid
 | cons _ _ h _ ih =>
  intro g id hid
  cases g with
  |cons _ _ g1 g2=>
   rcases List.mem_append.1 hid with e|e
   ·exact m_6 h g1 id e
   ·exact ih g2 id e
theorem Aq0{x:SB}{b:Blk}(h:BW n s x.blk b)(g:BW n s2 x.blk b):∀id∈Bn9 x,s id=s2 id:=by
 intro id hid
 cases x with
 | mp es cl =>
  have h:BW n s (.mp es cl) b:=h
  have g:BW n s2 (.mp es cl) b:=g
  cases h with
  |mp _ es' _ hm=>
   cases g with
   |mp _ _ _ gm=>exact Aq2 hm gm id hid
 | row e u rw L =>
  have h:BW n s (.row (ofList L) L.length e u rw false) b:=h
  have g:BW n s2 (.row (ofList L) L.length e u rw false) b:=g
  obtain⟨i,v,q1,q2⟩:=g_a hid
  cases h with
  | row _ c _ _ _ _ _ _ _ _ _ _ hc =>
   cases g with
   |row _ _ _ _ _ _ _ _ _ _ _ _ gc=>
    obtain⟨y,y1,y2⟩:=hc i v (by rw[C_q];exact q1)
    obtain⟨z,z1,z2⟩:=gc i v (by rw[C_q];exact q1)
    rw[y1] at z1;injection z1 with z1;subst z1
    exact U_y y2 z2 id q2
theorem Bb1{h:Hs}:∀{xs:List SB}{A:List SB}{i:Nat}{known:List Nat},Emb s (J_3 A) h→Emb s2 (J_3 A) h→A.length=n→pinL xs i known=true→(∀j x,xs[j]?=some x→A[i+j]?=some x)→(∀id∈known,s id=s2 id) →
 ∀j,j<xs.length→s (i+j)=s2 (i+j):=by
 intro xs
 induction xs with
 |nil=>intro A i known _ _ _ _ _ _ j hj;simp at hj
 | cons x xs ih =>
  intro A i known E E2 hn hp hA hk j hj
  obtain⟨h1,h2⟩:=B_1 hp
  have e0:s i=s2 i:=hk i (AY2 h1)
  cases j with
  |zero=>exact e0
  | succ j =>
   have hx:A[i]?=some x:=hA 0 x rfl
   have hb:(J_3 A).hp.get i=some x.blk:=by rw[Y_u,hx];rfl
   obtain⟨_,b,q1,q2⟩:=E.at_ i _ hb
   obtain⟨_,b2,r1,r2⟩:=E2.at_ i _ hb
   rw[←e0,q1] at r1;injection r1 with r1;subst r1
   have:=ih (i:=Nat.succ i) E E2 hn h2 (λj y hy=>by rw[show i.succ+j=i+(j+1) by omega];exact hA (j+1) y (by simpa using hy)) (λid hid=>by
    rcases List.mem_append.1 hid with e|e
    ·exact Aq0 q2 r2 id e
    ·exact hk id e) j (by simpa using hj)
   rw[show i+(j+1)=i.succ+j by omega]
   exact this
end
theorem Bb0{args0 args:List Value}{A:List SB}{s s2:Nat→Nat}{h:Hs}(hp:pinK args0 A=true)(E:Emb s (J_3 A) h)(E2:Emb s2 (J_3 A) h)(hw:VWs A.length s args0 args)(hw2:VWs A.length s2 args0 args):∀id,id<A.length→s id=s2 id:=by
 intro id hid
 have:=Bb1 (n:=A.length) E E2 rfl hp (λj x hx=>by rw[zaQ];exact hx) (Aq1 hw hw2) id hid
 rwa [zaQ] at this
structure FmRun (R0:List Value→Hs→An) (args0:List Value) (A:List SB) (v0:Value) (h0':Hs):Prop where
 run:∃hr,R0 args0 (J_3 A)=some (.val v0 hr)∧h0'=V_z hr
 ok0:okH (J_3 A)=true
 ok':okH h0'=true
 nx:A.length≤h0'.nx
 hold:AE5 (J_3 A) h0' A.length=true
 okv:ok2 h0'.nx v0=true
def z_u(R0:List Value→Hs→An)(args0:List Value)(A:List SB)(post:Value→Hs→Bool):Bool:=
 match R0 args0 (J_3 A) with
 |some (.val v hr)=>andK (okH (J_3 A)) (andK (okH (V_z hr)) (andK (Nat.ble A.length (V_z hr).nx) (andK (AE5 (J_3 A) (V_z hr) A.length) (andK (ok2 (V_z hr).nx v) (post v (V_z hr))))))
 |_=>false
theorem z_x{R0:List Value→Hs→An}{args0:List Value}{A:List SB}{post:Value→Hs→Bool}(h:z_u R0 args0 A post=true):∃v0 h0',FmRun R0 args0 A v0 h0'∧post v0 h0'=true:=by
 unfold z_u at h
 split at h
 ·rename_i v hr e
  obtain⟨h1,h⟩:=B_1 h
  obtain⟨h2,h⟩:=B_1 h
  obtain⟨h3,h⟩:=B_1 h
  obtain⟨h4,h⟩:=B_1 h
  obtain⟨h5,h6⟩:=B_1 h
  exact⟨v,V_z hr,⟨⟨hr,e,rfl⟩,h1,h2,lbT h3,h4,h5⟩,h6⟩
 ·cases h
def KI{ι:Type}(P:ι→Prop)(args:ι→List Value)(A:ι→List SB)(R0:List Value→Hs→An):Runs0:=λa h v h'=>∃i,P i∧a=args i∧h=J_3 (A i)∧FmRun R0 (args i) (A i) v h'
theorem Bw8{P:Program}{ι:Type}(hm:P.follows .mixedOrders=true)(hN:Named P){F:Nat}{tab:RnK→RnK}(hT:TabOk P F tab){sums:List (Nat × SmK)}(hS:SumsOk P sums)(d:Nat)(f:FuncId)(p:ι→Prop)(args:ι→List Value)(A:ι→List SB) :
 KOk P f (KI p args A (runK (tabF tab sums) d f)):=
 (KOk.runs hm hN hT hS d f).sub λa h v h' ⟨i,_,e1,e2,r⟩=>by
  obtain⟨hr,q1,q2⟩:=r.run
  subst e1;subst e2
  exact⟨r.ok0,hr,q1,q2⟩
theorem c_l{s s2:Nat→Nat}{n0 nx:Nat}(h:∀id,id<n0→s id=s2 id):K_c s n0 nx=K_c s2 n0 nx:=by
 funext id
 unfold K_c
 by_cases e:id<n0
 ·rw[if_pos e,if_pos e,h id e]
 ·rw[if_neg e,if_neg e]
theorem Frm.congr{s s2:Nat→Nat}{h0 h0' h h':Hs}(F:Frm s2 h0 h0' h h')(e:∀id,id<h0.nx→s id=s2 id)(hl:∀id b,h0.hp.get id=some b→id<h0.nx):Frm s h0 h0' h h':=by
 have en:=c_l (nx:=h.nx) e
 refine⟨F.nx,F.lo,λid b0 g1 g2 g3=>by rw[e id (hl id b0 g1)];exact F.lo1 id b0 g1 g2 g3,λx hx hall=>F.lo2 x hx λid b0 g1 g2 g3=>by rw[←e id (hl id b0 g1)];exact hall id b0 g1 g2 g3,
  λk hk hno=>F.old k hk λid b0 g1 g2 g3=>by rw[←e id (hl id b0 g1)];exact hno id b0 g1 g2 g3,λid hid=>?_,F.beyond⟩
 rw[en]
 exact F.new id hid
theorem P_a{A:List SB}{id:Nat}{b:Blk}(g:(J_3 A).hp.get id=some b):id<A.length:=by
 rw[Y_u] at g
 cases hx:A[id]? with
 |none=>rw[hx] at g;cases g
 |some x=>exact(geI.1 hx).1
theorem w_fm{ι:Type}{P:ι→Prop}{args:ι→List Value}{A:ι→List SB}{R0:List Value→Hs→An}{R:RnK}{f:FuncId}{a:List Value}{h:Hs}{s:Nat→Nat}{v0:Value}{h0':Hs}
 (hR:∀o,fmG (KI P args A R0) a h=some o→R f a h=some o) (i:ι) (hi:P i) (E:Emb s (J_3 (A i)) h) (hw:VWs (A i).length s (args i) a) (pk:pinK (args i) (A i)=true)
 (uniq:∀j s2,P j→Emb s2 (J_3 (A j)) h→VWs (A j).length s2 (args j) a→args j=args i∧A j=A i) (r:FmRun R0 (args i) (A i) v0 h0') :
 WP (R f a h) λv h'=>VW h0'.nx (K_c s (A i).length h.nx) false v0 v∧Frm s (J_3 (A i)) h0' h h':=by
 obtain⟨vx,hvx⟩:=Bm5 (K_c s (A i).length h.nx) r.okv
 obtain⟨hx,hFx⟩:=Frm.ex (h:=h) E r.nx r.ok'
 obtain⟨v,h',e1,s2,args2,h02,h02',v02,⟨j,hj,q1,q2,q3⟩,E2,w2,u2,F2⟩:=AD9 (K:=KI P args A R0) (args:=a) (h:=h) ⟨s,args i,J_3 (A i),h0',v0,⟨i,hi,rfl,rfl,r⟩,E,hw,hvx,hFx⟩
 subst q1;subst q2
 obtain⟨p1,p2⟩:=uniq j s2 hj E2 w2
 rw[p1,p2] at q3
 have w2:VWs (A j).length s2 (args j) a:=w2
 have F2:Frm s2 (J_3 (A j)) h02' h h':=F2
 have u2:VW h02'.nx (K_c s2 (A j).length h.nx) false v02 v:=u2
 rw[p2] at E2 w2 F2 u2
 rw[p1] at w2
 have es:=Bb0 pk E E2 hw w2
 obtain⟨hr,x1,x2⟩:=r.run
 obtain⟨hr2,y1,y2⟩:=q3.run
 rw[x1] at y1
 injection y1 with y1;injection y1 with y1 y3
 subst y1;subst y3
 rw[←x2] at y2
 subst y2
 refine⟨v,h',hR _ e1,?_,F2.congr es λid b g=>P_a g⟩
 rw[c_l es]
 exact u2
section
variable {n:Nat} {s:Nat→Nat} {v:Value}
theorem VW.int_inv{k:IntKind}{i:Int}(h:VW n s false (.int k i) v):v=.int k i:=by cases h;rfl
theorem VW.bool_inv{b:Bool}(h:VW n s false (.bool b) v):v=.bool b:=by cases h;rfl
theorem VW.slice_inv{id o l c:Nat}(h:VW n s false (.slice (some ⟨id,o,none⟩) l c) v):v=.slice (some ⟨s id,o,none⟩) l c∧id<n∧l≤c:=by
 cases h with
 |slice _ _ _ _ c' hl h1 h2 h3=>
  rcases h3 with h3|h3
  ·cases h3
  ·subst h3;exact⟨rfl,hl,h1⟩
end
def Turned(s:Nat→Nat)(h0 h0':Hs)(k:Nat):Prop:=∃id b0,h0.hp.get id=some b0∧isRw b0=true∧h0'.lo≤id∧s id=k
theorem Frm.old'{s:Nat→Nat}{h0 h0' h h':Hs}(F:Frm s h0 h0' h h'){k:Nat}(hk:k<h.nx)(hn:¬Turned s h0 h0' k):h'.hp.get k=h.hp.get k:=F.old k hk λid b0 g1 g2 g3 e=>hn ⟨id,b0,g1,g2,g3,e⟩
theorem Frm.sto{s:Nat→Nat}{h0 h0' h h' h00:Hs}{S:List Nat}{m:List Th}(F:Frm s h0 h0' h h')(H:Sto h00 S h m)(hT:∀k,Turned s h0 h0' k→h00.nx≤k∨k∈S)(hm:∀t∈m,∀b,t.id=some b→¬Turned s h0 h0' b):Sto h00 S h' m:=by
 have hnx:=F.nx
 refine⟨by have:=H.nx;omega,λid hid hs=>?_,λk hk hs=>?_,λt ht=>?_,λt ht b hb=>⟨by have:=(H.ids t ht b hb).1;omega,(H.ids t ht b hb).2⟩,λid hid hl=>?_,H.dj⟩
 ·rw[F.old' (llN hid H.nx) λq=>?_]
  ·exact H.fr id hid hs
  ·rcases hT id q with g|g
   ·omega
   ·exact hs g
 ·refine F.lo2 k (H.lo k hk hs) λid b0 g1 g2 g3=>?_
  rcases hT (s id) ⟨id,b0,g1,g2,g3,rfl⟩ with g|g
  ·omega
  ·exact hs _ g
 ·exact Th.congr (H.ok t ht) λb hb=>F.old' (H.ids t ht b hb).1 (hm t ht b hb)
 ·have hl2:id<h.lo:=llN hl F.lo
  rw[F.old' (llN hid H.nx) λ⟨id2,b0,g1,g2,g3,e⟩=>?_]
  ·exact H.chg id hid hl2
  ·have:=F.lo1 id2 b0 g1 g2 g3;omega
end
end Go.Gev
namespace Go.Gev
variable {Q:Value→Hs→Prop} {h0:Hs} {S:List Nat} {h:Hs} {m:List Th}
def Sm(h u:Hs):Prop:=u.nx=h.nx∧u.lo=h.lo∧∀id,id<h.nx→u.hp.get id=h.hp.get id
def MvN(N:Nat)(h u:Hs):Prop:=h.nx≤u.nx∧u.lo≤h.lo∧(∀x,x≤h.lo→x≤N→x≤u.lo)∧∀id,id<N→u.hp.get id=h.hp.get id
theorem Sm.same{h u:Hs}(s:Sm h u):Same h u:=⟨⟨Nat.le_of_eq s.1.symm,s.2.2⟩,s.2.1⟩
theorem Frm.same{s:Nat→Nat}{A:List SB}{h0' h u:Hs}(F:Frm s (J_3 A) h0' h u)(hl:A.length≤h0'.lo):Same h u:=by
 have no:∀id b0,(J_3 A).hp.get id=some b0→¬h0'.lo≤id:=λid b0 g=>by have:=P_a g;omega
 refine⟨⟨by have:=F.nx;omega,λid hid=>F.old' hid λ⟨i,b0,g1,_,g3,_⟩=>no i b0 g1 g3⟩,Nat.le_antisymm F.lo (F.lo2 h.lo (lR _) λid b0 g1 _ g3=>absurd g3 (no id b0 g1))⟩
theorem Frm.sm{s:Nat→Nat}{A:List SB}{h0' h u:Hs}(F:Frm s (J_3 A) h0' h u)(hn:h0'.nx=A.length)(hl:A.length≤h0'.lo):Sm h u:=by
 have q:=F.same hl
 refine⟨?_,q.2,q.1.2⟩
 have:=F.nx
 have e:(J_3 A).nx=A.length:=rfl
 omega
theorem Frm.mv{s:Nat→Nat}{A:List SB}{h0' h u:Hs}{N:Nat}(F:Frm s (J_3 A) h0' h u)(hN:∀id,id<A.length→N≤s id)(hNh:N≤h.nx):MvN N h u:=by
 refine⟨by have:=F.nx;omega,F.lo,λx h1 h2=>F.lo2 x h1 λid b0 g1 _ _=>lTr h2 (hN id (P_a g1)),λid hid=>F.old' (llN hid hNh) λ⟨i,b0,g1,_,_,e⟩=>?_⟩
 have:=hN i (P_a g1)
 omega
theorem Sto.mv{N:Nat}{u:Hs}(H:Sto h0 S h m)(M:MvN N h u)(hN:h0.nx≤N)(hs:S = [])(ht':∀t∈m,∀b,t.id=some b→b<N):Sto h0 S u m:=by
 subst hs
 refine⟨lTr H.nx M.1,λid hid hs=>(M.2.2.2 id (by omega)).trans (H.fr id hid hs),λk hk hs=>M.2.2.1 k (H.lo k hk hs) (by omega),λt hm=>Th.congr (H.ok t hm) λb hb=>M.2.2.2 b (ht' t hm b hb),λt hm b hb=>⟨by have:=(H.ids t hm b hb).1;have:=M.1;omega,(H.ids t hm b hb).2⟩,λid hid hl=>?_,H.dj⟩
 rw[M.2.2.2 id (by omega)]
 exact H.chg id hid (llN hl M.2.1)
end Go.Gev
namespace Go.Gev
variable {Q:Value→Hs→Prop} {h0:Hs} {S:List Nat} {h:Hs} {m:List Th}
def MutS(S:List Nat)(h h':Hs):Prop:=h.nx≤h'.nx∧(∀id,id<h.nx→id∉S→h'.hp.get id=h.hp.get id)∧(∀x,x≤h.lo→(∀s∈S,x≤s)→x≤h'.lo)∧h'.lo≤h.lo∧(∀s∈S,h'.lo≤s∨h'.hp.get s=h.hp.get s)
theorem Same.mutS{h':Hs}(s:Same h h'):MutS [] h h':=⟨s.1.1,λid hid _=>s.1.2 id hid,λx hx _=>by rw[s.2];exact hx,Nat.le_of_eq s.2,λs hs=>by cases hs⟩
theorem Mut.mutS{h':Hs}{b:Nat}(M:Mut h h' b):MutS [b] h h':=⟨M.1,λid hid hn=>M.2.1 id hid (by simpa using hn),λx h1 h2=>M.2.2.1 x h1 (h2 b (by simp)),M.2.2.2.1,λs hs=>by rw[msQ.1 hs];exact M.2.2.2.2⟩
theorem Sto.mutS{T:List Nat}{h':Hs}(H:Sto h0 S h m)(M:MutS T h h')(hT:∀s∈T,h0.nx≤s∨s∈S)(hm:∀t∈m,∀b,t.id=some b→b∉T):Sto h0 S h' m:=by
 refine⟨lTr H.nx M.1,λid hid hs=>?_,λk hk hs=>?_,λt ht=>Th.congr (H.ok t ht) λb hb=>M.2.1 b (H.ids t ht b hb).1 (hm t ht b hb),λt ht b hb=>⟨llN (H.ids t ht b hb).1 M.1,(H.ids t ht b hb).2⟩,λid hid hl=>?_,H.dj⟩
 ·have:id∉T:=λq=>by
   rcases hT id q with g|g
   ·omega
   ·exact hs g
  exact(M.2.1 id (llN hid H.nx) this).trans (H.fr id hid hs)
 ·refine M.2.2.1 k (H.lo k hk hs) λs q=>?_
  rcases hT s q with g|g
  ·omega
  ·exact hs s g
 ·have hl2:id<h.lo:=llN hl M.2.2.2.1
  by_cases q:id∈T
  ·rcases M.2.2.2.2 id q with g|g
   ·omega
   ·exact g.trans (H.chg id hid hl2)
  ·exact(M.2.1 id (llN hid H.nx) q).trans (H.chg id hid hl2)
theorem d_r{b:Nat}{h':Hs}{v:Value}(H:Sto h S h' m)(hb:b<h.nx)(hbS:b∈S)(hS:∀s∈S,s<h.nx)(hne:h'.hp.get b≠h.hp.get b)(q:∀h'',MutS S h h''→h''.hp=h'.hp→h''.nx=h'.nx→Q v h''):WP (clrK h v h') Q:=by
 have hlo:h'.lo≤b:=by
  rcases logQ b h'.lo with g|g
  ·exact absurd (H.chg b hb g) hne
  ·exact g
 have e:Nat.blt h'.lo h.nx=true:=by rw[blt_eq];exact decide_eq_true (by omega)
 rw[Q_c,e]
 refine⟨v,⟨h'.hp,h'.nx,minN h.lo h'.lo⟩,rfl,q _ ⟨H.nx,H.fr,λx h1 h2=>?_,F_1 _ _,λs hs=>?_⟩ rfl rfl⟩
 ·show x≤minN h.lo h'.lo
  rw[minN_eq]
  have:=H.lo x (by have:=h2 b hbS;omega) h2
  omega
 ·rcases logQ s h'.lo with g|g
  ·exact .inr (H.chg s (hS s hs) g)
  ·exact .inl (lTr (C_m _ _) g)
theorem Frm.mutS{s:Nat→Nat}{A:List SB}{h0' u:Hs}(F:Frm s (J_3 A) h0' h u)(hlt:∀id,id<A.length→s id<h.nx):MutS ((List.range A.length).map s) h u:=by
 refine⟨by have:=F.nx;omega,λk hk hn=>F.old k hk λid b0 g _ _ e=>hn (List.mem_map.2 ⟨id,List.mem_range.2 (P_a g),e⟩),λx h1 h2=>F.lo2 x h1 λid b0 g _ _=>h2 _ (List.mem_map.2 ⟨id,List.mem_range.2 (P_a g),rfl⟩),F.lo,λk hk=>?_⟩
 obtain⟨i,hi,rfl⟩:=List.mem_map.1 hk
 rw[List.mem_range] at hi
 by_cases q:∃id b0,(J_3 A).hp.get id=some b0∧isRw b0=true∧h0'.lo≤id∧s id=s i
 ·obtain⟨id,b0,g1,g2,g3,g4⟩:=q
  exact .inl (by rw[←g4];exact F.lo1 id b0 g1 g2 g3)
 ·exact .inr (F.old _ (hlt i hi) λid b0 g1 g2 g3 g4=>q ⟨id,b0,g1,g2,g3,g4⟩)
end Go.Gev
namespace Go.Gev
section
variable {α:Type} [DecidableEq α]
structure KeyH (K:α→Value) (b:Bool):Prop where
 ish:∀a,keyish b (K a)=true
 eq:∀a a',O_1 (K a) (K a')=some (decide (a=a'))
def mkE(K:α→Value)(l:List (α × Value × Nat)):List MapEntry:=l.map λx=>⟨K x.1,x.2.1,x.2.2⟩
def look:List (α × Value × Nat)→α→Option Value
 |[],_=>none
 |x::l,a=>if a=x.1 then some x.2.1 else look l a
theorem t_b(l:List (α × Value × Nat))(x:α × Value × Nat)(a:α)(h:look l x.1=none):look (l ++ [x]) a=if a=x.1 then some x.2.1 else look l a:=by
 induction l with
 |nil=>rfl
 | cons y l ih =>
  have e:look (y::l) x.1=if x.1=y.1 then some y.2.1 else look l x.1:=rfl
  rw[e] at h
  split at h
  ·cases h
  ·rename_i ne
   show (if a=y.1 then some y.2.1 else look (l ++ [x]) a)=if a=x.1 then some x.2.1 else if a=y.1 then some y.2.1 else look l a
   rw[ih h]
   by_cases q:a=y.1
   ·rw[if_pos q,if_pos q,if_neg (λz=>ne (z.symm.trans q))]
   ·rw[if_neg q,if_neg q]
theorem P_0{K:α→Value}{b:Bool}(hK:KeyH K b)(a:α):∀(l:List (α × Value × Nat))(i:Nat),∃r,findM (K a) (mkE K l) i=some r∧r.map (λp=>p.2)=look l a ∧
 ∀p,r=some p→i≤p.1∧∀v,∃l',setVal v (p.1-i) (mkE K l)=mkE K l'∧∀a',look l' a'=if a'=a then some v else look l a':=by
 intro l
 induction l with
 |nil=>intro i;exact⟨none,rfl,rfl,λp hp=>by cases hp⟩
 | cons x l ih =>
  intro i
  by_cases e:a=x.1
  ·refine⟨some (i,x.2.1),?_,?_,λp hp=>?_⟩
   ·show (match O_1 (K a) (K x.1) with|none=>none|some b=>match b with|true=>some (some (i,x.2.1))|false=>findM (K a) (mkE K l) (Nat.succ i))=_
    rw[hK.eq,decide_eq_true e]
   ·show some x.2.1=if a=x.1 then some x.2.1 else look l a
    rw[if_pos e]
   ·injection hp with hp
    subst hp
    refine⟨lR _,λv=>⟨(x.1,v,x.2.2)::l,?_,λa'=>?_⟩⟩
    ·rw[Nat.sub_self];rfl
    ·show (if a'=x.1 then some v else look l a')=if a'=a then some v else if a'=x.1 then some x.2.1 else look l a'
     rw[←e]
     by_cases q:a'=a
     ·rw[if_pos q,if_pos q]
     ·rw[if_neg q,if_neg q,if_neg q]
  ·obtain⟨r,h1,h2,h3⟩:=ih (i+1)
   refine⟨r,?_,?_,λp hp=>?_⟩
   ·show (match O_1 (K a) (K x.1) with|none=>none|some b=>match b with|true=>some (some (i,x.2.1))|false=>findM (K a) (mkE K l) (Nat.succ i))=_
    rw[hK.eq,decide_eq_false e]
    exact h1
   ·show _=if a=x.1 then some x.2.1 else look l a
    rw[if_neg e];exact h2
   ·obtain⟨g1,g2⟩:=h3 p hp
    refine⟨by omega,λv=>?_⟩
    obtain⟨l',k1,k2⟩:=g2 v
    refine⟨x::l',?_,λa'=>?_⟩
    ·obtain⟨d,hd⟩:∃d,p.1-i=d+1:=⟨p.1-i-1,by omega⟩
     rw[hd]
     show _::setVal v d (mkE K l)=_::mkE K l'
     rw[←k1,show p.1-(i+1)=d by omega]
    ·show (if a'=x.1 then some x.2.1 else look l' a')=if a'=a then some v else if a'=x.1 then some x.2.1 else look l a'
     rw[k2]
     by_cases q:a'=x.1
     ·rw[if_pos q,if_pos q,if_neg (λz=>e (z.symm.trans q))]
     ·rw[if_neg q,if_neg q]
structure MapK (K:α→Value) (f:α→Option Value) (n:Nat) (es:List MapEntry) (cl:Nat):Prop where
 ex:∃l,es=mkE K l∧∀a,look l a=f a
 cl:cl≤n
theorem MapK.nil(K:α→Value):MapK K (λ_=>none) 0 [] 0:=⟨⟨[],rfl,λ_=>rfl⟩,lR _⟩
variable {Q:Value→Hs→Prop} {h0:Hs} {S:List Nat} {h:Hs} {m:List Th}
theorem j_u{k1:IntKind}{z:Int}{F:KV}(H:Sto h0 S h m)(kk:∀h',Sto h0 S h' (.blk h.nx (.mp [] 0)::m)→h'.nx=h.nx+1→WP (F (.map (some h.nx)) h') Q):WP (after F (mkmap1 h (.int k1 z))) Q:=by
 show WP (F (.map (some h.nx)) ⟨h.hp.set h.nx (some (.mp [] 0)),Nat.succ h.nx,h.lo⟩) Q
 refine kk _ (H.new (h':=⟨h.hp.set h.nx (some (.mp [] 0)),Nat.succ h.nx,h.lo⟩) (t:=.blk h.nx (.mp [] 0)) ⟨Nat.le_succ _,λid hid=>?_⟩ (λx h1 _=>h1) (lR _) ?_ λb hb=>?_) rfl
 ·show (h.hp.set h.nx _).get id=_
  rw[tgS,if_neg (by omega)]
 ·show (h.hp.set h.nx _).get h.nx=_
  rw[tgS,if_pos rfl]
 ·injection hb with hb
  subst hb
  exact⟨lR _,Nat.lt_succ_self _⟩
end
theorem w_w:KeyH (λn:Nat=>Value.int .i64 (.ofNat n)) true:=⟨λ_=>rfl,λa a'=>by
 show (match Nat.beq (kn .i64) (kn .i64) with|true=>some (eqI (.ofNat a) (.ofNat a'))|false=>none)=_
 rw[Nat.beq_refl]
 show some (Nat.beq a a')=_
 congr 1
 cases h:Nat.beq a a' with
 |true=>exact(decide_eq_true (ebT h)).symm
 |false=>exact(decide_eq_false (Nat.ne_of_beq_eq_false h)).symm⟩
theorem Ad7:∀a b:List UInt8,eqL a b=decide (a=b):=by
 intro a
 induction a with
 |nil=>intro b;cases b<;>rfl
 | cons x a ih =>
  intro b
  cases b with
  |nil=>rfl
  | cons y b =>
   show (match Nat.beq x.toNat y.toNat with|true=>eqL a b|false=>false)=_
   cases h:Nat.beq x.toNat y.toNat with
   |true=>
    have:x=y:=UInt8.toNat_inj.1 (ebT h)
    subst this
    rw[ih]
    by_cases q:a=b
    ·rw[decide_eq_true q,decide_eq_true (by rw[q])]
    ·rw[decide_eq_false q,decide_eq_false λz=>q (List.cons.inj z).2]
   |false=>exact(decide_eq_false λz=>Nat.ne_of_beq_eq_false h (by rw[(List.cons.inj z).1])).symm
theorem Aj0:KeyH (λD:List UInt8=>Value.string ⟨D.toArray⟩) false:=⟨λ_=>rfl,λa a'=>by
 show some (eqL a.toArray.toList a'.toArray.toList)=_
 rw[ttA,ttA,Ad7]⟩
end Go.Gev
namespace Go.Gev
variable {Q:Value→Hs→Prop} {h0:Hs} {S:List Nat} {h:Hs} {m:List Th}
theorem MutS.refl(S:List Nat)(h:Hs):MutS S h h:=⟨lR _,λ_ _ _=>rfl,λ_ h1 _=>h1,lR _,λ_ _=>.inr rfl⟩
theorem Sto.addT{t:Th}(H:Sto h0 S h m)(he:t.ex=false)(ht:t.body h0)(hi:∀b,t.id=some b→b<h0.nx∧b∉S):Sto h0 S h (t::m):=by
 refine H.cons t (Th.congr ht λb hb=>H.fr b (hi b hb).1 (hi b hb).2) (λb hb=>⟨llN (hi b hb).1 H.nx,λe=>by rw[he] at e;cases e⟩) λs hs hx b hb hb2=>?_
 rcases hx with hx|hx
 ·rw[he] at hx;cases hx
 ·rcases (H.ids s hs b hb2).2 hx with g|g
  ·have:=(hi b hb).1;omega
  ·exact(hi b hb).2 g
theorem Sto.addR{v:Value}{u:Nat}{L:List (List Value)}(H:Sto h0 S h m)(r:Rd h0 v u L)(hS:∀b,Th.id (.rsl v u L)=some b→b∉S):Sto h0 S h (.rsl v u L::m):=H.addT rfl r.1 λb hb=>⟨r.2 b hb,hS b hb⟩
theorem MutS.rd{v:Value}{u:Nat}{L:List (List Value)}{h':Hs}(M:MutS S h h')(r:Rd h v u L)(hS:∀b,Th.id (.rsl v u L)=some b→b∉S):Rd h' v u L:=
 ⟨RdSl.congr r.1 λb hb=>M.2.1 b (r.2 b hb) (hS b hb),λb hb=>llN (r.2 b hb) M.1⟩
theorem s_e(k:IntKind)(a b:Nat):eqI2 k (.ofNat a) (.int k (.ofNat b))=some (decide (a=b)):=by
 by_cases e:a=b
 ·subst e;cases k<;>simp[eqI2,kn,eqI]
 ·have q:Nat.beq a b=false:=by
   cases q:Nat.beq a b with
   |false=>rfl
   |true=>exact absurd (ebT q) e
  cases k<;>simp[eqI2,kn,eqI,e,q]
theorem BB8{x y:Value}{a b:List UInt8}{K:Value→An}(hx:x=.string ⟨a.toArray⟩)(hy:y=.string ⟨b.toArray⟩)(ht:a=b→WP (K (.bool true)) Q)(hf:¬a=b→WP (K (.bool false)) Q):WP (obK K (s2 .eql x y)) Q:=by
 subst hx hy
 by_cases e:a=b
 ·exact Be4 e (ht e)
 ·refine w_ob (v:=.bool false) ?_ (hf e)
  show some (Value.bool (eqL a.toArray.toList b.toArray.toList))=_
  rw[U_j];simp[e]
theorem AM9{t u len:Nat}{lm:List Bool}{hist:List (Option (Nat × Nat))}{z:List Value}{parts:List (Nat × Nat × GX)}{en:En}{cs:List Value}{F:KV}(H:Sto h0 S h m)(e:V_x en parts (rep z len)=some cs)(kk:∀h',Sto h0 S h' (.blk h.nx (.row t u true (F_e cs) cs)::m)→h'.nx=h.nx+1→WP (F (.slice (some ⟨h.nx,0,none⟩) len len) h') Q) :
 WP (after (λv w=>dPut F v (F_u h w .light) (andB (dFit h w .light) (Nat.ble 0 w.lo))) (M_d t u len z parts en (R_q .light lm hist h))) Q:=by
 have:M_d t u len z parts en (R_q .light lm hist h)=some (.slice (some ⟨h.nx,0,none⟩) len len,Gev.newRow (R_q .light lm hist h) t u cs):=by
  unfold M_d
  rw[e];rfl
 rw[this]
 have hn:F_u h (Gev.newRow (R_q .light lm hist h) t u cs) .light=F_u h (Gev.newRow ⟨.e,h.nx,h.nx⟩ t u cs) .make:=by
  show (⟨S_n _ (Nat.sub (Nat.succ h.nx) h.nx) h.nx h.hp,Nat.succ h.nx,h.lo⟩:Hs)=⟨S_n _ (Nat.sub (Nat.succ h.nx) h.nx) h.nx h.hp,Nat.succ h.nx,h.lo⟩
  rw[show Nat.sub (Nat.succ h.nx) h.nx=1 from by show h.nx+1-h.nx=1;omega]
  congr 1
  show h.hp.set h.nx (Tr.get _ h.nx)=h.hp.set h.nx (Tr.get _ h.nx)
  congr 1
  show (Tr.set (W_k lm hist h.hp) h.nx _).get h.nx=(Tr.set .e h.nx _).get h.nx
  rw[tgS,if_pos rfl,tgS,if_pos rfl]
 show WP (dPut F _ (F_u h (Gev.newRow (R_q .light lm hist h) t u cs) .light) (andB (dFit h (Gev.newRow ⟨.e,h.nx,h.nx⟩ t u cs) .make) (Nat.ble 0 h.nx))) Q
 rw[hn,(H.rowM (t:=t) (u:=u) (cs:=cs)).1,L_g]
 exact kk _ H.rowM.2 rfl
theorem a_d{v:Value}{F:KV}{hp:Tr Blk}(w:WP (F v h) Q):WP (dPut F v (F_u h ⟨hp,h.nx,h.nx⟩ .light) (andB (dFit h ⟨hp,h.nx,h.nx⟩ .light) (Nat.ble 0 h.nx))) Q:=by
 have h1:dFit h ⟨hp,h.nx,h.nx⟩ .light=true:=by
  show andB (Nat.ble h.nx h.nx) (Nat.ble h.nx h.nx)=true
  rw[M_3];rfl
 rw[h1,L_g]
 have:F_u h ⟨hp,h.nx,h.nx⟩ .light=h:=by
  show (⟨S_n hp (Nat.sub h.nx h.nx) h.nx h.hp,h.nx,h.lo⟩:Hs)=h
  rw[show Nat.sub h.nx h.nx=0 from Nat.sub_self _];rfl
 rw[this];exact w
theorem Sto.wide(S:List Nat)(H:Sto h0 [] h m):Sto h0 S h m:=
 ⟨H.nx,λid hi _=>H.fr id hi (λq=>by cases q),λk hk _=>H.lo k hk (λs q=>by cases q),H.ok,λt ht b hb=>⟨(H.ids t ht b hb).1,λe=>.inl (((H.ids t ht b hb).2 e).elim id (λq=>by cases q))⟩,H.chg,H.dj⟩
theorem Sto.own{b:Nat}{o:Obj}(H:Sto h0 S h m)(hb:b<h0.nx)(hS:b∈S)(ho:Holds (h.hp.get b) o)(hm:∀s∈m,s.id≠some b):Sto h0 S h (.blk b o::m):=
 H.cons (.blk b o) ho (λb' e=>by injection e with e;subst e;exact⟨llN hb H.nx,λ_=>.inr hS⟩) λs hs _ b' e=>by injection e with e;subst e;exact hm s hs
theorem MutS.wide{T:List Nat}{h':Hs}(M:MutS S h h')(hS:∀s∈S,s∈T)(hT:∀s∈T,s<h.nx):MutS T h h':=by
 refine⟨M.1,λid hi hn=>M.2.1 id hi λq=>hn (hS id q),λx h1 h2=>M.2.2.1 x h1 λs hs=>h2 s (hS s hs),M.2.2.2.1,λs hs=>?_⟩
 by_cases q:s∈S
 ·exact M.2.2.2.2 s q
 ·exact .inr (M.2.1 s (hT s hs) q)
end Go.Gev
namespace Go.Gev
section
variable {h0 h:Hs} {S:List Nat} {m:List Th} {Q:Value→Hs→Prop}
theorem t_1:∀n:Nat,rep [Value.int .u8 (.ofNat 0)] n=B_9 (List.replicate n 0):=by
 intro n
 induction n with
 |zero=>rfl
 |succ n ih=>rw[rep,ih];rfl
theorem Rd.hid{v:Value}{u lo:Nat}{L:List (List Value)}{hp':Tr Blk}(r:Rd h v u L)(he:∀b,Th.id (.rsl v u L)=some b→hp'.get b=h.hp.get b):Rd ⟨hp',h.nx,lo⟩ v u L:=
 ⟨Th.congr (t:=.rsl v u L) r.1 he,r.2⟩
end
end Go.Gev
namespace Go.Gev
section
variable {α:Type} [DecidableEq α]
def J_d(l:List (α × Value × Nat)):List α:=l.map λx=>x.1
theorem N_0{l:List (α × Value × Nat)}{a:α}:look l a=none↔a∉J_d l:=by
 induction l with
 |nil=>exact⟨λ_ h=>(by cases h),λ_=>rfl⟩
 | cons x l ih =>
  show (if a=x.1 then some x.2.1 else look l a)=none↔a∉x.1::J_d l
  by_cases e:a=x.1
  ·rw[if_pos e];exact⟨λh=>(by cases h),λh=>absurd (mcQ.2 (.inl e)) h⟩
  ·rw[if_neg e,ih]
   exact⟨λh q=>(by rcases mcQ.1 q with q|q;exact e q;exact h q),λh q=>h (mcM _ q)⟩
omit [DecidableEq α] in
theorem V_p(K:α→Value)(l:List (α × Value × Nat)):(mkE K l).map (·.born)=l.map λx=>x.2.2:=by unfold mkE;rw[List.map_map];rfl
def Bn(cl:Nat)(bs:List Nat):Prop:=(∀b∈bs,b=1000000000000)∨((∀b∈bs,b<cl)∧bs.Nodup)
structure MapC (K:α→Value) (f:α→Option Value) (c n:Nat) (es:List MapEntry) (ck:Nat):Prop where
 ex:∃l,es=mkE K l∧(∀a,look l a=f a)∧(J_d l).Nodup∧l.length=c
 bo:Bn ck (es.map (·.born))
 cl:ck≤n
 cc:c≤ck
theorem MapC.k{K:α→Value}{f:α→Option Value}{c n cl:Nat}{es:List MapEntry}(M:MapC K f c n es cl):MapK K f n es cl:=⟨M.ex.elim λl h=>⟨l,h.1,h.2.1⟩,M.cl⟩
theorem MapC.mono{K:α→Value}{f:α→Option Value}{c n n' cl:Nat}{es:List MapEntry}(M:MapC K f c n es cl)(h:n≤n'):MapC K f c n' es cl:=⟨M.ex,M.bo,lTr M.cl h,M.cc⟩
theorem MapC.nil(K:α→Value)(n:Nat):MapC K (λ_=>none) 0 n [] 0:=⟨⟨[],rfl,λ_=>rfl,List.nodup_nil,rfl⟩,.inl (λb h=>by cases h),Nat.zero_le _,lR _⟩
theorem MapC.cg{K:α→Value}{f g:α→Option Value}{c n cl:Nat}{es:List MapEntry}(M:MapC K f c n es cl)(h:∀a,f a=g a):MapC K g c n es cl:=by
 obtain⟨⟨l,h1,h2,h3,h4⟩,b,d,e⟩:=M
 exact⟨⟨l,h1,λa=>(h2 a).trans (h a),h3,h4⟩,b,d,e⟩
theorem MapC.zero{K:α→Value}{f:α→Option Value}{c n cl:Nat}{es:List MapEntry}(M:MapC K f c n es cl):c=0↔∀a,f a=none:=by
 obtain⟨⟨l,h1,h2,h3,h4⟩,b,d,_⟩:=M
 subst h4
 constructor
 ·intro h a
  rw[←h2]
  have:l = []:=List.length_eq_zero_iff.1 h
  subst this;rfl
 ·intro h
  cases l with
  |nil=>rfl
  |cons x l=>
   have:look (x::l) x.1=none:=by rw[h2];exact h _
   rw[N_0] at this
   exact absurd mcS this
variable {h:Hs}
theorem Ax6{K:α→Value}{b:Bool}(hK:KeyH K b){f:α→Option Value}{c n id cl:Nat}{es:List MapEntry}{a:α}{v:Value}(hb:h.hp.get id=some (.mp es cl))(M:MapC K f c n es cl)(hn:n<1000000000000)(hf:f a=none) :
 ∃es' cl',mapup1 b h (K a) v (.map (some id))=some (undef',⟨h.hp.set id (some (.mp es' cl')),h.nx,minN h.lo id⟩)∧MapC K (λx=>if x=a then some v else f x) (c+1) (n+1) es' cl':=by
 obtain⟨⟨l,rfl,hl,nd,hc⟩,bo,mc,cc⟩:=M
 obtain⟨r,h1,h2,_⟩:=P_0 hK a l 0
 have hn0:look l a=none:=(hl a).trans hf
 rw[hn0] at h2
 cases r with
 |some p=>cases h2
 | none =>
  have e0:mapup1 b h (K a) v (.map (some id))=mapnew h id (K a) v (mkE K l) cl (R_v (mkE K l)):=by
   show (match keyish b (K a) with|true=>mapup2 h id (K a) v (h.hp.get id)|false=>none)=_
   rw[hK.ish,hb]
   show mapup3 h id (K a) v (mkE K l) cl (findM (K a) (mkE K l) 0)=_
   rw[h1];rfl
  rw[e0]
  have app:∀c,mkE K l ++ [⟨K a,v,c⟩]=mkE K (l ++ [(a,v,c)]):=λc=>by unfold mkE;rw[List.map_append];rfl
  have nd':∀c,(J_d (l ++ [(a,v,c)])).Nodup:=λc=>by
   unfold J_d
   rw[List.map_append]
   refine List.nodup_append.2 ⟨nd,by simp,λx hx y hy e=>?_⟩
   have:y=a:=by simpa using hy
   subst this e
   exact N_0.1 hn0 hx
  have fin:∀b0,Bn (cl+1) ((mkE K (l ++ [(a,v,b0)])).map (·.born))→MapC K (λx=>if x=a then some v else f x) (c+1) (n+1) (mkE K l ++ [⟨K a,v,b0⟩]) (Nat.succ cl):=λb0 hb0=>by
   rw[app]
   exact⟨⟨_,rfl,λx=>by rw[t_b l (a,v,b0) x hn0,hl],nd' b0,by rw[List.length_append,hc];rfl⟩,hb0,Nat.succ_le_succ mc,Nat.succ_le_succ cc⟩
  have bm:∀b0,(mkE K (l ++ [(a,v,b0)])).map (·.born)=(mkE K l).map (·.born) ++ [b0]:=λb0=>by rw[V_p,V_p,List.map_append];rfl
  cases hbig:R_v (mkE K l) with
  | true =>
   refine⟨_,_,rfl,fin _ (.inl λb hb=>?_)⟩
   rw[bm] at hb
   rcases bo with q|q
   ·rcases List.mem_append.1 hb with g|g
    ·exact q b g
    ·simpa using g
   ·exfalso
    cases l with
    |nil=>cases hbig
    |cons x l=>
     have:1000000000000≤x.2.2:=lbT hbig
     have:=q.1 x.2.2 (by rw[V_p];exact mcS)
     omega
  | false =>
   refine⟨_,_,?_,fin cl ?_⟩
   ·show (match Nat.blt cl 1000000000000 with|true=>W_y h id (mkE K l ++ [(⟨K a,v,cl⟩:MapEntry)]) (Nat.succ cl)|false=>none)=_
    rw[show Nat.blt cl 1000000000000=true from by rw[blt_eq];exact decide_eq_true (by omega)]
    rfl
   have q:(∀b∈(mkE K l).map (·.born),b<cl)∧((mkE K l).map (·.born)).Nodup:=by
    rcases bo with q|q
    ·cases l with
     |nil=>exact⟨λb h=>(by cases h),List.nodup_nil⟩
     |cons x l=>
      exfalso
      have e:x.2.2=1000000000000:=q x.2.2 (by rw[V_p];exact mcS)
      have:Nat.ble 1000000000000 x.2.2=false:=hbig
      rw[e,M_3] at this
      cases this
    ·exact q
   rw[bm]
   refine .inr ⟨λb hb=>?_,List.nodup_append.2 ⟨q.2,by simp,λx hx y hy e=>?_⟩⟩
   ·rcases List.mem_append.1 hb with g|g
    ·have:=q.1 b g;omega
    ·have:b=cl:=by simpa using g
     omega
   ·have:y=cl:=by simpa using hy
    have:=q.1 x hx
    omega
omit [DecidableEq α] in
theorem Ab5(K:α→Value):∀(i:Nat)(l:List (α × Value × Nat)),dropAt i (mkE K l)=mkE K (l.eraseIdx i):=by
 intro i
 induction i with
 |zero=>intro l;cases l<;>rfl
 |succ i ih=>intro l;cases l with
  |nil=>rfl
  |cons x l=>show _::dropAt i (mkE K l)=_::mkE K (l.eraseIdx i);rw[ih]
theorem AD4{K:α→Value}{b:Bool}(hK:KeyH K b)(a:α):∀(l:List (α × Value × Nat))(i:Nat)(p:Nat × Value),findM (K a) (mkE K l) i=some (some p)→i≤p.1∧∃x,l[p.1-i]?=some x∧x.1=a:=by
 intro l
 induction l with
 |nil=>intro i p h;cases h
 | cons x l ih =>
  intro i p h
  have h:(match O_1 (K a) (K x.1) with|none=>none|some b=>match b with|true=>some (some (i,x.2.1))|false=>findM (K a) (mkE K l) (Nat.succ i))=some (some p):=h
  rw[hK.eq] at h
  by_cases e:a=x.1
  ·rw[decide_eq_true e] at h
   injection h with h;injection h with h;subst h
   exact⟨lR _,x,by rw[Nat.sub_self];rfl,e.symm⟩
  ·rw[decide_eq_false e] at h
   obtain⟨h1,y,h2,h3⟩:=ih _ _ h
   refine⟨by omega,y,?_,h3⟩
   rw[show p.1-i=(p.1-(i+1))+1 by omega]
   exact h2
theorem w_8{l:List (α × Value × Nat)}(nd:(J_d l).Nodup){i:Nat}{x:α × Value × Nat}(hx:l[i]?=some x)(a:α):look (l.eraseIdx i) a=if a=x.1 then none else look l a:=by
 induction l generalizing i with
 |nil=>cases hx
 | cons y l ih =>
  have nd:(y.1::J_d l).Nodup:=nd
  obtain⟨n1,n2⟩:=List.nodup_cons.1 nd
  cases i with
  |zero=>
   injection hx with hx;subst hx
   show look l a=if a=y.1 then none else if a=y.1 then some y.2.1 else look l a
   by_cases e:a=y.1
   ·rw[if_pos e,e];exact N_0.2 n1
   ·rw[if_neg e,if_neg e]
  | succ i =>
   have hx:l[i]?=some x:=hx
   show (if a=y.1 then some y.2.1 else look (l.eraseIdx i) a)=if a=x.1 then none else if a=y.1 then some y.2.1 else look l a
   rw[ih n2 hx]
   by_cases e:a=y.1
   ·rw[if_pos e,if_pos e,if_neg]
    intro q
    apply n1
    rw[←e,q]
    exact List.mem_map.2 ⟨x,mgE hx,rfl⟩
   ·rw[if_neg e,if_neg e]
theorem lkC{K:α→Value}{b:Bool}(hK:KeyH K b){f:α→Option Value}{c n id cl:Nat}{es:List MapEntry}{a:α}{z:Value}{ok:Bool}(hb:h.hp.get id=some (.mp es cl))(M:MapC K f c n es cl):lk1 b h z ok (K a) (.map (some id))=some (match f a with|some v=>(match ok with|true=>.tuple #[v,.bool true]|false=>v)|none=>(match ok with|true=>.tuple #[z,.bool false]|false=>z)):=by
 obtain⟨⟨l,rfl,hl,nd,hc⟩,bo,mc,cc⟩:=M
 obtain⟨r,h1,h2,_⟩:=P_0 hK a l 0
 show (match keyish b (K a) with|true=>lk2 z ok (K a) (h.hp.get id)|false=>none)=_
 rw[hK.ish,hb]
 show lkO z ok (findM (K a) (mkE K l) 0)=_
 rw[h1,←hl a,←h2]
 cases r with
 |none=>cases ok<;>rfl
 |some p=>cases ok<;>rfl
theorem AQ3{K:α→Value}{b:Bool}(hK:KeyH K b){f:α→Option Value}{c n id cl:Nat}{es:List MapEntry}{a:α}(hb:h.hp.get id=some (.mp es cl))(M:MapC K f c n es cl)(hf:f a≠none) :
 ∃es' cl',mapdel1 b h (K a) (.map (some id))=some (undef',⟨h.hp.set id (some (.mp es' cl')),h.nx,minN h.lo id⟩)∧MapC K (λx=>if x=a then none else f x) (c-1) n es' cl':=by
 obtain⟨⟨l,rfl,hl,nd,hc⟩,bo,mc,cc⟩:=M
 obtain⟨r,h1,h2,_⟩:=P_0 hK a l 0
 cases r with
 |none=>exact absurd (h2.trans (hl a)).symm hf
 | some p =>
  obtain⟨_,x,hx,rfl⟩:=AD4 hK a l 0 p h1
  rw[Nat.sub_zero] at hx
  have e0:mapdel1 b h (K x.1) (.map (some id))=W_y h id (mkE K (l.eraseIdx p.1)) cl:=by
   show (match keyish b (K x.1) with|true=>mapdel2 h id (K x.1) (h.hp.get id)|false=>none)=_
   rw[hK.ish,hb]
   show mapdel3 h id (mkE K l) cl (findM (K x.1) (mkE K l) 0)=_
   rw[h1,←Ab5];rfl
  have sb:(l.eraseIdx p.1).Sublist l:=List.eraseIdx_sublist _ _
  refine⟨_,_,e0,⟨⟨_,rfl,λz=>by rw[w_8 nd hx,hl],?_,?_⟩,?_,mc,lTr (Nat.sub_le _ _) cc⟩⟩
  ·exact(sb.map λx:α × Value × Nat=>x.1).nodup nd
  ·rw[List.length_eraseIdx]
   have:p.1<l.length:=(geI.1 hx).1
   rw[if_pos this,hc]
  ·rw[V_p] at bo ⊢
   have sb2:=sb.map λx:α × Value × Nat=>x.2.2
   rcases bo with q|q
   ·exact .inl λb hb=>q b (sb2.subset hb)
   ·exact .inr ⟨λb hb=>q.1 b (sb2.subset hb),sb2.nodup q.2⟩
theorem MapC.ne{K:α→Value}{b:Bool}(hK:KeyH K b){f f':α→Option Value}{c c' n n' cl cl':Nat}{es es':List MapEntry}(M:MapC K f c n es cl)(M':MapC K f' c' n' es' cl'){a:α}(h:f a≠f' a):es≠es':=by
 intro e
 subst e
 have x1:=lkC hK (h:=⟨Tr.set .e 0 (some (.mp es cl)),0,0⟩) (id:=0) (a:=a) (z:=.bool true) (ok:=true) (by rw[tgS,if_pos rfl]) M
 have ce:c'=c:=by
  obtain⟨l,h1,_,_,h4⟩:=M.ex
  obtain⟨l',h1',_,_,h4'⟩:=M'.ex
  have:=congrArg List.length (h1.symm.trans h1')
  unfold mkE at this
  rw[lmQ,lmQ] at this
  omega
 have x2:=lkC hK (h:=⟨Tr.set .e 0 (some (.mp es cl)),0,0⟩) (id:=0) (a:=a) (z:=.bool true) (ok:=true) (by rw[tgS,if_pos rfl]) (⟨M'.ex,M.bo,M.cl,by rw[ce];exact M.cc⟩:MapC K f' c' n es cl)
 rw[x1] at x2
 cases e1:f a with
 |none=>
  cases e2:f' a with
  |none=>exact h (e1.trans e2.symm)
  |some v=>rw[e1,e2] at x2;simp at x2
 |some v=>
  cases e2:f' a with
  |none=>rw[e1,e2] at x2;simp at x2
  |some v'=>rw[e1,e2] at x2;simp at x2;exact h (by rw[e1,e2,x2])
theorem lenC{K:α→Value}{f:α→Option Value}{c n id cl:Nat}{es:List MapEntry}(hb:h.hp.get id=some (.mp es cl))(M:MapC K f c n es cl):maplen1 h (.map (some id))=some (.int .i64 (.ofNat c)):=by
 obtain⟨⟨l,rfl,hl,nd,hc⟩,bo,mc,cc⟩:=M
 show maplen2 (h.hp.get id)=_
 rw[hb]
 show some (Value.int .i64 (.ofNat (mkE K l).length))=_
 unfold mkE
 rw[lmQ,hc]
end
end Go.Gev
