import Derived.Test.YtnbnmojckhcdeaaGreatDoorBaseNames
import Derived.Test.YtnbnmojckhcdeaaGreatDoorProg
import Derived.Shelf.SlMaps.Clone
import Derived.Maps.OwnIn
import Derived.OwnWalkIn
import Derived.OrdersHeld
import Derived.KernelRfl
import Derived.WalkSpells
import Derived.Test.YtnbnmojckhcdeaaGreatDoorGevCl
import Derived.Maps.RangeRun
namespace Go.Proofs.YtnbnmojckhcdeaaGreatDoor.base
open Go Go.Gev Go.RowKit Go.Maps Go.Proofs
theorem hao(w:World)(o:Obj){r:Nat}(h:r<w.heap.size):(w.alloc o).heap[r]?=w.heap[r]?:=by first|exact heap_alloc_old w o _ h|exact heap_alloc_old w o h
theorem AD8{v:Value}(h:flat1 v=true):v.oneCell'=true:=by
 cases v<;>first|rfl|cases h
set_option maxRecDepth 100000 in
set_option maxHeartbeats 2000000 in
theorem AA5(W:World)(v:Value)(ds:Option (List Value))(h:DataAt W v ds):CallsIn Fence.wide 10 Tryz.prog 14 #[v] W λx W'=>
 ∃dv,x=.returned dv∧RowAt W' 5 dv ds∧(∀b∈dv.ownBlock.toList,W.heap.size≤b)∧Below W.heap.size W W':=by
 have hi5:Tryz.prog.info? 5=some Tryz.t5:=by kernel_rfl
 have heq:=λ(w:World) a n c=>Go.Lib.run_eql_slice_nil w 27 5 a n c 0 0 Tryz.underlying27
 cases ds with
 |none=>
  have h:v=.slice none 0 0:=h
  subst h
  refine callsIn_of_wp Tryz.func14 rfl trivial ?_ rfl
  simp only[Tryz.ntmps14,List.size_toArray,lcQ,List.length_nil,Nat.reduceAdd,Nat.reduceSub,Array.replicate_succ,Array.replicate_zero,List.push_toArray,List.append_toArray,naQ,caQ]
  gi_wp2
  go_ret
  exact⟨_,rfl,rfl,by simp[Value.ownBlock],Below.refl _ _⟩
 | some xs =>
  obtain⟨b,o,c,rfl,hb,hl,hfl,hcell⟩:=h
  have hown:(W.alloc (.cells #[] 5)).ownsRow W.heap.size 5 1 (.slice (some ⟨W.heap.size,0,none⟩) 0 0) 0 []:=
   ⟨rfl,.inr ⟨W.heap.size,0,#[],rfl,lR _,heap_alloc_new W _,lR _,Nat.zero_le _,rfl,rfl⟩⟩
  refine callsIn_of_wp Tryz.func14 rfl trivial ?_ rfl
  simp only[Tryz.ntmps14,List.size_toArray,lcQ,List.length_nil,Nat.reduceAdd,Nat.reduceSub,Array.replicate_succ,Array.replicate_zero,List.push_toArray,List.append_toArray,naQ,caQ]
  gi_wp2_with (refine wpListIn_append_own _ rfl _ _ 27 rfl W.heap.size 5 Tryz.t5 (.int .u8 0) 1 1 Tryz.underlying27 hi5 rfl rfl rfl rfl (by decide) _ _ _ rfl hown ⟨b,o,none⟩ xs.length c xs rfl (by simp) ?c1 ?c2 ?c3 ?c4 ?c5 ?_)
  case c1=>
   intro j u hu
   have:=hcell j u hu
   have e:(⟨b,o,none⟩:Addr).add j=⟨b,o+j,none⟩:=by
    rw[Addr.add_lit]
   rw[e]
   simp only[World.cell?] at this ⊢
   rw[hao W _ hb]
   exact this
  case c2=>exactλu hu=>AD8 (hfl u hu)
  case c3=>
   unfold maxLen
   omega
  case c4=>omega
  case c5=>simp
  intro v' W2 hrow hg hne
  gi_wp2
  go_ret
  rcases hrow.2 with⟨rfl,_⟩|⟨g,cap,cur,rfl,hbg,hh,q1,q2,q3,q4⟩
  ·exact absurd rfl hne
  refine⟨.slice (some ⟨g,0,none⟩) xs.length cap,rfl,⟨g,cap,cur,rfl,hh,q1,q2,by omega,by simpa using q4⟩,λb' hb'=>?_,((Below.refl _ W).alloc (lR _) _).grown hg (by simp) (λk e=>?_)⟩
  ·simp[Value.ownBlock] at hb'
   omega
  ·simp[Value.ownBlock] at e
   omega
set_option maxRecDepth 100000 in
set_option maxHeartbeats 2000000 in
theorem AG7(W:World)(v:Value)(ms:Option (Array MapEntry × Nat))(h:MapAt W v ms):CallsIn Fence.wide 10 Tryz.prog 15 #[v] W λx W'=>
 ∃mv,x=.returned mv∧MapAt W' mv ms∧(∀b,mv=.map (some b)→W.heap.size≤b)∧Below W.heap.size W W':=by
 refine callsIn_wide.2 ?_
 cases ms with
 |none=>
  have h:v=.map none:=h
  subst h
  have hq:=λw=>run_eql_map_nil_sl (P:=Tryz.prog) w 47 _ _ none Tryz.underlying47
  go_enter Tryz.func15,Tryz.ntmps15
  go_wp2
  go_ret
  exact⟨_,rfl,rfl,λb e=>(by cases e),Below.refl _ _⟩
 |some p=>
  obtain⟨b,rfl,hb⟩:=h
  have hq:=λw=>run_eql_map_nil_sl (P:=Tryz.prog) w 47 _ _ (some b) Tryz.underlying47
  go_enter Tryz.func15,Tryz.ntmps15
  go_wp2
  rw[run_callFunc_extern Tryz.func32 (by kernel_rfl) (by kernel_rfl) (by kernel_rfl) (e:=Extern.MapsClone.clone) (by kernel_rfl),run_maps_clone_sl W 47 hb]
  simp only[Result.andThen]
  rw[Oper.upon_value]
  go_wp2
  rw[run_typeAssert_map_sl _ 47 20 _ _ _ Tryz.underlying47]
  simp only[Result.andThen]
  rw[Oper.upon_value]
  go_wp2
  go_ret
  exact⟨_,rfl,⟨W.heap.size,rfl,heap_alloc_new W _⟩,λb e=>(by injection e with e;injection e with e;omega),(Below.refl _ W).alloc (lR _) _⟩
def q0:Oper:={ dst:=some 27,op:=Op.move (Operand.tmp 5),type:=46,pos := "tree.go:57",after:=#[],guard:=none }
def q1:Oper:={ dst:=some 28,op:=Op.nilCheck (Operand.tmp 27),type:=0,pos := "tree.go:57",after:=#[{ on:=0,ground:=Ground.data }],guard:=none }
def q2:Oper:={ dst:=some 29,op:=Op.fieldAddr 49 (Operand.tmp 28) 1,type:=0,pos := "tree.go:57",after:=#[{ on:=1,ground:=Ground.data }],guard:=none }
def q3:Oper:={ dst:=some 30,op:=Op.load 27 (Operand.tmp 29),type:=27,pos := "tree.go:57",after:=#[{ on:=2,ground:=Ground.data }],guard:=none }
def q4:Oper:={ dst:=some 31,op:=Op.call { callee:=Callee.value (Operand.func 14),args:=#[Operand.tmp 30],argTypes:=#[27] },type:=27,pos := "tree.go:57",after:=#[{ on:=3,ground:=Ground.data }],guard:=none }
def q5:Oper:={ dst:=some 32,op:=Op.move (Operand.tmp 5),type:=46,pos := "tree.go:57",after:=#[],guard:=none }
def q6:Oper:={ dst:=some 33,op:=Op.nilCheck (Operand.tmp 32),type:=0,pos := "tree.go:57",after:=#[{ on:=5,ground:=Ground.data }],guard:=none }
def q7:Oper:={ dst:=some 34,op:=Op.fieldAddr 49 (Operand.tmp 33) 2,type:=0,pos := "tree.go:57",after:=#[{ on:=6,ground:=Ground.data }],guard:=none }
def q8:Oper:={ dst:=some 35,op:=Op.load 47 (Operand.tmp 34),type:=47,pos := "tree.go:57",after:=#[{ on:=7,ground:=Ground.data }],guard:=none }
def q9:Oper:={ dst:=some 36,op:=Op.call { callee:=Callee.value (Operand.func 15),args:=#[Operand.tmp 35],argTypes:=#[47] },type:=47,pos := "tree.go:57",after:=#[{ on:=8,ground:=Ground.data },{ on:=4,ground:=Ground.chain }],guard:=none }
def q10:Oper:={ dst:=some 37,op:=Op.fieldAddr 49 (Operand.tmp 6) 1,type:=0,pos := "tree.go:57",after:=#[{ on:=0,ground:=Ground.phase },{ on:=1,ground:=Ground.phase },{ on:=2,ground:=Ground.phase },{ on:=3,ground:=Ground.phase },{ on:=4,ground:=Ground.phase },{ on:=5,ground:=Ground.textOnly Departure.lateStores },{ on:=6,ground:=Ground.textOnly Departure.lateStoresUnsure },{ on:=7,ground:=Ground.textOnly Departure.lateStoresUnsure },{ on:=8,ground:=Ground.phase },{ on:=9,ground:=Ground.phase }],guard:=none }
def q11:Oper:={ dst:=none,op:=Op.store 27 (Operand.tmp 37) (Operand.tmp 31),type:=0,pos := "tree.go:57",after:=#[{ on:=10,ground:=Ground.data },{ on:=4,ground:=Ground.data },{ on:=9,ground:=Ground.chain },{ on:=0,ground:=Ground.phase },{ on:=1,ground:=Ground.phase },{ on:=2,ground:=Ground.phase },{ on:=3,ground:=Ground.phase },{ on:=4,ground:=Ground.phase },{ on:=5,ground:=Ground.textOnly Departure.lateStores },{ on:=6,ground:=Ground.textOnly Departure.lateStoresUnsure },{ on:=7,ground:=Ground.textOnly Departure.lateStoresUnsure },{ on:=8,ground:=Ground.phase },{ on:=9,ground:=Ground.phase }],guard:=none }
def q12:Oper:={ dst:=some 38,op:=Op.fieldAddr 49 (Operand.tmp 6) 2,type:=0,pos := "tree.go:57",after:=#[{ on:=0,ground:=Ground.phase },{ on:=1,ground:=Ground.phase },{ on:=2,ground:=Ground.phase },{ on:=3,ground:=Ground.phase },{ on:=4,ground:=Ground.phase },{ on:=5,ground:=Ground.phase },{ on:=6,ground:=Ground.phase },{ on:=7,ground:=Ground.phase },{ on:=8,ground:=Ground.phase },{ on:=9,ground:=Ground.phase },{ on:=10,ground:=Ground.phase },{ on:=11,ground:=Ground.phase }],guard:=none }
def q13:Oper:={ dst:=none,op:=Op.store 47 (Operand.tmp 38) (Operand.tmp 36),type:=0,pos := "tree.go:57",after:=#[{ on:=12,ground:=Ground.data },{ on:=9,ground:=Ground.data },{ on:=11,ground:=Ground.chain },{ on:=0,ground:=Ground.phase },{ on:=1,ground:=Ground.phase },{ on:=2,ground:=Ground.phase },{ on:=3,ground:=Ground.phase },{ on:=4,ground:=Ground.phase },{ on:=5,ground:=Ground.phase },{ on:=6,ground:=Ground.phase },{ on:=7,ground:=Ground.phase },{ on:=8,ground:=Ground.phase },{ on:=9,ground:=Ground.phase },{ on:=10,ground:=Ground.phase },{ on:=11,ground:=Ground.phase }],guard:=none }
def ops6:Array Oper:=#[q0,q1,q2,q3,q4,q5,q6,q7,q8,q9,q10,q11,q12,q13]
theorem heap_setCell_same{w:World}{y i:Nat}{arr:Array Value}{T:TypeId}{fz:Nat × Nat}{v:Value}(h:w.heap[y]?=some (.cells arr T fz)):(w.setCell ⟨y,i,none⟩ v).heap[y]?=some (.cells (arr.setIfInBounds i v) T fz):=by
 simp[World.setCell,Array.getElem?_modify,h]
theorem g_l{P:Program}{ops:Array Oper}{Q:Exit→Act→World→Prop}{i:Nat}{o:Oper}{K:Act→World→Prop}{a:Act}{w:World}{f:FuncId}{args:Array Value}(hi:ops[i]?=some o)(hg:o.guard=none)
 (hx:(execOp a.eval o).run P w=.ok (.enter f args) w) (hc:Calls P f args w λx w'=>∃v,x=.returned v∧K (a.put o.dst v) w'):wpOp P ops Q i K a w:=by
 unfold wpOp
 simp only[hi,Region.wanted,hg,if_true]
 left
 unfold Oper.wp
 rw[hx]
 simp only[Oper.upon]
 refine hc.mono λx w' hh=>?_
 obtain⟨v,rfl,h⟩:=hh
 exact h
theorem g_m{P:Program}{ops:Array Oper}{Q:Exit→Act→World→Prop}{i:Nat}{o:Oper}{K:Act→World→Prop}{a:Act}{w w':World}{v:Value}(hi:ops[i]?=some o)(hg:o.guard=none)
 (hx:(execOp a.eval o).run P w=.ok (.value v) w') (h:K (a.put o.dst v) w'):wpOp P ops Q i K a w:=by
 unfold wpOp
 simp only[hi,Region.wanted,hg,if_true]
 left
 unfold Oper.wp
 rw[hx]
 exact h
theorem n_1{P:Program}{ops:Array Oper}{Q:Exit→Act→World→Prop}{i:Nat}{o:Oper}{K:Act→World→Prop}{a:Act}{w w':World}(hi:ops[i]?=some o)(hg:o.guard=none)
 (hx:(execOp a.eval o).run P w=.ok .skip w') (h:K (a.put o.dst undef) w'):wpOp P ops Q i K a w:=by
 unfold wpOp
 simp only[hi,Region.wanted,hg,if_true]
 left
 unfold Oper.wp
 rw[hx]
 exact h
theorem P_3{P:Program}{md:Region.Mode}{ops:Array Oper}{Q:Exit→Act→World→Prop}{S:World→Prop}{i:Nat}{fuel:Nat}{listed:Array Bool}{a:Act}{w:World}(hr:Region.ready md ops listed = [i])
 (h:wpOp P ops Q i (λa' w'=>S w'∧wpAnyH P md ops Q S fuel (listed.setIfInBounds i true) a' w') a w):wpAnyH P md ops Q S (fuel+1) listed a w:=
 wpAnyH_all hr (by simp) λj hj=>by rw[msQ.1 hj];exact h
def Kept(b o:Nat)(da:Option Addr)(dn dc:Nat)(mo:Option Nat)(w:World):Prop:=w.cell? ⟨b,o+1,none⟩=some (.slice da dn dc)∧w.cell? ⟨b,o+2,none⟩=some (.map mo)
set_option maxRecDepth 100000 in
set_option maxHeartbeats 4000000 in
theorem reg6(x0 x1 x2 x3 x4 x7 x8 x9 x10 x11 x12 x13 x14 x15 x16 x17 x18 x19 x20 x21 x22 x23 x24 x25 x26 x27 x28 x29 x30 x31 x32 x33 x34 x35 x36 x37 x38 x39 x40 x41 x42 x43 x44:Value)(b o y:Nat)(w:World)(da:Option Addr)(dn dc:Nat)(mo:Option Nat)(k u l:Int)(ds:Option (List Value))(ms:Option (Array MapEntry × Nat))
 (h1:Kept b o da dn dc mo w) (hb:b<y) (hyw:y<w.heap.size)
 (hy:w.heap[y]?=some (.cells #[.int .i64 k,.slice da dn dc,.map mo,.int .i64 u,.int .i64 l] 49 (0,0))) (hD:DataAt w (.slice da dn dc) ds) (hM:MapAt w (.map mo) ms) (Q0:Act→World→Prop)
 (hQ:∀(dv mv:Value)(w':World),RowAt w' 5 dv ds→MapAt w' mv ms→(∀g∈dv.ownBlock.toList,w.heap.size≤g∧g<w'.heap.size)→(∀g,mv=.map (some g)→w.heap.size≤g∧g<w'.heap.size∧g∉dv.ownBlock.toList) →
  w'.heap[y]?=some (.cells #[.int .i64 k,dv,mv,.int .i64 u,.int .i64 l] 49 (0,0))→(∀j,j<w.heap.size→j≠y→w'.heap[j]?=w.heap[j]?)→Below y w w'→w.heap.size≤w'.heap.size→Q0 ⟨#[x0,x1,x2,x3,x4,.pointer (some ⟨b,o,none⟩),.pointer (some ⟨y,0,none⟩),x7,x8,x9,x10,x11,x12,x13,x14,x15,x16,x17,x18,x19,x20,x21,x22,x23,x24,x25,x26,.pointer (some ⟨b,o,none⟩),.pointer (some ⟨b,o,none⟩),.pointer (some ⟨b,o+1,none⟩),.slice da dn dc,dv,.pointer (some ⟨b,o,none⟩),.pointer (some ⟨b,o,none⟩),.pointer (some ⟨b,o+2,none⟩),.map mo,mv,.pointer (some ⟨y,1,none⟩),.pointer (some ⟨y,2,none⟩),x39,x40,x41,x42,x43,x44],[]⟩ w') :
 wpAnyH Tryz.prog .any ops6 (λe a w=>e=.normal∧Q0 a w) (Kept b o da dn dc mo) 14 (Array.replicate 14 false) ⟨#[x0,x1,x2,x3,x4,.pointer (some ⟨b,o,none⟩),.pointer (some ⟨y,0,none⟩),x7,x8,x9,x10,x11,x12,x13,x14,x15,x16,x17,x18,x19,x20,x21,x22,x23,x24,x25,x26,x27,x28,x29,x30,x31,x32,x33,x34,x35,x36,x37,x38,x39,x40,x41,x42,x43,x44],[]⟩ w:=by
 have e31:=enters_of Tryz.func14 (by kernel_rfl) rfl
 have e46:=enters_of Tryz.func15 (by kernel_rfl) rfl
 have u69:=run_underlying Tryz.underlying49
 have u22:=run_underlying Tryz.underlying27
 have u67:=run_underlying Tryz.underlying47
 have s22:=Tryz.sizeOf27
 have s67:=Tryz.sizeOf47
 have g22:=Tryz.isAgg27
 have g67:=Tryz.isAgg47
 refine wpAnyH_take (i:=0) (oi:=q0) (v:=.pointer (some ⟨b,o,none⟩)) rfl (by kernel_rfl) (by kernel_rfl) (by kernel_rfl) (λ_ _ _ h=>by cases h.1) (.inl ⟨rfl,λw' hS=>?_⟩) h1 ?_
 ·simp[execOp,Act.eval,q0,go_sem,hS.1,hS.2,u69,s22,s67,g22,g67]
 change wpAnyH Tryz.prog .any ops6 (λe a w=>e=.normal∧Q0 a w) (Kept b o da dn dc mo) _ _ ⟨#[x0,x1,x2,x3,x4,.pointer (some ⟨b,o,none⟩),.pointer (some ⟨y,0,none⟩),x7,x8,x9,x10,x11,x12,x13,x14,x15,x16,x17,x18,x19,x20,x21,x22,x23,x24,x25,x26,.pointer (some ⟨b,o,none⟩),x28,x29,x30,x31,x32,x33,x34,x35,x36,x37,x38,x39,x40,x41,x42,x43,x44],[]⟩ w
 refine wpAnyH_take (i:=1) (oi:=q1) (v:=.pointer (some ⟨b,o,none⟩)) rfl (by kernel_rfl) (by kernel_rfl) (by kernel_rfl) (λ_ _ _ h=>by cases h.1) (.inl ⟨rfl,λw' hS=>?_⟩) h1 ?_
 ·simp[execOp,Act.eval,q1,go_sem,hS.1,hS.2,u69,s22,s67,g22,g67]
 change wpAnyH Tryz.prog .any ops6 (λe a w=>e=.normal∧Q0 a w) (Kept b o da dn dc mo) _ _ ⟨#[x0,x1,x2,x3,x4,.pointer (some ⟨b,o,none⟩),.pointer (some ⟨y,0,none⟩),x7,x8,x9,x10,x11,x12,x13,x14,x15,x16,x17,x18,x19,x20,x21,x22,x23,x24,x25,x26,.pointer (some ⟨b,o,none⟩),.pointer (some ⟨b,o,none⟩),x29,x30,x31,x32,x33,x34,x35,x36,x37,x38,x39,x40,x41,x42,x43,x44],[]⟩ w
 refine wpAnyH_take (i:=2) (oi:=q2) (v:=.pointer (some ⟨b,o+1,none⟩)) rfl (by kernel_rfl) (by kernel_rfl) (by kernel_rfl) (λ_ _ _ h=>by cases h.1) (.inl ⟨rfl,λw' hS=>?_⟩) h1 ?_
 ·simp[execOp,Act.eval,q2,go_sem,hS.1,hS.2,u69,s22,s67,g22,g67]
 change wpAnyH Tryz.prog .any ops6 (λe a w=>e=.normal∧Q0 a w) (Kept b o da dn dc mo) _ _ ⟨#[x0,x1,x2,x3,x4,.pointer (some ⟨b,o,none⟩),.pointer (some ⟨y,0,none⟩),x7,x8,x9,x10,x11,x12,x13,x14,x15,x16,x17,x18,x19,x20,x21,x22,x23,x24,x25,x26,.pointer (some ⟨b,o,none⟩),.pointer (some ⟨b,o,none⟩),.pointer (some ⟨b,o+1,none⟩),x30,x31,x32,x33,x34,x35,x36,x37,x38,x39,x40,x41,x42,x43,x44],[]⟩ w
 refine wpAnyH_take (i:=3) (oi:=q3) (v:=.slice da dn dc) rfl (by kernel_rfl) (by kernel_rfl) (by kernel_rfl) (λ_ _ _ h=>by cases h.1) (.inl ⟨rfl,λw' hS=>?_⟩) h1 ?_
 ·simp[execOp,Act.eval,q3,go_sem,hS.1,hS.2,u69,s22,s67,g22,g67]
 change wpAnyH Tryz.prog .any ops6 (λe a w=>e=.normal∧Q0 a w) (Kept b o da dn dc mo) _ _ ⟨#[x0,x1,x2,x3,x4,.pointer (some ⟨b,o,none⟩),.pointer (some ⟨y,0,none⟩),x7,x8,x9,x10,x11,x12,x13,x14,x15,x16,x17,x18,x19,x20,x21,x22,x23,x24,x25,x26,.pointer (some ⟨b,o,none⟩),.pointer (some ⟨b,o,none⟩),.pointer (some ⟨b,o+1,none⟩),.slice da dn dc,x31,x32,x33,x34,x35,x36,x37,x38,x39,x40,x41,x42,x43,x44],[]⟩ w
 refine wpAnyH_take (i:=5) (oi:=q5) (v:=.pointer (some ⟨b,o,none⟩)) rfl (by kernel_rfl) (by kernel_rfl) (by kernel_rfl) (λ_ _ _ h=>by cases h.1) (.inl ⟨rfl,λw' hS=>?_⟩) h1 ?_
 ·simp[execOp,Act.eval,q5,go_sem,hS.1,hS.2,u69,s22,s67,g22,g67]
 change wpAnyH Tryz.prog .any ops6 (λe a w=>e=.normal∧Q0 a w) (Kept b o da dn dc mo) _ _ ⟨#[x0,x1,x2,x3,x4,.pointer (some ⟨b,o,none⟩),.pointer (some ⟨y,0,none⟩),x7,x8,x9,x10,x11,x12,x13,x14,x15,x16,x17,x18,x19,x20,x21,x22,x23,x24,x25,x26,.pointer (some ⟨b,o,none⟩),.pointer (some ⟨b,o,none⟩),.pointer (some ⟨b,o+1,none⟩),.slice da dn dc,x31,.pointer (some ⟨b,o,none⟩),x33,x34,x35,x36,x37,x38,x39,x40,x41,x42,x43,x44],[]⟩ w
 refine wpAnyH_take (i:=6) (oi:=q6) (v:=.pointer (some ⟨b,o,none⟩)) rfl (by kernel_rfl) (by kernel_rfl) (by kernel_rfl) (λ_ _ _ h=>by cases h.1) (.inl ⟨rfl,λw' hS=>?_⟩) h1 ?_
 ·simp[execOp,Act.eval,q6,go_sem,hS.1,hS.2,u69,s22,s67,g22,g67]
 change wpAnyH Tryz.prog .any ops6 (λe a w=>e=.normal∧Q0 a w) (Kept b o da dn dc mo) _ _ ⟨#[x0,x1,x2,x3,x4,.pointer (some ⟨b,o,none⟩),.pointer (some ⟨y,0,none⟩),x7,x8,x9,x10,x11,x12,x13,x14,x15,x16,x17,x18,x19,x20,x21,x22,x23,x24,x25,x26,.pointer (some ⟨b,o,none⟩),.pointer (some ⟨b,o,none⟩),.pointer (some ⟨b,o+1,none⟩),.slice da dn dc,x31,.pointer (some ⟨b,o,none⟩),.pointer (some ⟨b,o,none⟩),x34,x35,x36,x37,x38,x39,x40,x41,x42,x43,x44],[]⟩ w
 refine wpAnyH_take (i:=7) (oi:=q7) (v:=.pointer (some ⟨b,o+2,none⟩)) rfl (by kernel_rfl) (by kernel_rfl) (by kernel_rfl) (λ_ _ _ h=>by cases h.1) (.inl ⟨rfl,λw' hS=>?_⟩) h1 ?_
 ·simp[execOp,Act.eval,q7,go_sem,hS.1,hS.2,u69,s22,s67,g22,g67]
 change wpAnyH Tryz.prog .any ops6 (λe a w=>e=.normal∧Q0 a w) (Kept b o da dn dc mo) _ _ ⟨#[x0,x1,x2,x3,x4,.pointer (some ⟨b,o,none⟩),.pointer (some ⟨y,0,none⟩),x7,x8,x9,x10,x11,x12,x13,x14,x15,x16,x17,x18,x19,x20,x21,x22,x23,x24,x25,x26,.pointer (some ⟨b,o,none⟩),.pointer (some ⟨b,o,none⟩),.pointer (some ⟨b,o+1,none⟩),.slice da dn dc,x31,.pointer (some ⟨b,o,none⟩),.pointer (some ⟨b,o,none⟩),.pointer (some ⟨b,o+2,none⟩),x35,x36,x37,x38,x39,x40,x41,x42,x43,x44],[]⟩ w
 refine wpAnyH_take (i:=8) (oi:=q8) (v:=.map mo) rfl (by kernel_rfl) (by kernel_rfl) (by kernel_rfl) (λ_ _ _ h=>by cases h.1) (.inl ⟨rfl,λw' hS=>?_⟩) h1 ?_
 ·simp[execOp,Act.eval,q8,go_sem,hS.1,hS.2,u69,s22,s67,g22,g67]
 change wpAnyH Tryz.prog .any ops6 (λe a w=>e=.normal∧Q0 a w) (Kept b o da dn dc mo) _ _ ⟨#[x0,x1,x2,x3,x4,.pointer (some ⟨b,o,none⟩),.pointer (some ⟨y,0,none⟩),x7,x8,x9,x10,x11,x12,x13,x14,x15,x16,x17,x18,x19,x20,x21,x22,x23,x24,x25,x26,.pointer (some ⟨b,o,none⟩),.pointer (some ⟨b,o,none⟩),.pointer (some ⟨b,o+1,none⟩),.slice da dn dc,x31,.pointer (some ⟨b,o,none⟩),.pointer (some ⟨b,o,none⟩),.pointer (some ⟨b,o+2,none⟩),.map mo,x36,x37,x38,x39,x40,x41,x42,x43,x44],[]⟩ w
 refine P_3 (i:=4) (by kernel_rfl) (g_l (o:=q4) (f:=14) (args:=#[.slice da dn dc]) rfl rfl (by simp[execOp,Act.eval,q4,go_sem,e31]) ((callsIn_wide.1 (AA5 w _ ds hD)).mono λx w1 hh=>?_))
 obtain⟨dv,rfl,hrow,hfr,hb1⟩:=hh
 have hk1:Kept b o da dn dc mo w1:=⟨(hb1.cell (p:=⟨b,o+1,none⟩) (show b<_ by omega)).trans h1.1,(hb1.cell (p:=⟨b,o+2,none⟩) (show b<_ by omega)).trans h1.2⟩
 refine⟨dv,rfl,hk1,?_⟩
 have hM1:MapAt w1 (.map mo) ms:=by
  cases ms with
  |none=>exact hM
  |some p=>
   obtain⟨g,e1,e2⟩:=hM
   exact⟨g,e1,(hb1.block g (gaI.1 e2).1).trans e2⟩
 change wpAnyH Tryz.prog .any ops6 (λe a w=>e=.normal∧Q0 a w) (Kept b o da dn dc mo) _ _ ⟨#[x0,x1,x2,x3,x4,.pointer (some ⟨b,o,none⟩),.pointer (some ⟨y,0,none⟩),x7,x8,x9,x10,x11,x12,x13,x14,x15,x16,x17,x18,x19,x20,x21,x22,x23,x24,x25,x26,.pointer (some ⟨b,o,none⟩),.pointer (some ⟨b,o,none⟩),.pointer (some ⟨b,o+1,none⟩),.slice da dn dc,dv,.pointer (some ⟨b,o,none⟩),.pointer (some ⟨b,o,none⟩),.pointer (some ⟨b,o+2,none⟩),.map mo,x36,x37,x38,x39,x40,x41,x42,x43,x44],[]⟩ w1
 refine P_3 (i:=9) (by kernel_rfl) (g_l (o:=q9) (f:=15) (args:=#[.map mo]) rfl rfl (by simp[execOp,Act.eval,q9,go_sem,e46]) ((callsIn_wide.1 (AG7 w1 _ ms hM1)).mono λx w2 hh=>?_))
 obtain⟨mv,rfl,hmap,hmf,hb2⟩:=hh
 have hsz1:=hb1.size
 have hsz2:=hb2.size
 have hk2:Kept b o da dn dc mo w2:=⟨(hb2.cell (p:=⟨b,o+1,none⟩) (show b<_ by omega)).trans hk1.1,(hb2.cell (p:=⟨b,o+2,none⟩) (show b<_ by omega)).trans hk1.2⟩
 refine⟨mv,rfl,hk2,?_⟩
 have hy2:w2.heap[y]?=some (.cells #[.int .i64 k,.slice da dn dc,.map mo,.int .i64 u,.int .i64 l] 49 (0,0)):=(hb2.block y (by omega)).trans ((hb1.block y hyw).trans hy)
 have hown:∀g∈dv.ownBlock.toList,w.heap.size≤g∧g<w1.heap.size:=λg hg=>by
  refine⟨hfr g hg,?_⟩
  cases ds with
  |none=>
   have hrow:dv=.slice none 0 0:=hrow
   subst hrow
   simp[Value.ownBlock] at hg
  |some xs=>
   obtain⟨g',cap,cur,rfl,hh,_⟩:=hrow
   simp[Value.ownBlock] at hg
   subst hg
   exact(gaI.1 hh).1
 obtain⟨va,vn,vc,hdv⟩:∃a n c,dv=.slice a n c:=by
  cases ds with
  |none=>exact⟨_,_,_,hrow⟩
  |some xs=>obtain⟨g',cap,cur,e,_⟩:=hrow;exact⟨_,_,_,e⟩
 obtain⟨vm,hmv⟩:∃m,mv=.map m:=by
  cases ms with
  |none=>exact⟨_,hmap⟩
  |some p=>obtain⟨g,e,_⟩:=hmap;exact⟨_,e⟩
 have hy20:w2.cell? ⟨y,1,none⟩=some (.slice da dn dc):=by simp only[World.cell?,hy2];rfl
 have hfz:w2.frozen? ⟨y,1,none⟩=false:=by simp[World.frozen?,hy2]
 change wpAnyH Tryz.prog .any ops6 (λe a w=>e=.normal∧Q0 a w) (Kept b o da dn dc mo) _ _ ⟨#[x0,x1,x2,x3,x4,.pointer (some ⟨b,o,none⟩),.pointer (some ⟨y,0,none⟩),x7,x8,x9,x10,x11,x12,x13,x14,x15,x16,x17,x18,x19,x20,x21,x22,x23,x24,x25,x26,.pointer (some ⟨b,o,none⟩),.pointer (some ⟨b,o,none⟩),.pointer (some ⟨b,o+1,none⟩),.slice da dn dc,dv,.pointer (some ⟨b,o,none⟩),.pointer (some ⟨b,o,none⟩),.pointer (some ⟨b,o+2,none⟩),.map mo,mv,x37,x38,x39,x40,x41,x42,x43,x44],[]⟩ w2
 refine P_3 (i:=10) (by kernel_rfl) (g_m (o:=q10) (v:=.pointer (some ⟨y,1,none⟩)) (w':=w2) rfl rfl (by simp[execOp,Act.eval,q10,go_sem,u69]) ⟨hk2,?_⟩)
 change wpAnyH Tryz.prog .any ops6 (λe a w=>e=.normal∧Q0 a w) (Kept b o da dn dc mo) _ _ ⟨#[x0,x1,x2,x3,x4,.pointer (some ⟨b,o,none⟩),.pointer (some ⟨y,0,none⟩),x7,x8,x9,x10,x11,x12,x13,x14,x15,x16,x17,x18,x19,x20,x21,x22,x23,x24,x25,x26,.pointer (some ⟨b,o,none⟩),.pointer (some ⟨b,o,none⟩),.pointer (some ⟨b,o+1,none⟩),.slice da dn dc,dv,.pointer (some ⟨b,o,none⟩),.pointer (some ⟨b,o,none⟩),.pointer (some ⟨b,o+2,none⟩),.map mo,mv,.pointer (some ⟨y,1,none⟩),x38,x39,x40,x41,x42,x43,x44],[]⟩ w2
 have hk3:Kept b o da dn dc mo (w2.setCell ⟨y,1,none⟩ dv):=⟨(World.cell?_of_block (Below.heap_setCell _ _ _ b (show b≠y by omega))).trans hk2.1,(World.cell?_of_block (Below.heap_setCell _ _ _ b (show b≠y by omega))).trans hk2.2⟩
 refine P_3 (i:=11) (by kernel_rfl) (n_1 (o:=q11) (w':=w2.setCell ⟨y,1,none⟩ dv) rfl rfl (by subst hdv;simp[execOp,Act.eval,q11,go_sem,s22,g22,hy20,hfz]) ⟨hk3,?_⟩)
 obtain⟨w3,hw3⟩:∃w3,w3=w2.setCell ⟨y,1,none⟩ dv:=⟨_,rfl⟩
 have hy3:w3.heap[y]?=some (.cells #[.int .i64 k,dv,.map mo,.int .i64 u,.int .i64 l] 49 (0,0)):=by
  rw[hw3]
  exact heap_setCell_same hy2
 have hf3:∀j,j≠y→w3.heap[j]?=w2.heap[j]?:=λj hj=>by rw[hw3];exact Below.heap_setCell _ _ _ j hj
 have hB3:Below y w2 w3:=by rw[hw3];exact(Below.refl y w2).setCell (p:=⟨y,1,none⟩) (lR _) dv
 rw[←hw3] at hk3 ⊢
 change wpAnyH Tryz.prog .any ops6 (λe a w=>e=.normal∧Q0 a w) (Kept b o da dn dc mo) _ _ ⟨#[x0,x1,x2,x3,x4,.pointer (some ⟨b,o,none⟩),.pointer (some ⟨y,0,none⟩),x7,x8,x9,x10,x11,x12,x13,x14,x15,x16,x17,x18,x19,x20,x21,x22,x23,x24,x25,x26,.pointer (some ⟨b,o,none⟩),.pointer (some ⟨b,o,none⟩),.pointer (some ⟨b,o+1,none⟩),.slice da dn dc,dv,.pointer (some ⟨b,o,none⟩),.pointer (some ⟨b,o,none⟩),.pointer (some ⟨b,o+2,none⟩),.map mo,mv,.pointer (some ⟨y,1,none⟩),x38,x39,x40,x41,x42,x43,x44],[]⟩ w3
 have hy31:w3.cell? ⟨y,2,none⟩=some (.map mo):=by simp only[World.cell?,hy3];rfl
 have hfz3:w3.frozen? ⟨y,2,none⟩=false:=by simp[World.frozen?,hy3]
 refine P_3 (i:=12) (by kernel_rfl) (g_m (o:=q12) (v:=.pointer (some ⟨y,2,none⟩)) (w':=w3) rfl rfl (by simp[execOp,Act.eval,q12,go_sem,u69]) ⟨hk3,?_⟩)
 change wpAnyH Tryz.prog .any ops6 (λe a w=>e=.normal∧Q0 a w) (Kept b o da dn dc mo) _ _ ⟨#[x0,x1,x2,x3,x4,.pointer (some ⟨b,o,none⟩),.pointer (some ⟨y,0,none⟩),x7,x8,x9,x10,x11,x12,x13,x14,x15,x16,x17,x18,x19,x20,x21,x22,x23,x24,x25,x26,.pointer (some ⟨b,o,none⟩),.pointer (some ⟨b,o,none⟩),.pointer (some ⟨b,o+1,none⟩),.slice da dn dc,dv,.pointer (some ⟨b,o,none⟩),.pointer (some ⟨b,o,none⟩),.pointer (some ⟨b,o+2,none⟩),.map mo,mv,.pointer (some ⟨y,1,none⟩),.pointer (some ⟨y,2,none⟩),x39,x40,x41,x42,x43,x44],[]⟩ w3
 have hk4:Kept b o da dn dc mo (w3.setCell ⟨y,2,none⟩ mv):=⟨(World.cell?_of_block (Below.heap_setCell _ _ _ b (show b≠y by omega))).trans hk3.1,(World.cell?_of_block (Below.heap_setCell _ _ _ b (show b≠y by omega))).trans hk3.2⟩
 refine P_3 (i:=13) (by kernel_rfl) (n_1 (o:=q13) (w':=w3.setCell ⟨y,2,none⟩ mv) rfl rfl (by subst hmv;simp[execOp,Act.eval,q13,go_sem,s67,g67,hy31,hfz3]) ⟨hk4,?_⟩)
 obtain⟨w4,hw4⟩:∃w4,w4=w3.setCell ⟨y,2,none⟩ mv:=⟨_,rfl⟩
 have hy4:w4.heap[y]?=some (.cells #[.int .i64 k,dv,mv,.int .i64 u,.int .i64 l] 49 (0,0)):=by
  rw[hw4]
  exact heap_setCell_same hy3
 have hf4:∀j,j≠y→w4.heap[j]?=w3.heap[j]?:=λj hj=>by rw[hw4];exact Below.heap_setCell _ _ _ j hj
 have hB4:Below y w3 w4:=by rw[hw4];exact(Below.refl y w3).setCell (p:=⟨y,2,none⟩) (lR _) mv
 rw[←hw4]
 have hfar:∀j,j≠y→w4.heap[j]?=w2.heap[j]?:=λj hj=>(hf4 j hj).trans (hf3 j hj)
 have hs4:w2.heap.size≤w4.heap.size:=lTr hB3.size hB4.size
 refine⟨by kernel_rfl,rfl,hQ dv mv w4 ?_ ?_ (λg hg=>⟨(hown g hg).1,by have:=(hown g hg).2;omega⟩) (λg hg=>?_) hy4 (λj hj hne=>(hfar j hne).trans ((hb2.block j (by omega)).trans (hb1.block j hj))) ?_ (by omega)⟩
 ·cases ds with
  |none=>exact hrow
  |some xs=>
   obtain⟨g',cap,cur,e,hh,q⟩:=hrow
   have hg:g'∈dv.ownBlock.toList:=by rw[e];simp[Value.ownBlock]
   have:=hown g' hg
   exact⟨g',cap,cur,e,(hfar g' (by omega)).trans ((hb2.block g' (by omega)).trans hh),q⟩
 ·cases ms with
  |none=>exact hmap
  |some p=>
   obtain⟨g',e,hh⟩:=hmap
   have:=hmf g' e
   exact⟨g',e,(hfar g' (by omega)).trans hh⟩
 ·have h0:=hmf g hg
  refine⟨by omega,?_,λhm=>?_⟩
  ·cases ms with
   |none=>
    have hmap:mv=.map none:=hmap
    rw[hmap] at hg;cases hg
   |some p=>
    obtain⟨g',e,hh⟩:=hmap
    rw[hg] at e
    injection e with e
    injection e with e
    subst e
    have:=(gaI.1 hh).1
    omega
  ·have:=(hown g hm).2
   omega
 ·exact((hb1.mono (by omega)).trans (hb2.mono (by omega))).trans (hB3.trans hB4)
def mvB(v:Value):List Nat:=match v with | .map (some b)=>[b]|_=>[]
theorem p_o{v:Value}{g:Nat}(h:g∈mvB v):v=.map (some g):=by
 cases v with
 |map m=>cases m with
  |none=>cases h
  |some g'=>rw[msQ.1 h]
 |_=>cases h
theorem Bl8(v:Value):(mvB v).Nodup:=by
 cases v with
 |map m=>cases m<;>simp[mvB]
 |_=>simp[mvB]
theorem Am1{α β:Type}{g:α→β}:∀{l:List α},(l.map g).Nodup→l.Nodup:=by
 intro l
 induction l with
 |nil=>intro _;exact List.nodup_nil
 |cons a t ih=>
  intro h
  rw[List.map_cons,List.nodup_cons] at h
  exact List.nodup_cons.2 ⟨λhm=>h.1 (List.mem_map_of_mem hm),ih h.2⟩
def meas(n mb:Nat)(w:World):Nat:=match w.heap[mb]? with|some (.map o _)=>n-o.size|_=>0
theorem Ak3{n mb:Nat}{w:World}{o:Array MapEntry}{cl:Nat}(h:w.heap[mb]?=some (.map o cl)):meas n mb w=n-o.size:=by unfold meas;rw[h]
theorem m_w:∀(cs:List Cp)(i:Nat),(I_2 cs i).length=cs.length:=by
 intro cs
 induction cs with
 |nil=>intro i;rfl
 |cons c cs ih=>intro i;simp[I_2,ih]
theorem i_y:∀(cs:List Cp)(c:Cp)(i:Nat),I_2 (cs ++ [c]) i=I_2 cs i ++ [⟨c.e.key,.pointer (some ⟨c.y,0,none⟩),i+cs.length⟩]:=by
 intro cs
 induction cs with
 |nil=>intro c i;rfl
 |cons d cs ih=>intro c i;simp[I_2,ih];omega
theorem Z_n:∀(cs:List Cp)(i:Nat),∀x∈I_2 cs i,∃c∈cs,x.key=c.e.key:=by
 intro cs
 induction cs with
 |nil=>intro i x hx;cases hx
 | cons d cs ih =>
  intro i x hx
  rcases mcQ.1 hx with rfl|hx
  ·exact⟨d,mcS,rfl⟩
  ·obtain⟨c,h1,h2⟩:=ih _ x hx
   exact⟨c,mcM _ h1,h2⟩
structure Inv (W:World) (most:Int) (bm:Nat) (es:Array MapEntry) (cl:Nat) (src:MapEntry→Src) (cs:List Cp) (w:World):Prop where
 below:Below W.heap.size W w
 tree:w.heap[W.heap.size+1]?=some (.cells #[.int .i64 most,.map (some W.heap.size)] 45 (0,0))
 map:w.heap[W.heap.size]?=some (.map (I_2 cs 0).toArray cs.length)
 it:w.heap[W.heap.size+2]?=some (.mapIter (some bm) cl (cs.map (·.e.born)).toArray cl)
 rest:∃l,(cs.map (·.e)++l).Perm es.toList
 at_:∀c∈cs,CpAt w 49 5 c (src c.e)
 nd:(cs.flatMap Cp.blks).Nodup
 lo:∀b∈cs.flatMap Cp.blks,W.heap.size+3≤b∧b<w.heap.size
 sz:W.heap.size+3≤w.heap.size
theorem inv0(W:World)(most:Int)(bm:Nat)(es:Array MapEntry)(cl:Nat)(src:MapEntry→Src) :
 Inv W most bm es cl src [] (((W.alloc (.map #[] 0)).alloc (.cells #[.int .i64 most,.map (some W.heap.size)] 45)).alloc (.mapIter (some bm) cl #[] cl)):=by
 have h1:(W.alloc (.map #[] 0)).heap.size=W.heap.size+1:=by simp
 have h2:((W.alloc (.map #[] 0)).alloc (.cells #[.int .i64 most,.map (some W.heap.size)] 45)).heap.size=W.heap.size+2:=by simp
 refine⟨⟨rfl,rfl,rfl,by simp;omega,λk hk=>?_⟩,?_,?_,?_,⟨es.toList,List.Perm.refl _⟩,?_,List.nodup_nil,?_,by simp⟩
 ·rw[hao _ _ (by simp;omega),hao _ _ (by simp;omega),hao _ _ hk]
 ·rw[hao _ _ (by simp),←h1];exact heap_alloc_new _ _
 ·rw[hao _ _ (by simp;omega),hao _ _ (by simp)];exact heap_alloc_new _ _
 ·rw[←h2];exact heap_alloc_new _ _
 ·intro c hc;cases hc
 ·intro b hb;cases hb
theorem Bj6{W:World}{most:Int}{bm:Nat}{es:Array MapEntry}{cl:Nat}{src:MapEntry→Src}{cs:List Cp}{w:World}(I:Inv W most bm es cl src cs w)
 (hnb:(es.toList.map (·.born)).Nodup) (hl:(leftOf es (cs.map (·.e.born)).toArray).size=0) :
 (cs.map (·.e)).Perm es.toList∧((W.heap.size+1)::W.heap.size::cs.flatMap Cp.blks).Nodup∧∀b∈(W.heap.size+1)::W.heap.size::cs.flatMap Cp.blks,W.heap.size≤b:=by
 obtain⟨l,hp⟩:=I.rest
 have hnd:es.toList.Nodup:=Am1 hnb
 have hl0:l = []:=by
  cases l with
  |nil=>rfl
  |cons x l=>
   exfalso
   have hx:x∈es.toList:=hp.subset (List.mem_append_right _ mcS)
   have hnd':=(hp.nodup_iff).2 hnd
   have hem:leftOf es (cs.map (·.e.born)).toArray=#[]:=Array.eq_empty_of_size_eq_zero hl
   have hxn:x∉(leftOf es (cs.map (·.e.born)).toArray).toList:=by rw[hem];simp
   unfold leftOf at hxn
   simp at hxn
   obtain⟨c,hc1,hc2⟩:=hxn (by simpa using hx)
   have hce:c.e∈es.toList:=hp.subset (List.mem_append_left _ (List.mem_map_of_mem hc1))
   have:c.e=x:=c_q hnb c.e hce x hx hc2
   exact(List.nodup_append.1 hnd').2.2 c.e (List.mem_map_of_mem hc1) x mcS this
 subst hl0
 rw[List.append_nil] at hp
 refine⟨hp,?_,λb hb=>?_⟩
 ·refine List.nodup_cons.2 ⟨λh=>?_,List.nodup_cons.2 ⟨λh=>?_,I.nd⟩⟩
  ·rcases mcQ.1 h with h|h
   ·omega
   ·have:=I.lo _ h;omega
  ·have:=I.lo _ h;omega
 ·rcases mcQ.1 hb with rfl|hb
  ·omega
  ·rcases mcQ.1 hb with rfl|hb
   ·omega
   ·have:=I.lo _ hb;omega
set_option maxRecDepth 100000 in
set_option maxHeartbeats 2000000 in
theorem AS9 : CloneC Tryz.prog 9 45 49 5 := by
 intro W bt ot most bm es cl src h0 h1 hb hlt hnb hki hnk hsz hsrc
 refine(callsIn_wide (n:=0)).1 ?_
 have hmake:∀w:World,(Instr.makeMap 43 none).run Tryz.prog w=.ok (.map (some w.heap.size)) (w.alloc (.map #[] 0)):=λw=>by simp[Instr.makeMap]
 have hbt:bt<W.heap.size:=by
  simp only[World.cell?] at h0
  split at h0
  ·rename_i hh
   exact(gaI.1 hh).1
  ·cases h0
 have hbm:bm<W.heap.size:=(gaI.1 hb).1
 obtain⟨W1,hW1⟩:∃W1:World,W1=(W.alloc (.map #[] 0)).alloc (.cells #[.int .i64 most,.map (some W.heap.size)] 45):=⟨_,rfl⟩
 have hb1:W1.heap[bm]?=some (.map es cl):=by rw[hW1,hao _ _ (by simp;omega),hao _ _ hbm];exact hb
 have hrange:=run_range_map W1 43 3 46 bm es cl Tryz.underlying43 hb1
 rw[hW1] at hrange
 refine callsIn_of_wp Tryz.func9 rfl trivial ?_ rfl
 simp only[Tryz.ntmps9,List.size_toArray,lcQ,List.length_nil,Nat.reduceAdd,Nat.reduceSub,Array.replicate_succ,Array.replicate_zero,List.push_toArray,List.append_toArray,naQ,caQ]
 gi_wp2
 refine wpIn_loop (λa w=>∃(cs:List Cp) (x4 x5 x6 x19 x20 x21 x22 x23 x24 x25 x26 x27 x28 x29 x30 x31 x32 x33 x34 x35 x36 x37 x38 x39 x40 x41 x42 x43 x44:Value),a=⟨#[.pointer (some ⟨bt,ot,none⟩),undef,.pointer none,.pointer (some ⟨W.heap.size+1,0,none⟩),x4,x5,x6,.pointer (some ⟨bt,ot,none⟩),.pointer (some ⟨bt,ot,none⟩),.pointer (some ⟨bt,ot,none⟩),.int .i64 most,.map (some W.heap.size),.agg #[.int .i64 most,.map (some W.heap.size)],.pointer (some ⟨W.heap.size+1,0,none⟩),.pointer (some ⟨bt,ot,none⟩),.pointer (some ⟨bt,ot,none⟩),.pointer (some ⟨bt,ot+1,none⟩),.map (some bm),.pointer (some ⟨W.heap.size+2,0,none⟩),x19,x20,x21,x22,x23,x24,x25,x26,x27,x28,x29,x30,x31,x32,x33,x34,x35,x36,x37,x38,x39,x40,x41,x42,x43,x44],[]⟩∧Inv W most bm es cl src cs w)
  (λ_ w=>meas es.size W.heap.size w) ?_ ?_
 ·exact⟨[],_,_,_,_,_,_,_,_,_,_,_,_,_,_,_,_,_,_,_,_,_,_,_,_,_,_,_,_,_,rfl,inv0 W most bm es cl src⟩
 ·rintro a w ⟨cs, x4, x5, x6, x19, x20, x21, x22, x23, x24, x25, x26, x27, x28, x29, x30, x31, x32, x33, x34, x35, x36, x37, x38, x39, x40, x41, x42, x43, x44, rfl, I⟩
  have hbw:w.heap[bm]?=some (.map es cl):=(I.below.block bm hbm).trans hb
  rcases run_next_at (P:=Tryz.prog) w 0 (W.heap.size+2) bm cl cl (cs.map (·.e.born)).toArray es cl I.it hbw hlt (lR _) with⟨hl,hn⟩|⟨e,he,w1,hw1,hn⟩
  ·gi_wp2
   obtain⟨e1,e2,e3⟩:=Bj6 I hnb hl
   go_ret
   exact⟨_,_,cs,rfl,e1,I.tree,I.map,I.at_,e2,e3,I.below⟩
  ·have hee : e ∈ es.toList := by
    unfold leftOf at he
    simp at he
    simpa using he.1
   obtain⟨w2,hw2⟩:∃w2:World,w2=ChangeMaps.setBlock w1 (W.heap.size+2) (.mapIter (some bm) cl ((cs.map (·.e.born)).toArray.push e.born) cl):=⟨_,rfl⟩
   rw[←hw2] at hn
   have hw1h:w1.heap=w.heap:=by rcases hw1 with rfl|rfl<;>rfl
   have hlt3:W.heap.size+2<w1.heap.size:=by rw[hw1h];have:=I.sz;omega
   have hit2:w2.heap[W.heap.size+2]?=some (.mapIter (some bm) cl ((cs.map (·.e.born)).toArray.push e.born) cl):=by
    rw[hw2];simp only[ChangeMaps.setBlock];rw[Array.getElem?_setIfInBounds,if_pos rfl,if_pos hlt3]
   have hfar:∀k,k≠W.heap.size+2→w2.heap[k]?=w.heap[k]?:=λk hk=>by
    rw[hw2,←hw1h];simp only[ChangeMaps.setBlock];rw[Array.getElem?_setIfInBounds,if_neg (λq=>hk q.symm)]
   have hsz2:w2.heap.size=w.heap.size:=by rw[hw2,←hw1h];simp[ChangeMaps.setBlock]
   have hold:∀k,k<W.heap.size→w2.heap[k]?=W.heap[k]?:=λk hk=>(hfar k (by omega)).trans (I.below.block k hk)
   have hent:=run_entry_at (P:=Tryz.prog) w2 (W.heap.size+2) bm cl _ es cl e hit2 ((hold bm hbm).trans hb) hee hnb
   obtain⟨n,hkey⟩:=hki e hee
   obtain⟨b,o,arr,T,fz,dv,mv,hval,hbl,c0,c1,c2,c3,c4,hD,hM⟩:=hsrc e hee
   obtain⟨da,dn,dc,rfl⟩:∃a n c,dv=.slice a n c:=by
    cases hds:(src e).ds with
    |none=>rw[hds] at hD;exact⟨_,_,_,hD⟩
    |some xs=>rw[hds] at hD;obtain⟨_,_,_,h,_⟩:=hD;exact⟨_,_,_,h⟩
   obtain⟨mo,rfl⟩:∃mo,mv=.map mo:=by
    cases hms:(src e).ms with
    |none=>rw[hms] at hM;exact⟨_,hM⟩
    |some p=>rw[hms] at hM;obtain⟨_,h,_⟩:=hM;exact⟨_,h⟩
   have hbs:b<W.heap.size:=(gaI.1 hbl).1
   have hbl2:=(hold b hbs).trans hbl
   have hk0:w2.cell? ⟨b,o,none⟩=some (.int .i64 (src e).k):=by simp only[World.cell?,hbl2];simpa using c0
   have hk1:w2.cell? ⟨b,o+1,none⟩=some (.slice da dn dc):=by simp only[World.cell?,hbl2];simpa using c1
   have hk2:w2.cell? ⟨b,o+2,none⟩=some (.map mo):=by simp only[World.cell?,hbl2];simpa using c2
   have hk3:w2.cell? ⟨b,o+3,none⟩=some (.int .i64 (src e).u):=by simp only[World.cell?,hbl2];simpa using c3
   have hk4:w2.cell? ⟨b,o+4,none⟩=some (.int .i64 (src e).l):=by simp only[World.cell?,hbl2];simpa using c4
   rw[hkey,hval] at hent hn
   have hbel2:Below W.heap.size W w2:=by
    rw[hw2]
    have h1:Below W.heap.size W w1:=by
     rcases hw1 with rfl|rfl
     ·exact I.below
     ·exact I.below.drew
    exact⟨h1.os,h1.tape,h1.output,by have:=I.sz;simp[ChangeMaps.setBlock];rw[hw1h];omega,λk hk=>by
     simp only[ChangeMaps.setBlock]
     rw[Array.getElem?_setIfInBounds,if_neg (by omega)]
     exact h1.block k hk⟩
   clear hw2
   gi_wp2
   obtain⟨w3,hw3⟩:∃w3:World,w3 = { (w2.alloc (Obj.cells #[Value.int IntKind.i64 (src e).k,Value.slice da dn dc,Value.map mo,Value.int IntKind.i64 (src e).u,Value.int IntKind.i64 (src e).l] 49)) with drawn:=(w2.alloc (Obj.cells #[Value.int IntKind.i64 (src e).k,Value.slice da dn dc,Value.map mo,Value.int IntKind.i64 (src e).u,Value.int IntKind.i64 (src e).l] 49)).drawn+1 }:=⟨_,rfl⟩
   have h3n:w3.heap[w.heap.size]?=some (.cells #[.int .i64 (src e).k,.slice da dn dc,.map mo,.int .i64 (src e).u,.int .i64 (src e).l] 49 (0,0)):=by
    rw[hw3,←hsz2];exact heap_alloc_new w2 _
   have h3o:∀k,k<w.heap.size→w3.heap[k]?=w2.heap[k]?:=λk hk=>by
    rw[hw3];exact hao w2 _ (by omega)
   have h3s:w3.heap.size=w.heap.size+1:=by rw[hw3,←hsz2];simp
   have hbw:b<w.heap.size:=by have:=I.sz;omega
   have hb23:Below W.heap.size w2 w3:=⟨by rw[hw3];rfl,by rw[hw3];rfl,by rw[hw3];rfl,by omega,λk hk=>h3o k (by have:=I.sz;omega)⟩
   have hD3:DataAt w3 (.slice da dn dc) (src e).ds:=by
    cases hds:(src e).ds with
    |none=>rw[hds] at hD;exact hD
    |some xs=>
     rw[hds] at hD
     obtain⟨b',o',c',q1,q2,q3,q4,q5⟩:=hD
     refine⟨b',o',c',q1,by have:=I.sz;omega,q3,q4,λj x hj=>?_⟩
     rw[←q5 j x hj]
     exact World.cell?_of_block ((h3o b' (by have:=I.sz;omega)).trans (hold b' q2))
   have hM3:MapAt w3 (.map mo) (src e).ms:=by
    cases hms:(src e).ms with
    |none=>rw[hms] at hM;exact hM
    |some p=>
     rw[hms] at hM
     obtain⟨b',q1,q2⟩:=hM
     have hlt':=(gaI.1 q2).1
     exact⟨b',q1,(h3o b' (by have:=I.sz;omega)).trans ((hold b' hlt').trans q2)⟩
   have hK3:Kept b o da dn dc mo w3:=⟨(World.cell?_of_block (h3o b hbw)).trans hk1,(World.cell?_of_block (h3o b hbw)).trans hk2⟩
   refine wpIn_mono (wpIn_region_any (by kernel_rfl) (Bg1 (ro:=none) (λ⟨a1,w1,hc⟩=>by cases hc.1) (.inl rfl) _ _ _ _ (wpAny_of_held _ _ _ _ (reg6 _ _ _ _ _ _ _ _ _ _ _ _ _ _ _ _ _ _ _ _ _ _ _ _ _ _ _ _ _ _ _ _ _ _ _ _ _ _ _ _ _ _ _ b o w.heap.size _ da dn dc mo (src e).k (src e).u (src e).l (src e).ds (src e).ms (by rw[←hw3];exact hK3) hbw (by rw[←hw3,h3s];omega) (by rw[←hw3];exact h3n) (by rw[←hw3];exact hD3) (by rw[←hw3];exact hM3) (λa' w'=>∃(dv mv:Value),RowAt w' 5 dv (src e).ds∧MapAt w' mv (src e).ms∧(∀g∈dv.ownBlock.toList,w3.heap.size≤g∧g<w'.heap.size)∧(∀g,mv=.map (some g)→w3.heap.size≤g∧g<w'.heap.size∧g∉dv.ownBlock.toList)∧w'.heap[w.heap.size]?=some (.cells #[.int .i64 (src e).k,dv,mv,.int .i64 (src e).u,.int .i64 (src e).l] 49 (0,0))∧(∀j,j<w3.heap.size→j≠w.heap.size→w'.heap[j]?=w3.heap[j]?)∧Below w.heap.size w3 w'∧w3.heap.size≤w'.heap.size∧a'=⟨#[.pointer (some ⟨bt,ot,none⟩),undef,.pointer none,.pointer (some ⟨W.heap.size+1,0,none⟩),.int .i64 n,.pointer (some ⟨b,o,none⟩),.pointer (some ⟨w.heap.size,0,none⟩),.pointer (some ⟨bt,ot,none⟩),.pointer (some ⟨bt,ot,none⟩),.pointer (some ⟨bt,ot,none⟩),.int .i64 most,.map (some W.heap.size),.agg #[.int .i64 most,.map (some W.heap.size)],.pointer (some ⟨W.heap.size+1,0,none⟩),.pointer (some ⟨bt,ot,none⟩),.pointer (some ⟨bt,ot,none⟩),.pointer (some ⟨bt,ot+1,none⟩),.map (some bm),.pointer (some ⟨W.heap.size+2,0,none⟩),.tuple #[.bool true,.int .i64 n,.pointer (some ⟨b,o,none⟩)],.bool true,.tuple #[.int .i64 n,.pointer (some ⟨b,o,none⟩)],.int .i64 n,.pointer (some ⟨b,o,none⟩),.pointer (some ⟨b,o,none⟩),.pointer (some ⟨b,o,none⟩),.agg #[.int .i64 (src e).k,.slice da dn dc,.map mo,.int .i64 (src e).u,.int .i64 (src e).l],.pointer (some ⟨b,o,none⟩),.pointer (some ⟨b,o,none⟩),.pointer (some ⟨b,o+1,none⟩),.slice da dn dc,dv,.pointer (some ⟨b,o,none⟩),.pointer (some ⟨b,o,none⟩),.pointer (some ⟨b,o+2,none⟩),.map mo,mv,.pointer (some ⟨w.heap.size,1,none⟩),.pointer (some ⟨w.heap.size,2,none⟩),x39,x40,x41,x42,x43,x44],[]⟩) ?_)))) ?_
   ·intro dv mv w4 q1 q2 q3 q4 q5 q6 q7 q8
    rw[←hw3] at q3 q4 q6 q7 q8
    exact⟨dv,mv,q1,q2,q3,q4,q5,q6,q7,q8,rfl⟩
   ·rintro _ a' w4 ⟨rfl,dv,mv,q1,q2,q3,q4,q5,q6,q7,q8,rfl⟩
    clear hw3
    have h4:∀k,k<w.heap.size→w4.heap[k]?=w2.heap[k]?:=λk hk=>(q6 k (by omega) (by omega)).trans (h3o k hk)
    have hszw:=I.sz
    have htree4:w4.heap[W.heap.size+1]?=some (.cells #[.int .i64 most,.map (some W.heap.size)] 45 (0,0)):=(h4 _ (by omega)).trans ((hfar _ (by omega)).trans I.tree)
    have hmap4:w4.heap[W.heap.size]?=some (.map (I_2 cs 0).toArray cs.length):=(h4 _ (by omega)).trans ((hfar _ (by omega)).trans I.map)
    have hit4:w4.heap[W.heap.size+2]?=some (.mapIter (some bm) cl ((cs.map (·.e.born)).toArray.push e.born) cl):=(h4 _ (by omega)).trans hit2
    have hc4:w4.cell? ⟨W.heap.size+1,1,none⟩=some (.map (some W.heap.size)):=by simp only[World.cell?,htree4];rfl
    have hnin:e∉cs.map (·.e):=λhm=>by
     obtain⟨c,hc1,hc2⟩:=List.mem_map.1 hm
     unfold leftOf at he
     simp at he
     exact he.2 c hc1 (by rw[hc2])
    have hmem:∀c∈cs,c.e∈es.toList:=λc hc=>by
     obtain⟨l,hp⟩:=I.rest
     exact hp.subset (List.mem_append_left _ (List.mem_map_of_mem hc))
    have hnew:∀c∈cs,c.e.key≠e.key:=λc hc hk=>hnin (by
     rw[←c_q hnk c.e (hmem c hc) e hee hk]
     exact List.mem_map_of_mem hc)
    have hfind:Instr.findNow (.int .i64) (.int .i64 n) (I_2 cs 0) 0=some none:=by
     rcases W_f (kd:=.int .i64) (k:=.int .i64 n) (es:=I_2 cs 0) (λx hx=>by
      obtain⟨c,hc1,hc2⟩:=Z_n cs 0 x hx
      obtain⟨m,hm⟩:=hki c.e (hmem c hc1)
      rw[hc2,hm]
      exact⟨n==m,by simp[Instr.sameNow],by simp;exact eq_comm⟩) 0 with⟨_,h⟩|⟨j,x,hx1,hx2,_⟩
     ·exact h
     ·obtain⟨c,hc1,hc2⟩:=Z_n cs 0 x (mgE hx1)
      exact absurd (by rw[←hc2,hx2,hkey]) (hnew c hc1)
    have hup:(Instr.mapUpdate 43 (.map (some W.heap.size)) (.int .i64 n) (.pointer (some ⟨w.heap.size,0,none⟩))).run Tryz.prog w4=.ok () { w4 with heap:=w4.heap.setIfInBounds W.heap.size (.map ((I_2 cs 0).toArray.push ⟨.int .i64 n,.pointer (some ⟨w.heap.size,0,none⟩),cs.length⟩) (cs.length+1)) }:=by
     have hgo:=V_g (P:=Tryz.prog) hmap4
     have hck:(Instr.checkKey false 10000 3 (.int .i64 n)).run Tryz.prog w4=.ok () w4:=L_t (P:=Tryz.prog) (b:=true) (t:=3) (by kernel_rfl) false 9999 _ w4
     have hfk:=L_w (P:=Tryz.prog) Tryz.underlying3 hfind w4
     have hst:=S_c (P:=Tryz.prog) hmap4 (.map ((I_2 cs 0).toArray.push ⟨.int .i64 n,.pointer (some ⟨w.heap.size,0,none⟩),cs.length⟩) (cs.length+1))
     simp only[List.push_toArray] at hst ⊢
     simp[Instr.mapUpdate,C_v Tryz.underlying43,hgo,hck,hfk,hst]
    obtain⟨w5,hw5⟩:∃w5:World,w5 = { w4 with heap:=w4.heap.setIfInBounds W.heap.size (.map ((I_2 cs 0).toArray.push ⟨.int .i64 n,.pointer (some ⟨w.heap.size,0,none⟩),cs.length⟩) (cs.length+1)) }:=⟨_,rfl⟩
    rw[←hw5] at hup
    have h5m:w5.heap[W.heap.size]?=some (.map (I_2 (cs ++ [⟨e,w.heap.size,dv,mv⟩]) 0).toArray (cs ++ [(⟨e,w.heap.size,dv,mv⟩:Cp)]).length):=by
     rw[hw5,i_y]
     simp only[List.push_toArray,List.length_append,List.length_singleton,zaQ,hkey]
     show (w4.heap.setIfInBounds _ _)[_]?=_
     rw[Array.getElem?_setIfInBounds,if_pos rfl,if_pos (by have:=(gaI.1 hmap4).1;exact this)]
    have h5f:∀k,k≠W.heap.size→w5.heap[k]?=w4.heap[k]?:=λk hk=>by
     rw[hw5]
     show (w4.heap.setIfInBounds _ _)[k]?=_
     rw[Array.getElem?_setIfInBounds,if_neg (λq=>hk q.symm)]
    have h5s:w5.heap.size=w4.heap.size:=by rw[hw5];simp
    have hb5:Below W.heap.size W w5:=by
     have h3:Below W.heap.size w2 w3:=hb23
     have h4':Below W.heap.size w3 w4:=q7.mono (by omega)
     have h5':Below W.heap.size w4 w5:=by rw[hw5];exact⟨rfl,rfl,rfl,by simp,λk hk=>by
      show (w4.heap.setIfInBounds _ _)[k]?=_
      rw[Array.getElem?_setIfInBounds,if_neg (by omega)]⟩
     exact((hbel2.trans h3).trans h4').trans h5'
    have hI : Inv W most bm es cl src (cs ++ [⟨e, w.heap.size, dv, mv⟩]) w5 := by
     have hblk:(⟨e,w.heap.size,dv,mv⟩:Cp).blks=w.heap.size::(dv.ownBlock.toList++mvB mv):=rfl
     have hblkm:∀g∈(⟨e,w.heap.size,dv,mv⟩:Cp).blks,g=w.heap.size∨g∈dv.ownBlock.toList∨mv=.map (some g):=λg hg=>by
      rw[hblk] at hg
      rcases mcQ.1 hg with h|hg
      ·exact .inl h
      ·rcases List.mem_append.1 hg with h|h
       ·exact .inr (.inl h)
       ·exact .inr (.inr (p_o h))
     have hblo:∀g∈(⟨e,w.heap.size,dv,mv⟩:Cp).blks,w.heap.size≤g∧g<w4.heap.size:=λg hg=>by
      rcases hblkm g hg with rfl|h|h
      ·exact⟨lR _,by omega⟩
      ·have:=q3 g h;omega
      ·have:=q4 g h;omega
     have hkeep:∀k,W.heap.size+3≤k→k<w.heap.size→w5.heap[k]?=w.heap[k]?:=λk h1 h2=>(h5f k (by omega)).trans ((h4 k h2).trans (hfar k (by omega)))
     refine⟨hb5,(h5f _ (by omega)).trans htree4,h5m,?_,?_,λc hc=>?_,?_,λg hg=>?_,by omega⟩
     ·rw[(h5f (W.heap.size+2) (by omega)).trans hit4]
      simp
     ·obtain⟨l,hp⟩:=I.rest
      have hel:e∈l:=by
       rcases List.mem_append.1 (hp.symm.subset hee) with h|h
       ·exact absurd h hnin
       ·exact h
      obtain⟨l1,l2,rfl⟩:=List.append_of_mem hel
      refine⟨l1++l2,List.Perm.trans ?_ hp⟩
      rw[List.map_append,List.map_singleton,List.append_assoc,List.singleton_append]
      exact List.Perm.append_left _ List.perm_middle.symm
     ·rcases List.mem_append.1 hc with hc|hc
      ·obtain⟨r1,r2,r3⟩:=I.at_ c hc
       have hin:∀g∈c.blks,W.heap.size+3≤g∧g<w.heap.size:=λg hg=>I.lo g (List.mem_flatMap.2 ⟨c,hc,hg⟩)
       refine⟨?_,?_,?_⟩
       ·have:=hin c.y mcS
        exact(hkeep _ this.1 this.2).trans r1
       ·cases hds:(src c.e).ds with
        |none=>rw[hds] at r2;exact r2
        |some xs=>
         rw[hds] at r2
         obtain⟨g,cap,cur,t1,t2,t3⟩:=r2
         have:=hin g (mcM _ (List.mem_append_left _ (by rw[t1];simp[Value.ownBlock])))
         exact⟨g,cap,cur,t1,(hkeep g this.1 this.2).trans t2,t3⟩
       ·cases hms:(src c.e).ms with
        |none=>rw[hms] at r3;exact r3
        |some p=>
         rw[hms] at r3
         obtain⟨g,t1,t2⟩:=r3
         have:=hin g (mcM _ (List.mem_append_right _ (by show _∈mvB c.mv;rw[t1];exact List.mem_singleton_self _)))
         exact⟨g,t1,(hkeep g this.1 this.2).trans t2⟩
      ·rw[msQ.1 hc]
       refine⟨(h5f w.heap.size (by omega)).trans q5,?_,?_⟩
       ·show RowAt w5 5 dv (src e).ds
        cases hds:(src e).ds with
        |none=>rw[hds] at q1;exact q1
        |some xs=>
         rw[hds] at q1
         obtain⟨g,cap,cur,t1,t2,t3⟩:=q1
         have:=q3 g (by rw[t1];simp[Value.ownBlock])
         exact⟨g,cap,cur,t1,(h5f g (by omega)).trans t2,t3⟩
       ·show MapAt w5 mv (src e).ms
        cases hms:(src e).ms with
        |none=>rw[hms] at q2;exact q2
        |some p=>
         rw[hms] at q2
         obtain⟨g,t1,t2⟩:=q2
         have:=q4 g t1
         exact⟨g,t1,(h5f g (by omega)).trans t2⟩
     ·rw[List.flatMap_append,List.nodup_append]
      refine⟨I.nd,?_,λg hg g' hg'=>?_⟩
      ·simp only[List.flatMap_cons,List.flatMap_nil,List.append_nil]
       rw[hblk,List.nodup_cons,List.nodup_append]
       refine⟨λhm=>?_,?_,?_,λg hg g' hg'=>?_⟩
       ·rcases List.mem_append.1 hm with h|h
        ·have:=q3 _ h;omega
        ·have:=q4 _ (p_o h);omega
       ·cases dv.ownBlock<;>simp
       ·exact Bl8 _
       ·intro e3
        subst e3
        exact(q4 _ (p_o hg')).2.2 hg
      ·have h1:=I.lo g hg
       simp only[List.flatMap_cons,List.flatMap_nil,List.append_nil] at hg'
       have h2:=hblo g' hg'
       omega
     ·rw[List.flatMap_append] at hg
      rcases List.mem_append.1 hg with hg|hg
      ·have:=I.lo g hg;omega
      ·simp only[List.flatMap_cons,List.flatMap_nil,List.append_nil] at hg
       have:=hblo g hg;omega
    have hme:meas es.size W.heap.size w5<meas es.size W.heap.size w:=by
     rw[Ak3 h5m,Ak3 I.map]
     simp only[List.size_toArray,m_w,List.length_append,List.length_singleton]
     obtain⟨l,hp⟩:=hI.rest
     have:=hp.length_eq
     simp only[List.length_append,lmQ,Array.length_toList,List.length_singleton] at this
     omega
    clear hw5
    gi_wp2
    exact⟨⟨_,_,_,_,_,_,_,_,_,_,_,_,_,_,_,_,_,_,_,_,_,_,_,_,_,_,_,_,_,_,rfl,hI⟩,hme⟩
theorem h_c:SumOk Tryz.prog 9 (a_o 45 49 5):=z_2 (by kernel_rfl) AS9
noncomputable def AL2:List (Nat × SmK):=(9,a_o 45 49 5)::Bp8
theorem u_c:SumsOk Tryz.prog AL2:=⟨h_c,AL3⟩
end Go.Proofs.YtnbnmojckhcdeaaGreatDoor.base
