/- The summary of the function that tells which nodes stay: whatever order its walk over a map takes. -/
import Derived.Test.YtedgkbmfdniibaaGreatDoorCureKnownTab
import Derived.Test.YtedgkbmfdniibaaGreatDoorBaseSum
import Derived.Test.YtedgkbmfdniibaaGreatDoorGevKp
import Derived.Test.YtedgkbmfdniibaaGreatDoorGevWI
import Derived.OwnWalkIn
import Derived.KernelRfl
import Derived.OrdersHeld
import Derived.Shelf.Abstract
import Derived.WalkSpells
import Derived.WalkKit
import Derived.Maps.OwnIn
namespace Go.Proofs.YtedgkbmfdniibaaGreatDoor.base
open Go Go.Gev Go.RowKit Go.Maps Go.Proofs Go.Shelf
namespace Kp
theorem hao (w : World) (o : Obj) {r : Nat} (h : r < w.heap.size) : (w.alloc o).heap[r]? = w.heap[r]? := by first | exact heap_alloc_old w o _ h | exact heap_alloc_old w o h
theorem wpOp_callsG {P : Program} {ops : Array Oper} {Q : Exit → Act → World → Prop} {i : Nat} {o : Oper} {K : Act → World → Prop} {a : Act} {w : World} {f : FuncId} {args : Array Value} (hi : ops[i]? = some o) (hg : Region.wanted o (yielded ops a.tmps) = true)
    (hx : (execOp a.eval o).run P w = .ok (.enter f args) w) (hc : Calls P f args w fun x w' => ∃ v, x = .returned v ∧ K (a.put o.dst v) w') : wpOp P ops Q i K a w := by
  unfold wpOp
  simp only [hi, hg, if_true]
  left
  unfold Oper.wp
  rw [hx]
  simp only [Oper.upon]
  refine hc.mono fun x w' hh => ?_
  obtain ⟨v, rfl, h⟩ := hh
  exact h
theorem wpOp_valueG {P : Program} {ops : Array Oper} {Q : Exit → Act → World → Prop} {i : Nat} {o : Oper} {K : Act → World → Prop} {a : Act} {w w' : World} {v : Value} (hi : ops[i]? = some o) (hg : Region.wanted o (yielded ops a.tmps) = true)
    (hx : (execOp a.eval o).run P w = .ok (.value v) w') (h : K (a.put o.dst v) w') : wpOp P ops Q i K a w := by
  unfold wpOp
  simp only [hi, hg, if_true]
  left
  unfold Oper.wp
  rw [hx]
  exact h
theorem wpOp_not {P : Program} {ops : Array Oper} {Q : Exit → Act → World → Prop} {i : Nat} {o : Oper} {K : Act → World → Prop} {a : Act} {w : World} (hi : ops[i]? = some o) (hg : Region.wanted o (yielded ops a.tmps) = false)
    (h : K (a.put o.dst undef) w) : wpOp P ops Q i K a w := by
  unfold wpOp
  simp only [hi, hg]
  exact h
theorem wpAnyH_one {P : Program} {md : Region.Mode} {ops : Array Oper} {Q : Exit → Act → World → Prop} {S : World → Prop} {i : Nat} {fuel : Nat} {listed : Array Bool} {a : Act} {w : World} (hr : Region.ready md ops listed = [i])
    (h : wpOp P ops Q i (fun a' w' => S w' ∧ wpAnyH P md ops Q S fuel (listed.setIfInBounds i true) a' w') a w) : wpAnyH P md ops Q S (fuel + 1) listed a w :=
  wpAnyH_all hr (by simp) fun j hj => by rw [List.mem_singleton.1 hj]; exact h
theorem wpOp_skipG {P : Program} {ops : Array Oper} {Q : Exit → Act → World → Prop} {i : Nat} {o : Oper} {K : Act → World → Prop} {a : Act} {w w' : World} (hi : ops[i]? = some o) (hg : Region.wanted o (yielded ops a.tmps) = true)
    (hx : (execOp a.eval o).run P w = .ok .skip w') (h : K (a.put o.dst undef) w') : wpOp P ops Q i K a w := by
  unfold wpOp
  simp only [hi, hg, if_true]
  left
  unfold Oper.wp
  rw [hx]
  exact h
theorem exec_append {P : Program} {a : Act} {o : Oper} {s x : Operand} {t : TypeId} {v y v' : Value} {w w' : World} (ho : o.op = .call { callee := .builtin .append, args := #[s, x], argTypes := #[t, t] }) (hs : a.eval s = v) (hx : a.eval x = y)
    (hr : (Builtin.append_ #[t, t] o.type #[v, y]).run P w = .ok v' w') : (execOp a.eval o).run P w = .ok (.value v') w' := by
  unfold execOp
  simp only [ho, resolve, invoke, builtin, Sem.run_bind, Sem.run_pure, Result.andThen_ok, List.map_toArray, List.map_cons, List.map_nil, hs, hx, hr]
def kq0 : Oper := { dst := some 36, op := Op.load 93 (Operand.tmp 5), type := 93, pos := "cure.go:100", after := #[], guard := none }
def kq1 : Oper := { dst := some 37, op := Op.move (Operand.tmp 9), type := 3, pos := "cure.go:100", after := #[], guard := none }
def kq2 : Oper := { dst := some 38, op := Op.load 93 (Operand.tmp 5), type := 93, pos := "cure.go:100", after := #[], guard := none }
def kq3 : Oper := { dst := some 39, op := Op.move (Operand.tmp 9), type := 3, pos := "cure.go:100", after := #[], guard := none }
def kq4 : Oper := { dst := some 40, op := Op.lookup 93 (Operand.tmp 38) (Operand.tmp 39) false, type := 50, pos := "cure.go:100", after := #[{ on := 2, ground := Ground.data }, { on := 3, ground := Ground.data }], guard := none }
def kq5 : Oper := { dst := some 41, op := Op.move (Operand.tmp 7), type := 3, pos := "cure.go:100", after := #[], guard := none }
def kq6 : Oper := { dst := some 42, op := Op.buildSlice 50 1 #[(0, Operand.tmp 41)], type := 50, pos := "cure.go:100", after := #[{ on := 5, ground := Ground.data }], guard := none }
def kq7 : Oper := { dst := some 43, op := Op.call { callee := Callee.builtin Builtin.append, args := #[Operand.tmp 40, Operand.tmp 42], argTypes := #[50, 50] }, type := 50, pos := "cure.go:100", after := #[{ on := 4, ground := Ground.data }, { on := 6, ground := Ground.data }], guard := none }
def kq8 : Oper := { dst := none, op := Op.mapUpdate 93 (Operand.tmp 36) (Operand.tmp 37) (Operand.tmp 43), type := 0, pos := "cure.go:100", after := #[{ on := 0, ground := Ground.data }, { on := 1, ground := Ground.data }, { on := 7, ground := Ground.data }, { on := 7, ground := Ground.chain }, { on := 0, ground := Ground.phase }, { on := 1, ground := Ground.phase }, { on := 2, ground := Ground.phase }, { on := 3, ground := Ground.phase }, { on := 4, ground := Ground.phase }, { on := 5, ground := Ground.phase }, { on := 6, ground := Ground.phase }, { on := 7, ground := Ground.phase }], guard := none }
def kqs : Array Oper := #[kq0, kq1, kq2, kq3, kq4, kq5, kq6, kq7, kq8]
def SV (vb wb : Nat) (w : World) : Prop := w.heap[vb]? = some (.cells #[.map (some wb)] 93 (0, 0))
theorem SV.cell {vb wb : Nat} {w : World} (h : SV vb wb w) : w.cell? ⟨vb, 0, none⟩ = some (.map (some wb)) := by
  unfold SV at h
  simp only [World.cell?, h]; rfl
section
variable (y0 y1 y2 y3 y4 y6 y8 y10 y11 y12 y13 y14 y15 y16 y17 y18 y19 y20 y21 y22 y23 y24 y25 y26 y27 y28 y29 y30 y31 y32 y33 y34 y35 y36 y37 y38 y39 y40 y41 y42 y43 y44 y45 y46 y47 y48 y49 y50 y51 y52 y53 y54 y55 y56 y57 y58 y59 y60 y61 y62 y63 y64 y65 y66 y67 : Value) (W w1 w : World) (xb vb wb bm cl Mx : Nat) (cs : Array Value) (es : Array MapEntry) (pr : List Int) (n k : Int) (Q0 : Act → World → Prop)
set_option maxRecDepth 100000 in
set_option maxHeartbeats 4000000 in
theorem tailK (hK : KP Tryz.prog 3 93 43 W w1 xb vb wb bm cs es cl pr Mx w) (hn : k ∉ pr) (hk : fits64 k) (hM : Mx ≤ 100000) (h1 : W.heap.size ≤ wb) (h2 : w1.heap.size ≤ wb) (h3 : xb ≠ wb) (h4 : vb ≠ wb) (h5 : bm ≠ wb) (hnI : True)
    (hQ : ∀ g cap w', KP Tryz.prog 3 93 43 W w1 xb vb wb bm cs es cl (k :: pr) (Mx + 1) w' → w.heap.size ≤ w'.heap.size → (∀ i, i < w.heap.size → i ≠ wb → w'.heap[i]? = w.heap[i]?) → Q0 ⟨#[y0, y1, y2, y3, y4, .pointer (some ⟨vb, 0, none⟩), y6, .int .i64 n, y8, .int .i64 k, y10, y11, y12, y13, y14, y15, y16, y17, y18, y19, y20, y21, y22, y23, y24, y25, y26, y27, y28, y29, y30, y31, y32, y33, y34, y35, .map (some wb), .int .i64 k, .map (some wb), .int .i64 k, .slice none 0 0, .int .i64 n, .slice (some ⟨w.heap.size, 0, none⟩) 1 1, .slice (some ⟨g, 0, none⟩) 1 cap, y44, y45, y46, y47, y48, y49, y50, y51, y52, y53, y54, y55, y56, y57, y58, y59, y60, y61, y62, y63, y64, y65, y66, y67], []⟩ w')
    (listed : Array Bool) (hl : listed = #[true, true, true, true, true, true, true, false, false]) : wpAnyH Tryz.prog .any kqs (fun e a w => e = .normal ∧ Q0 a w) (SV vb wb) 2 listed ⟨#[y0, y1, y2, y3, y4, .pointer (some ⟨vb, 0, none⟩), y6, .int .i64 n, y8, .int .i64 k, y10, y11, y12, y13, y14, y15, y16, y17, y18, y19, y20, y21, y22, y23, y24, y25, y26, y27, y28, y29, y30, y31, y32, y33, y34, y35, .map (some wb), .int .i64 k, .map (some wb), .int .i64 k, .slice none 0 0, .int .i64 n, .slice (some ⟨w.heap.size, 0, none⟩) 1 1, y43, y44, y45, y46, y47, y48, y49, y50, y51, y52, y53, y54, y55, y56, y57, y58, y59, y60, y61, y62, y63, y64, y65, y66, y67], []⟩ (w.alloc (.cells #[.int .i64 n] 3)) := by
  subst hl
  have hi : Tryz.prog.info? 3 = some Tryz.t3 := by kernel_rfl
  have hK6 := hK.far (w' := w.alloc (.cells #[.int .i64 n] 3)) ((Below.refl _ _).alloc (Nat.le_refl _) _)
  obtain ⟨v', w7, hrun, hrow, hg, hnil⟩ := run_append_own (P := Tryz.prog) (w.alloc (.cells #[.int .i64 n] 3)) (w.alloc (.cells #[.int .i64 n] 3)).heap.size 50 50 3 Tryz.t3 (.int .i64 0) 1 8 Tryz.underlying50 hi rfl rfl rfl rfl (by decide) (.slice none 0 0) 0 [] ⟨rfl, .inl ⟨rfl, rfl⟩⟩ ⟨w.heap.size, 0, none⟩ 1 1 [.int .i64 n] rfl
    (fun j u hj => by
      rcases j with _ | j
      · simp only [List.getElem?_cons_zero, Option.some.injEq] at hj
        subst hj
        show (w.alloc _).cell? ⟨w.heap.size, 0, none⟩ = _
        simp only [World.cell?, heap_alloc_new]
        rfl
      · simp at hj) (fun u hu => by rw [List.mem_singleton.1 hu]; rfl) (by unfold maxLen; omega) (by omega) (Nat.le_refl _)
  have hne : v' ≠ .slice none 0 0 := fun e => by have := (hnil.1 e).2; omega
  rcases hrow.2 with ⟨e, _⟩ | ⟨g, cap, cur, rfl, hbg, hh, q1, q2, q3, q4⟩
  · exact absurd e hne
  have hK7 : KP Tryz.prog 3 93 43 W w1 xb vb wb bm cs es cl pr Mx w7 := hK6.far ((Below.refl _ _).grown hg (Nat.le_refl _) (fun k e => by cases e))
  obtain ⟨w8, r1, r2, r3⟩ := hK7.who.upd Tryz.underlying93 Tryz.underlying3 (by unfold maxLen; omega) hk ⟨g, 0, none⟩ cap
  have hK8 := hK7.upd r2 r3 h1 h2 h3 h4 h5
  have hs7 : w.heap.size ≤ w7.heap.size := by have := hg.size; simp at this; omega
  refine wpAnyH_one (i := 7) (by kernel_rfl) (wpOp_valueG (o := kq7) (v := .slice (some ⟨g, 0, none⟩) 1 cap) (w' := w7) rfl (by kernel_rfl) (exec_append rfl rfl rfl hrun) ⟨hK7.var, ?_⟩)
  change wpAnyH Tryz.prog .any kqs (fun e a w => e = .normal ∧ Q0 a w) (SV vb wb) _ _ ⟨#[y0, y1, y2, y3, y4, .pointer (some ⟨vb, 0, none⟩), y6, .int .i64 n, y8, .int .i64 k, y10, y11, y12, y13, y14, y15, y16, y17, y18, y19, y20, y21, y22, y23, y24, y25, y26, y27, y28, y29, y30, y31, y32, y33, y34, y35, .map (some wb), .int .i64 k, .map (some wb), .int .i64 k, .slice none 0 0, .int .i64 n, .slice (some ⟨w.heap.size, 0, none⟩) 1 1, .slice (some ⟨g, 0, none⟩) 1 cap, y44, y45, y46, y47, y48, y49, y50, y51, y52, y53, y54, y55, y56, y57, y58, y59, y60, y61, y62, y63, y64, y65, y66, y67], []⟩ w7
  refine wpAnyH_one (i := 8) (by kernel_rfl) (wpOp_skipG (o := kq8) (w' := w8) rfl (by kernel_rfl) (by simp [execOp, Act.eval, kq8, go_sem, r1, Result.andThen]) ⟨hK8.var, ?_⟩)
  refine ⟨by kernel_rfl, rfl, hQ g cap w8 hK8 (Nat.le_trans hs7 r3.size) fun i hi hiw => ?_⟩
  exact ((r3.block i (by omega) (by simpa using hiw)).trans (hg.block i (by simp; omega) (by simp [Value.ownBlock]))).trans (hao w _ hi)
set_option maxRecDepth 100000 in
set_option maxHeartbeats 4000000 in
theorem regK (hK : KP Tryz.prog 3 93 43 W w1 xb vb wb bm cs es cl pr Mx w) (hn : k ∉ pr) (hk : fits64 k) (hM : Mx ≤ 100000) (h1 : W.heap.size ≤ wb) (h2 : w1.heap.size ≤ wb) (h3 : xb ≠ wb) (h4 : vb ≠ wb) (h5 : bm ≠ wb) (hnI : True)
    (hQ : ∀ g cap w', KP Tryz.prog 3 93 43 W w1 xb vb wb bm cs es cl (k :: pr) (Mx + 1) w' → w.heap.size ≤ w'.heap.size → (∀ i, i < w.heap.size → i ≠ wb → w'.heap[i]? = w.heap[i]?) → Q0 ⟨#[y0, y1, y2, y3, y4, .pointer (some ⟨vb, 0, none⟩), y6, .int .i64 n, y8, .int .i64 k, y10, y11, y12, y13, y14, y15, y16, y17, y18, y19, y20, y21, y22, y23, y24, y25, y26, y27, y28, y29, y30, y31, y32, y33, y34, y35, .map (some wb), .int .i64 k, .map (some wb), .int .i64 k, .slice none 0 0, .int .i64 n, .slice (some ⟨w.heap.size, 0, none⟩) 1 1, .slice (some ⟨g, 0, none⟩) 1 cap, y44, y45, y46, y47, y48, y49, y50, y51, y52, y53, y54, y55, y56, y57, y58, y59, y60, y61, y62, y63, y64, y65, y66, y67], []⟩ w') :
    wpAnyH Tryz.prog .any kqs (fun e a w => e = .normal ∧ Q0 a w) (SV vb wb) 9 (Array.replicate 9 false) ⟨#[y0, y1, y2, y3, y4, .pointer (some ⟨vb, 0, none⟩), y6, .int .i64 n, y8, .int .i64 k, y10, y11, y12, y13, y14, y15, y16, y17, y18, y19, y20, y21, y22, y23, y24, y25, y26, y27, y28, y29, y30, y31, y32, y33, y34, y35, y36, y37, y38, y39, y40, y41, y42, y43, y44, y45, y46, y47, y48, y49, y50, y51, y52, y53, y54, y55, y56, y57, y58, y59, y60, y61, y62, y63, y64, y65, y66, y67], []⟩ w := by
  have sW := Tryz.sizeOf93
  have gW := Tryz.isAgg93
  have hS0 : SV vb wb w := hK.var
  have hz : ∀ w : World, (zeroValue 50).run Tryz.prog w = .ok (.slice none 0 0) w := fun w => Tryz.zeroValue50 w
  have hlook : ∀ w' : World, KP Tryz.prog 3 93 43 W w1 xb vb wb bm cs es cl pr Mx w' → (Instr.lookup 93 (.map (some wb)) (.int .i64 k) false).run Tryz.prog w' = .ok (.slice none 0 0) w' := fun w' hw' => by
    obtain ⟨a, m, c, hrun, _, hno⟩ := hw'.who.look Tryz.underlying93 Tryz.underlying3 hz hk
    obtain ⟨rfl, rfl, rfl⟩ := hno hn
    exact hrun
  have hK6 := hK.far (w' := w.alloc (.cells #[.int .i64 n] 3)) ((Below.refl _ _).alloc (Nat.le_refl _) _)
  have l0 := hlook w hK
  have l6 := hlook _ hK6
  refine wpAnyH_take (i := 0) (oi := kq0) (v := .map (some wb)) rfl (by kernel_rfl) (by kernel_rfl) (by kernel_rfl) (fun _ _ _ h => by cases h.1) (.inl ⟨rfl, fun w' hS => ?_⟩) hS0 ?_
  · simp [execOp, Act.eval, kq0, go_sem, SV.cell hS, gW, sW]
  change wpAnyH Tryz.prog .any kqs (fun e a w => e = .normal ∧ Q0 a w) (SV vb wb) _ _ ⟨#[y0, y1, y2, y3, y4, .pointer (some ⟨vb, 0, none⟩), y6, .int .i64 n, y8, .int .i64 k, y10, y11, y12, y13, y14, y15, y16, y17, y18, y19, y20, y21, y22, y23, y24, y25, y26, y27, y28, y29, y30, y31, y32, y33, y34, y35, .map (some wb), y37, y38, y39, y40, y41, y42, y43, y44, y45, y46, y47, y48, y49, y50, y51, y52, y53, y54, y55, y56, y57, y58, y59, y60, y61, y62, y63, y64, y65, y66, y67], []⟩ w
  refine wpAnyH_take (i := 1) (oi := kq1) (v := .int .i64 k) rfl (by kernel_rfl) (by kernel_rfl) (by kernel_rfl) (fun _ _ _ h => by cases h.1) (.inl ⟨rfl, fun w' hS => ?_⟩) hS0 ?_
  · simp [execOp, Act.eval, kq1, go_sem]
  change wpAnyH Tryz.prog .any kqs (fun e a w => e = .normal ∧ Q0 a w) (SV vb wb) _ _ ⟨#[y0, y1, y2, y3, y4, .pointer (some ⟨vb, 0, none⟩), y6, .int .i64 n, y8, .int .i64 k, y10, y11, y12, y13, y14, y15, y16, y17, y18, y19, y20, y21, y22, y23, y24, y25, y26, y27, y28, y29, y30, y31, y32, y33, y34, y35, .map (some wb), .int .i64 k, y38, y39, y40, y41, y42, y43, y44, y45, y46, y47, y48, y49, y50, y51, y52, y53, y54, y55, y56, y57, y58, y59, y60, y61, y62, y63, y64, y65, y66, y67], []⟩ w
  refine wpAnyH_take (i := 2) (oi := kq2) (v := .map (some wb)) rfl (by kernel_rfl) (by kernel_rfl) (by kernel_rfl) (fun _ _ _ h => by cases h.1) (.inl ⟨rfl, fun w' hS => ?_⟩) hS0 ?_
  · simp [execOp, Act.eval, kq2, go_sem, SV.cell hS, gW, sW]
  change wpAnyH Tryz.prog .any kqs (fun e a w => e = .normal ∧ Q0 a w) (SV vb wb) _ _ ⟨#[y0, y1, y2, y3, y4, .pointer (some ⟨vb, 0, none⟩), y6, .int .i64 n, y8, .int .i64 k, y10, y11, y12, y13, y14, y15, y16, y17, y18, y19, y20, y21, y22, y23, y24, y25, y26, y27, y28, y29, y30, y31, y32, y33, y34, y35, .map (some wb), .int .i64 k, .map (some wb), y39, y40, y41, y42, y43, y44, y45, y46, y47, y48, y49, y50, y51, y52, y53, y54, y55, y56, y57, y58, y59, y60, y61, y62, y63, y64, y65, y66, y67], []⟩ w
  refine wpAnyH_take (i := 3) (oi := kq3) (v := .int .i64 k) rfl (by kernel_rfl) (by kernel_rfl) (by kernel_rfl) (fun _ _ _ h => by cases h.1) (.inl ⟨rfl, fun w' hS => ?_⟩) hS0 ?_
  · simp [execOp, Act.eval, kq3, go_sem]
  change wpAnyH Tryz.prog .any kqs (fun e a w => e = .normal ∧ Q0 a w) (SV vb wb) _ _ ⟨#[y0, y1, y2, y3, y4, .pointer (some ⟨vb, 0, none⟩), y6, .int .i64 n, y8, .int .i64 k, y10, y11, y12, y13, y14, y15, y16, y17, y18, y19, y20, y21, y22, y23, y24, y25, y26, y27, y28, y29, y30, y31, y32, y33, y34, y35, .map (some wb), .int .i64 k, .map (some wb), .int .i64 k, y40, y41, y42, y43, y44, y45, y46, y47, y48, y49, y50, y51, y52, y53, y54, y55, y56, y57, y58, y59, y60, y61, y62, y63, y64, y65, y66, y67], []⟩ w
  refine wpAnyH_take (i := 5) (oi := kq5) (v := .int .i64 n) rfl (by kernel_rfl) (by kernel_rfl) (by kernel_rfl) (fun _ _ _ h => by cases h.1) (.inl ⟨rfl, fun w' hS => ?_⟩) hS0 ?_
  · simp [execOp, Act.eval, kq5, go_sem]
  change wpAnyH Tryz.prog .any kqs (fun e a w => e = .normal ∧ Q0 a w) (SV vb wb) _ _ ⟨#[y0, y1, y2, y3, y4, .pointer (some ⟨vb, 0, none⟩), y6, .int .i64 n, y8, .int .i64 k, y10, y11, y12, y13, y14, y15, y16, y17, y18, y19, y20, y21, y22, y23, y24, y25, y26, y27, y28, y29, y30, y31, y32, y33, y34, y35, .map (some wb), .int .i64 k, .map (some wb), .int .i64 k, y40, .int .i64 n, y42, y43, y44, y45, y46, y47, y48, y49, y50, y51, y52, y53, y54, y55, y56, y57, y58, y59, y60, y61, y62, y63, y64, y65, y66, y67], []⟩ w
  refine wpAnyH_all (rs := [4, 6]) (by kernel_rfl) (by simp) fun i hi => ?_
  simp only [List.mem_cons, List.not_mem_nil, or_false] at hi
  rcases hi with rfl | rfl
  · refine wpOp_valueG (o := kq4) (v := .slice none 0 0) (w' := w) rfl (by kernel_rfl) (by simp [execOp, Act.eval, kq4, go_sem, l0]) ⟨hS0, ?_⟩
    change wpAnyH Tryz.prog .any kqs (fun e a w => e = .normal ∧ Q0 a w) (SV vb wb) _ _ ⟨#[y0, y1, y2, y3, y4, .pointer (some ⟨vb, 0, none⟩), y6, .int .i64 n, y8, .int .i64 k, y10, y11, y12, y13, y14, y15, y16, y17, y18, y19, y20, y21, y22, y23, y24, y25, y26, y27, y28, y29, y30, y31, y32, y33, y34, y35, .map (some wb), .int .i64 k, .map (some wb), .int .i64 k, .slice none 0 0, .int .i64 n, y42, y43, y44, y45, y46, y47, y48, y49, y50, y51, y52, y53, y54, y55, y56, y57, y58, y59, y60, y61, y62, y63, y64, y65, y66, y67], []⟩ w
    refine wpAnyH_one (i := 6) (by kernel_rfl) (wpOp_valueG (o := kq6) (v := .slice (some ⟨w.heap.size, 0, none⟩) 1 1) (w' := w.alloc (.cells #[.int .i64 n] 3)) rfl (by kernel_rfl) (by simp [execOp, Act.eval, kq6, go_sem]) ⟨hK6.var, ?_⟩)
    change wpAnyH Tryz.prog .any kqs (fun e a w => e = .normal ∧ Q0 a w) (SV vb wb) _ _ ⟨#[y0, y1, y2, y3, y4, .pointer (some ⟨vb, 0, none⟩), y6, .int .i64 n, y8, .int .i64 k, y10, y11, y12, y13, y14, y15, y16, y17, y18, y19, y20, y21, y22, y23, y24, y25, y26, y27, y28, y29, y30, y31, y32, y33, y34, y35, .map (some wb), .int .i64 k, .map (some wb), .int .i64 k, .slice none 0 0, .int .i64 n, .slice (some ⟨w.heap.size, 0, none⟩) 1 1, y43, y44, y45, y46, y47, y48, y49, y50, y51, y52, y53, y54, y55, y56, y57, y58, y59, y60, y61, y62, y63, y64, y65, y66, y67], []⟩ (w.alloc (.cells #[.int .i64 n] 3))
    exact tailK (hK := hK) (hn := hn) (hk := hk) (hM := hM) (h1 := h1) (h2 := h2) (h3 := h3) (h4 := h4) (h5 := h5) (hnI := trivial) (hQ := hQ) (hl := by kernel_rfl) ..
  · refine wpOp_valueG (o := kq6) (v := .slice (some ⟨w.heap.size, 0, none⟩) 1 1) (w' := w.alloc (.cells #[.int .i64 n] 3)) rfl (by kernel_rfl) (by simp [execOp, Act.eval, kq6, go_sem]) ⟨hK6.var, ?_⟩
    change wpAnyH Tryz.prog .any kqs (fun e a w => e = .normal ∧ Q0 a w) (SV vb wb) _ _ ⟨#[y0, y1, y2, y3, y4, .pointer (some ⟨vb, 0, none⟩), y6, .int .i64 n, y8, .int .i64 k, y10, y11, y12, y13, y14, y15, y16, y17, y18, y19, y20, y21, y22, y23, y24, y25, y26, y27, y28, y29, y30, y31, y32, y33, y34, y35, .map (some wb), .int .i64 k, .map (some wb), .int .i64 k, y40, .int .i64 n, .slice (some ⟨w.heap.size, 0, none⟩) 1 1, y43, y44, y45, y46, y47, y48, y49, y50, y51, y52, y53, y54, y55, y56, y57, y58, y59, y60, y61, y62, y63, y64, y65, y66, y67], []⟩ (w.alloc (.cells #[.int .i64 n] 3))
    refine wpAnyH_one (i := 4) (by kernel_rfl) (wpOp_valueG (o := kq4) (v := .slice none 0 0) (w' := w.alloc (.cells #[.int .i64 n] 3)) rfl (by kernel_rfl) (by simp [execOp, Act.eval, kq4, go_sem, l6]) ⟨hK6.var, ?_⟩)
    change wpAnyH Tryz.prog .any kqs (fun e a w => e = .normal ∧ Q0 a w) (SV vb wb) _ _ ⟨#[y0, y1, y2, y3, y4, .pointer (some ⟨vb, 0, none⟩), y6, .int .i64 n, y8, .int .i64 k, y10, y11, y12, y13, y14, y15, y16, y17, y18, y19, y20, y21, y22, y23, y24, y25, y26, y27, y28, y29, y30, y31, y32, y33, y34, y35, .map (some wb), .int .i64 k, .map (some wb), .int .i64 k, .slice none 0 0, .int .i64 n, .slice (some ⟨w.heap.size, 0, none⟩) 1 1, y43, y44, y45, y46, y47, y48, y49, y50, y51, y52, y53, y54, y55, y56, y57, y58, y59, y60, y61, y62, y63, y64, y65, y66, y67], []⟩ (w.alloc (.cells #[.int .i64 n] 3))
    exact tailK (hK := hK) (hn := hn) (hk := hk) (hM := hM) (h1 := h1) (h2 := h2) (h3 := h3) (h4 := h4) (h5 := h5) (hnI := trivial) (hQ := hQ) (hl := by kernel_rfl) ..
end

theorem clo_C (W : World) (vb wb N : Nat) (bs : List Int) (k : Int) (hv : W.cell? ⟨vb, 0, none⟩ = some (.map (some wb))) (hw : WhoAt W Tryz.prog 3 wb N bs) (hk : fits64 k) :
    Calls Tryz.prog 41 #[.int .i64 k, .pointer (some ⟨vb, 0, none⟩)] W fun x W' => x = .returned (.bool false) ∧ Below W.heap.size W W' := by
  refine (callsIn_wide (n := 0)).1 ?_
  have hz : ∀ w : World, (zeroValue 50).run Tryz.prog w = .ok (.slice none 0 0) w := fun w => Tryz.zeroValue50 w
  obtain ⟨a, n, c, hrun, hn, _⟩ := hw.look Tryz.underlying93 Tryz.underlying3 hz hk
  refine callsIn_of_wp Tryz.func41 rfl trivial ?_ rfl
  simp only [Tryz.ntmps41, List.size_toArray, List.length_cons, List.length_nil, Nat.reduceAdd, Nat.reduceSub, Array.replicate_succ, Array.replicate_zero, List.push_toArray, List.append_toArray, List.nil_append, List.cons_append]
  obtain rfl | rfl : n = 0 ∨ n = 1 := by omega
  · gi_wp2
    go_ret
    exact ⟨rfl, Below.refl _ _⟩
  · gi_wp2
    go_ret
    exact ⟨rfl, Below.refl _ _⟩
theorem ints_shape {w : World} {v : Value} {xs : List Int} (h : IntsAt w v xs) : ∃ a c, v = .slice a xs.length c ∧ ∀ j k, xs[j]? = some k → ∃ b o, a = some ⟨b, o, none⟩ ∧ b < w.heap.size ∧ w.cell? ⟨b, o + j, none⟩ = some (.int .i64 k) := by
  rcases h with ⟨rfl, rfl⟩ | ⟨b, o, c, rfl, hb, hc⟩
  · exact ⟨_, _, rfl, fun j k hj => by simp at hj⟩
  · exact ⟨_, _, rfl, fun j k hj => ⟨b, o, rfl, hb, hc j k hj⟩⟩
set_option maxHeartbeats 2000000 in
theorem idx_C (W : World) (vb wb N : Nat) (bs : List Int) (v : Value) (xs : List Int) (hv : W.cell? ⟨vb, 0, none⟩ = some (.map (some wb))) (hvb : vb < W.heap.size) (hw : WhoAt W Tryz.prog 3 wb N bs) (hx : IntsAt W v xs) (hlen : xs.length ≤ 100000) (hfit : ∀ k ∈ xs, fits64 k) :
    Calls Tryz.prog 71 #[v, .func (.func 41) #[] #[.pointer (some ⟨vb, 0, none⟩)]] W fun x W' => x = .returned (.int .i64 (-1)) ∧ Below W.heap.size W W' := by
  refine (callsIn_wide (n := 0)).1 ?_
  obtain ⟨a, c, rfl, hcells⟩ := ints_shape hx
  refine callsIn_of_wp Tryz.func71 rfl trivial ?_ rfl
  simp only [Tryz.ntmps71, List.size_toArray, List.length_cons, List.length_nil, Nat.reduceAdd, Nat.reduceSub, Array.replicate_succ, Array.replicate_zero, List.push_toArray, List.append_toArray, List.nil_append, List.cons_append]
  gi_wp2
  refine wpIn_loop (fun a' w => ∃ (j : Nat) (x5 x9 x10 x11 x12 x13 x14 x15 x16 x17 x18 : Value), a' = ⟨#[.slice a xs.length c, .func (.func 41) #[] #[.pointer (some ⟨vb, 0, none⟩)], undef, undef, .int .i64 0, x5, .slice a xs.length c, .int .i64 (xs.length : Int), .int .i64 (j : Int), x9, x10, x11, x12, x13, x14, x15, x16, x17, x18], []⟩ ∧ j ≤ xs.length ∧ Below W.heap.size W w) (fun a' _ => ixLeft xs.length 8 a') ?_ ?_
  · exact ⟨0, _, _, _, _, _, _, _, _, _, _, _, rfl, Nat.zero_le _, Below.refl _ _⟩
  · rintro a' w ⟨j, x5, x9, x10, x11, x12, x13, x14, x15, x16, x17, x18, rfl, hj, hb⟩
    by_cases hjl : j < xs.length
    · obtain ⟨k, hk⟩ : ∃ k, xs[j]? = some k := ⟨_, List.getElem?_eq_getElem hjl⟩
      obtain ⟨b, o, rfl, hbl, hc⟩ := hcells j k hk
      have hc : w.cell? ⟨b, o + j, none⟩ = some (.int .i64 k) := (World.cell?_of_block (hb.block b hbl)).trans hc
      have hv2 : w.cell? ⟨vb, 0, none⟩ = some (.map (some wb)) := (World.cell?_of_block (hb.block vb hvb)).trans hv
      have hw2 : WhoAt w Tryz.prog 3 wb N bs := hw.same (hb.block _ hw.lt)
      have hjI : (j : Int) < (xs.length : Int) := by omega
      have hkf := hfit k (List.mem_of_getElem? hk)
      gi_wp2
      refine ⟨trivial, rfl, (callsIn_wide.2 (clo_C w vb wb N bs k hv2 hw2 hkf)).mono ?_⟩
      rintro x w3 ⟨rfl, hb3⟩
      gi_wp2
      refine ⟨⟨j + 1, _, _, _, _, _, _, _, _, _, _, _, rfl, by omega, hb.trans (hb3.mono hb.size)⟩, ?_⟩
      show ((xs.length : Int) - ((j : Int) + 1)).toNat < ((xs.length : Int) - (j : Int)).toNat
      omega
    · obtain rfl : j = xs.length := by omega
      gi_wp2
      go_ret
      exact ⟨rfl, hb⟩
theorem cont_C (W : World) (vb wb N : Nat) (bs : List Int) (v : Value) (xs : List Int) (hv : W.cell? ⟨vb, 0, none⟩ = some (.map (some wb))) (hvb : vb < W.heap.size) (hw : WhoAt W Tryz.prog 3 wb N bs) (hx : IntsAt W v xs) (hlen : xs.length ≤ 100000) (hfit : ∀ k ∈ xs, fits64 k) :
    Calls Tryz.prog 40 #[v, .func (.func 41) #[] #[.pointer (some ⟨vb, 0, none⟩)]] W fun x W' => x = .returned (.bool false) ∧ Below W.heap.size W W' := by
  have h := idx_C W vb wb N bs v xs hv hvb hw hx hlen hfit
  refine (callsIn_wide (n := 0)).1 ?_
  refine callsIn_of_wp Tryz.func40 rfl trivial ?_ rfl
  simp only [Tryz.ntmps40, List.size_toArray, List.length_cons, List.length_nil, Nat.reduceAdd, Nat.reduceSub, Array.replicate_succ, Array.replicate_zero, List.push_toArray, List.append_toArray, List.nil_append, List.cons_append]
  gi_wp2
  refine ⟨trivial, rfl, (callsIn_wide.2 h).mono ?_⟩
  rintro x w3 ⟨rfl, hb3⟩
  gi_wp2
  go_ret
  exact ⟨rfl, hb3⟩
set_option maxRecDepth 100000 in
set_option maxHeartbeats 4000000 in
theorem kept_C : KeptC Tryz.prog 13 10 38 39 3 := by
  intro W l N ks bs hN hksn hkl hfl hfln hfit hfitb hopen
  refine (callsIn_wide (n := 0)).1 ?_
  have hz : ∀ w : World, (zeroValue 50).run Tryz.prog w = .ok (.slice none 0 0) w := fun w => Tryz.zeroValue50 w
  have hzb : ∀ w : World, (zeroValue 4).run Tryz.prog w = .ok (.bool false) w := fun w => Tryz.zeroValue4 w
  have hiT : Tryz.prog.info? 3 = some Tryz.t3 := by kernel_rfl
  have hmake : ∀ w : World, (Instr.makeMap 93 none).run Tryz.prog w = .ok (.map (some w.heap.size)) (w.alloc (.map #[] 0)) := fun w => by simp [Instr.makeMap]
  refine callsIn_of_wp Tryz.func13 rfl trivial ?_ rfl
  simp only [Tryz.ntmps13, List.size_toArray, List.length_cons, List.length_nil, Nat.reduceAdd, Nat.reduceSub, Array.replicate_succ, Array.replicate_zero, List.push_toArray, List.append_toArray, List.nil_append, List.cons_append]
  gi_wp2
  refine ⟨trivial, rfl, (callsIn_wide.2 hopen).mono ?_⟩
  rintro x w1 ⟨hb1, g0, g2, g3, wa, wn, wc, rfl, hsound, hblocks⟩
  gi_wp2
  have hbS : Below w1.heap.size w1 (((w1.alloc (.cells #[.int .i64 g0, .int .i64 N, .int .i64 g2, .int .i64 g3, .slice wa wn wc] 43)).alloc (.map #[] 0)).alloc (.cells #[.map (some (w1.heap.size + 1))] 93)) := (((Below.refl _ _).alloc (Nat.le_refl _) _).alloc (by simp) _).alloc (by simp; omega) _
  have hs0 : (((w1.alloc (.cells #[.int .i64 g0, .int .i64 N, .int .i64 g2, .int .i64 g3, .slice wa wn wc] 43)).alloc (.map #[] 0)).alloc (.cells #[.map (some (w1.heap.size + 1))] 93)).heap.size = w1.heap.size + 3 := by simp
  have hX0 : (((w1.alloc (.cells #[.int .i64 g0, .int .i64 N, .int .i64 g2, .int .i64 g3, .slice wa wn wc] 43)).alloc (.map #[] 0)).alloc (.cells #[.map (some (w1.heap.size + 1))] 93)).heap[w1.heap.size]? = some (.cells #[.int .i64 g0, .int .i64 N, .int .i64 g2, .int .i64 g3, .slice wa wn wc] 43 (0, 0)) := by
    rw [hao _ _ (by simp; omega), hao _ _ (by simp)]; exact heap_alloc_new _ _
  have hX1 : (((w1.alloc (.cells #[.int .i64 g0, .int .i64 N, .int .i64 g2, .int .i64 g3, .slice wa wn wc] 43)).alloc (.map #[] 0)).alloc (.cells #[.map (some (w1.heap.size + 1))] 93)).heap[w1.heap.size + 1]? = some (.map #[] 0) := by
    rw [hao _ _ (by simp)]
    have := heap_alloc_new (w1.alloc (.cells #[.int .i64 g0, .int .i64 N, .int .i64 g2, .int .i64 g3, .slice wa wn wc] 43)) (.map #[] 0)
    simpa using this
  have hX2 : (((w1.alloc (.cells #[.int .i64 g0, .int .i64 N, .int .i64 g2, .int .i64 g3, .slice wa wn wc] 43)).alloc (.map #[] 0)).alloc (.cells #[.map (some (w1.heap.size + 1))] 93)).heap[w1.heap.size + 2]? = some (.cells #[.map (some (w1.heap.size + 1))] 93 (0, 0)) := by
    have := heap_alloc_new ((w1.alloc (.cells #[.int .i64 g0, .int .i64 N, .int .i64 g2, .int .i64 g3, .slice wa wn wc] 43)).alloc (.map #[] 0)) (.cells #[.map (some (w1.heap.size + 1))] 93)
    simpa using this
  have hcalls := hsound _ hbS
  refine ⟨trivial, rfl, (callsIn_wide.2 hcalls).mono ?_⟩
  generalize ((w1.alloc (.cells #[.int .i64 g0, .int .i64 N, .int .i64 g2, .int .i64 g3, .slice wa wn wc] 43)).alloc (.map #[] 0)).alloc (.cells #[.map (some (w1.heap.size + 1))] 93) = wS at hbS hs0 hX0 hX1 hX2
  rintro x w2 ⟨hb2, bm, es, cl, rfl, hbm, hmap, hS⟩
  have hsz2 : w1.heap.size + 3 ≤ w2.heap.size := by have := hb2.size; omega
  have hK2 : KP Tryz.prog 3 93 43 W w1 w1.heap.size (w1.heap.size + 2) (w1.heap.size + 1) bm #[.int .i64 g0, .int .i64 N, .int .i64 g2, .int .i64 g3, .slice wa wn wc] es cl [] 0 w2 := ⟨hb1.trans ((hbS.mono hb1.size).trans (hb2.mono (by have := hb1.size; omega))), hbS.trans (hb2.mono (by omega)), (hb2.block _ (by omega)).trans hX0, (hb2.block _ (by omega)).trans hX2,
    .fresh ((hb2.block _ (by omega)).trans hX1), hmap⟩
  have hrange := run_range_map w2 94 3 4 bm es cl Tryz.underlying94 hmap
  clear hcalls hbS hX0 hX1 hX2 hb2
  gi_wp2
  obtain ⟨it, hit⟩ : ∃ it, it = w2.heap.size := ⟨_, rfl⟩
  have hit0 : (w2.alloc (.mapIter (some bm) cl #[] cl)).heap[it]? = some (.mapIter (some bm) cl #[] cl) := by rw [hit]; exact heap_alloc_new _ _
  have hK3 : KP Tryz.prog 3 93 43 W w1 w1.heap.size (w1.heap.size + 2) (w1.heap.size + 1) bm #[.int .i64 g0, .int .i64 N, .int .i64 g2, .int .i64 g3, .slice wa wn wc] es cl [] 0 (w2.alloc (.mapIter (some bm) cl #[] cl)) := hK2.far ((Below.refl _ _).alloc (Nat.le_refl _) _)
  have hbmlt : bm < it := by rw [hit]; exact lt_of_get hmap
  have hWit : W.heap.size ≤ it := by have := hb1.size; omega
  have hXit : w1.heap.size + 3 ≤ it := by omega
  rw [← hit]
  generalize w2.alloc (.mapIter (some bm) cl #[] cl) = w0 at hit0 hK3
  have hbmX : w1.heap.size + 3 ≤ bm := by omega
  clear hrange hK2 hmap hit hsz2 hbm hs0
  refine wpIn_loop (fun a w => ∃ (ds : List MapEntry) (x7 x9 x24 x25 x26 x27 x28 x29 x30 x31 x32 x33 x34 x35 x36 x37 x38 x39 x40 x41 x42 x43 x44 : Value), a = ⟨#[l, undef, .slice none 0 0, .pointer (some ⟨w1.heap.size, 0, none⟩), .int .i64 0, .pointer (some ⟨w1.heap.size + 2, 0, none⟩), .map (some bm), x7, undef, x9, undef, undef, .tuple #[.agg #[.int .i64 g0, .int .i64 N, .int .i64 g2, .int .i64 g3, .slice wa wn wc], .int .i64 0], l, .tuple #[.agg #[.int .i64 g0, .int .i64 N, .int .i64 g2, .int .i64 g3, .slice wa wn wc], .int .i64 0], .agg #[.int .i64 g0, .int .i64 N, .int .i64 g2, .int .i64 g3, .slice wa wn wc], .int .i64 0, .int .i64 0, .bool false, .map (some (w1.heap.size + 1)), .agg #[.int .i64 g0, .int .i64 N, .int .i64 g2, .int .i64 g3, .slice wa wn wc], .map (some bm), .map (some bm), .pointer (some ⟨it, 0, none⟩), x24, x25, x26, x27, x28, x29, x30, x31, x32, x33, x34, x35, x36, x37, x38, x39, x40, x41, x42, x43, x44, undef, undef, undef, undef, undef, undef, undef, undef, undef, undef, undef, undef, undef, undef, undef, undef, undef, undef, undef, undef, undef, undef, undef], []⟩ ∧ KP Tryz.prog 3 93 43 W w1 w1.heap.size (w1.heap.size + 2) (w1.heap.size + 1) bm #[.int .i64 g0, .int .i64 N, .int .i64 g2, .int .i64 g3, .slice wa wn wc] es cl (ds.flatMap fun e => bs (keyN e)) (ds.flatMap fun e => bs (keyN e)).length w ∧ w.heap[it]? = some (.mapIter (some bm) cl (ds.map (·.born)).toArray cl) ∧ ∃ l, (ds ++ l).Perm es.toList) (fun _ w => itLeft es.size it w) ?_ ?_
  · exact ⟨[], _, _, _, _, _, _, _, _, _, _, _, _, _, _, _, _, _, _, _, _, _, _, _, rfl, hK3, hit0, es.toList, List.Perm.refl _⟩
  · rintro a w ⟨ds, x7, x9, x24, x25, x26, x27, x28, x29, x30, x31, x32, x33, x34, x35, x36, x37, x38, x39, x40, x41, x42, x43, x44, rfl, hK, hIt, hRest⟩
    rcases next_step (P := Tryz.prog) hIt hK.map (by omega) hS.1 hS.2.1 0 with ⟨hl0, hn⟩ | ⟨e, hee, hnin, w3, hn, hit3, hfar, hsz3, hbel, hent⟩
    · gi_wp2
      clear hIt hl0 hn hRest hit0 hK3
      generalize (ds.flatMap fun e => bs (keyN e)) = pr at hK
      generalize pr.length = Mx at hK
      have hXW : W.heap.size ≤ w1.heap.size := hb1.size
      obtain ⟨B4, hbB, hB3, hBw⟩ : ∃ B4, bm < B4 ∧ w1.heap.size + 3 ≤ B4 ∧ B4 ≤ w.heap.size := ⟨w.heap.size, lt_of_get hK.map, by have := lt_of_get hK.var; omega, Nat.le_refl _⟩
      refine wpIn_loop (fun a w' => ∃ (i : Nat) (v : Value) (y4 y7 y9 y12 y13 y14 y15 y16 y17 y18 y19 y20 y21 y22 y23 y24 y25 y26 y27 y28 y29 y30 y31 y32 y33 y34 y35 y36 y37 y38 y39 y40 y41 y42 y43 y44 y45 y46 y47 y48 y49 y50 y51 y52 y53 y54 y55 y56 y57 y58 y59 y60 y61 y62 y63 y64 y65 y66 : Value), a = ⟨#[l, undef, .slice none 0 0, .pointer (some ⟨w1.heap.size, 0, none⟩), y4, .pointer (some ⟨w1.heap.size + 2, 0, none⟩), .map (some bm), y7, undef, y9, v, .int .i64 ((i : Int) + 1), y12, y13, y14, y15, y16, y17, y18, y19, y20, y21, y22, y23, y24, y25, y26, y27, y28, y29, y30, y31, y32, y33, y34, y35, y36, y37, y38, y39, y40, y41, y42, y43, y44, y45, y46, y47, y48, y49, y50, y51, y52, y53, y54, y55, y56, y57, y58, y59, y60, y61, y62, y63, y64, y65, y66, undef], []⟩ ∧ i ≤ N ∧ KP Tryz.prog 3 93 43 W w1 w1.heap.size (w1.heap.size + 2) (w1.heap.size + 1) bm #[.int .i64 g0, .int .i64 N, .int .i64 g2, .int .i64 g3, .slice wa wn wc] es cl pr Mx w' ∧ B4 ≤ w'.heap.size ∧ w'.ownsRow B4 3 1 v (kpPick ks i).length ((kpPick ks i).map encZ) ∧ (v = .slice none 0 0 ↔ kpPick ks i = [])) (fun a _ => ixLeft (N + 1) 11 a) ?_ ?_
      · exact ⟨0, .slice none 0 0, _, _, _, _, _, _, _, _, _, _, _, _, _, _, _, _, _, _, _, _, _, _, _, _, _, _, _, _, _, _, _, _, _, _, _, _, _, _, _, _, _, _, _, _, _, _, _, _, _, _, _, _, _, _, _, _, _, _, rfl, Nat.zero_le _, hK, hBw, ⟨rfl, .inl ⟨rfl, rfl⟩⟩, ⟨fun _ => rfl, fun _ => rfl⟩⟩
      · rintro a w' ⟨i, v, y4, y7, y9, y12, y13, y14, y15, y16, y17, y18, y19, y20, y21, y22, y23, y24, y25, y26, y27, y28, y29, y30, y31, y32, y33, y34, y35, y36, y37, y38, y39, y40, y41, y42, y43, y44, y45, y46, y47, y48, y49, y50, y51, y52, y53, y54, y55, y56, y57, y58, y59, y60, y61, y62, y63, y64, y65, y66, rfl, hi, hK', hB', hrow, hnil⟩
        have hc0 : w'.cell? ⟨w1.heap.size, 0, none⟩ = some (.int .i64 g0) := by simp only [World.cell?, hK'.img]; rfl
        have hc1 : w'.cell? ⟨w1.heap.size, 1, none⟩ = some (.int .i64 N) := by simp only [World.cell?, hK'.img]; rfl
        have hc2 : w'.cell? ⟨w1.heap.size, 2, none⟩ = some (.int .i64 g2) := by simp only [World.cell?, hK'.img]; rfl
        have hc3 : w'.cell? ⟨w1.heap.size, 3, none⟩ = some (.int .i64 g3) := by simp only [World.cell?, hK'.img]; rfl
        have hc4 : w'.cell? ⟨w1.heap.size, 4, none⟩ = some (.slice wa wn wc) := by simp only [World.cell?, hK'.img]; rfl
        by_cases hiN : i < N
        · have hiI : (i : Int) + 1 ≤ (N : Int) := by omega
          have hfi : fits64 ((i : Int) + 1) := ⟨by omega, by omega⟩
          have hlk := look_sound hK'.map hS hksn hkl hfit Tryz.underlying94 Tryz.underlying3 hzb hfi
          have hps := kpPick_succ ks i
          by_cases hm : ((i : Int) + 1) ∈ ks
          · have hps : kpPick ks (i + 1) = kpPick ks i ++ [(i : Int) + 1] := by rw [hps, if_pos (by simpa using hm)]; simp
            rw [decide_eq_true hm] at hlk
            gi_wp2
            refine ⟨trivial, rfl, (callsIn_wide.2 (hblocks _ hm w' hK'.below1)).mono ?_⟩
            rintro x w6 ⟨hb6, v6, rfl, hints⟩
            have hK6 := hK'.far hb6
            gi_wp2
            refine ⟨trivial, rfl, (callsIn_wide.2 (cont_C w6 _ _ _ _ v6 _ (SV.cell hK6.var) (lt_of_get hK6.var) hK6.who hints ?_ (hfitb _ hm))).mono ?_⟩
            · exact Nat.le_trans (mem_flat_len bs ks hm) hfln
            · rintro x w7 ⟨rfl, hb7⟩
              have hK7 := hK6.far hb7
              have hrow7 : w7.ownsRow B4 3 1 v (kpPick ks i).length ((kpPick ks i).map encZ) := ownsRow_far hrow (hb6.trans (hb7.mono hb6.size))
              gi_wp2_with (refine wpListIn_append_own _ rfl _ _ 50 rfl B4 3 Tryz.t3 (.int .i64 0) 1 8 Tryz.underlying50 hiT rfl rfl rfl rfl (by decide) _ _ _ rfl (hrow7.alloc _) ⟨w7.heap.size, 0, none⟩ 1 1 [.int .i64 ((i : Int) + 1)] rfl rfl ?c1 ?c2 ?c3 ?c4 ?c5 ?_)
              case c1 =>
                intro j u hu
                cases j with
                | zero =>
                  simp only [List.getElem?_cons_zero, Option.some.injEq] at hu
                  subst hu
                  show (w7.alloc _).cell? ⟨w7.heap.size, 0, none⟩ = _
                  simp only [World.cell?, heap_alloc_new]
                  rfl
                | succ j => simp at hu
              case c2 => exact fun u hu => by rw [List.mem_singleton.1 hu]; rfl
              case c3 =>
                have := kpPick_len ks i
                unfold maxLen
                omega
              case c4 =>
                have := kpPick_len ks i
                omega
              case c5 =>
                have := hb6.size
                have := hb7.size
                simp
                omega
              intro v' w8 hrow8 hg8 hne8
              have hK8 := (hK7.far (w' := w7.alloc (.cells #[.int .i64 ((i : Int) + 1)] 3)) ((Below.refl _ _).alloc (Nat.le_refl _) _)).grow hg8 (ownBlock_ge hrow7) (by omega) (by omega) (by omega) (by omega) (by omega) hbB
              have hs8 : B4 ≤ w8.heap.size := by
                have := hb6.size
                have := hb7.size
                have := hg8.size
                simp at this
                omega
              gi_wp2
              refine ⟨⟨i + 1, v', _, _, _, _, _, _, _, _, _, _, _, _, _, _, _, _, _, _, _, _, _, _, _, _, _, _, _, _, _, _, _, _, _, _, _, _, _, _, _, _, _, _, _, _, _, _, _, _, _, _, _, _, _, _, _, _, _, _, rfl, by omega, hK8, hs8, ?_, ?_⟩, ?_⟩
              · rw [hps, List.length_append, List.map_append]; exact hrow8
              · rw [hps]
                exact ⟨fun e => absurd e (by simpa using hne8), fun e => by simp at e⟩
              · show ((N + 1 : Nat) - ((i : Int) + 1 + 1)).toNat < ((N + 1 : Nat) - ((i : Int) + 1)).toNat
                omega
          · rw [decide_eq_false hm] at hlk
            have hps : kpPick ks (i + 1) = kpPick ks i := by rw [hps, if_neg (by simpa using hm)]
            gi_wp2
            refine ⟨trivial, ?_⟩
            gi_wp2
            refine ⟨trivial, ?_⟩
            gi_wp2
            refine ⟨⟨i + 1, v, _, _, _, _, _, _, _, _, _, _, _, _, _, _, _, _, _, _, _, _, _, _, _, _, _, _, _, _, _, _, _, _, _, _, _, _, _, _, _, _, _, _, _, _, _, _, _, _, _, _, _, _, _, _, _, _, _, _, rfl, by omega, hK', hB', by rw [hps]; exact hrow, by rw [hps]; exact hnil⟩, ?_⟩
            show ((N + 1 : Nat) - ((i : Int) + 1 + 1)).toNat < ((N + 1 : Nat) - ((i : Int) + 1)).toNat
            omega
        · obtain rfl : i = N := by omega
          gi_wp2
          go_ret
          exact ⟨v, rfl, ownsRow_base hrow (by omega), hnil, hK'.below⟩
    · obtain ⟨hkey, hkn⟩ := sound_key hS e hee
      have hval := hS.2.2.2 e hee
      have hrest := left_next hRest hee hnin
      obtain ⟨hnd, hlen⟩ := sound_next hS hfl hfln hrest
      have hK3 := hK.next hfar hbel hWit (by omega) (by omega) (by omega) (by omega) (by omega)
      have hc0 : w3.cell? ⟨w1.heap.size, 0, none⟩ = some (.int .i64 g0) := by simp only [World.cell?, hK3.img]; rfl
      have hc1 : w3.cell? ⟨w1.heap.size, 1, none⟩ = some (.int .i64 N) := by simp only [World.cell?, hK3.img]; rfl
      have hc2 : w3.cell? ⟨w1.heap.size, 2, none⟩ = some (.int .i64 g2) := by simp only [World.cell?, hK3.img]; rfl
      have hc3 : w3.cell? ⟨w1.heap.size, 3, none⟩ = some (.int .i64 g3) := by simp only [World.cell?, hK3.img]; rfl
      have hc4 : w3.cell? ⟨w1.heap.size, 4, none⟩ = some (.slice wa wn wc) := by simp only [World.cell?, hK3.img]; rfl
      gi_wp2
      refine ⟨trivial, rfl, (callsIn_wide.2 (hblocks (keyN e) hkn w3 hK3.below1)).mono ?_⟩
      rintro x w4 ⟨hb4, v, rfl, hints⟩
      have hK4 := hK3.far hb4
      have hit4 : w4.heap[it]? = some (.mapIter (some bm) cl ((ds ++ [e]).map (·.born)).toArray cl) := by rw [hb4.block it (lt_of_get hit3), hit3]; simp
      have hfk := hfitb _ hkn
      have hnk : fits64 (keyN e) := hfit _ hkn
      obtain ⟨a, c, rfl, _⟩ := ints_shape hints
      clear hc0 hc1 hc2 hc3 hc4 hb4 hfar hbel hent hn hsz3 hit3
      gi_wp2
      generalize hne : keyN e = n at *
      generalize hpr : (ds.flatMap fun e => bs (keyN e)) = pr at *
      refine wpIn_loop (fun a' w' => ∃ (j : Nat) (x9 x24 x25 x26 x27 x28 x29 x33 x34 x35 x36 x37 x38 x39 x40 x41 x42 x43 x44 : Value), a' = ⟨#[l, undef, .slice none 0 0, .pointer (some ⟨w1.heap.size, 0, none⟩), .int .i64 0, .pointer (some ⟨w1.heap.size + 2, 0, none⟩), .map (some bm), .int .i64 n, undef, x9, undef, undef, .tuple #[.agg #[.int .i64 g0, .int .i64 N, .int .i64 g2, .int .i64 g3, .slice wa wn wc], .int .i64 0], l, .tuple #[.agg #[.int .i64 g0, .int .i64 N, .int .i64 g2, .int .i64 g3, .slice wa wn wc], .int .i64 0], .agg #[.int .i64 g0, .int .i64 N, .int .i64 g2, .int .i64 g3, .slice wa wn wc], .int .i64 0, .int .i64 0, .bool false, .map (some (w1.heap.size + 1)), .agg #[.int .i64 g0, .int .i64 N, .int .i64 g2, .int .i64 g3, .slice wa wn wc], .map (some bm), .map (some bm), .pointer (some ⟨it, 0, none⟩), x24, x25, x26, x27, x28, x29, .slice a (bs n).length c, .int .i64 ((bs n).length : Int), .int .i64 (j : Int), x33, x34, x35, x36, x37, x38, x39, x40, x41, x42, x43, x44, undef, undef, undef, undef, undef, undef, undef, undef, undef, undef, undef, undef, undef, undef, undef, undef, undef, undef, undef, undef, undef, undef, undef], []⟩ ∧ j ≤ (bs n).length ∧ KP Tryz.prog 3 93 43 W w1 w1.heap.size (w1.heap.size + 2) (w1.heap.size + 1) bm #[.int .i64 g0, .int .i64 N, .int .i64 g2, .int .i64 g3, .slice wa wn wc] es cl (pr ++ (bs n).take j) (pr.length + j) w' ∧ IntsAt w' (.slice a (bs n).length c) (bs n) ∧ w'.heap[it]? = some (.mapIter (some bm) cl ((ds ++ [e]).map (·.born)).toArray cl)) (fun a' _ => ixLeft (bs n).length 32 a') ?_ ?_
      · exact ⟨0, _, _, _, _, _, _, _, _, _, _, _, _, _, _, _, _, _, _, _, rfl, Nat.zero_le _, by simpa using hK4, hints, hit4⟩
      · rintro a' w5 ⟨j, x9, x24, x25, x26, x27, x28, x29, x33, x34, x35, x36, x37, x38, x39, x40, x41, x42, x43, x44, rfl, hj, hK5, hI5, hit5⟩
        by_cases hjl : j < (bs n).length
        · obtain ⟨k, hk⟩ : ∃ k, (bs n)[j]? = some k := ⟨_, List.getElem?_eq_getElem hjl⟩
          obtain ⟨b, o, rfl, hbl, hcell⟩ := hI5.cell hk
          have hkf : fits64 k := hfk k (List.mem_of_getElem? hk)
          have hnot := not_taken hnd hk
          have hjI : (j : Int) < ((bs n).length : Int) := by omega
          gi_wp2
          have hMx : pr.length + j ≤ 100000 := by rw [List.length_append] at hlen; omega
          have hXW : W.heap.size ≤ w1.heap.size := hb1.size
          refine wpIn_mono (wpIn_region_any (by kernel_rfl) (anyIn (ro := none) (fun ⟨a1, w1, hc⟩ => by cases hc.1) (.inl rfl) _ _ _ _ (wpAny_of_held _ _ _ _ (regK (hK := hK5.far (w' := { w5 with drawn := w5.drawn + 1 }) (Below.refl _ _).drew) (hn := hnot) (hk := hkf) (hM := hMx) (h1 := by omega) (h2 := by omega) (h3 := by omega) (h4 := by omega) (h5 := by omega) (hnI := trivial)
            (Q0 := fun a' w' => (∃ (x9 x24 x25 x26 x27 x28 x29 x33 x34 x35 x36 x37 x38 x39 x40 x41 x42 x43 x44 : Value), a' = ⟨#[l, undef, .slice none 0 0, .pointer (some ⟨w1.heap.size, 0, none⟩), .int .i64 0, .pointer (some ⟨w1.heap.size + 2, 0, none⟩), .map (some bm), .int .i64 n, undef, x9, undef, undef, .tuple #[.agg #[.int .i64 g0, .int .i64 N, .int .i64 g2, .int .i64 g3, .slice wa wn wc], .int .i64 0], l, .tuple #[.agg #[.int .i64 g0, .int .i64 N, .int .i64 g2, .int .i64 g3, .slice wa wn wc], .int .i64 0], .agg #[.int .i64 g0, .int .i64 N, .int .i64 g2, .int .i64 g3, .slice wa wn wc], .int .i64 0, .int .i64 0, .bool false, .map (some (w1.heap.size + 1)), .agg #[.int .i64 g0, .int .i64 N, .int .i64 g2, .int .i64 g3, .slice wa wn wc], .map (some bm), .map (some bm), .pointer (some ⟨it, 0, none⟩), x24, x25, x26, x27, x28, x29, .slice (some ⟨b, o, none⟩) (bs n).length c, .int .i64 ((bs n).length : Int), .int .i64 (j : Int), x33, x34, x35, x36, x37, x38, x39, x40, x41, x42, x43, x44, undef, undef, undef, undef, undef, undef, undef, undef, undef, undef, undef, undef, undef, undef, undef, undef, undef, undef, undef, undef, undef, undef, undef], []⟩) ∧ KP Tryz.prog 3 93 43 W w1 w1.heap.size (w1.heap.size + 2) (w1.heap.size + 1) bm #[.int .i64 g0, .int .i64 N, .int .i64 g2, .int .i64 g3, .slice wa wn wc] es cl (k :: (pr ++ (bs n).take j)) (pr.length + j + 1) w' ∧ IntsAt w' (.slice (some ⟨b, o, none⟩) (bs n).length c) (bs n) ∧ w'.heap[it]? = some (.mapIter (some bm) cl ((ds ++ [e]).map (·.born)).toArray cl)) (hQ := ?_) ..)))) ?_
          · intro g cap w6 hK6 hs6 hfr
            exact ⟨⟨_, _, _, _, _, _, _, _, _, _, _, _, _, _, _, _, _, _, _, rfl⟩, hK6, hI5.upd hK5.who hs6 hfr, (hfr it (lt_of_get hit5) (by omega)).trans hit5⟩
          · rintro _ a' w6 ⟨rfl, ⟨x9, x24, x25, x26, x27, x28, x29, x33, x34, x35, x36, x37, x38, x39, x40, x41, x42, x43, x44, rfl⟩, hK6, hI6, hit6⟩
            gi_wp2
            refine ⟨⟨j + 1, _, _, _, _, _, _, _, _, _, _, _, _, _, _, _, _, _, _, _, rfl, by omega, ⟨hK6.below, hK6.below1, hK6.img, hK6.var, hK6.who.congr fun q => ?_, hK6.map⟩, hI6, hit6⟩, ?_⟩
            · rw [take_next hk]
              simp only [List.mem_cons, List.mem_append, List.not_mem_nil, or_false]
              constructor
              · rintro (h | h | h)
                · exact .inr (.inr h)
                · exact .inl h
                · exact .inr (.inl h)
              · rintro (h | h | h)
                · exact .inr (.inl h)
                · exact .inr (.inr h)
                · exact .inl h
            · show (((bs n).length : Int) - ((j : Int) + 1)).toNat < (((bs n).length : Int) - (j : Int)).toNat
              omega
        · obtain rfl : j = (bs n).length := by omega
          gi_wp2
          have hfl2 : ((ds ++ [e]).flatMap fun e => bs (keyN e)) = pr ++ bs n := by rw [List.flatMap_append, hpr]; simp [hne]
          have hKe : KP Tryz.prog 3 93 43 W w1 w1.heap.size (w1.heap.size + 2) (w1.heap.size + 1) bm #[.int .i64 g0, .int .i64 N, .int .i64 g2, .int .i64 g3, .slice wa wn wc] es cl ((ds ++ [e]).flatMap fun e => bs (keyN e)) ((ds ++ [e]).flatMap fun e => bs (keyN e)).length w5 := by
            rw [hfl2, List.length_append]
            rw [List.take_length] at hK5
            exact hK5
          refine ⟨⟨ds ++ [e], _, _, _, _, _, _, _, _, _, _, _, _, _, _, _, _, _, _, _, _, _, _, _, rfl, hKe, hit5, hrest⟩, ?_⟩
          rw [itLeft_eq hit5, itLeft_eq hIt]
          have := left_len hrest
          simp at this ⊢
          omega

end Kp
noncomputable def runP (f : Nat) (a : List Value) (h : Hs) : An := runK (tabF (tabOf Tryz.prog 1000000 cureKnown.entries) sums) 1000 f a h
theorem runP_ok (f : Nat) : RunsOk Tryz.prog f (runP f) := runs_ok follows named (tabOf_ok cureKnown.entries_ok) sums_ok 1000 f
theorem kept_ok : SumOk Tryz.prog 13 (keptG (runP 10) (runP 38) (runP 39) 3) := kept_sum (by kernel_rfl) (runP_ok 10) (runP_ok 38) (runP_ok 39) Kp.kept_C
noncomputable def sumsP : List (Nat × SmK) := (13, keptG (runP 10) (runP 38) (runP 39) 3) :: sums
theorem sumsP_ok : SumsOk Tryz.prog sumsP := ⟨kept_ok, sums_ok⟩
end Go.Proofs.YtedgkbmfdniibaaGreatDoor.base
