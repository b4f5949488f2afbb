/- The summary of the function that makes the numbers of names fit: whatever orders its two walks over a map take. -/
import Derived.Test.YtkopenelppndpaaGreatDoorWardKnownTab
import Derived.Test.YtkopenelppndpaaGreatDoorBaseClone
import Derived.Test.YtkopenelppndpaaGreatDoorGevLc
import Derived.Test.YtkopenelppndpaaGreatDoorGevWI
import Derived.OwnWalkIn
import Derived.KernelRfl
import Derived.OrdersHeld
import Derived.Shelf.Abstract
import Derived.WalkSpells
import Derived.WalkKit
import Derived.Maps.OwnIn
namespace Go.Proofs.YtkopenelppndpaaGreatDoor.base
open Go Go.Gev Go.RowKit Go.Maps Go.Proofs Go.Shelf
namespace Lk
theorem wpOp_callsG {P : Program} {ops : Array Oper} {Q : Exit → Act → World → Prop} {i : Nat} {o : Oper} {K : Act → World → Prop} {a : Act} {w : World} {f : FuncId} {args : Array Value} (hi : ops[i]? = some o) (hg : Region.wanted o (yielded ops a.tmps) = true)
    (hx : (execOp a.eval o).run P w = .ok (.enter f args) w) (hc : Calls P f args w fun x w' => ∃ v, x = .returned v ∧ K (a.put o.dst v) w') : wpOp P ops Q i K a w := by
  unfold wpOp
  simp only [hi, hg, if_true]
  left
  unfold Oper.wp
  rw [hx]
  simp only [Oper.upon]
  refine hc.mono fun x w' hh => ?_
  obtain ⟨v, rfl, h⟩ := hh
  exact h
theorem wpOp_valueG {P : Program} {ops : Array Oper} {Q : Exit → Act → World → Prop} {i : Nat} {o : Oper} {K : Act → World → Prop} {a : Act} {w w' : World} {v : Value} (hi : ops[i]? = some o) (hg : Region.wanted o (yielded ops a.tmps) = true)
    (hx : (execOp a.eval o).run P w = .ok (.value v) w') (h : K (a.put o.dst v) w') : wpOp P ops Q i K a w := by
  unfold wpOp
  simp only [hi, hg, if_true]
  left
  unfold Oper.wp
  rw [hx]
  exact h
theorem wpOp_not {P : Program} {ops : Array Oper} {Q : Exit → Act → World → Prop} {i : Nat} {o : Oper} {K : Act → World → Prop} {a : Act} {w : World} (hi : ops[i]? = some o) (hg : Region.wanted o (yielded ops a.tmps) = false)
    (h : K (a.put o.dst undef) w) : wpOp P ops Q i K a w := by
  unfold wpOp
  simp only [hi, hg]
  exact h
theorem wpAnyH_one {P : Program} {md : Region.Mode} {ops : Array Oper} {Q : Exit → Act → World → Prop} {S : World → Prop} {i : Nat} {fuel : Nat} {listed : Array Bool} {a : Act} {w : World} (hr : Region.ready md ops listed = [i])
    (h : wpOp P ops Q i (fun a' w' => S w' ∧ wpAnyH P md ops Q S fuel (listed.setIfInBounds i true) a' w') a w) : wpAnyH P md ops Q S (fuel + 1) listed a w :=
  wpAnyH_all hr (by simp) fun j hj => by rw [List.mem_singleton.1 hj]; exact h
def rl0 : Oper := { dst := some 74, op := Op.move (Operand.tmp 0), type := 316, pos := "deed.go:218", after := #[], guard := none }
def rl1 : Oper := { dst := some 75, op := Op.nilCheck (Operand.tmp 74), type := 0, pos := "deed.go:218", after := #[{ on := 0, ground := Ground.data }], guard := none }
def rl2 : Oper := { dst := some 76, op := Op.fieldAddr 320 (Operand.tmp 75) 0, type := 0, pos := "deed.go:218", after := #[{ on := 1, ground := Ground.data }], guard := none }
def rl3 : Oper := { dst := some 77, op := Op.load 313 (Operand.tmp 76), type := 313, pos := "deed.go:218", after := #[{ on := 2, ground := Ground.data }], guard := none }
def rl4 : Oper := { dst := some 78, op := Op.move (Operand.tmp 7), type := 3, pos := "deed.go:218", after := #[], guard := none }
def rl5 : Oper := { dst := some 79, op := Op.load 130 (Operand.tmp 9), type := 130, pos := "deed.go:218", after := #[], guard := none }
def rl6 : Oper := { dst := some 80, op := Op.call { callee := Callee.value (Operand.func 296), args := #[Operand.tmp 77, Operand.tmp 78, Operand.tmp 79], argTypes := #[313, 3, 130] }, type := 24, pos := "deed.go:218", after := #[{ on := 3, ground := Ground.data }, { on := 4, ground := Ground.data }, { on := 5, ground := Ground.data }], guard := none }
def rls : Array Oper := #[rl0, rl1, rl2, rl3, rl4, rl5, rl6]
def SL (mb mo eb eo y : Nat) (cs : Array Value) (w : World) : Prop := w.cell? ⟨mb, mo, none⟩ = some (.pointer (some ⟨eb, eo, none⟩)) ∧ w.heap[y]? = some (.cells cs 130 (0, 0))
set_option maxRecDepth 100000 in
set_option maxHeartbeats 4000000 in
theorem regL (y1 y2 y3 y4 y5 y6 y8 y10 y11 y12 y13 y14 y15 y16 y17 y18 y19 y20 y21 y22 y23 y24 y25 y26 y27 y28 y29 y30 y31 y32 y33 y34 y35 y36 y37 y38 y39 y40 y41 y42 y43 y44 y45 y46 y47 y48 y49 y50 y51 y52 y53 y54 y55 y56 y57 y58 y59 y60 y61 y62 y63 y64 y65 y66 y67 y68 y69 y70 y71 y72 y73 y74 y75 y76 y77 y78 y79 y80 : Value) (mb mo eb eo y : Nat) (n : Int) (v0 v1 v2 v3 : Value) (cs : Array Value) (hcs : cs = #[v0, v1, v2, v3]) (w : World) (hS0 : SL mb mo eb eo y cs w) (Q0 : Act → World → Prop)
    (hc : Calls Tryz.prog 296 #[.pointer (some ⟨eb, eo, none⟩), .int .i64 n, .agg cs] w fun x w' => ∃ v, x = .returned v ∧ SL mb mo eb eo y cs w' ∧ Q0 ⟨#[.pointer (some ⟨mb, mo, none⟩), y1, y2, y3, y4, y5, y6, .int .i64 n, y8, .pointer (some ⟨y, 0, none⟩), y10, y11, y12, y13, y14, y15, y16, y17, y18, y19, y20, y21, y22, y23, y24, y25, y26, y27, y28, y29, y30, y31, y32, y33, y34, y35, y36, y37, y38, y39, y40, y41, y42, y43, y44, y45, y46, y47, y48, y49, y50, y51, y52, y53, y54, y55, y56, y57, y58, y59, y60, y61, y62, y63, y64, y65, y66, y67, y68, y69, y70, y71, y72, y73, .pointer (some ⟨mb, mo, none⟩), .pointer (some ⟨mb, mo, none⟩), .pointer (some ⟨mb, mo + 0, none⟩), .pointer (some ⟨eb, eo, none⟩), .int .i64 n, .agg cs, v], []⟩ w') : wpAnyH Tryz.prog .any rls (fun e a w => e = .normal ∧ Q0 a w) (SL mb mo eb eo y cs) 7 (Array.replicate 7 false) ⟨#[.pointer (some ⟨mb, mo, none⟩), y1, y2, y3, y4, y5, y6, .int .i64 n, y8, .pointer (some ⟨y, 0, none⟩), y10, y11, y12, y13, y14, y15, y16, y17, y18, y19, y20, y21, y22, y23, y24, y25, y26, y27, y28, y29, y30, y31, y32, y33, y34, y35, y36, y37, y38, y39, y40, y41, y42, y43, y44, y45, y46, y47, y48, y49, y50, y51, y52, y53, y54, y55, y56, y57, y58, y59, y60, y61, y62, y63, y64, y65, y66, y67, y68, y69, y70, y71, y72, y73, y74, y75, y76, y77, y78, y79, y80], []⟩ w := by
  have kS := enters_of Tryz.func296 (by kernel_rfl) rfl
  have sY := Tryz.sizeOf130
  have gY := Tryz.isAgg130
  have gE := Tryz.isAgg313
  have sE := Tryz.sizeOf313
  refine wpAnyH_take (i := 0) (oi := rl0) (v := .pointer (some ⟨mb, mo, none⟩)) rfl (by kernel_rfl) (by kernel_rfl) (by kernel_rfl) (fun _ _ _ h => by cases h.1) (.inl ⟨rfl, fun w' hS => ?_⟩) hS0 ?_
  · simp [execOp, Act.eval, rl0, go_sem]
  change wpAnyH Tryz.prog .any rls (fun e a w => e = .normal ∧ Q0 a w) (SL mb mo eb eo y cs) _ _ ⟨#[.pointer (some ⟨mb, mo, none⟩), y1, y2, y3, y4, y5, y6, .int .i64 n, y8, .pointer (some ⟨y, 0, none⟩), y10, y11, y12, y13, y14, y15, y16, y17, y18, y19, y20, y21, y22, y23, y24, y25, y26, y27, y28, y29, y30, y31, y32, y33, y34, y35, y36, y37, y38, y39, y40, y41, y42, y43, y44, y45, y46, y47, y48, y49, y50, y51, y52, y53, y54, y55, y56, y57, y58, y59, y60, y61, y62, y63, y64, y65, y66, y67, y68, y69, y70, y71, y72, y73, .pointer (some ⟨mb, mo, none⟩), y75, y76, y77, y78, y79, y80], []⟩ w
  refine wpAnyH_take (i := 1) (oi := rl1) (v := .pointer (some ⟨mb, mo, none⟩)) rfl (by kernel_rfl) (by kernel_rfl) (by kernel_rfl) (fun _ _ _ h => by cases h.1) (.inl ⟨rfl, fun w' hS => ?_⟩) hS0 ?_
  · simp [execOp, Act.eval, rl1, go_sem]
  change wpAnyH Tryz.prog .any rls (fun e a w => e = .normal ∧ Q0 a w) (SL mb mo eb eo y cs) _ _ ⟨#[.pointer (some ⟨mb, mo, none⟩), y1, y2, y3, y4, y5, y6, .int .i64 n, y8, .pointer (some ⟨y, 0, none⟩), y10, y11, y12, y13, y14, y15, y16, y17, y18, y19, y20, y21, y22, y23, y24, y25, y26, y27, y28, y29, y30, y31, y32, y33, y34, y35, y36, y37, y38, y39, y40, y41, y42, y43, y44, y45, y46, y47, y48, y49, y50, y51, y52, y53, y54, y55, y56, y57, y58, y59, y60, y61, y62, y63, y64, y65, y66, y67, y68, y69, y70, y71, y72, y73, .pointer (some ⟨mb, mo, none⟩), .pointer (some ⟨mb, mo, none⟩), y76, y77, y78, y79, y80], []⟩ w
  refine wpAnyH_take (i := 2) (oi := rl2) (v := .pointer (some ⟨mb, mo + 0, none⟩)) rfl (by kernel_rfl) (by kernel_rfl) (by kernel_rfl) (fun _ _ _ h => by cases h.1) (.inl ⟨rfl, fun w' hS => ?_⟩) hS0 ?_
  · simp [execOp, Act.eval, rl2, go_sem]
  change wpAnyH Tryz.prog .any rls (fun e a w => e = .normal ∧ Q0 a w) (SL mb mo eb eo y cs) _ _ ⟨#[.pointer (some ⟨mb, mo, none⟩), y1, y2, y3, y4, y5, y6, .int .i64 n, y8, .pointer (some ⟨y, 0, none⟩), y10, y11, y12, y13, y14, y15, y16, y17, y18, y19, y20, y21, y22, y23, y24, y25, y26, y27, y28, y29, y30, y31, y32, y33, y34, y35, y36, y37, y38, y39, y40, y41, y42, y43, y44, y45, y46, y47, y48, y49, y50, y51, y52, y53, y54, y55, y56, y57, y58, y59, y60, y61, y62, y63, y64, y65, y66, y67, y68, y69, y70, y71, y72, y73, .pointer (some ⟨mb, mo, none⟩), .pointer (some ⟨mb, mo, none⟩), .pointer (some ⟨mb, mo + 0, none⟩), y77, y78, y79, y80], []⟩ w
  refine wpAnyH_take (i := 3) (oi := rl3) (v := .pointer (some ⟨eb, eo, none⟩)) rfl (by kernel_rfl) (by kernel_rfl) (by kernel_rfl) (fun _ _ _ h => by cases h.1) (.inl ⟨rfl, fun w' hS => ?_⟩) hS0 ?_
  · simp [execOp, Act.eval, rl3, go_sem, hS.1, gE, sE]
  change wpAnyH Tryz.prog .any rls (fun e a w => e = .normal ∧ Q0 a w) (SL mb mo eb eo y cs) _ _ ⟨#[.pointer (some ⟨mb, mo, none⟩), y1, y2, y3, y4, y5, y6, .int .i64 n, y8, .pointer (some ⟨y, 0, none⟩), y10, y11, y12, y13, y14, y15, y16, y17, y18, y19, y20, y21, y22, y23, y24, y25, y26, y27, y28, y29, y30, y31, y32, y33, y34, y35, y36, y37, y38, y39, y40, y41, y42, y43, y44, y45, y46, y47, y48, y49, y50, y51, y52, y53, y54, y55, y56, y57, y58, y59, y60, y61, y62, y63, y64, y65, y66, y67, y68, y69, y70, y71, y72, y73, .pointer (some ⟨mb, mo, none⟩), .pointer (some ⟨mb, mo, none⟩), .pointer (some ⟨mb, mo + 0, none⟩), .pointer (some ⟨eb, eo, none⟩), y78, y79, y80], []⟩ w
  refine wpAnyH_take (i := 4) (oi := rl4) (v := .int .i64 n) rfl (by kernel_rfl) (by kernel_rfl) (by kernel_rfl) (fun _ _ _ h => by cases h.1) (.inl ⟨rfl, fun w' hS => ?_⟩) hS0 ?_
  · simp [execOp, Act.eval, rl4, go_sem]
  change wpAnyH Tryz.prog .any rls (fun e a w => e = .normal ∧ Q0 a w) (SL mb mo eb eo y cs) _ _ ⟨#[.pointer (some ⟨mb, mo, none⟩), y1, y2, y3, y4, y5, y6, .int .i64 n, y8, .pointer (some ⟨y, 0, none⟩), y10, y11, y12, y13, y14, y15, y16, y17, y18, y19, y20, y21, y22, y23, y24, y25, y26, y27, y28, y29, y30, y31, y32, y33, y34, y35, y36, y37, y38, y39, y40, y41, y42, y43, y44, y45, y46, y47, y48, y49, y50, y51, y52, y53, y54, y55, y56, y57, y58, y59, y60, y61, y62, y63, y64, y65, y66, y67, y68, y69, y70, y71, y72, y73, .pointer (some ⟨mb, mo, none⟩), .pointer (some ⟨mb, mo, none⟩), .pointer (some ⟨mb, mo + 0, none⟩), .pointer (some ⟨eb, eo, none⟩), .int .i64 n, y79, y80], []⟩ w
  refine wpAnyH_take (i := 5) (oi := rl5) (v := .agg cs) rfl (by kernel_rfl) (by kernel_rfl) (by kernel_rfl) (fun _ _ _ h => by cases h.1) (.inl ⟨rfl, fun w' hS => ?_⟩) hS0 ?_
  · simp [execOp, Act.eval, rl5, go_sem, World.cell?, hS.2, gY, sY, hcs]
  change wpAnyH Tryz.prog .any rls (fun e a w => e = .normal ∧ Q0 a w) (SL mb mo eb eo y cs) _ _ ⟨#[.pointer (some ⟨mb, mo, none⟩), y1, y2, y3, y4, y5, y6, .int .i64 n, y8, .pointer (some ⟨y, 0, none⟩), y10, y11, y12, y13, y14, y15, y16, y17, y18, y19, y20, y21, y22, y23, y24, y25, y26, y27, y28, y29, y30, y31, y32, y33, y34, y35, y36, y37, y38, y39, y40, y41, y42, y43, y44, y45, y46, y47, y48, y49, y50, y51, y52, y53, y54, y55, y56, y57, y58, y59, y60, y61, y62, y63, y64, y65, y66, y67, y68, y69, y70, y71, y72, y73, .pointer (some ⟨mb, mo, none⟩), .pointer (some ⟨mb, mo, none⟩), .pointer (some ⟨mb, mo + 0, none⟩), .pointer (some ⟨eb, eo, none⟩), .int .i64 n, .agg cs, y80], []⟩ w
  refine wpAnyH_one (i := 6) (by kernel_rfl) (wpOp_callsG (o := rl6) (f := 296) (args := #[.pointer (some ⟨eb, eo, none⟩), .int .i64 n, .agg cs]) rfl (by kernel_rfl) (by simp [execOp, Act.eval, rl6, go_sem]) (hc.mono fun x w' hh => ?_))
  obtain ⟨v, rfl, hS', hq⟩ := hh
  refine ⟨_, rfl, hS', ?_⟩
  exact ⟨by kernel_rfl, rfl, hq⟩
theorem dec_snoc (ds : List MapEntry) (e : MapEntry) (sp : MapEntry → LkE) (c : Option Int) : decide (∃ e' ∈ ds ++ [e], c = some (sp e').n) = (decide (∃ e' ∈ ds, c = some (sp e').n) || decide (c = some (sp e).n)) := by
  rw [← Bool.decide_or]
  refine decide_eq_decide.2 ⟨?_, ?_⟩
  · rintro ⟨x, h1, h2⟩
    rcases List.mem_append.1 h1 with h | h
    · exact .inl ⟨x, h, h2⟩
    · rw [List.mem_singleton.1 h] at h2; exact .inr h2
  · rintro (⟨x, h1, h2⟩ | h)
    · exact ⟨x, List.mem_append_left _ h1, h2⟩
    · exact ⟨e, List.mem_append_right _ (List.mem_singleton.2 rfl), h⟩
set_option maxRecDepth 100000 in
set_option maxHeartbeats 4000000 in
theorem links_C : LinksC Tryz.prog 272 56 296 := by
  intro W mb mo eb eo bm es cl sp g0 g1 g2 g3 wa wn wc wb J c cnt hm0 hm3 he0 he1 he2 he3 he4 hb hlt hnb hnk hsz hat hlen hcnt hrng n1 n2 n3 hwb hJ0 hJfar hJfr hstep
  refine (callsIn_wide (n := 0)).1 ?_
  have cell_lt : ∀ {b o : Nat} {x : Value}, W.cell? ⟨b, o, none⟩ = some x → b < W.heap.size := fun {b o x} h => by
    simp only [World.cell?] at h
    split at h
    · rename_i hh
      exact (Array.getElem?_eq_some_iff.1 hh).1
    · cases h
  have hmb := cell_lt hm0
  have heb := cell_lt he0
  have hbm : bm < W.heap.size := (Array.getElem?_eq_some_iff.1 hb).1
  have hmake : ∀ w : World, (Instr.makeMap 224 none).run Tryz.prog w = .ok (.map (some w.heap.size)) (w.alloc (.map #[] 0)) := fun w => by simp [Instr.makeMap]
  have hb1 : (W.alloc (.map #[] 0)).heap[bm]? = some (.map es cl) := by rw [hao _ _ hbm]; exact hb
  have hrange := run_range_map (W.alloc (.map #[] 0)) 317 3 84 bm es cl Tryz.underlying317 hb1
  have hc0 : (W.alloc (.map #[] 0)).cell? ⟨mb, mo + 3, none⟩ = some (.map (some bm)) := (World.cell?_of_block (hao W _ hmb)).trans hm3
  have hz : ∀ w : World, (zeroValue 3).run Tryz.prog w = .ok (.int .i64 0) w := fun w => Tryz.zeroValue3 w
  have hold : ∀ {t : Bool} {w : World} {b o : Nat} {x : Value}, J t w → b ≠ wb → W.cell? ⟨b, o, none⟩ = some x → w.cell? ⟨b, o, none⟩ = some x := fun {t w b o x} j hne h => (World.cell?_of_block ((hJfr t w j).2 b (cell_lt h) hne)).trans h
  refine callsIn_of_wp Tryz.func272 rfl trivial ?_ rfl
  simp only [Tryz.ntmps272, List.size_toArray, List.length_cons, List.length_nil, Nat.reduceAdd, Nat.reduceSub, Array.replicate_succ, Array.replicate_zero, List.push_toArray, List.append_toArray, List.nil_append, List.cons_append]
  gi_wp2
  refine wpIn_loop (fun a w => ∃ (cs : List MapEntry) (x4 x6 x17 x18 x19 x20 x21 x22 x23 x24 x25 x26 x27 x28 x29 x30 x31 x32 x33 : Value), a = ⟨#[.pointer (some ⟨mb, mo, none⟩), undef, .map (some W.heap.size), undef, x4, undef, x6, undef, undef, undef, undef, .map (some W.heap.size), .pointer (some ⟨mb, mo, none⟩), .pointer (some ⟨mb, mo, none⟩), .pointer (some ⟨mb, mo + 3, none⟩), .map (some bm), .pointer (some ⟨W.heap.size + 1, 0, none⟩), x17, x18, x19, x20, x21, x22, x23, x24, x25, x26, x27, x28, x29, x30, x31, x32, x33, undef, undef, undef, undef, undef, undef, undef, undef, undef, undef, undef, undef, undef, undef, undef, undef, undef, undef, undef, undef, undef, undef, undef, undef, undef, undef, undef, undef, undef, undef, undef, undef, undef, undef, undef, undef, undef, undef, undef, undef, undef, undef, undef, undef, undef, undef, undef], []⟩ ∧ LInv Tryz.prog 3 W bm cl es sp cs w)
    (fun _ w => itLeft es.size (W.heap.size + 1) w) ?_ ?_
  · refine ⟨[], _, _, _, _, _, _, _, _, _, _, _, _, _, _, _, _, _, _, _, rfl, ⟨⟨rfl, rfl, rfl, by simp; omega, fun k hk => ?_⟩, ?_, ?_, ⟨es.toList, List.Perm.refl _⟩⟩⟩
    · rw [hao _ _ (by simp; omega), hao _ _ hk]
    · exact (CntAt.made W Tryz.prog 3).same (hao _ _ (by simp))
    · rw [← show (W.alloc (.map #[] 0)).heap.size = W.heap.size + 1 by simp]; exact heap_alloc_new _ _
  · rintro a w ⟨cs, x4, x6, x17, x18, x19, x20, x21, x22, x23, x24, x25, x26, x27, x28, x29, x30, x31, x32, x33, rfl, I⟩
    have hbw : w.heap[bm]? = some (.map es cl) := (I.below.block bm hbm).trans hb
    rcases next_step (P := Tryz.prog) I.it hbw (by omega) hlt hnb 0 with ⟨hl, hn⟩ | ⟨e, hee, hnin, w2, hn, hit2, hfar, hsz2, hbel, hent⟩
    · have hcw : w.cell? ⟨mb, mo + 3, none⟩ = some (.map (some bm)) := (World.cell?_of_block (I.below.block mb hmb)).trans hm3
      have hrange2 := run_range_map w 317 3 84 bm es cl Tryz.underlying317 hbw
      gi_wp2
      have hperm := left_none I.rest hnb hl
      have hcntE : CntAt w Tryz.prog 3 W.heap.size (lkLen (cs.map sp)) cnt := I.cnt.congr fun k => by rw [hcnt k]; exact lkCnt_end sp hperm k
      have hits : W.heap.size + 1 < w.heap.size := (Array.getElem?_eq_some_iff.1 I.it).1
      generalize hN : lkLen (cs.map sp) = N at hcntE
      obtain ⟨rb, hrb⟩ : ∃ rb, rb = w.heap.size := ⟨_, rfl⟩
      have hit0 : (w.alloc (.mapIter (some bm) cl #[] cl)).heap[rb]? = some (.mapIter (some bm) cl #[] cl) := by rw [hrb]; exact heap_alloc_new _ _
      have hcnt0 : CntAt (w.alloc (.mapIter (some bm) cl #[] cl)) Tryz.prog 3 W.heap.size N cnt := hcntE.same (hao _ _ (by omega))
      have hJ1 : J false (w.alloc (.mapIter (some bm) cl #[] cl)) := hJfar false W _ hJ0 (I.below.alloc I.below.size _)
      rw [← hrb] at hits ⊢
      generalize w.alloc (.mapIter (some bm) cl #[] cl) = w0 at hit0 hcnt0 hJ1 ⊢
      clear hcnt hcntE hN hperm hrange2 hcw hrb hl hn hbw I
      refine wpIn_loop (fun a w => ∃ (ds : List MapEntry) (y7 y8 y9 y10 y39 y40 y41 y42 y43 y44 y45 y46 y47 y48 y49 y50 y51 y52 y53 y54 y55 y56 y57 y58 y59 y60 y61 y62 y63 y64 y65 y66 y67 y68 y69 y70 y71 y72 y73 y74 y75 y76 y77 y78 y79 y80 : Value), a = ⟨#[.pointer (some ⟨mb, mo, none⟩), undef, .map (some W.heap.size), undef, x4, undef, x6, y7, y8, y9, y10, .map (some W.heap.size), .pointer (some ⟨mb, mo, none⟩), .pointer (some ⟨mb, mo, none⟩), .pointer (some ⟨mb, mo + 3, none⟩), .map (some bm), .pointer (some ⟨W.heap.size + 1, 0, none⟩), .tuple #[.bool false], .bool false, x19, x20, x21, x22, x23, x24, x25, x26, x27, x28, x29, x30, x31, x32, x33, .pointer (some ⟨mb, mo, none⟩), .pointer (some ⟨mb, mo, none⟩), .pointer (some ⟨mb, mo + 3, none⟩), .map (some bm), .pointer (some ⟨rb, 0, none⟩), y39, y40, y41, y42, y43, y44, y45, y46, y47, y48, y49, y50, y51, y52, y53, y54, y55, y56, y57, y58, y59, y60, y61, y62, y63, y64, y65, y66, y67, y68, y69, y70, y71, y72, y73, y74, y75, y76, y77, y78, y79, y80], []⟩ ∧ LInv2 Tryz.prog 3 W J bm cl es sp cnt c rb N ds w)
        (fun _ w => itLeft es.size rb w) ?_ ?_
      · exact ⟨[], _, _, _, _, _, _, _, _, _, _, _, _, _, _, _, _, _, _, _, _, _, _, _, _, _, _, _, _, _, _, _, _, _, _, _, _, _, _, _, _, _, _, _, _, _, _, rfl, by simpa using hJ1, hcnt0, hit0, ⟨es.toList, List.Perm.refl _⟩, by omega⟩
      · rintro a w ⟨ds, y7, y8, y9, y10, y39, y40, y41, y42, y43, y44, y45, y46, y47, y48, y49, y50, y51, y52, y53, y54, y55, y56, y57, y58, y59, y60, y61, y62, y63, y64, y65, y66, y67, y68, y69, y70, y71, y72, y73, y74, y75, y76, y77, y78, y79, y80, rfl, I⟩
        obtain ⟨hf1, hf2⟩ := hJfr _ _ I.j
        have hbw : w.heap[bm]? = some (.map es cl) := (hf2 bm hbm n3).trans hb
        rcases next_step (P := Tryz.prog) I.it hbw (by omega) hlt hnb 0 with ⟨hl, hn⟩ | ⟨e, hee, hnin, w2, hn, hit2, hfar, hsz2, hbel, hent⟩
        · gi_wp2
          go_end0
          refine ⟨rfl, ?_⟩
          have hp := left_none I.rest hnb hl
          have hd : decide (∃ e ∈ es.toList, c = some (sp e).n) = decide (∃ e ∈ ds, c = some (sp e).n) := by
            refine decide_eq_decide.2 ⟨fun ⟨e, h1, h2⟩ => ⟨e, hp.symm.subset h1, h2⟩, fun ⟨e, h1, h2⟩ => ⟨e, hp.subset h1, h2⟩⟩
          rw [hd]; exact I.j
        · obtain ⟨hkey, nd, da, dn, dc, nm, hval, hnm⟩ := hat e hee
          obtain ⟨na, nc, rfl⟩ : ∃ na nc, nm = .slice na (sp e).ks.length nc := by
            rcases hnm with ⟨h1, rfl⟩ | ⟨_, _, _, rfl, _⟩
            · exact ⟨_, _, by rw [h1]; rfl⟩
            · exact ⟨_, _, rfl⟩
          have hrest := left_next I.rest hee hnin
          have JA : J _ (w2.alloc (.cells #[.int .i64 nd, .int .i64 (sp e).ty, .slice da dn dc, .slice na (sp e).ks.length nc] 84)) := hJfar _ _ _ I.j ((hbel _ (by omega)).alloc (by omega) _)
          have hA0 := hold JA n1 hm0
          have hA1 := hold JA n2 he0
          have hA2 := hold JA n2 he1
          have hA3 := hold JA n2 he2
          have hA4 := hold JA n2 he3
          have hA5 := hold JA n2 he4
          have hfree : c = some (sp e).n → decide (∃ e' ∈ ds, c = some (sp e').n) = false := fun hc => by
            refine decide_eq_false fun ⟨e', h1, h2⟩ => hnin ?_
            rw [hc] at h2
            injection h2 with h2
            have he' : e' ∈ es.toList := by obtain ⟨l, hp⟩ := I.rest; exact hp.subset (List.mem_append_left _ h1)
            have hk' : e'.key = e.key := by rw [(hat e' he').1, hkey, h2]
            have : e' = e := nodup_inj hnk e' he' e hee hk'
            rw [← this]; exact List.mem_map_of_mem h1
          have hcall := hstep e hee _ _ JA hfree
          have hrs : rb < w.heap.size := (Array.getElem?_eq_some_iff.1 I.it).1
          gi_wp2
          refine ⟨trivial, rfl, (callsIn_wide.2 hcall).mono ?_⟩
          rintro x w1 ⟨hb1, ty, lk, sz, ra, rn, rc, ok, rfl, hno, hyes⟩
          have hs1 : w.heap.size < w1.heap.size := by have := hb1.size; simp at this; omega
          have hk1 : ∀ k, k < w2.heap.size → w1.heap[k]? = w2.heap[k]? := fun k hk => (hb1.block k (by simp; omega)).trans (hao _ _ hk)
          have hp1 : w1.heap[w.heap.size]? = some (.cells #[.int .i64 nd, .int .i64 (sp e).ty, .slice da dn dc, .slice na (sp e).ks.length nc] 84 (0, 0)) := by
            rw [hb1.block _ (by simp; omega), ← hsz2]; exact heap_alloc_new _ _
          have hcn1 : CntAt w1 Tryz.prog 3 W.heap.size N cnt := I.cnt.same (by rw [hk1 _ (by omega), hfar _ (by omega)])
          have hit1 : w1.heap[rb]? = some (.mapIter (some bm) cl ((ds ++ [e]).map (·.born)).toArray cl) := by rw [hk1 _ (by omega), hit2]; simp
          obtain ⟨hr1, hr2⟩ := hrng e hee
          have hY1 : (w1.alloc (.cells #[.int .i64 ty, .int .i64 lk, .int .i64 sz, .slice ra rn rc] 130)).cell? ⟨w.heap.size, 1, none⟩ = some (.int .i64 (sp e).ty) := by
            rw [World.cell?_of_block (w := w1) (hao w1 _ hs1)]; simp only [World.cell?, hp1]; rfl
          have hY0 : w1.cell? ⟨w.heap.size, 1, none⟩ = some (.int .i64 (sp e).ty) := by simp only [World.cell?, hp1]; rfl
          have hlk : (Instr.lookup 224 (.map (some W.heap.size)) (.int .i64 (sp e).n) false).run Tryz.prog (w1.alloc (.cells #[.int .i64 ty, .int .i64 lk, .int .i64 sz, .slice ra rn rc] 130)) = .ok (.int .i64 (cnt (sp e).n : Int)) (w1.alloc (.cells #[.int .i64 ty, .int .i64 lk, .int .i64 sz, .slice ra rn rc] 130)) :=
            (hcn1.same (hao _ _ (by omega))).look Tryz.underlying224 Tryz.underlying3 hz hr1 hr2
          by_cases hcond : ok = true ∧ (sp e).ty ≠ 2 ∧ lk ≠ (cnt (sp e).n : Int)
          · obtain ⟨rfl, hc2, hc3⟩ := hcond
            have hw1s : (w2.alloc (.cells #[.int .i64 nd, .int .i64 (sp e).ty, .slice da dn dc, .slice na (sp e).ks.length nc] 84)).heap.size ≤ w1.heap.size := hb1.size
            have hyes' := hyes ⟨rfl, hc2, hc3⟩
            have hmbw : mb < w1.heap.size := Nat.lt_of_lt_of_le hmb (Nat.le_trans hf1 (Nat.le_of_lt hs1))
            clear hyes hno
            have hB0 : (w1.alloc (.cells #[.int .i64 ty, .int .i64 (cnt (sp e).n : Int), .int .i64 sz, .slice ra rn rc] 130)).cell? ⟨mb, mo, none⟩ = some (.pointer (some ⟨eb, eo, none⟩)) :=
              (World.cell?_of_block (hao w1 _ hmbw)).trans ((World.cell?_of_block (hb1.block mb (by simp; omega))).trans hA0)
            gi_wp2
            · have hXo : ∀ k, k < w1.heap.size → ({ w1.alloc (.cells #[.int .i64 ty, .int .i64 (cnt (sp e).n : Int), .int .i64 sz, .slice ra rn rc] 130) with drawn := (w1.alloc (.cells #[.int .i64 ty, .int .i64 (cnt (sp e).n : Int), .int .i64 sz, .slice ra rn rc] 130)).drawn + 1 } : World).heap[k]? = w1.heap[k]? := fun k hk => hao w1 _ hk
              have hXn : ({ w1.alloc (.cells #[.int .i64 ty, .int .i64 (cnt (sp e).n : Int), .int .i64 sz, .slice ra rn rc] 130) with drawn := (w1.alloc (.cells #[.int .i64 ty, .int .i64 (cnt (sp e).n : Int), .int .i64 sz, .slice ra rn rc] 130)).drawn + 1 } : World).heap[w1.heap.size]? = some (.cells #[.int .i64 ty, .int .i64 (cnt (sp e).n : Int), .int .i64 sz, .slice ra rn rc] 130 (0, 0)) := heap_alloc_new w1 _
              have hXs : ({ w1.alloc (.cells #[.int .i64 ty, .int .i64 (cnt (sp e).n : Int), .int .i64 sz, .slice ra rn rc] 130) with drawn := (w1.alloc (.cells #[.int .i64 ty, .int .i64 (cnt (sp e).n : Int), .int .i64 sz, .slice ra rn rc] 130)).drawn + 1 } : World).heap.size = w1.heap.size + 1 := by simp
              have hcall := hyes' { w1.alloc (.cells #[.int .i64 ty, .int .i64 (cnt (sp e).n : Int), .int .i64 sz, .slice ra rn rc] 130) with drawn := (w1.alloc (.cells #[.int .i64 ty, .int .i64 (cnt (sp e).n : Int), .int .i64 sz, .slice ra rn rc] 130)).drawn + 1 } ((Below.refl _ _).alloc (Nat.le_refl _) _).drew
              refine wpIn_mono (wpIn_region_any (by kernel_rfl) (anyIn (ro := none) (fun ⟨a1, w1, hc⟩ => by cases hc.1) (.inl rfl) _ _ _ _ (wpAny_of_held _ _ _ _ (regL _ _ _ _ _ _ _ _ _ _ _ _ _ _ _ _ _ _ _ _ _ _ _ _ _ _ _ _ _ _ _ _ _ _ _ _ _ _ _ _ _ _ _ _ _ _ _ _ _ _ _ _ _ _ _ _ _ _ _ _ _ _ _ _ _ _ _ _ _ _ _ _ _ _ _ _ _ _ mb mo eb eo w1.heap.size (sp e).n _ _ _ _ _ rfl { w1.alloc (.cells #[.int .i64 ty, .int .i64 (cnt (sp e).n : Int), .int .i64 sz, .slice ra rn rc] 130) with drawn := (w1.alloc (.cells #[.int .i64 ty, .int .i64 (cnt (sp e).n : Int), .int .i64 sz, .slice ra rn rc] 130)).drawn + 1 } ⟨hB0, hXn⟩
                (fun a' w' => (∃ (y7 y8 y9 y10 y39 y40 y41 y42 y43 y44 y45 y46 y47 y48 y49 y50 y51 y52 y53 y54 y55 y56 y57 y58 y59 y60 y61 y62 y63 y64 y65 y66 y67 y68 y69 y70 y71 y72 y73 y74 y75 y76 y77 y78 y79 y80 : Value), a' = ⟨#[.pointer (some ⟨mb, mo, none⟩), undef, .map (some W.heap.size), undef, x4, undef, x6, y7, y8, y9, y10, .map (some W.heap.size), .pointer (some ⟨mb, mo, none⟩), .pointer (some ⟨mb, mo, none⟩), .pointer (some ⟨mb, mo + 3, none⟩), .map (some bm), .pointer (some ⟨W.heap.size + 1, 0, none⟩), .tuple #[.bool false], .bool false, x19, x20, x21, x22, x23, x24, x25, x26, x27, x28, x29, x30, x31, x32, x33, .pointer (some ⟨mb, mo, none⟩), .pointer (some ⟨mb, mo, none⟩), .pointer (some ⟨mb, mo + 3, none⟩), .map (some bm), .pointer (some ⟨rb, 0, none⟩), y39, y40, y41, y42, y43, y44, y45, y46, y47, y48, y49, y50, y51, y52, y53, y54, y55, y56, y57, y58, y59, y60, y61, y62, y63, y64, y65, y66, y67, y68, y69, y70, y71, y72, y73, y74, y75, y76, y77, y78, y79, y80], []⟩) ∧ J (decide (∃ e' ∈ ds ++ [e], c = some (sp e').n)) w' ∧ CntAt w' Tryz.prog 3 W.heap.size N cnt ∧ w'.heap[rb]? = some (.mapIter (some bm) cl ((ds ++ [e]).map (·.born)).toArray cl))
                (hcall.mono fun x w5 hx => ?_))))) ?_
              · obtain ⟨⟨v, rfl⟩, hJ5, hk5, hs5⟩ := hx
                have hk5' : ∀ k, k < w.heap.size → k ≠ wb → w5.heap[k]? = w1.heap[k]? := fun k hk hkw => (hk5 k (.inl (by simp; omega)) (by simp; omega) hkw).trans (hXo k (by omega))
                refine ⟨v, rfl, ⟨?_, ?_⟩, ⟨_, _, _, _, _, _, _, _, _, _, _, _, _, _, _, _, _, _, _, _, _, _, _, _, _, _, _, _, _, _, _, _, _, _, _, _, _, _, _, _, _, _, _, _, _, _, rfl⟩, ?_, ?_, ?_⟩
                · exact (World.cell?_of_block (hk5' mb (by omega) n1)).trans ((World.cell?_of_block (hb1.block mb (by simp; omega))).trans hA0)
                · rw [hk5 w1.heap.size (.inr (Nat.le_refl _)) (by rw [hXs]; omega) (by omega)]; exact hXn
                · rw [dec_snoc]; exact hJ5
                · exact hcn1.same (hk5' _ (by omega) (by omega))
                · rw [hk5' rb (by omega) (by omega), hit1]
              · rintro _ a' w5 ⟨rfl, ⟨y7, y8, y9, y10, y39, y40, y41, y42, y43, y44, y45, y46, y47, y48, y49, y50, y51, y52, y53, y54, y55, y56, y57, y58, y59, y60, y61, y62, y63, y64, y65, y66, y67, y68, y69, y70, y71, y72, y73, y74, y75, y76, y77, y78, y79, y80, rfl⟩, hJ5, hcn5, hit5⟩
                gi_wp2
                refine ⟨⟨ds ++ [e], ⟨hJ5, hcn5, hit5, hrest, I.lt⟩⟩, ?_⟩
                rw [itLeft_eq hit5, itLeft_eq I.it]
                have := left_len hrest
                simp at this ⊢
                omega
            · rename_i hcc
              exfalso
              rcases hcc with hcc | hcc <;> simp at hcc <;> contradiction
          · have hJ1 := hno hcond
            have hend : ∀ cs : Array Value, J (decide (∃ e' ∈ ds ++ [e], c = some (sp e').n)) (w1.alloc (.cells cs 130)) := fun cs => by
              rw [dec_snoc]
              exact hJfar _ _ _ hJ1 ((Below.refl _ _).alloc (by omega) _)
            have hit5 : ∀ cs : Array Value, (w1.alloc (.cells cs 130)).heap[rb]? = some (.mapIter (some bm) cl ((ds ++ [e]).map (·.born)).toArray cl) := fun cs => (hao _ _ (by omega)).trans hit1
            have hms : ∀ cs : Array Value, itLeft es.size rb (w1.alloc (.cells cs 130)) < itLeft es.size rb w := fun cs => by
              rw [itLeft_eq (hit5 cs), itLeft_eq I.it]
              have := left_len hrest
              simp at this ⊢
              omega
            cases ok with
            | false =>
              gi_wp2
              exact ⟨⟨ds ++ [e], _, _, _, _, _, _, _, _, _, _, _, _, _, _, _, _, _, _, _, _, _, _, _, _, _, _, _, _, _, _, _, _, _, _, _, _, _, _, _, _, _, _, _, _, _, _, rfl, ⟨hend _, hcn1.same (hao _ _ (by omega)), hit5 _, hrest, I.lt⟩⟩, hms _⟩
            | true =>
              by_cases hc2 : (sp e).ty = 2
              · gi_wp2
                exact ⟨⟨ds ++ [e], _, _, _, _, _, _, _, _, _, _, _, _, _, _, _, _, _, _, _, _, _, _, _, _, _, _, _, _, _, _, _, _, _, _, _, _, _, _, _, _, _, _, _, _, _, _, rfl, ⟨hend _, hcn1.same (hao _ _ (by omega)), hit5 _, hrest, I.lt⟩⟩, hms _⟩
              · obtain rfl : lk = (cnt (sp e).n : Int) := Classical.byContradiction fun h => hcond ⟨rfl, hc2, h⟩
                gi_wp2
                exact ⟨⟨ds ++ [e], _, _, _, _, _, _, _, _, _, _, _, _, _, _, _, _, _, _, _, _, _, _, _, _, _, _, _, _, _, _, _, _, _, _, _, _, _, _, _, _, _, _, _, _, _, _, rfl, ⟨hend _, hcn1.same (hao _ _ (by omega)), hit5 _, hrest, I.lt⟩⟩, hms _⟩
    · have hbel2 : Below W.heap.size W w2 := I.below.trans (hbel _ (by omega))
      have hrest := left_next I.rest hee hnin
      obtain ⟨hkey, nd, da, dn, dc, nm, hval, hnm⟩ := hat e hee
      obtain ⟨na, nc, rfl⟩ : ∃ na nc, nm = .slice na (sp e).ks.length nc := by
        rcases hnm with ⟨h1, rfl⟩ | ⟨_, _, _, rfl, _⟩
        · exact ⟨_, _, by rw [h1]; rfl⟩
        · exact ⟨_, _, rfl⟩
      gi_wp2
      refine wpIn_loop (fun a w' => ∃ (j : Nat) (x6 x25 x26 x27 x28 x29 x30 x31 x32 x33 : Value), a = ⟨#[.pointer (some ⟨mb, mo, none⟩), undef, .map (some W.heap.size), undef, .pointer (some ⟨w.heap.size, 0, none⟩), undef, x6, undef, undef, undef, undef, .map (some W.heap.size), .pointer (some ⟨mb, mo, none⟩), .pointer (some ⟨mb, mo, none⟩), .pointer (some ⟨mb, mo + 3, none⟩), .map (some bm), .pointer (some ⟨W.heap.size + 1, 0, none⟩), .tuple #[.bool true, .int .i64 (sp e).n, .agg #[.int .i64 nd, .int .i64 (sp e).ty, .slice da dn dc, .slice na (sp e).ks.length nc]], .bool true, .tuple #[.int .i64 (sp e).n, .agg #[.int .i64 nd, .int .i64 (sp e).ty, .slice da dn dc, .slice na (sp e).ks.length nc]], .agg #[.int .i64 nd, .int .i64 (sp e).ty, .slice da dn dc, .slice na (sp e).ks.length nc], .pointer (some ⟨w.heap.size, 3, none⟩), .slice na (sp e).ks.length nc, .int .i64 ((sp e).ks.length : Int), .int .i64 (j : Int), x25, x26, x27, x28, x29, x30, x31, x32, x33, undef, undef, undef, undef, undef, undef, undef, undef, undef, undef, undef, undef, undef, undef, undef, undef, undef, undef, undef, undef, undef, undef, undef, undef, undef, undef, undef, undef, undef, undef, undef, undef, undef, undef, undef, undef, undef, undef, undef, undef, undef, undef, undef, undef, undef, undef, undef], []⟩ ∧ LIn Tryz.prog 3 W (fun k => lkCnt k (cs.map sp)) (lkLen (cs.map sp)) (sp e).ks w2.heap[W.heap.size + 1]? j w')
        (fun a _ => ixLeft (sp e).ks.length 24 a) ?_ ?_
      · refine ⟨0, _, _, _, _, _, _, _, _, _, _, rfl, ⟨Nat.zero_le _, hbel2.alloc hbel2.size _, (I.cnt.same ?_).mono (Nat.le_refl _), ?_⟩⟩
        · rw [hao _ _ (by rw [hsz2]; exact I.cnt.lt)]; exact hfar _ (by omega)
        · exact hao _ _ (Array.getElem?_eq_some_iff.1 hit2).1
      · rintro a w3 ⟨j, x6, x25, x26, x27, x28, x29, x30, x31, x32, x33, rfl, L⟩
        have hjle := L.le
        by_cases hj : j < (sp e).ks.length
        · obtain ⟨k, hk⟩ : ∃ k, (sp e).ks[j]? = some k := ⟨_, List.getElem?_eq_getElem hj⟩
          rcases hnm with ⟨h1, _⟩ | ⟨nb, no, nc', h1, hnb', hcells⟩
          · rw [h1] at hj; simp at hj
          injection h1 with h1 _ h3
          subst h1 h3
          obtain ⟨s, hc1, hc2, hk1, hk2⟩ := hcells j k hk
          have hc1 : w3.cell? ⟨nb, no + 2 * j, none⟩ = some (.string s) := (World.cell?_of_block (L.below.block nb hnb')).trans hc1
          have hc2 : w3.cell? ⟨nb, no + 2 * j + 1, none⟩ = some (.int .i64 k) := (World.cell?_of_block (L.below.block nb hnb')).trans hc2
          have hjI : (j : Int) < ((sp e).ks.length : Int) := by omega
          rw [Nat.mul_comm] at hc1 hc2
          obtain ⟨D, hD, hDm, hDf⟩ := L.cnt
          have hN : lkLen (cs.map sp) + (sp e).ks.length ≤ 1000000 := Nat.le_trans (lkLen_part sp hrest) hlen
          have hA : lkCnt k (cs.map sp) + cntI k ((sp e).ks.take j) ≤ 1000000 := by
            have h1 := lkCnt_le k (cs.map sp)
            have h2 := cntI_le k ((sp e).ks.take j)
            rw [List.length_take] at h2
            omega
          gi_wp2_with (first
            | (refine wpListIn_lookup_own_int _ rfl _ _ 224 rfl 3 3 .i64 (int_keyed Tryz.underlying3) Tryz.underlying224 Tryz.underlying3 (hz _) W.heap.size _ D rfl (hD.alloc _) _ _ rfl (keyOf_int_mk Tryz.underlying3 (wf_i64 hk1 hk2)) ?_; intro v hv hvw; obtain rfl := Lit.int.inj (DataW.lit.inj ((hDf k).symm.trans hv)) |>.2)
            | (refine wpListIn_mapUpdate_own _ rfl _ _ _ 224 rfl 3 3 (int_keyed Tryz.underlying3) Tryz.underlying224 _ W.heap.size _ D rfl (hD.alloc _) (by unfold maxLen; omega) (.int .i64 k) (.int .i64 (((lkCnt k (cs.map sp) : Nat) : Int) + ((cntI k ((sp e).ks.take j) : Nat) : Int) + 1)) _ rfl rfl (keyOf_int_mk Tryz.underlying3 (wf_i64 hk1 hk2)) _ _ (plainElem_int Tryz.underlying3 (a := ((lkCnt k (cs.map sp) : Nat) : Int) + ((cntI k ((sp e).ks.take j) : Nat) : Int) + 1) (wf_i64 (by omega) (by omega))) ?_; intro w4 hD4 hg4))
          have hbel3 := L.below.alloc L.below.size (.cells #[.string s, .int .i64 k] 90)
          have hsz3 := L.below.size
          have hcb := L.cnt.lt
          have hit3 : w3.heap[W.heap.size + 1]? = _ := L.it.trans hit2
          have hit3s : W.heap.size + 1 < w3.heap.size := (Array.getElem?_eq_some_iff.1 hit3).1
          refine ⟨⟨j + 1, by simp, ⟨by omega, hbel3.grown hg4 (by simp; omega) (fun k e => by injection e with e; omega), ((CntAt.put hD4 hDm hDf (u := lkCnt k (cs.map sp) + cntI k ((sp e).ks.take j) + 1) (by simp)).mono (by omega)).congr fun k' => ?_, ?_⟩⟩, ?_⟩
          · rw [take_next hk, cntI_snoc]
            by_cases hk' : k' = k
            · subst hk'; simp; omega
            · have hk2' : ¬ k = k' := fun q => hk' q.symm
              simp [hk', hk2']
          · rw [hg4.block _ (by simp; omega) (by simp), hao _ _ hit3s]; exact hit3
          · show (((sp e).ks.length : Int) - ((j : Int) + 1)).toNat < (((sp e).ks.length : Int) - (j : Int)).toNat
            omega
        · obtain rfl : j = (sp e).ks.length := by omega
          gi_wp2
          have hit3 : w3.heap[W.heap.size + 1]? = some (.mapIter (some bm) cl ((cs ++ [e]).map (·.born)).toArray cl) := by rw [L.it, hit2]; simp
          refine ⟨⟨cs ++ [e], _, _, _, _, _, _, _, _, _, _, _, _, _, _, _, _, _, _, _, rfl, ⟨L.below, (L.cnt.mono (by rw [List.map_append, lkLen_append]; exact Nat.le_refl _)).congr fun k => ?_, hit3, hrest⟩⟩, ?_⟩
          · rw [List.take_length, List.map_append]
            exact (lkCnt_snoc k (sp e) (cs.map sp)).symm
          · rw [itLeft_eq hit3, itLeft_eq I.it]
            have := left_len hrest
            simp at this ⊢
            omega
end Lk
noncomputable def runL (f : Nat) (a : List Value) (h : Hs) : An := runK (tabF (tabOf Tryz.prog 1000000 wardKnown.entries) sumsC) 1000 f a h
theorem runL_ok (f : Nat) : RunsOk Tryz.prog f (runL f) := runs_ok follows named (tabOf_ok wardKnown.entries_ok) sumsC_ok 1000 f
theorem links_ok : SumOk Tryz.prog 272 (linksG (runL 56) (runL 296)) := links_sum (by kernel_rfl) (runL_ok 56) (runL_ok 296) Lk.links_C
noncomputable def sumsL : List (Nat × SmK) := (272, linksG (runL 56) (runL 296)) :: sumsC
theorem sumsL_ok : SumsOk Tryz.prog sumsL := ⟨links_ok, sumsC_ok⟩
end Go.Proofs.YtkopenelppndpaaGreatDoor.base
