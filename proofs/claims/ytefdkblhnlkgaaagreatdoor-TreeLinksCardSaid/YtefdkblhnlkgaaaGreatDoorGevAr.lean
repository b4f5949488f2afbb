/- Arguments that came in: rows of pairs of numbers. -/
import Derived.Test.YtefdkblhnlkgaaaGreatDoorGevSy2
import Derived.ChangeSlices
import Derived.ChangeSame
import Derived.OpenShut
namespace Go.Gev
open Go.ChangeShapes

/-- the cells of pairs, one behind the other -/
def cellsP : List (Int × Int) → List Value
  | [] => []
  | x :: xs => .int .i64 x.1 :: .int .i64 x.2 :: cellsP xs
theorem cellsP_get : ∀ (L : List (Int × Int)) (i : Nat), (cellsP L)[i * 2]? = (L[i]?).map (fun x => .int .i64 x.1) ∧ (cellsP L)[i * 2 + 1]? = (L[i]?).map (fun x => .int .i64 x.2) := by
  intro L
  induction L with
  | nil => intro i; simp [cellsP]
  | cons x L ih =>
    intro i
    cases i with
    | zero => simp [cellsP]
    | succ i =>
      obtain ⟨h1, h2⟩ := ih i
      have e1 : (i + 1) * 2 = i * 2 + 1 + 1 := by omega
      rw [e1]
      simp only [cellsP, List.getElem?_cons_succ]
      exact ⟨h1, h2⟩
theorem cellsP_len : ∀ L : List (Int × Int), (cellsP L).length = L.length * 2 := by
  intro L
  induction L with
  | nil => rfl
  | cons x L ih => rw [cellsP, List.length_cons, List.length_cons, List.length_cons, ih]; omega

theorem add_one (a : Addr) (i : Nat) : (a.add i).add 1 = a.add (i + 1) := by
  by_cases h : i = 0
  · subst h; simp [Addr.add]
  · simp [Addr.add, h, Nat.add_assoc]
section
variable {H : Type} {enc : TypeId × Value → H} {P : Program} {w : World} {base : Nat} {spare : Nat → Bool} {held : Bool}
/-- a slice of structs of two numbers each -/
theorem open_pairs {t e : TypeId} {f0 f1 : Field} {fuel : Nat} {cs : List Value} {x : DataW H × List MemPlace} (ht : P.underlying t = some (.slice e)) (he : P.underlying e = some (.struct #[f0, f1]))
    (h0 : P.underlying f0.type = some (.int .i64)) (h1 : P.underlying f1.type = some (.int .i64)) (ce : P.cellsOf e = 2) (o0 : f0.offset = 0) (c0 : P.cellsOf f0.type = 1) (o1 : f1.offset = 1) (c1 : P.cellsOf f1.type = 1)
    (h : DataW.trod enc P w base spare held fuel t cs = some x) :
    cs = [.slice none 0 0] ∨ ∃ (a : Addr) (cap : Nat) (L : List (Int × Int)), cs = [.slice (some a) L.length cap] ∧ L.length ≤ cap ∧ cap ≤ maxLen ∧
      ∀ i f l, L[i]? = some (f, l) → w.cell? (a.add (i * 2)) = some (.int .i64 f) ∧ w.cell? (a.add (i * 2 + 1)) = some (.int .i64 l) := by
  rcases DataW.trod_slice ht h with hq | ⟨a, len, cap, elems, rest, n, _, rfl, _, _, hl, hm, hlen, hel, _, _⟩
  · exact .inl hq.1
  right
  have each : ∀ i, i < len → ∃ f l, w.cell? (a.add (i * 2)) = some (.int .i64 f) ∧ w.cell? (a.add (i * 2 + 1)) = some (.int .i64 l) := fun i hi => by
    have hb := hel i hi
    rw [List.getElem?_eq_getElem (by omega), Option.bind_eq_some_iff] at hb
    obtain ⟨cs', hcs, hy⟩ := hb
    obtain ⟨y0, y1, n2, _, hcl, p0, p1⟩ := trod_struct2 he hy
    rw [ce] at hcs hcl
    obtain ⟨_, _, hcell⟩ := World.cells?_some hcs
    rw [o0, c0] at p0
    rw [o1, c1] at p1
    obtain ⟨f, q0, _, _⟩ := DataW.trod_int h0 p0
    obtain ⟨l, q1, _, _⟩ := DataW.trod_int h1 p1
    match cs', hcl, q0, q1, hcell with
    | [u0, u1], _, q0, q1, hcell =>
      simp at q0 q1
      subst q0 q1
      refine ⟨f, l, ?_, ?_⟩
      · have := hcell 0 (by omega)
        rw [show (a.add (i * 2)).add 0 = a.add (i * 2) by simp [Addr.add]] at this
        simpa using this
      · have := hcell 1 (by omega)
        rw [add_one] at this
        simpa using this
  have mk : ∀ m, m ≤ len → ∃ L : List (Int × Int), L.length = m ∧ ∀ i f l, L[i]? = some (f, l) → w.cell? (a.add (i * 2)) = some (.int .i64 f) ∧ w.cell? (a.add (i * 2 + 1)) = some (.int .i64 l) := by
    intro m
    induction m with
    | zero => intro _; exact ⟨[], rfl, fun i f l hi => by simp at hi⟩
    | succ m ih =>
      intro hm
      obtain ⟨L, hL, hall⟩ := ih (by omega)
      obtain ⟨f, l, p⟩ := each m (by omega)
      refine ⟨L ++ [(f, l)], by rw [List.length_append, hL]; rfl, fun i f' l' hi => ?_⟩
      rcases Nat.lt_or_ge i L.length with q | q
      · rw [List.getElem?_append_left q] at hi; exact hall i f' l' hi
      · rw [List.getElem?_append_right q] at hi
        have : i = m := by
          rcases Nat.lt_or_ge (i - L.length) 1 with r | r
          · omega
          · rw [List.getElem?_eq_none (by simpa using r)] at hi; cases hi
        subst this
        rw [show i - L.length = 0 by omega] at hi
        simp only [List.getElem?_cons_zero, Option.some.injEq, Prod.mk.injEq] at hi
        obtain ⟨rfl, rfl⟩ := hi
        exact p
  obtain ⟨L, hL, hall⟩ := mk len (Nat.le_refl _)
  exact ⟨a, cap, L, by rw [hL], by omega, hm, hall⟩
end

/-- the memory that the evaluator begins with, for such an argument -/
theorem pairs_arg {w : World} {v : Value} (h : v = .slice none 0 0 ∨ ∃ (a : Addr) (cap : Nat) (L : List (Int × Int)), v = .slice (some a) L.length cap ∧ L.length ≤ cap ∧ cap ≤ maxLen ∧
      ∀ i f l, L[i]? = some (f, l) → w.cell? (a.add (i * 2)) = some (.int .i64 f) ∧ w.cell? (a.add (i * 2 + 1)) = some (.int .i64 l)) :
    ∃ (v0 : Value) (h0 : Hs) (ρ : Ren) (L : List (Int × Int)), (h0 = ⟨.e, 0, 0⟩ ∨ ∃ b, h0 = ⟨.n (some b) .e .e, 1, 1⟩) ∧ Sl h0 v0 L ∧ VR ρ v0 v ∧ HR w.heap.size ρ h0 w := by
  have R0 : HR w.heap.size (fun _ => none) ⟨.e, 0, 0⟩ w := ⟨Nat.le_refl _, fun _ _ => rfl, (fun id b hb => by rw [Tr.get_e] at hb; cases hb), (fun id id' b b' H H' hb => by rw [Tr.get_e] at hb; cases hb)⟩
  rcases h with rfl | ⟨a, cap, L, rfl, hl, hm, hc⟩
  · exact ⟨.slice none 0 0, ⟨.e, 0, 0⟩, fun _ => none, [], .inl rfl, ⟨none, 0, rfl, fun i f l hi => by simp at hi⟩, .nilslice, R0⟩
  · cases L with
    | nil => exact ⟨.slice (some ⟨0, 0, some 0⟩) 0 0, ⟨.e, 0, 0⟩, fun _ => none, [], .inl rfl, ⟨_, 0, rfl, fun i f l hi => by simp at hi⟩, .empty 0 0 0 a cap hm, R0⟩
    | cons x xs =>
      obtain ⟨q1, q2⟩ := hc 0 x.1 x.2 rfl
      obtain ⟨blk, off, spot⟩ := a
      obtain ⟨rfl, arr, et, fz, hh⟩ : spot = none ∧ ∃ arr et fz, w.heap[blk]? = some (.cells arr et fz) := by
        rw [show Addr.add ⟨blk, off, spot⟩ (0 * 2) = ⟨blk, off, spot⟩ by simp [Addr.add]] at q1
        unfold World.cell? at q1
        simp only at q1
        split at q1
        · rename_i arr et fz hq
          cases spot with
          | none => exact ⟨rfl, arr, et, fz, hq⟩
          | some k => simp at q1
        · cases q1
      have hcell : ∀ k v, w.cell? (Addr.add ⟨blk, off, none⟩ k) = some v → arr[off + k]? = some v := fun k v hv => by
        have e : Addr.add ⟨blk, off, none⟩ k = ⟨blk, off + k, none⟩ := by
          by_cases h : k = 0
          · subst h; simp [Addr.add]
          · simp [Addr.add, h]
        rw [e] at hv
        unfold World.cell? at hv
        simp only [hh] at hv
        simpa using hv
      have hcells : ∀ i v, (ofList (cellsP (x :: xs))).get i = some v → arr[off + i]? = some v ∧ ∃ n, v = .int .i64 n := fun i v hv => by
        rw [get_ofList] at hv
        obtain ⟨j, rfl | rfl⟩ : ∃ j, i = j * 2 ∨ i = j * 2 + 1 := ⟨i / 2, by omega⟩
        · rw [(cellsP_get _ j).1] at hv
          cases hj : (x :: xs)[j]? with
          | none => rw [hj] at hv; cases hv
          | some y => rw [hj] at hv; injection hv with hv; subst hv; exact ⟨hcell _ _ (hc j y.1 y.2 hj).1, _, rfl⟩
        · rw [(cellsP_get _ j).2] at hv
          cases hj : (x :: xs)[j]? with
          | none => rw [hj] at hv; cases hv
          | some y => rw [hj] at hv; injection hv with hv; subst hv; exact ⟨hcell _ _ (hc j y.1 y.2 hj).2, _, rfl⟩
      have hg : ∀ id b, (Tr.n (some (Blk.row (ofList (cellsP (x :: xs))) 0 et 0 false false)) .e .e).get id = some b → id = 0 ∧ b = Blk.row (ofList (cellsP (x :: xs))) 0 et 0 false false := fun id b hb => by
        rw [← getK_eq] at hb
        cases id with
        | zero => injection hb with hb; exact ⟨rfl, hb.symm⟩
        | succ id =>
          exfalso
          have : (Tr.n (some (Blk.row (ofList (cellsP (x :: xs))) 0 et 0 false false)) .e .e).getK (id + 1) = none := by
            show Bool.rec (motive := fun _ => Option Blk) _ _ (Nat.beq (Nat.mod id 2) 0) = none
            cases Nat.beq (Nat.mod id 2) 0 <;> rfl
          rw [this] at hb; cases hb
      refine ⟨.slice (some ⟨0, 0, none⟩) (x :: xs).length (x :: xs).length, ⟨.n (some (.row (ofList (cellsP (x :: xs))) 0 et 0 false false)) .e .e, 1, 1⟩, fun id => if id = 0 then some ⟨blk, off, arr.size, 0, none⟩ else none, x :: xs, .inr ⟨_, rfl⟩,
        ⟨some ⟨0, 0, none⟩, _, rfl, fun i f l hi => ⟨0, 0, ofList (cellsP (x :: xs)), 0, et, 0, false, false, rfl, Nat.zero_lt_one, ?_, ?_, ?_⟩⟩, ?_, ?_⟩
      · rw [← getK_eq]; rfl
      · rw [Nat.zero_add, get_ofList, (cellsP_get _ i).1, hi]; rfl
      · rw [Nat.zero_add, get_ofList, (cellsP_get _ i).2, hi]; rfl
      · exact .slice 0 0 _ _ cap ⟨blk, off, arr.size, 0, none⟩ (if_pos rfl) (Nat.le_refl _) hl hm (.inl rfl)
      · refine ⟨Nat.le_refl _, fun id hid => if_neg (by have : 1 ≤ id := hid; omega), fun id b hb => ?_, fun id id' b b' X X' hb hb' hne _ _ _ => ?_⟩
        · obtain ⟨rfl, rfl⟩ := hg id b hb
          exact ⟨⟨blk, off, arr.size, 0, none⟩, arr, fz, if_pos rfl, rfl, hh, rfl, fun i v hv => by obtain ⟨r1, n, rfl⟩ := hcells i v hv; exact ⟨_, r1, .int _ _⟩, (fun e => by cases e), (fun e => by cases e)⟩
        · obtain ⟨rfl, _⟩ := hg id b hb
          obtain ⟨rfl, _⟩ := hg id' b' hb'
          exact absurd rfl hne

/-- what a slice of numbers is -/
def IsInts (w : World) (v : Value) : Prop := v = .slice none 0 0 ∨ ∃ (a : Addr) (cap : Nat) (L : List Int), v = .slice (some a) L.length cap ∧ L.length ≤ cap ∧ cap ≤ maxLen ∧
      ∀ i l, L[i]? = some l → w.cell? (a.add i) = some (.int .i64 l)
section
variable {H : Type} {enc : TypeId × Value → H} {P : Program} {w : World} {base : Nat} {spare : Nat → Bool} {held : Bool}
theorem ints_of {t e : TypeId} {fuel : Nat} {v : Value} {x : DataW H × List MemPlace} (ht : P.underlying t = some (.slice e)) (he : P.underlying e = some (.int .i64)) (hc : P.cellsOf e = 1)
    (h : DataW.trod enc P w base spare held fuel t [v] = some x) : IsInts w v := by
  rcases open_ints ht he hc h with ⟨q, _⟩ | ⟨a, len, cap, zs, q, _, q2, q3, q4, _, q6, _⟩
  · injection q with q; exact .inl q
  · injection q with q
    have hz : len ≤ zs.length := by rw [q4]; split <;> omega
    have hlen : (zs.take len).length = len := by rw [List.length_take]; omega
    refine .inr ⟨a, cap, zs.take len, by rw [hlen]; exact q, by rw [hlen]; exact q2, q3, fun i l hi => ?_⟩
    rw [List.getElem?_take] at hi
    split at hi
    · obtain ⟨h1, h2⟩ := List.getElem?_eq_some_iff.1 hi
      have := q6 i h1
      rw [List.getD_eq_getElem?_getD, hi] at this
      exact this
    · cases hi
end
/-- the memory that the evaluator begins with, for such an argument -/
theorem ints_arg {w : World} {v : Value} (h : IsInts w v) :
    ∃ (v0 : Value) (h0 : Hs) (ρ : Ren) (L : List Int), (h0 = ⟨.e, 0, 0⟩ ∨ ∃ b, h0 = ⟨.n (some b) .e .e, 1, 1⟩) ∧ SlI h0 v0 L ∧ VR ρ v0 v ∧ HR w.heap.size ρ h0 w := by
  have R0 : HR w.heap.size (fun _ => none) ⟨.e, 0, 0⟩ w := ⟨Nat.le_refl _, fun _ _ => rfl, (fun id b hb => by rw [Tr.get_e] at hb; cases hb), (fun id id' b b' H H' hb => by rw [Tr.get_e] at hb; cases hb)⟩
  rcases h with rfl | ⟨a, cap, L, rfl, hl, hm, hc⟩
  · exact ⟨.slice none 0 0, ⟨.e, 0, 0⟩, fun _ => none, [], .inl rfl, ⟨none, 0, rfl, fun i l hi => by simp at hi⟩, .nilslice, R0⟩
  · cases L with
    | nil => exact ⟨.slice (some ⟨0, 0, some 0⟩) 0 0, ⟨.e, 0, 0⟩, fun _ => none, [], .inl rfl, ⟨_, 0, rfl, fun i l hi => by simp at hi⟩, .empty 0 0 0 a cap hm, R0⟩
    | cons x xs =>
      have q1 := hc 0 x rfl
      obtain ⟨blk, off, spot⟩ := a
      obtain ⟨rfl, arr, et, fz, hh⟩ : spot = none ∧ ∃ arr et fz, w.heap[blk]? = some (.cells arr et fz) := by
        rw [show Addr.add ⟨blk, off, spot⟩ 0 = ⟨blk, off, spot⟩ by simp [Addr.add]] at q1
        unfold World.cell? at q1
        simp only at q1
        split at q1
        · rename_i arr et fz hq
          cases spot with
          | none => exact ⟨rfl, arr, et, fz, hq⟩
          | some k => simp at q1
        · cases q1
      have hcell : ∀ k v, w.cell? (Addr.add ⟨blk, off, none⟩ k) = some v → arr[off + k]? = some v := fun k v hv => by
        have e : Addr.add ⟨blk, off, none⟩ k = ⟨blk, off + k, none⟩ := by
          by_cases h : k = 0
          · subst h; simp [Addr.add]
          · simp [Addr.add, h]
        rw [e] at hv
        unfold World.cell? at hv
        simp only [hh] at hv
        simpa using hv
      let cs : List Value := (x :: xs).map fun n => .int .i64 n
      have hcs : ∀ i, cs[i]? = ((x :: xs)[i]?).map fun n => Value.int .i64 n := fun i => List.getElem?_map
      have hcells : ∀ i v, (ofList cs).get i = some v → arr[off + i]? = some v ∧ ∃ n, v = .int .i64 n := fun i v hv => by
        rw [get_ofList, hcs] at hv
        cases hj : (x :: xs)[i]? with
        | none => rw [hj] at hv; cases hv
        | some y => rw [hj] at hv; injection hv with hv; subst hv; exact ⟨hcell _ _ (hc i y hj), _, rfl⟩
      have hg : ∀ id b, (Tr.n (some (Blk.row (ofList cs) 0 et 0 false false)) .e .e).get id = some b → id = 0 ∧ b = Blk.row (ofList cs) 0 et 0 false false := fun id b hb => by
        rw [← getK_eq] at hb
        cases id with
        | zero => injection hb with hb; exact ⟨rfl, hb.symm⟩
        | succ id =>
          exfalso
          have : (Tr.n (some (Blk.row (ofList cs) 0 et 0 false false)) .e .e).getK (id + 1) = none := by
            show Bool.rec (motive := fun _ => Option Blk) _ _ (Nat.beq (Nat.mod id 2) 0) = none
            cases Nat.beq (Nat.mod id 2) 0 <;> rfl
          rw [this] at hb; cases hb
      refine ⟨.slice (some ⟨0, 0, none⟩) (x :: xs).length (x :: xs).length, ⟨.n (some (.row (ofList cs) 0 et 0 false false)) .e .e, 1, 1⟩, fun id => if id = 0 then some ⟨blk, off, arr.size, 0, none⟩ else none, x :: xs, .inr ⟨_, rfl⟩,
        ⟨some ⟨0, 0, none⟩, _, rfl, fun i l hi => ⟨0, 0, ofList cs, 0, et, 0, false, false, rfl, Nat.zero_lt_one, ?_, ?_⟩⟩, ?_, ?_⟩
      · rw [← getK_eq]; rfl
      · rw [Nat.zero_add, Nat.mul_one, get_ofList, hcs, hi]; rfl
      · exact .slice 0 0 _ _ cap ⟨blk, off, arr.size, 0, none⟩ (if_pos rfl) (Nat.le_refl _) hl hm (.inl rfl)
      · refine ⟨Nat.le_refl _, fun id hid => if_neg (by have : 1 ≤ id := hid; omega), fun id b hb => ?_, fun id id' b b' X X' hb hb' hne _ _ _ => ?_⟩
        · obtain ⟨rfl, rfl⟩ := hg id b hb
          exact ⟨⟨blk, off, arr.size, 0, none⟩, arr, fz, if_pos rfl, rfl, hh, rfl, fun i v hv => by obtain ⟨r1, n, rfl⟩ := hcells i v hv; exact ⟨_, r1, .int _ _⟩, (fun e => by cases e), (fun e => by cases e)⟩
        · obtain ⟨rfl, _⟩ := hg id b hb
          obtain ⟨rfl, _⟩ := hg id' b' hb'
          exact absurd rfl hne

section
variable {H : Type} {enc : TypeId × Value → H} {P : Program} {w : World} {base : Nat} {spare : Nat → Bool} {held : Bool}
/-- a struct of four numbers -/
theorem open_four {t : TypeId} {f0 f1 f2 f3 : Field} {fuel : Nat} {cs : List Value} {x : DataW H × List MemPlace} (ht : P.underlying t = some (.struct #[f0, f1, f2, f3])) (ct : P.cellsOf t = 4)
    (u0 : P.underlying f0.type = some (.int .i64)) (u1 : P.underlying f1.type = some (.int .i64)) (u2 : P.underlying f2.type = some (.int .i64)) (u3 : P.underlying f3.type = some (.int .i64))
    (c0 : P.cellsOf f0.type = 1) (c1 : P.cellsOf f1.type = 1) (c2 : P.cellsOf f2.type = 1) (c3 : P.cellsOf f3.type = 1)
    (o0 : f0.offset = 0) (o1 : f1.offset = 1) (o2 : f2.offset = 2) (o3 : f3.offset = 3)
    (h : DataW.trod enc P w base spare held fuel t cs = some x) : ∃ a b c d : Int, cs = [.int .i64 a, .int .i64 b, .int .i64 c, .int .i64 d] := by
  obtain ⟨xs, n, _, _, hl, hlen, hf⟩ := DataW.trod_struct ht h
  rw [ct] at hl
  match xs, hlen with
  | [y0, y1, y2, y3], _ =>
    have p0 := hf 0 f0 rfl
    have p1 := hf 1 f1 rfl
    have p2 := hf 2 f2 rfl
    have p3 := hf 3 f3 rfl
    rw [o0, c0] at p0
    rw [o1, c1] at p1
    rw [o2, c2] at p2
    rw [o3, c3] at p3
    obtain ⟨a, q0, _, _⟩ := DataW.trod_int u0 p0
    obtain ⟨b, q1, _, _⟩ := DataW.trod_int u1 p1
    obtain ⟨c, q2, _, _⟩ := DataW.trod_int u2 p2
    obtain ⟨d, q3, _, _⟩ := DataW.trod_int u3 p3
    match cs, hl, q0, q1, q2, q3 with
    | [v0, v1, v2, v3], _, q0, q1, q2, q3 =>
      simp at q0 q1 q2 q3
      subst q0 q1 q2 q3
      exact ⟨a, b, c, d, rfl⟩
end
end Go.Gev
