/- A slice of numbers as an argument, with the numbers' bound. -/
import Derived.Test.YtefdkblhnlkgaaaGreatDoorGevAr
import Derived.Test.YtefdkblhnlkgaaaGreatDoorGevHos
namespace Go.Gev
open Go.RowKit Go.ChangeShapes
theorem lit_le {n : Int} (h : (Lit.int .i64 n).wf = true) : n ≤ 9223372036854775807 := by
  simp [Lit.wf] at h

  exact h.2
/-- what a slice of numbers is -/
def IsIntsB (w : World) (v : Value) : Prop := v = .slice none 0 0 ∨ ∃ (a : Addr) (cap : Nat) (L : List Int), v = .slice (some a) L.length cap ∧ L.length ≤ cap ∧ cap ≤ maxLen ∧
      (∀ i l, L[i]? = some l → w.cell? (a.add i) = some (.int .i64 l)) ∧ ∀ n ∈ L, n ≤ 9223372036854775807
section
variable {H : Type} {enc : TypeId × Value → H} {P : Program} {w : World} {base : Nat} {spare : Nat → Bool} {held : Bool}
theorem ints_ofB {t e : TypeId} {fuel : Nat} {v : Value} {x : DataW H × List MemPlace} (ht : P.underlying t = some (.slice e)) (he : P.underlying e = some (.int .i64)) (hc : P.cellsOf e = 1)
    (h : DataW.trod enc P w base spare held fuel t [v] = some x) : IsIntsB w v := by
  rcases open_ints ht he hc h with ⟨q, _⟩ | ⟨a, len, cap, zs, q, _, q2, q3, q4, _, q6, q7⟩
  · injection q with q; exact .inl q
  · injection q with q
    have hz : len ≤ zs.length := by rw [q4]; split <;> omega
    have hlen : (zs.take len).length = len := by rw [List.length_take]; omega
    refine .inr ⟨a, cap, zs.take len, by rw [hlen]; exact q, by rw [hlen]; exact q2, q3, fun i l hi => ?_, fun n hn => lit_le (q7 n (List.mem_of_mem_take hn))⟩
    rw [List.getElem?_take] at hi
    split at hi
    · obtain ⟨h1, h2⟩ := List.getElem?_eq_some_iff.1 hi
      have := q6 i h1
      rw [List.getD_eq_getElem?_getD, hi] at this
      exact this
    · cases hi
end
/-- numbers of a slice -/
def iL (L : List Int) : List (List Value) := L.map fun n => [.int .i64 n]
/-- the memory that the evaluator begins with, for such an argument -/
theorem ints_argB {w : World} {v : Value} (h : IsIntsB w v) :
    ∃ (v0 : Value) (h0 : Hs) (ρ : Ren) (L : List Int), (h0 = ⟨.e, 0, 0⟩ ∨ ∃ b, h0 = ⟨.n (some b) .e .e, 1, 1⟩) ∧ Rd h0 v0 1 (iL L) ∧ VR ρ v0 v ∧ HR w.heap.size ρ h0 w ∧ ∀ n ∈ L, n ≤ 9223372036854775807 := by
  have R0 : HR w.heap.size (fun _ => none) ⟨.e, 0, 0⟩ w := ⟨Nat.le_refl _, fun _ _ => rfl, (fun id b hb => by rw [Tr.get_e] at hb; cases hb), (fun id id' b b' H H' hb => by rw [Tr.get_e] at hb; cases hb)⟩
  rcases h with rfl | ⟨a, cap, L, rfl, hl, hm, hc, hbd⟩
  · exact ⟨.slice none 0 0, ⟨.e, 0, 0⟩, fun _ => none, [], .inl rfl, ⟨⟨fun l hl => by simp [iL] at hl, .inl ⟨none, 0, rfl, rfl⟩⟩, fun b hb => by simp [Th.id, iL] at hb⟩, .nilslice, R0, fun n hn => by simp at hn⟩
  · cases L with
    | nil => exact ⟨.slice (some ⟨0, 0, some 0⟩) 0 0, ⟨.e, 0, 0⟩, fun _ => none, [], .inl rfl, ⟨⟨fun l hl => by simp [iL] at hl, .inl ⟨_, 0, rfl, rfl⟩⟩, fun b hb => by simp [Th.id, iL] at hb⟩, .empty 0 0 0 a cap hm, R0, hbd⟩
    | cons x xs =>
      have q1 := hc 0 x rfl
      obtain ⟨blk, off, spot⟩ := a
      obtain ⟨rfl, arr, et, fz, hh⟩ : spot = none ∧ ∃ arr et fz, w.heap[blk]? = some (.cells arr et fz) := by
        rw [show Addr.add ⟨blk, off, spot⟩ 0 = ⟨blk, off, spot⟩ by simp [Addr.add]] at q1
        unfold World.cell? at q1
        simp only at q1
        split at q1
        · rename_i arr et fz hq
          cases spot with
          | none => exact ⟨rfl, arr, et, fz, hq⟩
          | some k => simp at q1
        · cases q1
      have hcell : ∀ k v, w.cell? (Addr.add ⟨blk, off, none⟩ k) = some v → arr[off + k]? = some v := fun k v hv => by
        have e : Addr.add ⟨blk, off, none⟩ k = ⟨blk, off + k, none⟩ := by
          by_cases h : k = 0
          · subst h; simp [Addr.add]
          · simp [Addr.add, h]
        rw [e] at hv
        unfold World.cell? at hv
        simp only [hh] at hv
        simpa using hv
      let cs : List Value := (x :: xs).map fun n => .int .i64 n
      have hcs : ∀ i, cs[i]? = ((x :: xs)[i]?).map fun n => Value.int .i64 n := fun i => List.getElem?_map
      have hcells : ∀ i v, (ofList cs).get i = some v → arr[off + i]? = some v ∧ ∃ n, v = .int .i64 n := fun i v hv => by
        rw [get_ofList, hcs] at hv
        cases hj : (x :: xs)[i]? with
        | none => rw [hj] at hv; cases hv
        | some y => rw [hj] at hv; injection hv with hv; subst hv; exact ⟨hcell _ _ (hc i y hj), _, rfl⟩
      have hg : ∀ id b, (Tr.n (some (Blk.row (ofList cs) 0 et 0 false false)) .e .e).get id = some b → id = 0 ∧ b = Blk.row (ofList cs) 0 et 0 false false := fun id b hb => by
        rw [← getK_eq] at hb
        cases id with
        | zero => injection hb with hb; exact ⟨rfl, hb.symm⟩
        | succ id =>
          exfalso
          have : (Tr.n (some (Blk.row (ofList cs) 0 et 0 false false)) .e .e).getK (id + 1) = none := by
            show Bool.rec (motive := fun _ => Option Blk) _ _ (Nat.beq (Nat.mod id 2) 0) = none
            cases Nat.beq (Nat.mod id 2) 0 <;> rfl
          rw [this] at hb; cases hb
      refine ⟨.slice (some ⟨0, 0, none⟩) (x :: xs).length (x :: xs).length, ⟨.n (some (.row (ofList cs) 0 et 0 false false)) .e .e, 1, 1⟩, fun id => if id = 0 then some ⟨blk, off, arr.size, 0, none⟩ else none, x :: xs, .inr ⟨_, rfl⟩,
        ⟨⟨fun l hl => by obtain ⟨n, _, rfl⟩ := List.mem_map.1 hl; rfl, .inr ⟨0, 0, _, ofList cs, 0, et, 0, false, false, by rw [show (iL (x :: xs)).length = (x :: xs).length from List.length_map _], by rw [show (iL (x :: xs)).length = (x :: xs).length from List.length_map _]; exact Nat.le_refl _, ?_, .inl rfl, fun i j l hi hj => ?_⟩⟩, fun b hb => ?_⟩, ?_, ?_, hbd⟩
      · rw [← getK_eq]; rfl
      · have hj : j = 0 := by omega
        subst hj
        rw [Nat.zero_add, Nat.mul_one, Nat.add_zero, get_ofList, hcs]
        have hi : ((x :: xs).map fun n => [Value.int .i64 n])[i]? = some l := hi
        rw [List.getElem?_map] at hi
        cases hq : (x :: xs)[i]? with
        | none => rw [hq] at hi; cases hi
        | some n => rw [hq] at hi; injection hi with hi; subst hi; rfl
      · have hb : some 0 = some b := hb
        injection hb with hb
        subst hb
        exact Nat.zero_lt_one
      · exact .slice 0 0 _ _ cap ⟨blk, off, arr.size, 0, none⟩ (if_pos rfl) (Nat.le_refl _) hl hm (.inl rfl)
      · refine ⟨Nat.le_refl _, fun id hid => if_neg (by have : 1 ≤ id := hid; omega), fun id b hb => ?_, fun id id' b b' X X' hb hb' hne _ _ _ => ?_⟩
        · obtain ⟨rfl, rfl⟩ := hg id b hb
          exact ⟨⟨blk, off, arr.size, 0, none⟩, arr, fz, if_pos rfl, rfl, hh, rfl, fun i v hv => by obtain ⟨r1, n, rfl⟩ := hcells i v hv; exact ⟨_, r1, .int _ _⟩, (fun e => by cases e), (fun e => by cases e)⟩
        · obtain ⟨rfl, _⟩ := hg id b hb
          obtain ⟨rfl, _⟩ := hg id' b' hb'
          exact absurd rfl hne

end Go.Gev
