/- Rows of a number and a string each as arguments: a frozen row of its own in the memory that the evaluator begins with. -/
import Derived.Test.YtmolikcajfphlaaGevAr3
namespace Go.Gev
open Go.RowKit Go.ChangeShapes
def slotLs (L : List (Int × List UInt8)) : List (List Value) := L.map fun x => [.int .i64 x.1, .string ⟨x.2.toArray⟩]
theorem slotLs_len (L : List (Int × List UInt8)) : (slotLs L).length = L.length := List.length_map _
theorem slotLs_two (L : List (Int × List UInt8)) : ∀ l ∈ slotLs L, l.length = 2 := fun l hl => by
 unfold slotLs at hl
 rw [List.mem_map] at hl
 obtain ⟨x, _, rfl⟩ := hl
 rfl
theorem slotLs_get {L : List (Int × List UInt8)} (k : Nat) : (slotLs L).flatten[k]? = (L[k / 2]?).map fun x => if k % 2 = 0 then Value.int .i64 x.1 else .string ⟨x.2.toArray⟩ := by
 have hk : k = k / 2 * 2 + k % 2 := by omega
 have hj : k % 2 < 2 := Nat.mod_lt _ (by omega)
 have g := flatten_get (slotLs_two L) (k / 2) (k % 2) hj
 rw [← hk] at g
 rw [g]
 unfold slotLs
 rw [List.getElem?_map]
 cases L[k / 2]? with
 | none => rfl
 | some x =>
  generalize k % 2 = j at hj
  match j, hj with
  | 0, _ => rfl
  | 1, _ => rfl
def IsSlots (w : World) (v : Value) : Prop := v = .slice none 0 0 ∨ ∃ (a : Addr) (cap : Nat) (L : List (Int × List UInt8)), v = .slice (some a) L.length cap ∧ L.length ≤ cap ∧ cap ≤ maxLen ∧ (∀ x ∈ L, x.2.length ≤ maxLen) ∧
 ∀ (i : Nat) (x : Int × List UInt8), L[i]? = some x → w.cell? (a.add (i * 2)) = some (.int .i64 x.1) ∧ w.cell? (a.add (i * 2 + 1)) = some (.string ⟨x.2.toArray⟩)
section
variable {H : Type} {enc : TypeId × Value → H} {P : Program} {w : World} {base : Nat} {spare : Nat → Bool} {held : Bool}
theorem slots_of {t e : TypeId} {f0 f1 : Field} {fuel : Nat} {v : Value} {x : DataW H × List MemPlace} (ht : P.underlying t = some (.slice e)) (he : P.underlying e = some (.struct #[f0, f1]))
 (h0 : P.underlying f0.type = some (.int .i64)) (h1 : P.underlying f1.type = some .string) (ce : P.cellsOf e = 2) (o0 : f0.offset = 0) (c0 : P.cellsOf f0.type = 1) (o1 : f1.offset = 1) (c1 : P.cellsOf f1.type = 1)
 (h : DataW.trod enc P w base spare held fuel t [v] = some x) : IsSlots w v := by
 rcases DataW.trod_slice ht h with hq | ⟨a, len, cap, elems, rest, n, _, hcs, _, _, hl, hm, hlen, hel, _, _⟩
 ·have := hq.1
  injection this with q; exact .inl q
 injection hcs with hcs
 right
 have each : ∀ i, i < len → ∃ (f : Int) (l : List UInt8), l.length ≤ maxLen ∧ w.cell? (a.add (i * 2)) = some (.int .i64 f) ∧ w.cell? (a.add (i * 2 + 1)) = some (.string ⟨l.toArray⟩) := fun i hi => by
  have hb := hel i hi
  rw [List.getElem?_eq_getElem (by omega), Option.bind_eq_some_iff] at hb
  obtain ⟨cs', hcs, hy⟩ := hb
  obtain ⟨y0, y1, n2, _, hcl, p0, p1⟩ := trod_struct2 he hy
  rw [ce] at hcs hcl
  obtain ⟨_, _, hcell⟩ := World.cells?_some hcs
  rw [o0, c0] at p0
  rw [o1, c1] at p1
  obtain ⟨f, q0, _, _⟩ := DataW.trod_int h0 p0
  obtain ⟨s, q1, _, sz⟩ := DataW.trod_string h1 p1
  match cs', hcl, q0, q1, hcell with
  | [u0, u1], _, q0, q1, hcell =>
   simp at q0 q1
   subst q0 q1
   refine ⟨f, s.data.toList, sz, ?_, ?_⟩
   ·have := hcell 0 (by omega)
    rw [show (a.add (i * 2)).add 0 = a.add (i * 2) by simp [Addr.add]] at this
    simpa using this
   ·have := hcell 1 (by omega)
    rw [add_one] at this
    simpa using this
 have mk : ∀ m, m ≤ len → ∃ L : List (Int × List UInt8), L.length = m ∧ (∀ x ∈ L, x.2.length ≤ maxLen) ∧ ∀ (i : Nat) (x : Int × List UInt8), L[i]? = some x → w.cell? (a.add (i * 2)) = some (.int .i64 x.1) ∧ w.cell? (a.add (i * 2 + 1)) = some (.string ⟨x.2.toArray⟩) := by
  intro m
  induction m with
  | zero => intro _; exact ⟨[], rfl, fun x hx => (by cases hx), fun i x hi => by simp at hi⟩
  | succ m ih =>
   intro hm
   obtain ⟨L, hL, hb, hall⟩ := ih (by omega)
   obtain ⟨f, l, hl, p⟩ := each m (by omega)
   refine ⟨L ++ [(f, l)], by rw [List.length_append, hL]; rfl, fun x hx => ?_, fun i x hi => ?_⟩
   ·rcases List.mem_append.1 hx with hx | hx
    ·exact hb x hx
    ·rw [List.mem_singleton.1 hx]; exact hl
   ·rcases Nat.lt_or_ge i L.length with q | q
    ·rw [List.getElem?_append_left q] at hi; exact hall i x hi
    ·rw [List.getElem?_append_right q] at hi
     have : i = m := by
      rcases Nat.lt_or_ge (i - L.length) 1 with r | r
      ·omega
      ·rw [List.getElem?_eq_none (by simpa using r)] at hi; cases hi
     subst this
     rw [show i - L.length = 0 by omega] at hi
     simp only [List.getElem?_cons_zero, Option.some.injEq] at hi
     subst hi
     exact p
 obtain ⟨L, hL, hb, hall⟩ := mk len (Nat.le_refl _)
 exact ⟨a, cap, L, by rw [hL]; exact hcs, by omega, hm, hb, hall⟩
end
theorem arg_slots {w : World} {v : Value} {B : Nat} {ρ : Ren} {h : Hs} (R : HR B ρ h w) (hf : ∀ id b, h.hp.get id = some b → isRw b = false) (hv : IsSlots w v) :
 ∃ (v0 : Value) (h' : Hs) (ρ' : Ren) (L : List (Int × List UInt8)), (h' = h ∨ ∃ b, h' = ⟨h.hp.set h.nx (some b), h.nx + 1, h.nx + 1⟩) ∧ ρ.le ρ' ∧ VR ρ' v0 v ∧ HR B ρ' h' w ∧ (∀ id b, h'.hp.get id = some b → isRw b = false) ∧
  Rd h' v0 2 (slotLs L) ∧ L.length ≤ maxLen ∧ (∀ x ∈ L, x.2.length ≤ maxLen) ∧ (∀ id, id < h.nx → h'.hp.get id = h.hp.get id) ∧ h.nx ≤ h'.nx := by
 rcases hv with rfl | ⟨a, cap, L, rfl, hl, hm, hb, hc⟩
 ·exact ⟨.slice none 0 0, h, ρ, [], .inl rfl, Ren.le_refl _, .nilslice, R, hf, ⟨⟨fun l hl => (by cases hl), .inl ⟨none, 0, rfl, rfl⟩⟩, fun b hb => (by cases hb)⟩, Nat.zero_le _, fun x hx => (by cases hx), fun _ _ => rfl, Nat.le_refl _⟩
 ·cases L with
  | nil => exact ⟨.slice (some ⟨0, 0, some 0⟩) 0 0, h, ρ, [], .inl rfl, Ren.le_refl _, .empty 0 0 0 a cap hm, R, hf, ⟨⟨fun l hl => (by cases hl), .inl ⟨_, 0, rfl, rfl⟩⟩, fun b hb => (by cases hb)⟩, Nat.zero_le _, fun x hx => (by cases hx), fun _ _ => rfl, Nat.le_refl _⟩
  | cons x xs =>
   obtain ⟨q1, _⟩ := hc 0 x rfl
   obtain ⟨blk, off, spot⟩ := a
   obtain ⟨rfl, arr, et, fz, hh⟩ : spot = none ∧ ∃ arr et fz, w.heap[blk]? = some (.cells arr et fz) := by
    rw [show Addr.add ⟨blk, off, spot⟩ (0 * 2) = ⟨blk, off, spot⟩ by simp [Addr.add]] at q1
    unfold World.cell? at q1
    simp only at q1
    split at q1
    ·rename_i arr et fz hq
     cases spot with
     | none => exact ⟨rfl, arr, et, fz, hq⟩
     | some k => simp at q1
    ·cases q1
   have hcell : ∀ k v, w.cell? (Addr.add ⟨blk, off, none⟩ k) = some v → arr[off + k]? = some v := fun k v hv => by
    have e : Addr.add ⟨blk, off, none⟩ k = ⟨blk, off + k, none⟩ := by
     by_cases h : k = 0
     ·subst h; simp [Addr.add]
     ·simp [Addr.add, h]
    rw [e] at hv
    unfold World.cell? at hv
    simp only [hh] at hv
    simpa using hv
   generalize hL : x :: xs = L at *
   have h0 : slotLs L ≠ [] := by rw [← hL]; intro q; cases q
   let cs : List Value := (slotLs L).flatten
   have hcells : ∀ i v, (ofList cs).get i = some v → arr[off + i]? = some v ∧ ∀ σ : Ren, VR σ v v := fun i v hv => by
    rw [get_ofList, slotLs_get] at hv
    cases hj : L[i / 2]? with
    | none => rw [hj] at hv; cases hv
    | some y =>
     rw [hj] at hv
     obtain ⟨c1, c2⟩ := hc _ _ hj
     injection hv with hv
     dsimp only at hv
     by_cases e : i % 2 = 0
     ·rw [if_pos e] at hv
      subst hv
      rw [show i / 2 * 2 = i by omega] at c1
      exact ⟨hcell _ _ c1, fun _ => .int _ _⟩
     ·rw [if_neg e] at hv
      subst hv
      rw [show i / 2 * 2 + 1 = i by omega] at c2
      exact ⟨hcell _ _ c2, fun _ => .string _⟩
   have hget : ∀ id, (h.hp.set h.nx (some (Blk.row (ofList cs) 0 et 0 false false))).get id = if h.nx = id then some (Blk.row (ofList cs) 0 et 0 false false) else h.hp.get id := fun id => Tr.get_set _ _ _ _
   have rd : RdSl ⟨h.hp.set h.nx (some (.row (ofList cs) 0 et 0 false false)), h.nx + 1, h.nx + 1⟩ (.slice (some ⟨h.nx, 0, none⟩) L.length L.length) 2 (slotLs L) := by
    refine ⟨slotLs_two L, .inr ⟨h.nx, 0, _, ofList cs, 0, et, 0, false, false, by rw [slotLs_len], by rw [slotLs_len]; exact Nat.le_refl _, by rw [show (⟨h.hp.set h.nx (some (.row (ofList cs) 0 et 0 false false)), h.nx + 1, h.nx + 1⟩ : Hs).hp.get h.nx = _ from hget h.nx, if_pos rfl], .inl rfl, fun i j l hl hj => ?_⟩⟩
    rw [Nat.zero_add, get_ofList]
    show (slotLs L).flatten[i * 2 + j]? = _
    rw [flatten_get (slotLs_two L) i j hj, hl]
    rfl
   refine ⟨.slice (some ⟨h.nx, 0, none⟩) L.length L.length, ⟨h.hp.set h.nx (some (.row (ofList cs) 0 et 0 false false)), h.nx + 1, h.nx + 1⟩, ρ.add h.nx ⟨blk, off, arr.size, 0, none⟩, L, .inr ⟨_, rfl⟩, ?_, ?_, ?_, ?_, ⟨rd, ?_⟩, Nat.le_trans hl hm, hb, ?_, Nat.le_succ _⟩
   ·intro id X e
    by_cases hid : id = h.nx
    ·subst hid; rw [R.dom _ (Nat.le_refl _)] at e; cases e
    ·rw [Ren.add_other _ _ hid]; exact e
   ·exact .slice h.nx 0 _ _ cap ⟨blk, off, arr.size, 0, none⟩ (Ren.add_same _ _ _) (Nat.le_refl _) hl hm (.inl rfl)
   ·refine ⟨R.base, fun id hid => ?_, fun id b hb => ?_, fun id id' b b' X X' hb hb' hne hr _ _ => ?_⟩
    ·have hid : h.nx + 1 ≤ id := hid
     rw [Ren.add_other _ _ (by omega)]
     exact R.dom id (by omega)
    ·replace hb : (h.hp.set h.nx (some (Blk.row (ofList cs) 0 et 0 false false))).get id = some b := hb
     rw [hget] at hb
     by_cases e : h.nx = id
     ·rw [if_pos e] at hb
      injection hb with hb
      subst hb; subst e
      exact ⟨⟨blk, off, arr.size, 0, none⟩, arr, fz, Ren.add_same _ _ _, rfl, hh, rfl, fun i v hv => by obtain ⟨r1, n⟩ := hcells i v hv; exact ⟨_, r1, n _⟩, (fun e => by cases e), (fun e => by cases e)⟩
     ·rw [if_neg e] at hb
      refine (R.has id b hb).mono (fun i X e2 => ?_) fun X e2 => rfl
      by_cases hi : i = h.nx
      ·subst hi; rw [R.dom _ (Nat.le_refl _)] at e2; cases e2
      ·rw [Ren.add_other _ _ hi]; exact e2
    ·replace hb : (h.hp.set h.nx (some (Blk.row (ofList cs) 0 et 0 false false))).get id = some b := hb
     rw [hget] at hb
     by_cases e : h.nx = id
     ·rw [if_pos e] at hb
      injection hb with hb
      subst hb; cases hr
     ·rw [if_neg e] at hb
      rw [hf id b hb] at hr; cases hr
   ·intro id b hb
    replace hb : (h.hp.set h.nx (some (Blk.row (ofList cs) 0 et 0 false false))).get id = some b := hb
    rw [hget] at hb
    by_cases e : h.nx = id
    ·rw [if_pos e] at hb; injection hb with hb; subst hb; rfl
    ·rw [if_neg e] at hb; exact hf id b hb
   ·intro b hb
    cases hq : slotLs L with
    | nil => exact absurd hq h0
    | cons y ys =>
     rw [hq] at hb
     have e : some h.nx = some b := hb
     injection e with e
     subst e
     exact Nat.lt_succ_self _
   ·intro id hid
    show (h.hp.set h.nx (some (Blk.row (ofList cs) 0 et 0 false false))).get id = _
    rw [hget, if_neg (by omega)]
end Go.Gev
