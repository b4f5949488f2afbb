/- Steps of both memories: composed; a new block; a store; an append. -/
import Derived.Test.YtbecnapcgehliaaGreatDoorGevRel
import Derived.Laws.MakeOwn
namespace Go.Gev
open Go.RowKit

theorem below_le {a b c : Nat} {w w1 w2 : World} (_ : a = b) (_ : b = c) (h : Below a w w1) (k : Below a w1 w2) : Below a w w2 := h.trans k

/-- a block that was there, seen behind a step that left it -/
theorem St.trans {B : Nat} {ρ ρ1 ρ2 : Ren} {h h1 h2 : Hs} {w w1 w2 : World} (_ : HR B ρ h w) (s : St B ρ h w ρ1 h1 w1) (t : St B ρ1 h1 w1 ρ2 h2 w2) : St B ρ h w ρ2 h2 w2 where
  hr := t.hr
  nx := Nat.le_trans s.nx t.nx
  le := Ren.le_trans s.le t.le
  old := fun id hid => (t.old id (Nat.lt_of_lt_of_le hid s.nx)).trans (s.old id hid)
  below := s.below.trans t.below
  size := Nat.le_trans s.size t.size
  lo := Nat.le_trans t.lo s.lo
  keep := fun id b hb hl => t.keep id b (s.keep id b hb (Nat.lt_of_lt_of_le hl t.lo)) hl
  gone := fun id b hb hid => by
    obtain ⟨b1, hb1, hr1, he1⟩ := t.gone id b hb (Nat.lt_of_lt_of_le hid s.nx)
    obtain ⟨b0, hb0, hr0, he0⟩ := s.gone id b1 hb1 hid
    exact ⟨b0, hb0, hr0.trans hr1, fun hl => (he0 (Nat.lt_of_lt_of_le hl t.lo)).trans (he1 hl)⟩
  newrw := fun id b hb hid => by
    rcases Nat.lt_or_ge id h1.nx with hlt | hge
    · obtain ⟨b1, hb1, hr1, _⟩ := t.gone id b hb hlt
      rw [← hr1]; exact s.newrw id b1 hb1 hid
    · exact t.newrw id b hb hge
  frame := fun k hk hno => by
    rw [← s.frame k hk (fun id b H hb hr he hl => hno id b H hb hr he (Nat.le_trans t.lo hl))]
    refine t.frame k (Nat.lt_of_lt_of_le hk s.size) (fun id b H hb hr he hl => ?_)
    rcases Nat.lt_or_ge id h.nx with hlt | hge
    · rw [s.old id hlt] at he
      obtain ⟨b0, hb0, hr0, _⟩ := s.gone id b hb hlt
      exact hno id b0 H hb0 (hr0.trans hr) he hl
    · rcases s.fresh id H hge he with hf | ⟨id0, b0, H0, hb0, hr0, he0, hl0, e⟩
      · omega
      · rw [← e]; exact hno id0 b0 H0 hb0 hr0 he0 (Nat.le_trans t.lo hl0)
  fresh := fun id H hid he => by
    rcases Nat.lt_or_ge id h1.nx with hlt | hge
    · rw [t.old id hlt] at he
      rcases s.fresh id H hid he with hf | ⟨id0, b0, H0, hb0, hr0, he0, hl0, e⟩
      · exact .inl hf
      · exact .inr ⟨id0, b0, H0, hb0, hr0, he0, Nat.le_trans t.lo hl0, e⟩
    · rcases t.fresh id H hge he with hf | ⟨id0, b0, H0, hb0, hr0, he0, hl0, e⟩
      · exact .inl (Nat.le_trans s.size hf)
      · rcases Nat.lt_or_ge id0 h.nx with hlt | hge0
        · obtain ⟨b, hb, hr, _⟩ := s.gone id0 b0 hb0 hlt
          rw [s.old id0 hlt] at he0
          exact .inr ⟨id0, b, H0, hb, hr.trans hr0, he0, hl0, e⟩
        · rw [← e]
          rcases s.fresh id0 H0 hge0 he0 with hf | ⟨id1, b1, H1, hb1, hr1, he1, hl1, e1⟩
          · exact .inl hf
          · exact .inr ⟨id1, b1, H1, hb1, hr1, he1, Nat.le_trans t.lo hl1, e1⟩

/-! ### a draw turns nothing -/
theorem HR.of_heap {B : Nat} {ρ : Ren} {h : Hs} {w w' : World} (R : HR B ρ h w) (e : w'.heap = w.heap) : HR B ρ h w' :=
  ⟨by rw [e]; exact R.base, R.dom, fun id b hb => by
    have := R.has id b hb
    cases b with
    | mp es cl => unfold BR at this ⊢; rw [e]; exact this
    | it m si se la => unfold BR at this ⊢; rw [e]; exact this
    | lp st => unfold BR at this ⊢; rw [e]; exact this
    | row c n t u rw_ fl => unfold BR at this ⊢; rw [e]; exact this, R.inj⟩

theorem flatL_mem : ∀ {vs : List Value}, flatL vs = true → ∀ v ∈ vs, flat1 v = true := by
  intro vs
  induction vs with
  | nil => intro _ v hv; simp at hv
  | cons u vs ih =>
    intro h v hv
    simp only [flatL] at h
    cases ho : flat1 u with
    | false => rw [ho] at h; cases h
    | true =>
      rw [ho] at h
      rcases List.mem_cons.1 hv with rfl | hv
      · exact ho
      · exact ih h v hv

/-! ### a new block -/
/-- the renaming that knows one number more -/
def Ren.add (ρ : Ren) (id : Nat) (H : Host) : Ren := fun j => if j = id then some H else ρ j
theorem Ren.add_same (ρ : Ren) (id : Nat) (H : Host) : ρ.add id H id = some H := by simp [Ren.add]
theorem Ren.add_other (ρ : Ren) {id j : Nat} (H : Host) (h : j ≠ id) : ρ.add id H j = ρ j := by simp [Ren.add, h]
theorem Ren.le_add {ρ : Ren} {id : Nat} (H : Host) (h : ρ id = none) : ρ.le (ρ.add id H) := fun j K e => by
  by_cases hj : j = id
  · subst hj; rw [h] at e; cases e
  · rw [Ren.add_other ρ H hj]; exact e

theorem BR.mono {B : Nat} {ρ ρ' : Ren} {w w' : World} {id : Nat} {b : Blk} (h : BR B ρ w id b) (hle : ρ.le ρ') (hw : ∀ H, ρ id = some H → w'.heap[H.blk]? = w.heap[H.blk]?) : BR B ρ' w' id b := by
  cases b with
  | mp es cl =>
    obtain ⟨H, es', he, hB, hh, hm⟩ := h
    exact ⟨H, es', hle _ _ he, hB, (hw H he).trans hh, hm.mono hle⟩
  | it m si se la =>
    obtain ⟨H, he, hB, hh⟩ := h
    refine ⟨H, hle _ _ he, hB, ?_⟩
    rcases hh with ⟨h1, h2⟩ | ⟨k, Hm, h1, h2, h3⟩
    · exact .inl ⟨h1, (hw H he).trans h2⟩
    · exact .inr ⟨k, Hm, h1, hle _ _ h2, (hw H he).trans h3⟩
  | lp st =>
    obtain ⟨H, r, he, hB, hr, hh⟩ := h
    exact ⟨H, r, hle _ _ he, hB, hr, (hw H he).trans hh⟩
  | row c n e u rw_ fl =>
    obtain ⟨H, arr, fz, he, hu, hh, hs, hc, hr, hfl⟩ := h
    exact ⟨H, arr, fz, hle _ _ he, hu, (hw H he).trans hh, hs, fun i v hv => by
      obtain ⟨v', h1, h2⟩ := hc i v hv
      exact ⟨v', h1, h2.mono hle⟩, hr, hfl⟩
theorem BR.host_lt {B : Nat} {ρ : Ren} {w : World} {id : Nat} {b : Blk} (h : BR B ρ w id b) : ∃ H, ρ id = some H ∧ H.blk < w.heap.size := by
  cases b with
  | mp es cl =>
    obtain ⟨H, es', he, hB, hh, hm⟩ := h
    exact ⟨H, he, (Array.getElem?_eq_some_iff.1 hh).1⟩
  | it m si se la =>
    obtain ⟨H, he, hB, hh⟩ := h
    rcases hh with ⟨h1, h2⟩ | ⟨k, Hm, h1, h2, h3⟩
    · exact ⟨H, he, (Array.getElem?_eq_some_iff.1 h2).1⟩
    · exact ⟨H, he, (Array.getElem?_eq_some_iff.1 h3).1⟩
  | lp st =>
    obtain ⟨H, r, he, hB, hr, hh⟩ := h
    exact ⟨H, he, (Array.getElem?_eq_some_iff.1 hh).1⟩
  | row c n e u rw_ fl =>
    obtain ⟨H, arr, fz, he, hu, hh, _⟩ := h
    exact ⟨H, he, (Array.getElem?_eq_some_iff.1 hh).1⟩

/-- a new row, whose cells are as 'cs'; the model may lay more cells behind them -/
theorem step_new {B : Nat} {ρ : Ren} {h : Hs} {w w0 : World} (R : HR B ρ h w0) (hw : w0.heap = w.heap) (hos : w.os = w0.os) (htape : w.tape = w0.tape) (hout : w.output = w0.output)
    (e u : Nat) (cs : List Value) (arr : Array Value) (more : List Value) (hcs : VL ρ cs more) (hm : arr.toList.take more.length = more) :
    St B ρ h w0 (ρ.add h.nx ⟨w.heap.size, 0, arr.size, u, none⟩) (newRow h e u cs) (w.alloc (.cells arr e)) := by
  have R' : HR B ρ h w := R.of_heap hw.symm
  have hnx : ρ h.nx = none := R.dom _ (Nat.le_refl _)
  have hle := Ren.le_add ⟨w.heap.size, 0, arr.size, u, none⟩ hnx
  have hget : ∀ id, (newRow h e u cs).hp.get id = if h.nx = id then some (.row (ofList cs) cs.length e u true (flatL cs)) else h.hp.get id := fun id => Tr.get_set _ _ _ _
  have hold : ∀ k, k < w.heap.size → (w.alloc (.cells arr e)).heap[k]? = w.heap[k]? := fun k hk => heap_alloc_old w _ k hk
  have hml : more.length ≤ arr.size := by
    have := congrArg List.length hm
    simp only [List.length_take, Array.length_toList] at this
    omega
  have hsz : w0.heap.size = w.heap.size := by rw [hw]
  refine ⟨⟨?_, ?_, ?_, ?_⟩, ?_, hle, ?_, ?_, ?_, ?_, ?_, ?_, ?_, ?_, ?_⟩
  · have := R'.base; simp; omega
  · intro id hid
    have hid' : h.nx + 1 ≤ id := hid
    rw [Ren.add_other _ _ (by omega)]
    exact R.dom id (by omega)
  · intro id b hb
    rw [hget] at hb
    split at hb
    · rename_i hid
      subst hid
      injection hb with hb
      subst hb
      refine ⟨_, arr, (0, 0), Ren.add_same _ _ _, rfl, heap_alloc_new w _, rfl, fun i v hv => ?_, fun _ => ⟨.inl rfl, rfl, R'.base, ?_, fun i => ?_⟩, fun hfl i v hv => ?_⟩
      · rw [get_ofList] at hv
        have hi : i < cs.length := (List.getElem?_eq_some_iff.1 hv).1
        have hi2 : i < more.length := by rw [← hcs.1]; exact hi
        refine ⟨more[i], ?_, (hcs.2 i v _ hv (List.getElem?_eq_getElem hi2)).mono hle⟩
        have : arr.toList[i]? = more[i]? := by rw [← hm, List.getElem?_take, if_pos hi2]
        simpa [List.getElem?_eq_getElem hi2] using this
      · rw [hcs.1]; exact hml
      · rw [get_ofList]; simp
      · rw [get_ofList] at hv
        exact flatL_mem hfl _ (List.mem_of_getElem? hv)
    · exact (R'.has id b hb).mono hle (fun H he => hold _ (by
        obtain ⟨H', he', hlt⟩ := (R'.has id b hb).host_lt
        rw [he] at he'; injection he' with he'; subst he'; exact hlt))
  · intro id id' b b' H H' hb hb' hne hr he he'
    rw [hget] at hb hb'
    split at hb
    · rename_i hid
      rw [if_neg (by omega)] at hb'
      subst hid
      rw [Ren.add_same] at he
      injection he with he
      subst he
      obtain ⟨H2, he2, hlt⟩ := (R'.has id' b' hb').host_lt
      rw [Ren.add_other _ _ (by omega), he2] at he'
      injection he' with he'
      subst he'
      simp only; omega
    · rename_i hid
      rw [Ren.add_other _ _ (by omega)] at he
      split at hb'
      · rename_i hid'
        subst hid'
        rw [Ren.add_same] at he'
        injection he' with he'
        subst he'
        obtain ⟨H2, he2, hlt⟩ := (R'.has id b hb).host_lt
        rw [he] at he2
        injection he2 with he2
        subst he2
        simp only; omega
      · rw [Ren.add_other _ _ (by omega)] at he'
        exact R'.inj id id' b b' H H' hb hb' hne hr he he'
  · exact Nat.le_succ _
  · intro id hid
    exact Ren.add_other _ _ (by omega)
  · have b1 : Below B w0 w := ⟨hos, htape, hout, by rw [hsz]; exact Nat.le_refl _, fun i _ => by rw [hw]⟩
    exact b1.alloc R'.base _
  · simp; omega
  · exact Nat.le_refl _
  · intro id b hb _
    rw [hget, if_neg (by have := R.lt hb; omega)]
    exact hb
  · intro id b hb hid
    rw [hget, if_neg (by omega)] at hb
    exact ⟨b, hb, rfl, fun _ => rfl⟩
  · intro id b hb hid
    rw [hget] at hb
    split at hb
    · injection hb with hb; subst hb; rfl
    · have := R.lt hb; omega
  · intro k hk _
    rw [hold k (by omega), hw]
  · intro id H hid he
    left
    by_cases e1 : id = h.nx
    · subst e1
      rw [Ren.add_same] at he
      injection he with he
      subst he
      simp only; omega
    · rw [Ren.add_other _ _ e1, R.dom id hid] at he
      cases he
end Go.Gev
