/- Steps of both memories: composed; a new block; a store; an append. -/
import Derived.Test.YtndlcnfnoiabbaaGevRel
import Derived.Laws.MakeOwn
import Derived.Laws.CopyRow
import Derived.Test.YtndlcnfnoiabbaaGevTr
import Derived.Laws.Entries
import Derived.WalkLawsBesides
namespace Go.Gev
open Go.RowKit
theorem St.trans {B : Nat} {ρ ρ1 ρ2 : Ren} {h h1 h2 : Hs} {w w1 w2 : World} (_ : HR B ρ h w) (s : St B ρ h w ρ1 h1 w1) (t : St B ρ1 h1 w1 ρ2 h2 w2) : St B ρ h w ρ2 h2 w2 where
 hr := t.hr
 nx := Nat.le_trans s.nx t.nx
 le := Ren.le_trans s.le t.le
 old := fun id hid => (t.old id (Nat.lt_of_lt_of_le hid s.nx)).trans (s.old id hid)
 below := s.below.trans t.below
 size := Nat.le_trans s.size t.size
 lo := Nat.le_trans t.lo s.lo
 keep := fun id b hb hl => t.keep id b (s.keep id b hb (Nat.lt_of_lt_of_le hl t.lo)) hl
 gone := fun id b hb hid => by
  obtain ⟨b1, hb1, hr1, he1⟩ := t.gone id b hb (Nat.lt_of_lt_of_le hid s.nx)
  obtain ⟨b0, hb0, hr0, he0⟩ := s.gone id b1 hb1 hid
  exact ⟨b0, hb0, hr0.trans hr1, fun hl => (he0 (Nat.lt_of_lt_of_le hl t.lo)).trans (he1 hl)⟩
 newrw := fun id b hb hid => by
  rcases Nat.lt_or_ge id h1.nx with hlt | hge
  ·obtain ⟨b1, hb1, hr1, _⟩ := t.gone id b hb hlt
   rw [← hr1]; exact s.newrw id b1 hb1 hid
  ·exact t.newrw id b hb hge
 frame := fun k hk hno => by
  rw [← s.frame k hk (fun id b H hb hr he hl => hno id b H hb hr he (Nat.le_trans t.lo hl))]
  refine t.frame k (Nat.lt_of_lt_of_le hk s.size) (fun id b H hb hr he hl => ?_)
  rcases Nat.lt_or_ge id h.nx with hlt | hge
  ·rw [s.old id hlt] at he
   obtain ⟨b0, hb0, hr0, _⟩ := s.gone id b hb hlt
   exact hno id b0 H hb0 (hr0.trans hr) he hl
  ·rcases s.fresh id H hge he with hf | ⟨id0, b0, H0, hb0, hr0, he0, hl0, e⟩
   ·omega
   ·rw [← e]; exact hno id0 b0 H0 hb0 hr0 he0 (Nat.le_trans t.lo hl0)
 fresh := fun id H hid he => by
  rcases Nat.lt_or_ge id h1.nx with hlt | hge
  ·rw [t.old id hlt] at he
   rcases s.fresh id H hid he with hf | ⟨id0, b0, H0, hb0, hr0, he0, hl0, e⟩
   ·exact .inl hf
   ·exact .inr ⟨id0, b0, H0, hb0, hr0, he0, Nat.le_trans t.lo hl0, e⟩
  ·rcases t.fresh id H hge he with hf | ⟨id0, b0, H0, hb0, hr0, he0, hl0, e⟩
   ·exact .inl (Nat.le_trans s.size hf)
   ·rcases Nat.lt_or_ge id0 h.nx with hlt | hge0
    ·obtain ⟨b, hb, hr, _⟩ := s.gone id0 b0 hb0 hlt
     rw [s.old id0 hlt] at he0
     exact .inr ⟨id0, b, H0, hb, hr.trans hr0, he0, hl0, e⟩
    ·rw [← e]
     rcases s.fresh id0 H0 hge0 he0 with hf | ⟨id1, b1, H1, hb1, hr1, he1, hl1, e1⟩
     ·exact .inl hf
     ·exact .inr ⟨id1, b1, H1, hb1, hr1, he1, Nat.le_trans t.lo hl1, e1⟩
theorem HR.of_heap {B : Nat} {ρ : Ren} {h : Hs} {w w' : World} (R : HR B ρ h w) (e : w'.heap = w.heap) : HR B ρ h w' :=
 ⟨by rw [e]; exact R.base, R.dom, fun id b hb => by
  have := R.has id b hb
  cases b with
  | mp es cl => unfold BR at this ⊢; rw [e]; exact this
  | it m si se la => unfold BR at this ⊢; rw [e]; exact this
  | lp st => unfold BR at this ⊢; rw [e]; exact this
  | row c n t u rw_ fl => unfold BR at this ⊢; rw [e]; exact this, R.inj⟩
theorem flatL_mem : ∀ {vs : List Value}, flatL vs = true → ∀ v ∈ vs, flat1 v = true := by
 intro vs
 induction vs with
 | nil => intro _ v hv; simp at hv
 | cons u vs ih =>
  intro h v hv
  simp only [flatL] at h
  cases ho : flat1 u with
  | false => rw [ho] at h; cases h
  | true =>
   rw [ho] at h
   rcases List.mem_cons.1 hv with rfl | hv
   ·exact ho
   ·exact ih h v hv
def Ren.add (ρ : Ren) (id : Nat) (H : Host) : Ren := fun j => if j = id then some H else ρ j
theorem Ren.add_same (ρ : Ren) (id : Nat) (H : Host) : ρ.add id H id = some H := by simp [Ren.add]
theorem Ren.add_other (ρ : Ren) {id j : Nat} (H : Host) (h : j ≠ id) : ρ.add id H j = ρ j := by simp [Ren.add, h]
theorem Ren.le_add {ρ : Ren} {id : Nat} (H : Host) (h : ρ id = none) : ρ.le (ρ.add id H) := fun j K e => by
 by_cases hj : j = id
 ·subst hj; rw [h] at e; cases e
 ·rw [Ren.add_other ρ H hj]; exact e
theorem BR.mono {B : Nat} {ρ ρ' : Ren} {w w' : World} {id : Nat} {b : Blk} (h : BR B ρ w id b) (hle : ρ.le ρ') (hw : ∀ H, ρ id = some H → w'.heap[H.blk]? = w.heap[H.blk]?) : BR B ρ' w' id b := by
 cases b with
 | mp es cl =>
  obtain ⟨H, es', he, hB, hh, hm⟩ := h
  exact ⟨H, es', hle _ _ he, hB, (hw H he).trans hh, hm.mono hle⟩
 | it m si se la =>
  obtain ⟨H, he, hB, hh⟩ := h
  refine ⟨H, hle _ _ he, hB, ?_⟩
  rcases hh with ⟨h1, h2⟩ | ⟨k, Hm, h1, h2, h3⟩
  ·exact .inl ⟨h1, (hw H he).trans h2⟩
  ·exact .inr ⟨k, Hm, h1, hle _ _ h2, (hw H he).trans h3⟩
 | lp st =>
  obtain ⟨H, r, he, hB, hr, hh⟩ := h
  exact ⟨H, r, hle _ _ he, hB, hr, (hw H he).trans hh⟩
 | row c n e u rw_ fl =>
  obtain ⟨H, arr, fz, he, hu, hh, hs, hc, hr, hfl⟩ := h
  exact ⟨H, arr, fz, hle _ _ he, hu, (hw H he).trans hh, hs, fun i v hv => by
   obtain ⟨v', h1, h2⟩ := hc i v hv
   exact ⟨v', h1, h2.mono hle⟩, hr, hfl⟩
theorem BR.host_lt {B : Nat} {ρ : Ren} {w : World} {id : Nat} {b : Blk} (h : BR B ρ w id b) : ∃ H, ρ id = some H ∧ H.blk < w.heap.size := by
 cases b with
 | mp es cl =>
  obtain ⟨H, es', he, hB, hh, hm⟩ := h
  exact ⟨H, he, (Array.getElem?_eq_some_iff.1 hh).1⟩
 | it m si se la =>
  obtain ⟨H, he, hB, hh⟩ := h
  rcases hh with ⟨h1, h2⟩ | ⟨k, Hm, h1, h2, h3⟩
  ·exact ⟨H, he, (Array.getElem?_eq_some_iff.1 h2).1⟩
  ·exact ⟨H, he, (Array.getElem?_eq_some_iff.1 h3).1⟩
 | lp st =>
  obtain ⟨H, r, he, hB, hr, hh⟩ := h
  exact ⟨H, he, (Array.getElem?_eq_some_iff.1 hh).1⟩
 | row c n e u rw_ fl =>
  obtain ⟨H, arr, fz, he, hu, hh, _⟩ := h
  exact ⟨H, he, (Array.getElem?_eq_some_iff.1 hh).1⟩
theorem step_new {B : Nat} {ρ : Ren} {h : Hs} {w w0 : World} (R : HR B ρ h w0) (hw : w0.heap = w.heap) (hos : w.os = w0.os) (htape : w.tape = w0.tape) (hout : w.output = w0.output)
 (e u : Nat) (cs : List Value) (arr : Array Value) (more : List Value) (hcs : VL ρ cs more) (hm : arr.toList.take more.length = more) :
 St B ρ h w0 (ρ.add h.nx ⟨w.heap.size, 0, arr.size, u, none⟩) (newRow h e u cs) (w.alloc (.cells arr e)) := by
 have R' : HR B ρ h w := R.of_heap hw.symm
 have hnx : ρ h.nx = none := R.dom _ (Nat.le_refl _)
 have hle := Ren.le_add ⟨w.heap.size, 0, arr.size, u, none⟩ hnx
 have hget : ∀ id, (newRow h e u cs).hp.get id = if h.nx = id then some (.row (ofList cs) cs.length e u true (flatL cs)) else h.hp.get id := fun id => Tr.get_set _ _ _ _
 have hold : ∀ k, k < w.heap.size → (w.alloc (.cells arr e)).heap[k]? = w.heap[k]? := fun k hk => @heap_alloc_old w _ k hk
 have hml : more.length ≤ arr.size := by
  have := congrArg List.length hm
  simp only [List.length_take, Array.length_toList] at this
  omega
 have hsz : w0.heap.size = w.heap.size := by rw [hw]
 refine ⟨⟨?_, ?_, ?_, ?_⟩, ?_, hle, ?_, ?_, ?_, ?_, ?_, ?_, ?_, ?_, ?_⟩
 ·have := R'.base; simp; omega
 ·intro id hid
  have hid' : h.nx + 1 ≤ id := hid
  rw [Ren.add_other _ _ (by omega)]
  exact R.dom id (by omega)
 ·intro id b hb
  rw [hget] at hb
  split at hb
  ·rename_i hid
   subst hid
   injection hb with hb
   subst hb
   refine ⟨_, arr, (0, 0), Ren.add_same _ _ _, rfl, heap_alloc_new w _, rfl, fun i v hv => ?_, fun _ => ⟨.inl rfl, rfl, R'.base, ?_, fun i => ?_⟩, fun hfl i v hv => ?_⟩
   ·rw [get_ofList] at hv
    have hi : i < cs.length := (List.getElem?_eq_some_iff.1 hv).1
    have hi2 : i < more.length := by rw [← hcs.1]; exact hi
    refine ⟨more[i], ?_, (hcs.2 i v _ hv (List.getElem?_eq_getElem hi2)).mono hle⟩
    have : arr.toList[i]? = more[i]? := by rw [← hm, List.getElem?_take, if_pos hi2]
    simpa [List.getElem?_eq_getElem hi2] using this
   ·rw [hcs.1]; exact hml
   ·rw [get_ofList]; simp
   ·rw [get_ofList] at hv
    exact flatL_mem hfl _ (List.mem_of_getElem? hv)
  ·exact (R'.has id b hb).mono hle (fun H he => hold _ (by
    obtain ⟨H', he', hlt⟩ := (R'.has id b hb).host_lt
    rw [he] at he'; injection he' with he'; subst he'; exact hlt))
 ·intro id id' b b' H H' hb hb' hne hr he he'
  rw [hget] at hb hb'
  split at hb
  ·rename_i hid
   rw [if_neg (by omega)] at hb'
   subst hid
   rw [Ren.add_same] at he
   injection he with he
   subst he
   obtain ⟨H2, he2, hlt⟩ := (R'.has id' b' hb').host_lt
   rw [Ren.add_other _ _ (by omega), he2] at he'
   injection he' with he'
   subst he'
   simp only; omega
  ·rename_i hid
   rw [Ren.add_other _ _ (by omega)] at he
   split at hb'
   ·rename_i hid'
    subst hid'
    rw [Ren.add_same] at he'
    injection he' with he'
    subst he'
    obtain ⟨H2, he2, hlt⟩ := (R'.has id b hb).host_lt
    rw [he] at he2
    injection he2 with he2
    subst he2
    simp only; omega
   ·rw [Ren.add_other _ _ (by omega)] at he'
    exact R'.inj id id' b b' H H' hb hb' hne hr he he'
 ·exact Nat.le_succ _
 ·intro id hid
  exact Ren.add_other _ _ (by omega)
 ·have b1 : Below B w0 w := ⟨hos, htape, hout, by rw [hsz]; exact Nat.le_refl _, fun i _ => by rw [hw]⟩
  exact b1.alloc R'.base _
 ·simp; omega
 ·exact Nat.le_refl _
 ·intro id b hb _
  rw [hget, if_neg (by have := R.lt hb; omega)]
  exact hb
 ·intro id b hb hid
  rw [hget, if_neg (by omega)] at hb
  exact ⟨b, hb, rfl, fun _ => rfl⟩
 ·intro id b hb hid
  rw [hget] at hb
  split at hb
  ·injection hb with hb; subst hb; rfl
  ·have := R.lt hb; omega
 ·intro k hk _
  rw [hold k (by omega), hw]
 ·intro id H hid he
  left
  by_cases e1 : id = h.nx
  ·subst e1
   rw [Ren.add_same] at he
   injection he with he
   subst he
   simp only; omega
  ·rw [Ren.add_other _ _ e1, R.dom id hid] at he
   cases he
end Go.Gev
namespace Go.Gev
open Go.RowKit
theorem loadN_spec (c : Tr Value) : ∀ (n off : Nat) (acc vs : List Value), loadN c n off acc = some vs →
 ∃ xs, vs = acc.reverse ++ xs ∧ xs.length = n ∧ ∀ i x, xs[i]? = some x → c.get (off + i) = some x := by
 intro n
 induction n with
 | zero =>
  intro off acc vs h
  simp only [loadN, Option.some.injEq] at h
  exact ⟨[], by simp [h], rfl, fun i x hx => by simp at hx⟩
 | succ n ih =>
  intro off acc vs h
  simp only [loadN] at h
  cases hc : c.get off with
  | none => rw [hc] at h; cases h
  | some v =>
   rw [hc] at h
   obtain ⟨xs, h1, h2, h3⟩ := ih _ _ _ h
   refine ⟨v :: xs, by simp [h1], by simp [h2], fun i x hx => ?_⟩
   cases i with
   | zero => simp at hx; subst hx; exact hc
   | succ i => rw [show off + (i + 1) = off.succ + i from by omega]; exact h3 i x (by simpa using hx)
theorem loadN_nil {c : Tr Value} {n off : Nat} {vs : List Value} (h : loadN c n off [] = some vs) : vs.length = n ∧ ∀ i x, vs[i]? = some x → c.get (off + i) = some x := by
 obtain ⟨xs, h1, h2, h3⟩ := loadN_spec c n off [] vs h
 simp at h1; subst h1; exact ⟨h2, h3⟩
theorem storeN_spec : ∀ (vs : List Value) (off : Nat) (c c' : Tr Value), storeN vs off c = some c' →
 (∀ v ∈ vs, oneC v = true) ∧ (∀ i, i < vs.length → (c.get (off + i)).isSome = true) ∧
 ∀ j, c'.get j = if off ≤ j ∧ j < off + vs.length then vs[j - off]? else c.get j := by
 intro vs
 induction vs with
 | nil => intro off c c' h; simp only [storeN, Option.some.injEq] at h; subst h
          exact ⟨by simp, by simp, fun j => by rw [if_neg (by simp only [List.length_nil]; omega)]⟩
 | cons v vs ih =>
  intro off c c' h
  simp only [storeN] at h
  cases ho : oneC v with
  | false => rw [ho] at h; cases h
  | true =>
   rw [ho] at h
   cases hc : c.get off with
   | none => simp only [hc] at h; cases h
   | some u =>
    simp only [hc] at h
    obtain ⟨h1, h2, h3⟩ := ih _ _ _ h
    refine ⟨fun x hx => ?_, fun i hi => ?_, fun j => ?_⟩
    ·rcases List.mem_cons.1 hx with rfl | hx
     ·exact ho
     ·exact h1 x hx
    ·cases i with
     | zero => simp [hc]
     | succ i =>
      have := h2 i (by simpa using hi)
      rw [Tr.get_set, if_neg (by omega)] at this
      rw [show off + (i + 1) = off.succ + i from by omega]
      exact this
    ·rw [h3, Tr.get_set]
     by_cases e : off = j
     ·subst e
      rw [if_neg (by omega), if_pos rfl, if_pos (by simp)]
      simp
     ·by_cases h4 : off ≤ j ∧ j < off + (v :: vs).length
      ·rw [if_pos (by simp at h4; omega), if_pos h4]
       obtain ⟨d, rfl⟩ : ∃ d, j = off + (d + 1) := ⟨j - off - 1, by omega⟩
       rw [show off + (d + 1) - off.succ = d from by omega, show off + (d + 1) - off = d + 1 from by omega]
       simp
      ·rw [if_neg (by simp at h4 ⊢; omega), if_neg e, if_neg h4]
section
variable {B : Nat} {ρ : Ren} {h : Hs} {w : World}
theorem HR.cell (R : HR B ρ h w) {id off : Nat} {v : Value} (hc : blkCell off (h.hp.get id) = some v) :
 ∃ H v', ρ id = some H ∧ w.cell? ⟨H.blk, H.off + off, none⟩ = some v' ∧ VR ρ v v' := by
 cases hb : h.hp.get id with
 | none => rw [hb] at hc; cases hc
 | some b =>
  rw [hb] at hc
  cases b with
  | mp => cases hc
  | it => cases hc
  | lp => cases hc
  | row c n e u rw_ fl =>
   obtain ⟨H, arr, fz, he, hu, hh, hs, hcc, _, _⟩ := R.has id _ hb
   obtain ⟨v', h1, h2⟩ := hcc off v hc
   exact ⟨H, v', he, by rw [cell_of_row w H.blk (H.off + off) arr e fz hh]; exact h1, h2⟩
theorem add_block (b o j : Nat) : (⟨b, o, none⟩ : Addr).add j = ⟨b, o + j, none⟩ := by unfold Addr.add; split <;> simp_all
theorem HR.cells (R : HR B ρ h w) {id off n : Nat} {vs : List Value} (hc : blkCells n off (h.hp.get id) = some vs) :
 ∃ H ys, ρ id = some H ∧ VL ρ vs ys ∧ vs.length = n ∧ ∀ j y, ys[j]? = some y → w.cell? ((⟨H.blk, H.off + off, none⟩ : Addr).add j) = some y := by
 cases hb : h.hp.get id with
 | none => rw [hb] at hc; cases hc
 | some b =>
  rw [hb] at hc
  cases b with
  | mp => cases hc
  | it => cases hc
  | lp => cases hc
  | row c m e u rw_ fl =>
   obtain ⟨hl, hg⟩ := loadN_nil (show loadN c n off [] = some vs from hc)
   obtain ⟨H, arr, fz, he, hu, hh, hs, hcc, _⟩ := R.has id _ hb
   have key : ∀ i, i < vs.length → ∃ v', arr[H.off + (off + i)]? = some v' ∧ VR ρ (vs.getD i default) v' := fun i hi => by
    have := hcc (off + i) (vs[i]) (hg i _ (List.getElem?_eq_getElem hi))
    simpa [List.getD_eq_getElem?_getD, List.getElem?_eq_getElem hi] using this
   refine ⟨H, (List.range vs.length).map fun i => (arr[H.off + (off + i)]?).getD default, he, ⟨by simp, fun i x y hx hy => ?_⟩, hl, fun j y hy => ?_⟩
   ·have hi : i < vs.length := (List.getElem?_eq_some_iff.1 hx).1
    obtain ⟨v', h1, h2⟩ := key i hi
    simp [hi, h1] at hy
    subst hy
    rw [List.getElem?_eq_getElem hi] at hx
    injection hx with hx
    subst hx
    simpa [List.getD_eq_getElem?_getD, List.getElem?_eq_getElem hi] using h2
   ·have hj : j < vs.length := by
     have := (List.getElem?_eq_some_iff.1 hy).1
     simpa using this
    obtain ⟨v', h1, h2⟩ := key j hj
    simp [hj, h1] at hy
    subst hy
    rw [add_block, cell_of_row w H.blk _ arr e fz hh, Nat.add_assoc]
    exact h1
theorem run_storeCells_atG (P : Program) (g o : Nat) (t : TypeId) (fz : Nat × Nat) : ∀ (vs : List Value) (i : Nat) (cur : Array Value) (w : World), w.heap[g]? = some (.cells cur t fz) → (fz = (0, 0) ∨ cur.size ≤ fz.1) → o + i + vs.length ≤ cur.size → (∀ v ∈ vs, v.oneCell' = true) →
 (storeCells ⟨g, o, none⟩ vs i).run P w = .ok () (w.setRow g (cur.toList.take (o + i) ++ vs ++ cur.toList.drop (o + i + vs.length)).toArray)
 | [], i, cur, w, hg, _, _, _ => by
  simp only [storeCells, List.append_nil, List.length_nil, Nat.add_zero, List.take_append_drop, Array.toArray_toList]
  rw [setRow_self w g cur t fz hg]
  rfl
 | v :: rest, i, cur, w, hg, hfz, hl, h1 => by
  have hi : o + i < cur.size := by simp at hl; omega
  have hadd : (⟨g, o, none⟩ : Addr).add i = ⟨g, o + i, none⟩ := by unfold Addr.add; split <;> simp_all
  have hcell : w.cell? ⟨g, o + i, none⟩ = some cur[o + i] := by simp [World.cell?, hg, hi]
  have hfro : w.frozen? ⟨g, o + i, none⟩ = false := by
   obtain ⟨lo, hi'⟩ := fz
   simp only [World.frozen?, hg, Bool.and_eq_false_iff, decide_eq_false_iff_not]
   rcases hfz with hfz | hfz
   ·injection hfz with e1 e2
    right; omega
   ·left
    simp only at hfz
    omega
  have hst : (store ((⟨g, o, none⟩ : Addr).add i) v).run P w = .ok () (w.setRow g (cur.setIfInBounds (o + i) v)) := by
   rw [hadd, run_store P w _ v _ (h1 v (by simp)), hcell]
   simp [hfro, setCell_eq_setRow w g (o + i) cur t fz v hg]
  have ih := run_storeCells_atG P g o t fz rest (i + 1) (cur.setIfInBounds (o + i) v) (w.setRow g (cur.setIfInBounds (o + i) v)) (setRow_heap w g cur _ t _ hg) (by simpa using hfz) (by simp at hl ⊢; omega) (fun x hx => h1 x (by simp [hx]))
  simp only [storeCells, Sem.run_bind, hst, Result.andThen_ok, ih, setRow_setRow]
  congr 3
  have e := list_seg_step cur.toList (o + i) v rest (by simp at hl ⊢; omega)
  simpa [Array.toList_setIfInBounds, Nat.add_assoc] using e
theorem step_set (R : HR B ρ h w) {id n e u : Nat} {fl fl' : Bool} {c c' : Tr Value} (hb : h.hp.get id = some (.row c n e u true fl))
 {H : Host} {arr arr' : Array Value} {fz : Nat × Nat} (he : ρ id = some H) (hh : w.heap[H.blk]? = some (.cells arr e fz)) (hs : arr'.size = arr.size)
 (hc : ∀ i v, c'.get i = some v → ∃ v', arr'[i]? = some v' ∧ VR ρ v v') (hd : ∀ i, (c'.get i).isSome = (c.get i).isSome) (hf : fl' = true → ∀ i v, c'.get i = some v → flat1 v = true) :
 St B ρ h w ρ ⟨h.hp.set id (some (.row c' n e u true fl')), h.nx, minN h.lo id⟩ (w.setRow H.blk arr') := by
 obtain ⟨H0, arr0, fz0, he0, hu, hh0, hs0, hc0, hr0, _⟩ := R.has id _ hb
 rw [he] at he0
 injection he0 with he0
 subst he0
 rw [hh] at hh0
 injection hh0 with hh0
 injection hh0 with e1 e2 e3
 subst e1
 subst e3
 obtain ⟨hfz, hoff, hB, hn, hiff⟩ := hr0 rfl
 have hlt : H.blk < w.heap.size := (Array.getElem?_eq_some_iff.1 hh).1
 have hget : ∀ j, (h.hp.set id (some (.row c' n e u true fl'))).get j = if id = j then some (.row c' n e u true fl') else h.hp.get j := fun j => Tr.get_set _ _ _ _
 have hrw : ∀ j b, (h.hp.set id (some (.row c' n e u true fl'))).get j = some b → ∃ b0, h.hp.get j = some b0 ∧ isRw b0 = isRw b ∧ (j ≠ id → b0 = b) := fun j b hj => by
  rw [hget] at hj
  split at hj
  ·rename_i e'
   subst e'
   injection hj with hj
   subst hj
   exact ⟨_, hb, rfl, fun h => absurd rfl h⟩
  ·exact ⟨b, hj, rfl, fun _ => rfl⟩
 have hfar : ∀ k, k ≠ H.blk → (w.setRow H.blk arr').heap[k]? = w.heap[k]? := fun k hk => setRow_other w H.blk k arr' hk
 refine ⟨⟨by simpa using R.base, R.dom, fun j b hj => ?_, fun j j' b b' K K' hj hj' hne hrb ek ek' => ?_⟩, Nat.le_refl _, Ren.le_refl _, fun _ _ => rfl, ?_, by simp, minN_le_left _ _, fun j b hj hl => ?_, fun j b hj hjlt => ?_, fun j b hj hge => (by obtain ⟨b0, hb0, _, _⟩ := hrw j b hj; have := R.lt hb0; omega), fun k hk hno => ?_, fun j K hj e' => ?_⟩
 ·obtain ⟨b0, hb0, hr, hsame⟩ := hrw j b hj
  by_cases hji : j = id
  ·subst hji
   rw [hget, if_pos rfl] at hj
   injection hj with hj
   subst hj
   refine ⟨H, arr', fz, he, hu, setRow_heap w H.blk arr arr' e fz hh, by omega, fun i v hv => ?_, fun _ => ⟨by rw [hs]; exact hfz, hoff, hB, by omega, fun i => by rw [hd]; exact hiff i⟩, hf⟩
   rw [hoff, Nat.zero_add]
   exact hc i v hv
  ·have := hsame hji
   subst this
   refine (R.has j b0 hb0).mono (Ren.le_refl _) (fun K ek => hfar _ (fun e' => ?_))
   exact R.inj id j _ _ H K hb hb0 (fun h => hji h.symm) rfl he ek e'.symm
 ·obtain ⟨b0, hb0, hr, _⟩ := hrw j b hj
  obtain ⟨b0', hb0', _, _⟩ := hrw j' b' hj'
  exact R.inj j j' b0 b0' K K' hb0 hb0' hne (hr.trans hrb) ek ek'
 ·refine ⟨rfl, rfl, rfl, by simp, fun k hk => hfar k (by omega)⟩
 ·have hji : j ≠ id := fun e' => by subst e'; have := minN_le_right h.lo j; simp only at hl; omega
  show (h.hp.set id _).get j = _
  rw [hget, if_neg (fun e' => hji e'.symm)]
  exact hj
 ·obtain ⟨b0, hb0, hr, hsame⟩ := hrw j b hj
  refine ⟨b0, hb0, hr, fun hl => hsame (fun e' => ?_)⟩
  subst e'
  have := minN_le_right h.lo j
  simp only at hl; omega
 ·refine hfar k (fun e' => ?_)
  exact hno id _ H hb rfl he (minN_le_right _ _) e'.symm
 ·rw [R.dom j hj] at e'; cases e'
theorem step_store (P : Program) (R : HR B ρ h w) {id off : Nat} {vs ys : List Value} {h' : Hs} (hst : storeB h id off vs (h.hp.get id) = some h') (hvs : VL ρ vs ys) :
 ∃ H w', ρ id = some H ∧ (storeCells ⟨H.blk, H.off + off, none⟩ ys 0).run P w = .ok () w' ∧ St B ρ h w ρ h' w' := by
 cases hb : h.hp.get id with
 | none => rw [hb] at hst; cases hst
 | some b =>
  rw [hb] at hst
  cases b with
  | mp => cases hst
  | it => cases hst
  | lp => cases hst
  | row c n e u rw_ fl =>
   cases rw_ with
   | false => cases hst
   | true =>
    have hne : vs ≠ [] := by rintro rfl; simp [storeB] at hst
    have hst : setRow h id n e u (andB fl (flatL vs)) (storeN vs off c) = some h' := by
     cases vs with
     | nil => exact absurd rfl hne
     | cons v ws => exact hst
    cases hsn : storeN vs off c with
    | none => rw [hsn] at hst; cases hst
    | some c' =>
     rw [hsn] at hst
     simp only [setRow, Option.some.injEq] at hst
     subst hst
     obtain ⟨h1, h2, h3⟩ := storeN_spec vs off c c' hsn
     obtain ⟨H, arr, fz, he, hu, hh, hs, hcc, hr, hfl⟩ := R.has id _ hb
     obtain ⟨hfz, hoff, hB, hn, hiff⟩ := hr rfl
     have hfit : off + vs.length ≤ arr.size := by
      have hz : 0 < vs.length := List.length_pos_iff.2 hne
      have := (hiff _).1 (h2 (vs.length - 1) (by omega))
      omega
     have hy1 : ∀ y ∈ ys, y.oneCell' = true := fun y hy => by
      obtain ⟨i, hi, rfl⟩ := List.getElem_of_mem hy
      have hi' : i < vs.length := by rw [hvs.1]; exact hi
      exact (hvs.2 i _ _ (List.getElem?_eq_getElem hi') (List.getElem?_eq_getElem hi)).oneC (h1 _ (List.getElem_mem hi'))
     have hrun := run_storeCells_atG P H.blk off e fz ys 0 arr w hh (by
      rcases hfz with rfl | hfz
      ·exact .inl rfl
      ·exact .inr hfz) (by rw [← hvs.1]; simpa using hfit) hy1
     refine ⟨H, _, he, ?_, step_set (arr' := (arr.toList.take (off + 0) ++ ys ++ arr.toList.drop (off + 0 + ys.length)).toArray) R hb he hh ?_ ?_ ?_ ?_⟩
     ·rw [hoff, Nat.zero_add]; exact hrun
     ·have := hvs.1
      simp only [Nat.add_zero, List.size_toArray, List.length_append, List.length_take, List.length_drop, Array.length_toList]
      omega
     ·intro i v hv
      rw [h3] at hv
      have hlen := hvs.1
      simp only [Nat.add_zero]
      by_cases hin : off ≤ i ∧ i < off + vs.length
      ·rw [if_pos hin] at hv
       have hi2 : i - off < ys.length := by omega
       refine ⟨ys[i - off], ?_, hvs.2 (i - off) v _ hv (List.getElem?_eq_getElem hi2)⟩
       have : ((arr.toList.take off ++ ys) ++ arr.toList.drop (off + ys.length))[i]? = some ys[i - off] := by
        rw [List.getElem?_append_left (by simp; omega), List.getElem?_append_right (by simp; omega)]
        have : i - (List.take off arr.toList).length = i - off := by simp; omega
        rw [this]
        exact List.getElem?_eq_getElem hi2
       simpa using this
      ·rw [if_neg hin] at hv
       obtain ⟨v', hv1, hv2⟩ := hcc i v hv
       rw [hoff, Nat.zero_add] at hv1
       refine ⟨v', ?_, hv2⟩
       have : ((arr.toList.take off ++ ys) ++ arr.toList.drop (off + ys.length))[i]? = arr.toList[i]? := by
        by_cases hlt : i < off
        ·rw [List.getElem?_append_left (by simp; omega), List.getElem?_append_left (by simp; omega), List.getElem?_take, if_pos hlt]
        ·rw [List.getElem?_append_right (by simp; omega)]
         have : i - (List.take off arr.toList ++ ys).length = i - (off + ys.length) := by simp; omega
         rw [this, List.getElem?_drop]
         congr 1
         omega
       simpa [hv1] using this
     ·intro i
      rw [h3]
      by_cases hin : off ≤ i ∧ i < off + vs.length
      ·rw [if_pos hin]
       have := h2 (i - off) (by omega)
       rw [show off + (i - off) = i from by omega] at this
       rw [this]
       have hi2 : i - off < vs.length := by omega
       simp [List.getElem?_eq_getElem hi2]
      ·rw [if_neg hin]
     ·intro hfl2 i v hv
      rw [h3] at hv
      cases hq : fl with
      | false => rw [hq] at hfl2; cases hfl2
      | true =>
       rw [hq] at hfl2
       by_cases hin : off ≤ i ∧ i < off + vs.length
       ·rw [if_pos hin] at hv
        exact flatL_mem hfl2 _ (List.mem_of_getElem? hv)
       ·rw [if_neg hin] at hv
        exact hfl hq i v hv
end
end Go.Gev
namespace Go.Gev
open Go.RowKit
theorem allOne_mem : ∀ {vs : List Value}, allOne vs = true → ∀ v ∈ vs, oneC v = true := by
 intro vs
 induction vs with
 | nil => intro _ v hv; simp at hv
 | cons u vs ih =>
  intro h v hv
  simp only [allOne] at h
  cases ho : oneC u with
  | false => rw [ho] at h; cases h
  | true =>
   rw [ho] at h
   rcases List.mem_cons.1 hv with rfl | hv
   ·exact ho
   ·exact ih h v hv
theorem VL.one {ρ : Ren} {vs ys : List Value} (h : VL ρ vs ys) (h1 : ∀ v ∈ vs, oneC v = true) : ∀ y ∈ ys, y.oneCell' = true := fun y hy => by
 obtain ⟨i, hi, rfl⟩ := List.getElem_of_mem hy
 have hi' : i < vs.length := by rw [h.1]; exact hi
 exact (h.2 i _ _ (List.getElem?_eq_getElem hi') (List.getElem?_eq_getElem hi)).oneC (h1 _ (List.getElem_mem hi'))
section
variable {B : Nat} {ρ : Ren} {h : Hs} {w w' : World}
theorem step_move (R : HR B ρ h w) {id n e u e' u' n' : Nat} {fl fl' : Bool} {c c' : Tr Value} (hb : h.hp.get id = some (.row c n e u true fl))
 {H K : Host} {arr' : Array Value} {fz : Nat × Nat} (he : ρ id = some H) (hK : w'.heap[K.blk]? = some (.cells arr' e' fz)) (hfz : fz = (0, 0) ∨ arr'.size ≤ fz.1) (hs : arr'.size = K.sz) (ho : K.off = 0) (hu : K.un = u')
 (hB : B ≤ K.blk) (hwh : K.blk = H.blk ∨ w.heap.size ≤ K.blk) (hfar : ∀ k, k < w.heap.size → k ≠ H.blk → w'.heap[k]? = w.heap[k]?)
 (hbel : Below B w w') (hn : n' ≤ arr'.size)
 (hc : ∀ i v, c'.get i = some v → ∃ v', arr'[i]? = some v' ∧ VR ρ v v') (hd : ∀ i, (c'.get i).isSome = true ↔ i < n') (hf : fl' = true → ∀ i v, c'.get i = some v → flat1 v = true) :
 St B ρ h w (ρ.add h.nx K) ⟨(h.hp.set id none).set h.nx (some (.row c' n' e' u' true fl')), Nat.succ h.nx, minN h.lo id⟩ w' := by
 have hid : id < h.nx := R.lt hb
 have hnx : ρ h.nx = none := R.dom _ (Nat.le_refl _)
 have hle := Ren.le_add K hnx
 have hget : ∀ j, ((h.hp.set id none).set h.nx (some (.row c' n' e' u' true fl'))).get j = if h.nx = j then some (.row c' n' e' u' true fl') else if id = j then none else h.hp.get j := fun j => by
  rw [Tr.get_set, Tr.get_set]
 have hold : ∀ j b, ((h.hp.set id none).set h.nx (some (.row c' n' e' u' true fl'))).get j = some b → j ≠ h.nx → h.hp.get j = some b ∧ j ≠ id := fun j b hj hne => by
  rw [hget, if_neg (fun e => hne e.symm)] at hj
  split at hj
  ·cases hj
  ·rename_i e; exact ⟨hj, fun e' => e e'.symm⟩
 have hother : ∀ j b, h.hp.get j = some b → j ≠ id → ∀ L, ρ j = some L → L.blk ≠ H.blk := fun j b hj hne L hL =>
  (R.inj id j _ b H L hb hj (fun e => hne e.symm) rfl he hL).symm
 have hlt : ∀ j b, h.hp.get j = some b → ∀ L, ρ j = some L → L.blk < w.heap.size := fun j b hj L hL => by
  obtain ⟨L', e1, e2⟩ := (R.has j b hj).host_lt
  rw [hL] at e1; injection e1 with e1; subst e1; exact e2
 refine ⟨⟨Nat.le_trans R.base hbel.size, fun j hj => ?_, fun j b hj => ?_, fun j j' b b' L L' hj hj' hne hr eL eL' => ?_⟩, Nat.le_succ _, hle, fun j hj => Ren.add_other _ _ (by omega), hbel, hbel.size, minN_le_left _ _,
  fun j b hj hl => ?_, fun j b hj hjlt => ?_, fun j b hj hge => ?_, fun k hk hno => ?_, fun j L hj eL => ?_⟩
 ·have hj' : h.nx + 1 ≤ j := hj
  rw [Ren.add_other _ _ (by omega)]
  exact R.dom j (by omega)
 ·by_cases hjn : j = h.nx
  ·subst hjn
   rw [hget, if_pos rfl] at hj
   injection hj with hj
   subst hj
   refine ⟨K, arr', fz, Ren.add_same _ _ _, hu, hK, hs, fun i v hv => ?_, fun _ => ⟨hfz, ho, hB, hn, hd⟩, hf⟩
   obtain ⟨v', h1, h2⟩ := hc i v hv
   rw [ho, Nat.zero_add]
   exact ⟨v', h1, h2.mono hle⟩
  ·obtain ⟨h1, h2⟩ := hold j b hj hjn
   exact (R.has j b h1).mono hle (fun L eL => hfar _ (hlt j b h1 L eL) (hother j b h1 h2 L eL))
 ·by_cases e1 : j = h.nx
  ·subst e1
   obtain ⟨h1, h2⟩ := hold j' b' hj' (fun e => hne e.symm)
   rw [Ren.add_same] at eL
   injection eL with eL
   subst eL
   rw [Ren.add_other _ _ (fun e => hne e.symm)] at eL'
   have := hother j' b' h1 h2 L' eL'
   have := hlt j' b' h1 L' eL'
   omega
  ·obtain ⟨h1, h2⟩ := hold j b hj e1
   rw [Ren.add_other _ _ e1] at eL
   by_cases e2 : j' = h.nx
   ·subst e2
    rw [Ren.add_same] at eL'
    injection eL' with eL'
    subst eL'
    have := hother j b h1 h2 L eL
    have := hlt j b h1 L eL
    omega
   ·obtain ⟨h3, h4⟩ := hold j' b' hj' e2
    rw [Ren.add_other _ _ e2] at eL'
    exact R.inj j j' b b' L L' h1 h3 hne hr eL eL'
 ·show ((h.hp.set id none).set h.nx _).get j = _
  have := minN_le_right h.lo id
  have := R.lt hj
  simp only at hl
  rw [hget, if_neg (by omega), if_neg (by omega)]
  exact hj
 ·obtain ⟨h1, _⟩ := hold j b hj (by omega)
  exact ⟨b, h1, rfl, fun _ => rfl⟩
 ·by_cases e1 : j = h.nx
  ·subst e1
   replace hj : ((h.hp.set id none).set h.nx (some (.row c' n' e' u' true fl'))).get h.nx = some b := hj
   rw [hget, if_pos rfl] at hj
   injection hj with hj; subst hj; rfl
  ·obtain ⟨h1, _⟩ := hold j b hj e1
   have := R.lt h1; omega
 ·exact hfar k hk (fun e1 => hno id _ H hb rfl he (minN_le_right _ _) e1.symm)
 ·by_cases e1 : j = h.nx
  ·subst e1
   rw [Ren.add_same] at eL
   injection eL with eL
   subst eL
   rcases hwh with e1 | e1
   ·exact .inr ⟨id, _, H, hb, rfl, he, minN_le_right _ _, e1.symm⟩
   ·exact .inl e1
  ·rw [Ren.add_other _ _ e1, R.dom j hj] at eL; cases eL
theorem news_of (R : HR B ρ h w) {u m cc : Nat} {xa : Option Addr} {x' : Value} {news : List Value} (hx : VR ρ (.slice xa m cc) x') (hr : rowOf h u m xa = some news) :
 ∃ ys a' c', x' = .slice a' m c' ∧ VL ρ news ys ∧ news.length = m * u ∧ (m = 0 ∨ ∃ a, a' = some a ∧ ∀ j y, ys[j]? = some y → w.cell? (a.add j) = some y) := by
 cases hx with
 | nilslice =>
  simp only [rowOf, Option.some.injEq] at hr
  subst hr
  exact ⟨[], _, _, rfl, VL.nil, by simp, .inl rfl⟩
 | empty b o k a' c' =>
  simp only [rowOf, Option.some.injEq] at hr
  subst hr
  exact ⟨[], _, _, rfl, VL.nil, by simp, .inl rfl⟩
 | slice id off n c c' H e1 e2 e3 e4 e5 =>
  cases m with
  | zero =>
   simp only [rowOf, Option.some.injEq] at hr
   subst hr
   exact ⟨[], _, _, rfl, VL.nil, by simp, .inl rfl⟩
  | succ m =>
   simp only [rowOf] at hr
   obtain ⟨H', ys, g1, g2, g3, g4⟩ := R.cells hr
   rw [e1] at g1
   injection g1 with g1
   subst g1
   exact ⟨ys, _, _, rfl, g2, g3, .inr ⟨_, rfl, g4⟩⟩
theorem andB_true {a b : Bool} (h : andB a b = true) : a = true ∧ b = true := by cases a <;> cases b <;> first | exact ⟨rfl, rfl⟩ | (simp [andB] at h)
theorem app4_spec {e u id n m sz : Nat} {c : Tr Value} {fl bq : Bool} {news : List Value} {v : Value} {h' : Hs}
 (hiff : ∀ i, (c.get i).isSome = true ↔ i < sz) (hq : bq = Nat.beq (Nat.mul n u) sz)
 (ha : app4 h e u id n m c sz fl news bq (loadN c (Nat.mul n u) 0 []) = some (v, h')) :
 v = .slice (some ⟨h.nx, 0, none⟩) (n + m) (n + m) ∧ n * u ≤ sz ∧ ∃ c2 fl2, h' = ⟨(h.hp.set id none).set h.nx (some (.row c2 (n * u + news.length) e u true fl2)), Nat.succ h.nx, minN h.lo id⟩ ∧
  (∀ j x, c2.get j = some x → (j < n * u ∧ c.get j = some x) ∨ (n * u ≤ j ∧ news[j - n * u]? = some x)) ∧ (∀ j, (c2.get j).isSome = true ↔ j < n * u + news.length) ∧ (fl2 = true → fl = true ∧ flatL news = true) := by
 cases bq with
 | true =>
  have hs : n * u = sz := Nat.eq_of_beq_eq_true hq.symm
  subst hs
  simp only [app4, Option.some.injEq, Prod.mk.injEq] at ha
  obtain ⟨rfl, rfl⟩ := ha
  refine ⟨rfl, Nat.le_refl _, ofListFrom news (n * u) c, _, rfl, fun j x hj => ?_, fun j => ?_, andB_true⟩
  ·rw [get_ofListFrom] at hj
   split at hj
   ·rename_i hh; exact .inr ⟨hh.1, hj⟩
   ·exact .inl ⟨(hiff j).1 (by rw [hj]; rfl), hj⟩
  ·rw [get_ofListFrom]
   by_cases hh : n * u ≤ j ∧ j < n * u + news.length
   ·rw [if_pos hh]
    have : j - n * u < news.length := by omega
    simp [List.getElem?_eq_getElem this, hh.2]
   ·rw [if_neg hh, hiff]; omega
 | false =>
  cases hl : loadN c (Nat.mul n u) 0 [] with
  | none => rw [hl] at ha; cases ha
  | some old =>
   rw [hl] at ha
   simp only [app4, Option.some.injEq, Prod.mk.injEq] at ha
   obtain ⟨rfl, rfl⟩ := ha
   obtain ⟨g1, g2⟩ := loadN_nil hl
   have g1' : old.length = n * u := g1
   refine ⟨rfl, ?_, ofList (old ++ news), andB fl (flatL news), ?_, fun j x hj => ?_, fun j => ?_, andB_true⟩
   ·rcases Nat.eq_zero_or_pos (n * u) with hz | hz
    ·omega
    ·have hj : n * u - 1 < old.length := by omega
     have := g2 (n * u - 1) old[n * u - 1] (List.getElem?_eq_getElem hj)
     have := (hiff _).1 (show (c.get (0 + (n * u - 1))).isSome = true by rw [this]; rfl)
     omega
   ·show (⟨_, _, _⟩ : Hs) = _
    rw [show Nat.add old.length news.length = n * u + news.length from by show old.length + news.length = _; rw [g1']]
   ·rw [get_ofList] at hj
    by_cases hlt : j < n * u
    ·rw [List.getElem?_append_left (by omega)] at hj
     exact .inl ⟨hlt, by have := g2 j x hj; simpa using this⟩
    ·rw [List.getElem?_append_right (by omega), g1'] at hj
     exact .inr ⟨by omega, hj⟩
   ·rw [get_ofList]
    simp [g1']
theorem run_append_nothing {P : Program} (w : World) (t ty e : TypeId) (i : TypeInfo) (ht : P.underlying t = some (.slice e)) (hi : P.info? e = some i)
 (a a' : Option Addr) (n c c' : Nat) (hn : n ≤ c) (ha : a' = none → c' = 0) : (Builtin.append_ #[t, t] ty #[.slice a n c, .slice a' 0 c']).run P w = .ok (.slice a n c) w := by
 have hf : (Builtin.firstCells i.size 0 (.slice a' 0 c')).run P w = .ok #[] w := by
  cases a' <;> simp [Builtin.firstCells, loadCells, loadCellsFrom]
 cases a <;> simp [Builtin.append_, run_underlying ht, sizeOf, typeInfo, hi, Builtin.lenOf, hn, hf, storeCells]
structure AppTo (P : Program) (t ty e : TypeId) (u by_ : Nat) : Prop where
 ht : P.underlying t = some (.slice e)
 info : ∃ i z, P.info? e = some i ∧ i.zero = some z ∧ i.size = u ∧ i.bytes = by_ ∧ z.cells.size = u
 pos : 0 < u
 bpos : 0 < by_
structure RunApp (P : Program) (w : World) (e : TypeId) (i : TypeInfo) (z : Value) (args : Array TypeId) (ty : TypeId) (x' : Value) (m : Nat) (ys : List Value) : Prop where
 nothing : m = 0 → ∀ (a : Option Addr) (n c : Nat), n ≤ c → (Builtin.append_ args ty #[.slice a n c, x']).run P w = .ok (.slice a n c) w
 nil : 0 < m → (m : Int) ≤ 9223372036854775807 → m * i.bytes ≤ 281474976710656 → (Builtin.append_ args ty #[.slice none 0 0, x']).run P w =
  .ok (.slice (some ⟨w.heap.size, 0, none⟩) m (grownCap w m 0 e)) (w.drew.alloc (.cells (ys.toArray ++ Builtin.zeroCells z.cells (grownCap w m 0 e - m)) e))
 room : ∀ (g n c : Nat) (cur : Array Value) (fz : Nat × Nat), w.heap[g]? = some (.cells cur e fz) → (fz = (0, 0) ∨ cur.size ≤ fz.1) → n + m ≤ c → n * i.size + ys.length ≤ cur.size →
  (Builtin.append_ args ty #[.slice (some ⟨g, 0, none⟩) n c, x']).run P w = .ok (.slice (some ⟨g, 0, none⟩) (n + m) c) (w.setRow g (cur.toList.take (n * i.size) ++ ys ++ cur.toList.drop (n * i.size + ys.length)).toArray)
 grow : ∀ (b : Addr) (n c : Nat) (olds : List Value), olds.length = n * i.size → (∀ j v, olds[j]? = some v → w.cell? (b.add j) = some v) → c < n + m → ((n + m : Nat) : Int) ≤ 9223372036854775807 →
  Builtin.nextslicecap (n + m) c * i.bytes ≤ 281474976710656 → m ≠ 0 → (Builtin.append_ args ty #[.slice (some b) n c, x']).run P w =
  .ok (.slice (some ⟨w.heap.size, 0, none⟩) (n + m) (grownCap w (n + m) c e)) (w.drew.alloc (.cells (olds.toArray ++ ys.toArray ++ Builtin.zeroCells z.cells (grownCap w (n + m) c e - (n + m))) e))
theorem step_app2 {P : Program} (R : HR B ρ h w) {e ty : TypeId} {args : Array TypeId} {m : Nat} {s s' x' v : Value} {h' : Hs} {i : TypeInfo} {z : Value} {news ys : List Value}
 (hzc : z.cells.size = i.size) (hpos : 0 < i.size) (hbpos : 0 < i.bytes) (A : RunApp P w e i z args ty x' m ys) (hs : VR ρ s s') (hys : VL ρ news ys) (hlen : news.length = m * i.size)
 (ha : app2 h e i.size i.bytes m news s = some (v, h')) :
 ∃ v' w' ρ', (Builtin.append_ args ty #[s', x']).run P w = .ok v' w' ∧ VR ρ' v v' ∧ St B ρ h w ρ' h' w' := by
  cases s with
  | slice sa n sc =>
   simp only [app2] at ha
   cases hbd : Nat.ble (Nat.mul (Nat.add n m) i.bytes) 70368744177664 with
   | false => rw [hbd] at ha; cases ha
   | true =>
    rw [hbd] at ha
    have hbd' : (n + m) * i.bytes ≤ 70368744177664 := Nat.le_of_ble_eq_true hbd
    have hylen : ys.length = m * i.size := by rw [← hys.1]; exact hlen
    cases hs with
    | nilslice =>
     cases m with
     | zero =>
      simp only [Option.some.injEq, Prod.mk.injEq] at ha
      obtain ⟨rfl, rfl⟩ := ha
      exact ⟨_, w, ρ, A.nothing rfl none 0 0 (Nat.le_refl _), .nilslice, St.refl R⟩
     | succ m =>
      simp only [Option.some.injEq, Prod.mk.injEq] at ha
      obtain ⟨rfl, rfl⟩ := ha
      ·have h64 : ((m + 1 : Nat) : Int) ≤ 9223372036854775807 := by
        have := Nat.le_mul_of_pos_right (0 + (m + 1)) hbpos
        omega
       have hrun := A.nil (by omega) h64 (by simp only [Nat.zero_add] at hbd'; omega)
       have hge := grownCap_ge w (m + 1) 0 e
       have hcm : grownCap w (m + 1) 0 e ≤ maxLen := grownCap_le_maxLen w (m + 1) 0 e (by simp only [maxLen]; omega)
       refine ⟨_, _, _, hrun, ?_, step_new (w := w.drew) R rfl rfl rfl rfl e i.size news _ ys hys ?_⟩
       ·refine .slice h.nx 0 (m + 1) (m + 1) _ _ (Ren.add_same _ _ _) (Nat.le_refl _) hge hcm (.inr ?_)
        simp only [Array.size_append, List.size_toArray, size_zeroCells, hzc, hylen, Nat.zero_add, ← Nat.add_mul]
        rw [show m + 1 + (grownCap w (m + 1) 0 e - (m + 1)) = grownCap w (m + 1) 0 e from by omega]
        exact Nat.le_refl _
       ·simp
    | empty b o k a1 c1 h3 =>
     simp at ha
    | slice id off _ _ c1 H e1 e2 e3 e4 e5 =>
     simp only at ha
     cases hoff : Nat.beq off 0 with
     | false => rw [hoff] at ha; cases ha
     | true =>
      have hoff0 := Nat.eq_of_beq_eq_true hoff
      subst hoff0
      rw [hoff] at ha
      cases hb : h.hp.get id with
      | none => simp only [hb, app3] at ha; cases ha
      | some b =>
       rw [hb] at ha
       cases b with
       | mp => cases ha
       | it => cases ha
       | lp => cases ha
       | row c sz eb ub rw_ fl =>
        simp only [app3, frcB_eq] at ha
        cases rw_ with
        | false => cases ha
        | true =>
         cases hub : Nat.beq i.size ub with
         | false => rw [hub] at ha; cases ha
         | true =>
          have hub' := Nat.eq_of_beq_eq_true hub
          subst hub'
          rw [hub] at ha
          cases heb : Nat.beq e eb with
          | false => rw [heb] at ha; cases ha
          | true =>
           have heb' := Nat.eq_of_beq_eq_true heb
           subst heb'
           rw [heb] at ha
           obtain ⟨H0, arr, fz, he0, hu, hh, hs0, hcc, hrw, hflat⟩ := R.has id _ hb
           rw [e1] at he0
           injection he0 with he0
           subst he0
           obtain ⟨hfz, hHoff, hHB, hHn, hiff⟩ := hrw rfl
           obtain ⟨rfl, hnsz, c2, fl2, rfl, hc2, hd2, hf2⟩ := app4_spec hiff rfl ha
           have hf3 : fl2 = true → ∀ i v, c2.get i = some v → flat1 v = true := fun hq i v hv => by
            obtain ⟨q1, q2⟩ := hf2 hq
            rcases hc2 i v hv with ⟨_, g2⟩ | ⟨_, g2⟩
            ·exact hflat q1 i v g2
            ·exact flatL_mem q2 _ (List.mem_of_getElem? g2)
           have hcap : c1 * i.size ≤ arr.size := by
            rcases e5 with e5 | e5
            ·omega
            ·rw [hHoff, hu] at e5; omega
           -- the old cells
           have holds : ∀ j y, (arr.toList.take (n * i.size))[j]? = some y → w.cell? ((⟨H.blk, 0, none⟩ : Addr).add j) = some y := fun j y hj => by
            rw [add_block, Nat.zero_add, cell_of_row w H.blk j arr e fz hh]
            rw [List.getElem?_take] at hj
            split at hj
            ·simpa using hj
            ·cases hj
           have hfit : n * i.size ≤ arr.size := by omega
           have holdl : (arr.toList.take (n * i.size)).length = n * i.size := by simp; omega
           have hlt : H.blk < w.heap.size := (Array.getElem?_eq_some_iff.1 hh).1
           rw [hHoff, Nat.zero_add]
           -- a cell of the new row, in an array that begins with the old cells and the new ones
           have hnew : ∀ arr' : Array Value, (∀ j, j < n * i.size → arr'[j]? = arr[j]?) → (∀ j y, ys[j]? = some y → arr'[n * i.size + j]? = some y) →
            ∀ j x, c2.get j = some x → ∃ y, arr'[j]? = some y ∧ VR ρ x y := fun arr' h1 h2 j x hj => by
            rcases hc2 j x hj with ⟨g1, g2⟩ | ⟨g1, g2⟩
            ·obtain ⟨y, q1, q2⟩ := hcc j x g2
             rw [hHoff, Nat.zero_add] at q1
             exact ⟨y, (h1 j g1).trans q1, q2⟩
            ·have hj2 : j - n * i.size < news.length := (List.getElem?_eq_some_iff.1 g2).1
             have hj3 : j - n * i.size < ys.length := by rw [← hys.1]; exact hj2
             refine ⟨ys[j - n * i.size], ?_, hys.2 _ x _ g2 (List.getElem?_eq_getElem hj3)⟩
             have := h2 (j - n * i.size) _ (List.getElem?_eq_getElem hj3)
             rwa [show n * i.size + (j - n * i.size) = j from by omega] at this
           by_cases hroom : n + m ≤ c1
           ·-- there is room
            have hrm : n * i.size + ys.length ≤ arr.size := by
             rw [hylen, ← Nat.add_mul]
             exact Nat.le_trans (Nat.mul_le_mul_right _ hroom) hcap
            have hrun := A.room H.blk n c1 arr fz hh hfz hroom hrm
            refine ⟨_, _, ρ.add h.nx ⟨H.blk, 0, arr.size, i.size, none⟩, hrun, ?_, ?_⟩
            ·refine .slice h.nx 0 (n + m) (n + m) c1 _ (Ren.add_same _ _ _) (Nat.le_refl _) hroom e4 (.inr ?_)
             simp only [Nat.zero_add]
             exact hcap
            ·have hsz : (arr.toList.take (n * i.size) ++ ys ++ arr.toList.drop (n * i.size + ys.length)).toArray.size = arr.size := by
              simp; omega
             refine step_move (K := ⟨H.blk, 0, arr.size, i.size, none⟩) R hb e1 (setRow_heap w H.blk arr _ e fz hh) (by rw [hsz]; exact hfz) hsz rfl rfl hHB (.inl rfl) (fun k _ hk => setRow_other w H.blk k _ hk)
              ⟨rfl, rfl, rfl, by simp, fun k hk => setRow_other w H.blk k _ (by omega)⟩ ?_ (hnew _ ?_ ?_) hd2 hf3
             ·rw [hsz, hys.1]; exact hrm
             ·intro j hj
              have : (arr.toList.take (n * i.size) ++ ys ++ arr.toList.drop (n * i.size + ys.length))[j]? = arr.toList[j]? := by
               rw [List.append_assoc, List.getElem?_append_left (by omega), List.getElem?_take, if_pos hj]
              simpa using this
             ·intro j y hj
              have hj2 : j < ys.length := (List.getElem?_eq_some_iff.1 hj).1
              have : (arr.toList.take (n * i.size) ++ ys ++ arr.toList.drop (n * i.size + ys.length))[n * i.size + j]? = some y := by
               rw [List.append_assoc, List.getElem?_append_right (by omega), holdl, Nat.add_sub_cancel_left, List.getElem?_append_left hj2]
               exact hj
              simpa using this
           ·-- it grows
            have hm0 : m ≠ 0 := by omega
            ·have h64 : ((n + m : Nat) : Int) ≤ 9223372036854775807 := by
              have := Nat.le_mul_of_pos_right (n + m) hbpos
              omega
             have hrun := A.grow ⟨H.blk, 0, none⟩ n c1 _ holdl holds (by omega) h64 (growslice_fits (by omega) (by omega)) hm0
             have hge := grownCap_ge w (n + m) c1 e
             have hcm : grownCap w (n + m) c1 e ≤ maxLen := grownCap_le_maxLen w (n + m) c1 e (by simp only [maxLen]; omega)
             have hasz : ((arr.toList.take (n * i.size)).toArray ++ ys.toArray ++ Builtin.zeroCells z.cells (grownCap w (n + m) c1 e - (n + m))).size = grownCap w (n + m) c1 e * i.size := by
              simp only [Array.size_append, List.size_toArray, size_zeroCells, hzc, hylen, holdl, ← Nat.add_mul]
              congr 1
              omega
             refine ⟨_, _, ρ.add h.nx ⟨w.heap.size, 0, grownCap w (n + m) c1 e * i.size, i.size, none⟩, hrun, .slice h.nx 0 (n + m) (n + m) _ _ (Ren.add_same _ _ _) (Nat.le_refl _) hge hcm (.inr ?_), ?_⟩
             ·simp only [Nat.zero_add]
              exact Nat.le_refl _
             ·refine step_move (K := ⟨w.heap.size, 0, grownCap w (n + m) c1 e * i.size, i.size, none⟩) R hb e1 (heap_alloc_new w.drew _) (.inl rfl) hasz rfl rfl R.base (.inr (Nat.le_refl _)) (fun k hk _ => @heap_alloc_old w.drew _ k hk)
               ⟨rfl, rfl, rfl, by simp, fun k hk => @heap_alloc_old w.drew _ k (by have := R.base; simp; omega)⟩ ?_ (hnew _ ?_ ?_) hd2 hf3
              ·rw [hasz, hlen, ← Nat.add_mul]
               exact Nat.mul_le_mul_right _ hge
              ·intro j hj
               have : (arr.toList.take (n * i.size) ++ ys ++ (Builtin.zeroCells z.cells (grownCap w (n + m) c1 e - (n + m))).toList)[j]? = arr.toList[j]? := by
                rw [List.append_assoc, List.getElem?_append_left (by omega), List.getElem?_take, if_pos hj]
               simpa [← Array.getElem?_toList] using this
              ·intro j y hj
               have hj2 : j < ys.length := (List.getElem?_eq_some_iff.1 hj).1
               have : (arr.toList.take (n * i.size) ++ ys ++ (Builtin.zeroCells z.cells (grownCap w (n + m) c1 e - (n + m))).toList)[n * i.size + j]? = some y := by
                rw [List.append_assoc, List.getElem?_append_right (by omega), holdl, Nat.add_sub_cancel_left, List.getElem?_append_left hj2]
                exact hj
               simpa [← Array.getElem?_toList] using this
  | _ => cases ha
theorem run_append_roomG {P : Program} (w : World) (t ty e : TypeId) (i : TypeInfo) (ht : P.underlying t = some (.slice e)) (hi : P.info? e = some i)
 (g sLen sCap : Nat) (cur : Array Value) (fz : Nat × Nat) (hg : w.heap[g]? = some (.cells cur e fz)) (hfz : fz = (0, 0) ∨ cur.size ≤ fz.1)
 (a : Addr) (m c : Nat) (news : List Value) (hl : news.length = m * i.size) (hnews : ∀ j u, news[j]? = some u → w.cell? (a.add j) = some u) (h1 : ∀ u ∈ news, u.oneCell' = true)
 (hroom : sLen + m ≤ sCap) (hfit : sLen * i.size + news.length ≤ cur.size) :
 (Builtin.append_ #[t, t] ty #[.slice (some ⟨g, 0, none⟩) sLen sCap, .slice (some a) m c]).run P w =
  .ok (.slice (some ⟨g, 0, none⟩) (sLen + m) sCap) (w.setRow g (cur.toList.take (sLen * i.size) ++ news ++ cur.toList.drop (sLen * i.size + news.length)).toArray) := by
 have hf := run_firstCells_some (P := P) w i.size m a m c news hl hnews
 have hst := run_storeCells_atG P g (sLen * i.size) e fz news 0 cur w hg hfz (by simpa using hfit) h1
 simp only [Nat.add_zero] at hst
 simp [Builtin.append_, run_underlying ht, sizeOf, typeInfo, hi, Builtin.lenOf, hroom, hf, Addr.add_lit, hst]
theorem runApp_slice {P : Program} {t ty e : TypeId} {i : TypeInfo} {z : Value} (ht : P.underlying t = some (.slice e)) (hi : P.info? e = some i) (hz : i.zero = some z) {x : Value} {xa a' : Option Addr} {m cc c' : Nat} {ys news : List Value}
 (hx : VR ρ (.slice xa m cc) (.slice a' m c')) (hylen : ys.length = m * i.size) (hone : ∀ y ∈ ys, y.oneCell' = true)
 (hcells : m = 0 ∨ ∃ a, a' = some a ∧ ∀ j y, ys[j]? = some y → w.cell? (a.add j) = some y) (_ : x = x) (_ : news = news) : RunApp P w e i z #[t, t] ty (.slice a' m c') m ys := by
 have hnil : a' = none → c' = 0 := fun e9 => by subst e9; cases hx <;> rfl
 refine ⟨fun hm a n c hn => ?_, fun hm h64 h48 => ?_, fun g n c cur fz hg hfz hroom hfit => ?_, fun b n c olds ho1 ho2 hc h64 hfit hm0 => ?_⟩
 ·subst hm; exact run_append_nothing w t ty e i ht hi a a' n c c' hn hnil
 ·rcases hcells with hm0 | ⟨a, rfl, hcells⟩
  ·omega
  ·exact run_append_nil (P := P) w t ty e i z ht hi hz a m c' ys hylen hcells hm h64 h48
 ·rcases hcells with hm0 | ⟨a, rfl, hcells⟩
  ·subst hm0
   have hy0 : ys = [] := List.eq_nil_of_length_eq_zero (by simpa using hylen)
   subst hy0
   rw [run_append_nothing w t ty e i ht hi (some ⟨g, 0, none⟩) a' n c c' (by omega) hnil]
   have : (cur.toList.take (n * i.size) ++ [] ++ cur.toList.drop (n * i.size + ([] : List Value).length)).toArray = cur := by simp
   rw [this, setRow_self w g cur e fz hg]
   rfl
  ·exact run_append_roomG (P := P) w t ty e i ht hi g n c cur fz hg hfz a m c' ys hylen hcells hone hroom hfit
 ·rcases hcells with hm | ⟨a, rfl, hcells⟩
  ·exact absurd hm hm0
  ·exact run_append_grow (P := P) w t ty e i z ht hi hz b n c olds ho1 ho2 a m c' ys hylen hcells hc h64 hfit
theorem step_append {P : Program} (R : HR B ρ h w) {t ty e : TypeId} {u by_ : Nat} (T : AppTo P t ty e u by_) {s x s' x' v : Value} {h' : Hs}
 (hs : VR ρ s s') (hx : VR ρ x x') (ha : app0 e u by_ h s x = some (v, h')) :
 ∃ v' w' ρ', (Builtin.append_ #[t, t] ty #[s', x']).run P w = .ok v' w' ∧ VR ρ' v v' ∧ St B ρ h w ρ' h' w' := by
 obtain ⟨ht, ⟨i, z, hi, hz, hsz, hby, hzc⟩, hpos, hbpos⟩ := T
 subst hsz
 subst hby
 cases x with
 | slice xa m cc =>
  simp only [app0] at ha
  cases hr : rowOf h i.size m xa with
  | none => rw [hr] at ha; cases ha
  | some news =>
   rw [hr] at ha
   simp only [app1] at ha
   cases ho : allOne news with
   | false => rw [ho] at ha; cases ha
   | true =>
    rw [ho] at ha
    obtain ⟨ys, a', c', rfl, hys, hlen, hcells⟩ := news_of R hx hr
    have hone := hys.one (allOne_mem ho)
    have hylen : ys.length = m * i.size := by rw [← hys.1]; exact hlen
    exact step_app2 R hzc hpos hbpos (runApp_slice (x := .nilFunc) (news := news) ht hi hz hx hylen hone hcells rfl rfl) hs hys hlen ha
 | _ => cases ha
end
end Go.Gev
namespace Go.Gev
theorem eqI_eq (a b : Int) : eqI a b = (a == b) := by
 cases a with
 | ofNat a => cases b with
  | ofNat b =>
   show Nat.beq a b = _
   by_cases h : a = b
   ·subst h; rw [beq_iff.2 rfl]; simp
   ·rw [beq_false.2 h]; symm; rw [beq_eq_false_iff_ne]; intro e; exact h (Int.ofNat.inj e)
  | negSucc b => rfl
 | negSucc a => cases b with
  | ofNat b => rfl
  | negSucc b =>
   show Nat.beq a b = _
   by_cases h : a = b
   ·subst h; rw [beq_iff.2 rfl]; simp
   ·rw [beq_false.2 h]; symm; rw [beq_eq_false_iff_ne]; intro e; exact h (Int.negSucc.inj e)
theorem ble_eq (a b : Nat) : Nat.ble a b = decide (a ≤ b) := by
 by_cases h : a ≤ b
 ·rw [Nat.ble_eq_true_of_le h, decide_eq_true h]
 ·rw [decide_eq_false h]
  cases e : Nat.ble a b with
  | true => exact absurd (Nat.le_of_ble_eq_true e) h
  | false => rfl
theorem leI_eq (a b : Int) : leI a b = decide (a ≤ b) := by
 cases a with
 | ofNat a => cases b with
  | ofNat b => show Nat.ble a b = _; rw [ble_eq, decide_eq_decide]; show a ≤ b ↔ (a : Int) ≤ (b : Int); omega
  | negSucc b => show false = _; symm; rw [decide_eq_false_iff_not]; show ¬ ((a : Int) ≤ Int.negSucc b); omega
 | negSucc a => cases b with
  | ofNat b => show true = _; symm; rw [decide_eq_true_iff]; show Int.negSucc a ≤ (b : Int); omega
  | negSucc b => show Nat.ble b a = _; rw [ble_eq, decide_eq_decide]; omega
theorem ltI_eq (a b : Int) : ltI a b = decide (a < b) := by
 unfold ltI
 rw [leI_eq]
 by_cases h : b ≤ a
 ·rw [decide_eq_true h]; symm; rw [decide_eq_false_iff_not]; omega
 ·rw [decide_eq_false h]; symm; rw [decide_eq_true_iff]; omega
theorem wrapF_eq (k : IntKind) (n : Int) : wrapF k n = k.wrap n := by
 have hin : inK k n = true → n = k.wrap n := by
  intro h
  cases k <;> cases n <;> simp only [inK] at h <;> first
   | (cases h)
   | (have := Nat.le_of_ble_eq_true h
      simp only [IntKind.wrap, IntKind.bits, IntKind.signed, Int.ofNat_eq_natCast, Int.negSucc_eq]
      try simp
      omega)
 unfold wrapF
 cases h : inK k n with
 | true => exact hin h
 | false =>
  cases k <;> try rfl
  cases n with
  | negSucc n => rfl
  | ofNat m =>
   show Int.ofNat (Nat.mod m 18446744073709551616) = _
   simp only [IntKind.wrap, IntKind.bits, IntKind.signed]
   simp
   rfl
end Go.Gev
