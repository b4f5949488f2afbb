/- A count by node, kept in a map: what a walk of the model says of it, and the plain laws of counting. -/
import Derived.Test.YtkopenelppndpaaGreatDoorGevLk
import Derived.Maps.OwnIn
import Derived.Maps.RangeRun
namespace Go.Gev
open Go.RowKit Go.Maps

/-! ### counting -/
theorem cntI_cons (n k : Int) (ks : List Int) : cntI n (k :: ks) = cntI n ks + (if k = n then 1 else 0) := by
  simp only [cntI]
  rw [eqI_eq]
  by_cases h : k = n
  · simp [h]
  · rw [show (k == n) = false from by simpa using h]; simp [h]
theorem cntI_snoc (n k : Int) : ∀ ks : List Int, cntI n (ks ++ [k]) = cntI n ks + (if k = n then 1 else 0)
  | [] => by rw [List.nil_append, cntI_cons]
  | a :: t => by rw [List.cons_append, cntI_cons, cntI_snoc n k t, cntI_cons]; omega
theorem cntI_le (n : Int) : ∀ ks : List Int, cntI n ks ≤ ks.length
  | [] => Nat.le_refl _
  | a :: t => by
    rw [cntI_cons, List.length_cons]
    have := cntI_le n t
    split <;> omega
theorem lkCnt_cons (n : Int) (e : LkE) (es : List LkE) : lkCnt n (e :: es) = cntI n e.ks + lkCnt n es := rfl
theorem lkLen_cons (e : LkE) (es : List LkE) : lkLen (e :: es) = e.ks.length + lkLen es := rfl
theorem lkCnt_snoc (n : Int) (e : LkE) : ∀ es : List LkE, lkCnt n (es ++ [e]) = lkCnt n es + cntI n e.ks
  | [] => by rw [List.nil_append, lkCnt_cons]; simp [lkCnt]
  | a :: t => by rw [List.cons_append, lkCnt_cons, lkCnt_snoc n e t, lkCnt_cons]; omega
theorem lkLen_snoc (e : LkE) : ∀ es : List LkE, lkLen (es ++ [e]) = lkLen es + e.ks.length
  | [] => by rw [List.nil_append, lkLen_cons]; simp [lkLen]
  | a :: t => by rw [List.cons_append, lkLen_cons, lkLen_snoc e t, lkLen_cons]; omega
theorem lkLen_append : ∀ es fs : List LkE, lkLen (es ++ fs) = lkLen es + lkLen fs
  | [], fs => by simp [lkLen]
  | a :: t, fs => by rw [List.cons_append, lkLen_cons, lkLen_append t fs, lkLen_cons]; omega
theorem lkCnt_le (n : Int) : ∀ es : List LkE, lkCnt n es ≤ lkLen es
  | [] => Nat.le_refl _
  | a :: t => by
    rw [lkCnt_cons, lkLen_cons]
    have := cntI_le n a.ks
    have := lkCnt_le n t
    omega
theorem take_next {α : Type} {l : List α} {j : Nat} {x : α} (h : l[j]? = some x) : l.take (j + 1) = l.take j ++ [x] := by
  rw [List.take_add_one, h]; rfl

/-! ### the map -/
theorem wf_i64 {k : Int} (h1 : -9223372036854775808 ≤ k) (h2 : k ≤ 9223372036854775807) : (Lit.int .i64 k).wf = true := by
  have a : IntKind.min .i64 = -9223372036854775808 := by decide
  have b : IntKind.max .i64 = 9223372036854775807 := by decide
  simp [Lit.wf, a, b]
  exact ⟨h1, h2⟩
/-- block b is a map of at most N entries that tells f -/
def CntAt (w : World) (P : Program) (T b N : Nat) (f : Int → Nat) : Prop := ∃ D : DataW Unit, w.ownsMap P T (plainElem P T) b N D ∧ IsMap D ∧ ∀ k : Int, D.atKey (.int .i64 k) (.lit (.int .i64 0)) = .lit (.int .i64 (f k : Int))
variable {P : Program} {T TC b N : Nat} {f : Int → Nat} {w : World} {k v : Int}
theorem CntAt.made (w : World) (P : Program) (T : Nat) : CntAt (w.alloc (.map #[] 0)) P T w.heap.size 0 fun _ => 0 :=
  ⟨.map [], World.ownsMap_made w P T _, isMap_empty, fun _ => rfl⟩
theorem CntAt.same {w' : World} (h : CntAt w P T b N f) (e : w'.heap[b]? = w.heap[b]?) : CntAt w' P T b N f := by
  obtain ⟨D, ⟨es, cl, h1, h2, h3, h4⟩, h5, h6⟩ := h
  exact ⟨D, ⟨es, cl, e.trans h1, h2, h3, h4⟩, h5, h6⟩
theorem CntAt.mono (h : CntAt w P T b N f) {M : Nat} (hm : N ≤ M) : CntAt w P T b M f := by
  obtain ⟨D, h1, h2, h3⟩ := h
  exact ⟨D, h1.mono hm, h2, h3⟩
theorem CntAt.lt (h : CntAt w P T b N f) : b < w.heap.size := by
  obtain ⟨D, h1, _⟩ := h
  exact h1.lt
theorem CntAt.look (h : CntAt w P T b N f) (ht : P.underlying TC = some (.map T T)) (hT : P.underlying T = some (.int .i64)) (hz : ∀ w : World, (zeroValue T).run P w = .ok (.int .i64 0) w) {k : Int} (h1 : -9223372036854775808 ≤ k) (h2 : k ≤ 9223372036854775807) :
    (Instr.lookup TC (.map (some b)) (.int .i64 k) false).run P w = .ok (.int .i64 (f k : Int)) w := by
  obtain ⟨D, hD, _, hf⟩ := h
  obtain ⟨c, hrun, hat, _⟩ := hD.lookup_int (int_keyed hT) ht hT (hz w) (keyOf_int_mk hT (wf_i64 h1 h2))
  rw [hf k] at hat
  injection hat with hat
  injection hat with _ hat
  rw [hat]; exact hrun
theorem CntAt.upd (h : CntAt w P T b N f) (ht : P.underlying TC = some (.map T T)) (hT : P.underlying T = some (.int .i64)) (hN : N < maxLen) {k : Int} (h1 : -9223372036854775808 ≤ k) (h2 : k ≤ 9223372036854775807) {v : Nat} (hv : (v : Int) ≤ 9223372036854775807) :
    ∃ w', (Instr.mapUpdate TC (.map (some b)) (.int .i64 k) (.int .i64 (v : Int))).run P w = .ok () w' ∧ CntAt w' P T b (N + 1) (fun j => if j = k then v else f j) ∧ w.grownBy w' (some b) := by
  obtain ⟨D, hD, hm, hf⟩ := h
  obtain ⟨w', r1, r2, r3⟩ := hD.update (int_keyed hT) ht hN (keyOf_int_mk hT (wf_i64 h1 h2)) (plainElem_int hT (wf_i64 (by omega) hv))
  refine ⟨w', r1, ⟨_, r2, hm.put _ _, fun j => ?_⟩, r3⟩
  by_cases hj : j = k
  · subst hj
    rw [atKey_put_same hm (by trivial)]
    simp
  · rw [atKey_put_other (fun e => hj (by injection e)), hf j]
    simp [hj]

/-! ### a walk over a map -/
open Go.ChangeMaps (setBlock)
/-- one step of a range over a map that is not turned -/
theorem next_step {w : World} {it bm cl : Nat} {bs : List Nat} {es : Array MapEntry} (hit : w.heap[it]? = some (.mapIter (some bm) cl bs.toArray cl)) (hbm : w.heap[bm]? = some (.map es cl)) (hne : it ≠ bm)
    (hlt : ∀ e ∈ es.toList, e.born < cl) (hnb : (es.toList.map (·.born)).Nodup) (ty : TypeId) :
    ((leftOf es bs.toArray).size = 0 ∧ (Instr.next (.pointer (some ⟨it, 0, none⟩)) false ty).run P w = .ok (.tuple #[.bool false]) w) ∨
    ∃ e ∈ es.toList, e.born ∉ bs ∧ ∃ w2, (Instr.next (.pointer (some ⟨it, 0, none⟩)) false ty).run P w = .ok (.tuple #[.bool true, e.key, e.val]) w2 ∧ w2.heap[it]? = some (.mapIter (some bm) cl (bs ++ [e.born]).toArray cl) ∧
      (∀ k, k ≠ it → w2.heap[k]? = w.heap[k]?) ∧ w2.heap.size = w.heap.size ∧ (∀ n, n ≤ it → Below n w w2) ∧ (Instr.entry (.pointer (some ⟨it, 0, none⟩))).run P w2 = .ok (.tuple #[e.key, e.val]) w2 := by
  rcases run_next_at (P := P) w ty it bm cl cl bs.toArray es cl hit hbm hlt (Nat.le_refl _) with ⟨hl, hn⟩ | ⟨e, he, w1, hw1, hn⟩
  · exact .inl ⟨hl, hn⟩
  · right
    unfold leftOf at he
    simp only [Array.toList_filter, List.mem_filter] at he
    obtain ⟨hee, hnin⟩ := he
    have hnin : e.born ∉ bs := by simpa using hnin
    have hw1h : w1.heap = w.heap := by rcases hw1 with rfl | rfl <;> rfl
    have hits : it < w.heap.size := (Array.getElem?_eq_some_iff.1 hit).1
    have hfar : ∀ k, k ≠ it → (setBlock w1 it (.mapIter (some bm) cl (bs.toArray.push e.born) cl)).heap[k]? = w.heap[k]? := fun k hk => by
      rw [← hw1h]; simp only [setBlock]; rw [Array.getElem?_setIfInBounds, if_neg (fun q => hk q.symm)]
    have hit2 : (setBlock w1 it (.mapIter (some bm) cl (bs.toArray.push e.born) cl)).heap[it]? = some (.mapIter (some bm) cl (bs.toArray.push e.born) cl) := by
      simp only [setBlock]; rw [Array.getElem?_setIfInBounds, if_pos rfl, if_pos (by rw [hw1h]; exact hits)]
    refine ⟨e, hee, hnin, _, hn, by simpa using hit2, hfar, by rw [← hw1h]; simp [setBlock], fun n hnle => ?_, run_entry_at (P := P) _ it bm cl _ es cl e hit2 ((hfar bm (fun q => hne q.symm)).trans hbm) hee hnb⟩
    have h1 : Below n w w1 := by
      rcases hw1 with rfl | rfl
      · exact Below.refl _ _
      · exact (Below.refl _ _).drew
    exact ⟨h1.os, h1.tape, h1.output, by simp [setBlock]; rw [hw1h]; exact Nat.le_refl _, fun k hk => hfar k (by omega)⟩
theorem nodup_of_map {α β : Type} {g : α → β} : ∀ {l : List α}, (l.map g).Nodup → l.Nodup
  | [], _ => List.nodup_nil
  | a :: t, h => by
    rw [List.map_cons, List.nodup_cons] at h
    exact List.nodup_cons.2 ⟨fun hm => h.1 (List.mem_map_of_mem hm), nodup_of_map h.2⟩
theorem left_none {es : Array MapEntry} {cs : List MapEntry} (hr : ∃ l, (cs ++ l).Perm es.toList) (hnb : (es.toList.map (·.born)).Nodup) (hl : (leftOf es (cs.map (·.born)).toArray).size = 0) : cs.Perm es.toList := by
  obtain ⟨l, hp⟩ := hr
  cases l with
  | nil => simpa using hp
  | cons x l =>
    exfalso
    have hx : x ∈ es.toList := hp.subset (List.mem_append_right _ List.mem_cons_self)
    have hnd' : ((cs ++ x :: l).map (·.born)).Nodup := (hp.map _).nodup_iff.2 hnb
    have hem : leftOf es (cs.map (·.born)).toArray = #[] := Array.eq_empty_of_size_eq_zero hl
    have hxn : x ∉ (leftOf es (cs.map (·.born)).toArray).toList := by rw [hem]; simp
    unfold leftOf at hxn
    simp only [Array.toList_filter, List.mem_filter] at hxn
    have hin : x.born ∈ cs.map (·.born) := by
      refine Classical.byContradiction fun hc => hxn ⟨hx, ?_⟩
      simpa using hc
    rw [List.map_append] at hnd'
    exact (List.nodup_append.1 hnd').2.2 _ hin _ (List.mem_map_of_mem List.mem_cons_self) rfl
theorem left_next {es : Array MapEntry} {cs : List MapEntry} (hr : ∃ l, (cs ++ l).Perm es.toList) {e : MapEntry} (he : e ∈ es.toList) (hn : e.born ∉ cs.map (·.born)) : ∃ l, ((cs ++ [e]) ++ l).Perm es.toList := by
  obtain ⟨l, hp⟩ := hr
  have h1 : e ∈ cs ++ l := hp.symm.subset he
  rcases List.mem_append.1 h1 with h | h
  · exact absurd (List.mem_map_of_mem h) hn
  · obtain ⟨s, t, rfl⟩ := List.append_of_mem h
    refine ⟨s ++ t, List.Perm.trans ?_ hp⟩
    rw [List.append_assoc]
    exact List.Perm.append_left cs (by simpa using (List.perm_middle (l₁ := s) (l₂ := t) (a := e)).symm)
theorem left_len {es : Array MapEntry} {cs : List MapEntry} (hr : ∃ l, (cs ++ l).Perm es.toList) : cs.length ≤ es.size := by
  obtain ⟨l, hp⟩ := hr
  have := hp.length_eq
  simp at this
  omega
theorem lkLen_part {es : Array MapEntry} {cs : List MapEntry} {e : MapEntry} (sp : MapEntry → LkE) (hr : ∃ l, ((cs ++ [e]) ++ l).Perm es.toList) : lkLen (cs.map sp) + (sp e).ks.length ≤ lkLen (es.toList.map sp) := by
  obtain ⟨l, hp⟩ := hr
  rw [← lkLen_perm (hp.map sp), List.map_append, lkLen_append, List.map_append, lkLen_append]
  show _ + (sp e).ks.length ≤ lkLen (cs.map sp) + ((sp e).ks.length + 0) + _
  omega
theorem lkCnt_end {es : Array MapEntry} {cs : List MapEntry} (sp : MapEntry → LkE) (hp : cs.Perm es.toList) (n : Int) : lkCnt n (cs.map sp) = lkCnt n (es.toList.map sp) := lkCnt_perm (hp.map sp)
theorem CntAt.put {w' : World} {D : DataW Unit} (h : w'.ownsMap P T (plainElem P T) b N (D.put (.int .i64 k) (.lit (.int .i64 v)))) (hm : IsMap D) (hf : ∀ k : Int, D.atKey (.int .i64 k) (.lit (.int .i64 0)) = .lit (.int .i64 (f k : Int))) {u : Nat} (hv : v = (u : Int)) : CntAt w' P T b N (fun j => if j = k then u else f j) := by
  subst hv
  refine ⟨_, h, hm.put _ _, fun j => ?_⟩
  by_cases hj : j = k
  · subst hj
    rw [atKey_put_same hm (by trivial)]
    simp
  · rw [atKey_put_other (fun e => hj (by injection e)), hf j]
    simp [hj]
theorem CntAt.congr {g : Int → Nat} (h : CntAt w P T b N f) (e : ∀ k, f k = g k) : CntAt w P T b N g := by
  obtain ⟨D, h1, h2, h3⟩ := h
  exact ⟨D, h1, h2, fun k => by rw [← e k]; exact h3 k⟩
/-- rounds that are left, by what the iterator has told -/
def itLeft (n it : Nat) (w : World) : Nat := match w.heap[it]? with | some (.mapIter _ _ seen _) => n - seen.size | _ => 0
theorem itLeft_eq {n it : Nat} {w : World} {m : Option Nat} {s c : Nat} {bs : List Nat} (h : w.heap[it]? = some (.mapIter m s bs.toArray c)) : itLeft n it w = n - bs.length := by
  unfold itLeft; rw [h]; simp
/-- rounds that are left, by a number in a slot -/
def ixLeft (n i : Nat) (a : Act) : Nat := match a.tmps[i]? with | some (.int _ j) => (n - j).toNat | _ => 0

/-! ### the two loops -/
structure LInv (P : Program) (T : Nat) (W : World) (bm cl : Nat) (es : Array MapEntry) (sp : MapEntry → LkE) (cs : List MapEntry) (w : World) : Prop where
  below : Below W.heap.size W w
  cnt : CntAt w P T W.heap.size (lkLen (cs.map sp)) (fun k => lkCnt k (cs.map sp))
  it : w.heap[W.heap.size + 1]? = some (.mapIter (some bm) cl (cs.map (·.born)).toArray cl)
  rest : ∃ l, (cs ++ l).Perm es.toList
structure LIn (P : Program) (T : Nat) (W : World) (f : Int → Nat) (N : Nat) (ks : List Int) (o : Option Obj) (j : Nat) (w : World) : Prop where
  le : j ≤ ks.length
  below : Below W.heap.size W w
  cnt : CntAt w P T W.heap.size (N + j) (fun k => f k + cntI k (ks.take j))
  it : w.heap[W.heap.size + 1]? = o
structure LInv2 (P : Program) (T : Nat) (W : World) (J : Bool → World → Prop) (bm cl : Nat) (es : Array MapEntry) (sp : MapEntry → LkE) (cnt : Int → Nat) (c : Option Int) (ib N : Nat) (cs : List MapEntry) (w : World) : Prop where
  j : J (decide (∃ e ∈ cs, c = some (sp e).n)) w
  cnt : CntAt w P T W.heap.size N cnt
  it : w.heap[ib]? = some (.mapIter (some bm) cl (cs.map (·.born)).toArray cl)
  rest : ∃ l, (cs ++ l).Perm es.toList
  lt : W.heap.size < ib
end Go.Gev
