/- Steps of residual programs: boxes, rows of words of which nothing is known but their number. -/
import Derived.Test.YtefdkblhnlkgaaaGreatDoorGevAr
namespace Go.Gev

/-- a block that holds these cells -/
def Bx (h : Hs) (id : Nat) (vs : List Value) : Prop := ∃ c m e u rw_ fl, h.hp.get id = some (.row c m e u rw_ fl) ∧ ∀ i, c.get i = vs[i]?
theorem Bx.mono {h h' : Hs} {id : Nat} {vs : List Value} (b : Bx h id vs) (hid : id < h.nx) (e : Ext h h') : Bx h' id vs := by
  obtain ⟨c, m, e', u, rw_, fl, q, q2⟩ := b
  exact ⟨c, m, e', u, rw_, fl, (e.2 id hid).trans q, q2⟩
theorem Bx.keep {h h' : Hs} {id : Nat} {vs : List Value} (b : Bx h id vs) (e : h'.hp.get id = h.hp.get id) : Bx h' id vs := by
  obtain ⟨c, m, e', u, rw_, fl, q, q2⟩ := b
  exact ⟨c, m, e', u, rw_, fl, e.trans q, q2⟩
theorem Bx.new (h : Hs) (e u : Nat) (vs : List Value) : Bx (newRow h e u vs) h.nx vs := ⟨_, _, _, _, _, _, by rw [newRow_get, if_pos rfl], fun i => get_ofList _ _⟩
theorem Bx.load {h : Hs} {id i : Nat} {vs : List Value} {v : Value} (b : Bx h id vs) (hi : vs[i]? = some v) (K : Value → An) : kLoad (.pointer (some ⟨id, i, none⟩)) h K = K v := by
  obtain ⟨c, m, e, u, rw_, fl, q, q2⟩ := b
  exact kLoad_ok q ((q2 i).trans hi) K
theorem Bx.field {h : Hs} {id i : Nat} {vs : List Value} {v : Value} (b : Bx h id vs) (hi : vs[i]? = some v) (K : Value → An) : kFieldA i (.pointer (some ⟨id, 0, none⟩)) (fun x => kLoad x h K) = K v := by
  rw [kFieldA_ok, Nat.zero_add, b.load hi]
theorem loadN_list : ∀ (n off : Nat) (c : Tr Value) (vs acc : List Value), (∀ i, i < n → ∃ v, vs[i]? = some v ∧ c.get (off + i) = some v) → vs.length = n → loadN c n off acc = some (acc.reverse ++ vs) := by
  intro n
  induction n with
  | zero =>
    intro off c vs acc _ hl
    have : vs = [] := List.eq_nil_of_length_eq_zero hl
    subst this
    rw [loadN, List.append_nil]
  | succ n ih =>
    intro off c vs acc h hl
    cases vs with
    | nil => simp at hl
    | cons v vs =>
      obtain ⟨w, q1, q2⟩ := h 0 (Nat.succ_pos _)
      simp only [List.getElem?_cons_zero, Option.some.injEq] at q1
      subst q1
      rw [loadN]
      rw [Nat.add_zero] at q2
      rw [q2]
      show loadN c n (Nat.succ off) (v :: acc) = _
      rw [ih (Nat.succ off) c vs (v :: acc) (fun i hi => ?_) (by simpa using hl)]
      · simp
      · obtain ⟨w, p1, p2⟩ := h (i + 1) (by omega)
        rw [List.getElem?_cons_succ] at p1
        exact ⟨w, p1, by rw [show Nat.succ off + i = off + (i + 1) by omega]; exact p2⟩
theorem Bx.loadsN {h : Hs} {id : Nat} {vs : List Value} (b : Bx h id vs) {m : Nat} (hm : m ≤ vs.length) (K : Value → An) : kLoads m (.pointer (some ⟨id, 0, none⟩)) h K = K (.agg (vs.take m).toArray) := by
  obtain ⟨c, m', e, u, rw_, fl, q, q2⟩ := b
  show getB h id _ = _
  unfold getB
  rw [getK_eq, q]
  show Option.rec (motive := fun _ => An) none (fun cs => K (.agg cs.toArray)) (loadN c m 0 []) = _
  rw [loadN_list m 0 c (vs.take m) [] (fun i hi => ⟨vs[i], by rw [List.getElem?_take, if_pos hi]; exact List.getElem?_eq_getElem (by omega), by rw [Nat.zero_add, q2]; exact List.getElem?_eq_getElem (by omega)⟩) (by rw [List.length_take]; omega)]
  rfl
theorem Bx.loads {h : Hs} {id : Nat} {vs : List Value} (b : Bx h id vs) (K : Value → An) : kLoads vs.length (.pointer (some ⟨id, 0, none⟩)) h K = K (.agg vs.toArray) := by
  rw [b.loadsN (Nat.le_refl _), List.take_length]
/-- what a named result holds -/
theorem Bx.res {h : Hs} {id : Nat} {v : Value} (b : Bx h id [v]) : packR h (resV enE h [.cell (.c (.pointer (some ⟨id, 0, none⟩))) 1 true]) = some (.val (.agg #[v]) h) := by
  obtain ⟨c, m', e, u, rw_, fl, q, q2⟩ := b
  have : cellV h 1 true (some (id, 0)) = some (.agg #[v]) := by
    show (match blkCells 1 0 (h.hp.get id) with | some cs => some (Value.agg cs.toArray) | none => none) = _
    rw [q]
    show (match loadN c 1 0 [] with | some cs => some (Value.agg cs.toArray) | none => none) = _
    rw [loadN_list 1 0 c [v] [] (fun i hi => ⟨v, by have : i = 0 := by omega
                                                    subst this; rfl, by have : i = 0 := by omega
                                                                        subst this; rw [Nat.zero_add, q2]; rfl⟩) rfl]
    rfl
  show packR h (consR (some []) (cellV h 1 true (some (id, 0)))) = _
  rw [this]; rfl
/-- a struct of one cell is stored -/
theorem store_one {h : Hs} {id : Nat} {v0 : Value} {e u : Nat} {c : Tr Value} {m : Nat} {fl : Bool} (q : h.hp.get id = some (.row c m e u true fl)) (q2 : ∀ i, c.get i = [v0][i]?) (v : Value) (ho : oneC v = true) (K : KV) :
    ∃ h' c' fl', kStore1 (.pointer (some ⟨id, 0, none⟩)) (.agg #[v]) h K = K undef' h' ∧ h'.hp.get id = some (.row c' m e u true fl') ∧ (∀ i, c'.get i = [v][i]?) ∧ h'.nx = h.nx ∧ h'.lo = min h.lo id ∧ ∀ id', id' ≠ id → h'.hp.get id' = h.hp.get id' := by
  have hs : storeN [v] 0 c = some (c.set 0 (some v)) := by
    rw [storeN, ho]
    simp only
    rw [q2 0]
    rfl
  have e1 : store1 1 h (cellsL (.agg #[v])) (addrOf (.pointer (some ⟨id, 0, none⟩))) = some (undef', ⟨h.hp.set id (some (.row (c.set 0 (some v)) m e u true (andB fl (flatL [v])))), h.nx, minN h.lo id⟩) := by
    show unit1 (storeB h id 0 [v] (h.hp.get id)) = _
    rw [q]
    show unit1 (setRow h id m e u (andB fl (flatL [v])) (storeN [v] 0 c)) = _
    rw [hs]; rfl
  refine ⟨⟨h.hp.set id (some (.row (c.set 0 (some v)) m e u true (andB fl (flatL [v])))), h.nx, minN h.lo id⟩, c.set 0 (some v), andB fl (flatL [v]), ?_, ?_, fun i => ?_, rfl, minN_eq _ _, fun id' hid => ?_⟩
  · show after K (store1 1 h (cellsL (.agg #[v])) (addrOf (.pointer (some ⟨id, 0, none⟩)))) = _
    rw [e1]; rfl
  · dsimp only
    rw [Tr.get_set, if_pos rfl]
  · rw [Tr.get_set]
    cases i with
    | zero => rfl
    | succ i => rw [if_neg (by omega), q2]; simp
  · dsimp only
    rw [Tr.get_set, if_neg fun e => hid e.symm]
theorem box_eq (e : TypeId) (vs : List Value) (h : Hs) : oBox e (.c (.agg vs.toArray)) enE h = some (.pointer (some ⟨h.nx, 0, none⟩), newRow h e 0 vs) := rfl
theorem ext_new {h0 h : Hs} (x : Ext h0 h) (e u : Nat) (vs : List Value) : Ext h0 (newRow h e u vs) := x.trans (Ext.new' h e u vs)
where Ext.new' (h : Hs) (e u : Nat) (cs : List Value) : Ext h (newRow h e u cs) := ⟨Nat.le_succ _, fun id hid => by rw [newRow_get, if_neg (by omega)]⟩

/-! ### numbers -/
theorem kI64_remN {m d : Nat} (hd : 0 < d) (K : Value → An) : kI64 .rem (.int .i64 (.ofNat m)) (.int .i64 (.ofNat d)) K = K (.int .i64 (.ofNat (m % d))) := by
  obtain ⟨d, rfl⟩ : ∃ d', d = d' + 1 := ⟨d - 1, by omega⟩
  show mkN .i64 (Nat.mod m (d + 1)) K = _
  rw [mkN_eq]; rfl
theorem wrapU (x : Nat) : ∃ y, wrapF .u64 (.ofNat x) = .ofNat y := by
  unfold wrapF
  cases inK .u64 (.ofNat x) with
  | true => exact ⟨x, rfl⟩
  | false => exact ⟨_, rfl⟩
theorem kU64_andNot (m n : Nat) : ∃ y, ∀ K : Value → An, kU64 .andNot (.int .u64 (.ofNat m)) (.int .u64 (.ofNat n)) K = K (.int .u64 (.ofNat y)) := by
  obtain ⟨y, hy⟩ := wrapU (Nat.land (Nat.mod m (Nat.pow 2 (IntKind.u64).bits)) (Nat.sub (Nat.sub (Nat.pow 2 (IntKind.u64).bits) 1) (Nat.mod n (Nat.pow 2 (IntKind.u64).bits))))
  refine ⟨y, fun K => ?_⟩
  show K (.int .u64 (wrapF .u64 (.ofNat _))) = _
  rw [hy]
theorem kU64_or (m n : Nat) : ∃ y, ∀ K : Value → An, kU64 .or (.int .u64 (.ofNat m)) (.int .u64 (.ofNat n)) K = K (.int .u64 (.ofNat y)) := by
  obtain ⟨y, hy⟩ := wrapU (Nat.lor (Nat.mod m (Nat.pow 2 (IntKind.u64).bits)) (Nat.mod n (Nat.pow 2 (IntKind.u64).bits)))
  have slow : ∀ K : Value → An, obK K (fBits .or .u64 (.ofNat m) (.ofNat n)) = K (.int .u64 (.ofNat y)) := fun K => by
    show K (.int .u64 (wrapF .u64 (.ofNat _))) = _
    rw [hy]
  cases h1 : Nat.ble m 18446744073709551615 with
  | false =>
    refine ⟨y, fun K => ?_⟩
    show ifB (Nat.ble m 18446744073709551615) _ _ = _
    rw [h1]; exact slow K
  | true =>
    cases h2 : Nat.ble n 18446744073709551615 with
    | false =>
      refine ⟨y, fun K => ?_⟩
      show ifB (Nat.ble m 18446744073709551615) (ifB (Nat.ble n 18446744073709551615) _ _) _ = _
      rw [h1, h2]; exact slow K
    | true =>
      refine ⟨Nat.lor m n, fun K => ?_⟩
      show ifB (Nat.ble m 18446744073709551615) (ifB (Nat.ble n 18446744073709551615) (mkN .u64 (Nat.lor m n) K) _) _ = _
      rw [h1, h2, mkN_eq]; rfl
theorem kShl_one {k : Nat} (hk : k ≤ 64) : ∃ y, ∀ K : Value → An, kShl (.int .u64 (.ofNat 1)) (.int .i64 (.ofNat k)) K = K (.int .u64 (.ofNat y)) := by
  refine ⟨Nat.mod (Nat.mul (Nat.pow 2 k) 1) 18446744073709551616, fun K => ?_⟩
  show ifB (Nat.ble k 64) (mkN .u64 _ K) _ = _
  rw [Nat.ble_eq_true_of_le hk, mkN_eq]; rfl
/-- a store of a number of whatever kind -/
theorem kStore1_int {h : Hs} {b o : Nat} {c : Tr Value} {n e u : Nat} {v0 : Value} (hb : h.hp.get b = some (.row c n e u true true)) (hv : c.get o = some v0) (k : IntKind) (x : Int) (K : KV) :
    kStore1 (.pointer (some ⟨b, o, none⟩)) (.int k x) h K = K undef' ⟨h.hp.set b (some (.row (c.set o (some (.int k x))) n e u true true)), h.nx, minN h.lo b⟩ := by
  show getB h b (fun B => st1 h b o (.int k x) K B) = _
  unfold getB
  rw [getK_eq, hb]
  show st1 h b o (.int k x) K (.row c n e u true true) = _
  unfold st1
  show Option.rec (motive := fun _ => An) none _ (Tr.getK c o) = _
  rw [getK_eq, hv]
  obtain ⟨hp, nx, lo⟩ := h
  show (Bool.rec (motive := fun _ => An) (K undef' _) (K undef' _) (Nat.ble lo b) : An) = _
  rw [setK_eq, setK_eq]
  unfold minN
  cases Nat.ble lo b <;> rfl

/-! ### rows of words -/
/-- a slice of m words, a row of its own; n0: from which number on it lies -/
def Wd (t : TypeId) (n0 : Nat) (h : Hs) (v : Value) (m : Nat) : Prop :=
  ∃ id cc, v = .slice (some ⟨id, 0, none⟩) m m ∧ n0 ≤ id ∧ id < h.nx ∧ h.hp.get id = some (.row cc m t 1 true true) ∧ ∀ i, i < m → ∃ w, cc.get i = some (.int .u64 (.ofNat w))
theorem Wd.mono {t : TypeId} {n0 m : Nat} {h h' : Hs} {v : Value} (w : Wd t n0 h v m) (e : Ext h h') : Wd t n0 h' v m := by
  obtain ⟨id, cc, q1, q2, q3, q4, q5⟩ := w
  exact ⟨id, cc, q1, q2, Nat.lt_of_lt_of_le q3 e.1, (e.2 id q3).trans q4, q5⟩
theorem Wd.weak {t : TypeId} {n0 n1 m : Nat} {h : Hs} {v : Value} (w : Wd t n0 h v m) (hn : n1 ≤ n0) : Wd t n1 h v m := by
  obtain ⟨id, cc, q1, q2, q3, q4, q5⟩ := w
  exact ⟨id, cc, q1, Nat.le_trans hn q2, q3, q4, q5⟩
theorem Wd.len {t : TypeId} {n0 m : Nat} {h : Hs} {v : Value} (w : Wd t n0 h v m) (K : Value → An) : kLenV v K = K (.int .i64 (.ofNat m)) := by
  obtain ⟨id, cc, rfl, _⟩ := w; exact kLenV_ok _ _ _ _
theorem Wd.at {t : TypeId} {n0 m : Nat} {h : Hs} {v : Value} (w : Wd t n0 h v m) {i : Nat} (hi : i < m) : ∃ x, ∀ K : Value → An, kIdxA 1 v (.int .i64 (.ofNat i)) (fun p => kLoad p h K) = K (.int .u64 (.ofNat x)) := by
  obtain ⟨id, cc, rfl, q2, q3, q4, q5⟩ := w
  obtain ⟨x, hx⟩ := q5 i hi
  exact ⟨x, fun K => by rw [kIdxA_ok hi, kLoad_ok q4 (by rw [Nat.zero_add, Nat.mul_one]; exact hx)]⟩
/-- such a row at a place that is known -/
def WdAt (t : TypeId) (id : Nat) (h : Hs) (v : Value) (m : Nat) : Prop :=
  ∃ cc, v = .slice (some ⟨id, 0, none⟩) m m ∧ id < h.nx ∧ h.hp.get id = some (.row cc m t 1 true true) ∧ ∀ i, i < m → ∃ w, cc.get i = some (.int .u64 (.ofNat w))
theorem Wd.at_ {t : TypeId} {n0 m : Nat} {h : Hs} {v : Value} (w : Wd t n0 h v m) : ∃ id, n0 ≤ id ∧ WdAt t id h v m := by
  obtain ⟨id, cc, q1, q2, q3, q4, q5⟩ := w
  exact ⟨id, q2, cc, q1, q3, q4, q5⟩
theorem WdAt.wd {t : TypeId} {id n0 m : Nat} {h : Hs} {v : Value} (w : WdAt t id h v m) (hn : n0 ≤ id) : Wd t n0 h v m := by
  obtain ⟨cc, q1, q3, q4, q5⟩ := w
  exact ⟨id, cc, q1, hn, q3, q4, q5⟩
theorem WdAt.keep {t : TypeId} {id m : Nat} {h h' : Hs} {v : Value} (w : WdAt t id h v m) (hn : h.nx ≤ h'.nx) (hg : h'.hp.get id = h.hp.get id) : WdAt t id h' v m := by
  obtain ⟨cc, q1, q3, q4, q5⟩ := w
  exact ⟨cc, q1, Nat.lt_of_lt_of_le q3 hn, hg.trans q4, q5⟩
theorem WdAt.store {t : TypeId} {id m : Nat} {h : Hs} {v : Value} (w : WdAt t id h v m) {i : Nat} (hi : i < m) (x : Nat) (K : KV) :
    ∃ h', kIdxA 1 v (.int .i64 (.ofNat i)) (fun p => kStore1 p (.int .u64 (.ofNat x)) h (fun u w => dPut K u (dNext h w .bar) (andB (dFit h w .bar) (Nat.ble 0 w.lo)))) = K undef' h' ∧
      WdAt t id h' v m ∧ h'.nx = h.nx ∧ h'.lo = min h.lo id ∧ ∀ id', id' ≠ id → h'.hp.get id' = h.hp.get id' := by
  obtain ⟨cc, rfl, q3, q4, q5⟩ := w
  obtain ⟨y, hy⟩ := q5 i hi
  rw [kIdxA_ok hi, kStore1_int q4 (by rw [Nat.zero_add, Nat.mul_one]; exact hy)]
  rw [dBarS]
  refine ⟨_, rfl, ⟨cc.set (0 + i * 1) (some (.int .u64 (.ofNat x))), rfl, q3, ?_, fun j hj => ?_⟩, rfl, minN_eq _ _, fun id' hid => ?_⟩
  · dsimp only
    rw [Tr.get_set, if_pos rfl]
  · rw [Tr.get_set]
    split
    · exact ⟨x, rfl⟩
    · exact q5 j hj
  · dsimp only
    rw [Tr.get_set, if_neg fun e => hid e.symm]
theorem flatL_of : ∀ (vs : List Value), (∀ v ∈ vs, ∃ k n, v = .int k n) → flatL vs = true := by
  intro vs
  induction vs with
  | nil => intro _; rfl
  | cons v vs ih =>
    intro h
    obtain ⟨k, n, rfl⟩ := h v List.mem_cons_self
    exact ih fun x hx => h x (List.mem_cons_of_mem _ hx)
theorem allOne_of : ∀ (vs : List Value), (∀ v ∈ vs, ∃ k n, v = .int k n) → allOne vs = true := by
  intro vs
  induction vs with
  | nil => intro _; rfl
  | cons v vs ih =>
    intro h
    obtain ⟨k, n, rfl⟩ := h v List.mem_cons_self
    exact ih fun x hx => h x (List.mem_cons_of_mem _ hx)
/-- a row of words is made anew out of words -/
theorem wd_new (t : TypeId) (h : Hs) (vs : List Value) (hv : ∀ v ∈ vs, ∃ w, v = .int .u64 (.ofNat w)) : WdAt t h.nx (newRow h t 1 vs) (.slice (some ⟨h.nx, 0, none⟩) vs.length vs.length) vs.length := by
  have hf : flatL vs = true := flatL_of vs fun v h => by obtain ⟨w, rfl⟩ := hv v h; exact ⟨_, _, rfl⟩
  refine ⟨ofList vs, rfl, Nat.lt_succ_self _, ?_, fun i hi => ?_⟩
  · rw [newRow_get, if_pos rfl, hf]
  · obtain ⟨w, hw⟩ := hv vs[i] (List.getElem_mem hi)
    exact ⟨w, by rw [get_ofList, List.getElem?_eq_getElem hi, hw]⟩
/-- the words of a row -/
theorem WdAt.words {t : TypeId} {id m : Nat} {h : Hs} {v : Value} (w : WdAt t id h v m) : ∃ vs : List Value, vs.length = m ∧ (∀ x ∈ vs, ∃ w, x = .int .u64 (.ofNat w)) ∧ rowOf h 1 m (some ⟨id, 0, none⟩) = some vs := by
  obtain ⟨cc, rfl, q3, q4, q5⟩ := w
  have mk : ∀ k, k ≤ m → ∃ vs : List Value, vs.length = k ∧ (∀ x ∈ vs, ∃ w, x = .int .u64 (.ofNat w)) ∧ ∀ i, i < k → ∃ x, vs[i]? = some x ∧ cc.get (0 + i) = some x := by
    intro k
    induction k with
    | zero => intro _; exact ⟨[], rfl, (fun x hx => by cases hx), fun i hi => by omega⟩
    | succ k ih =>
      intro hk
      obtain ⟨vs, h1, h2, h3⟩ := ih (by omega)
      obtain ⟨w, hw⟩ := q5 k (by omega)
      refine ⟨vs ++ [.int .u64 (.ofNat w)], by rw [List.length_append, h1]; rfl, fun x hx => ?_, fun i hi => ?_⟩
      · rcases List.mem_append.1 hx with hx | hx
        · exact h2 x hx
        · exact ⟨w, List.mem_singleton.1 hx⟩
      · by_cases e : i = k
        · subst e
          exact ⟨_, by rw [List.getElem?_append_right (by omega), h1, Nat.sub_self]; rfl, by rw [Nat.zero_add]; exact hw⟩
        · obtain ⟨x, p1, p2⟩ := h3 i (by omega)
          exact ⟨x, by rw [List.getElem?_append_left (by omega)]; exact p1, p2⟩
  obtain ⟨vs, h1, h2, h3⟩ := mk m (Nat.le_refl _)
  refine ⟨vs, h1, h2, ?_⟩
  cases m with
  | zero =>
    have : vs = [] := List.eq_nil_of_length_eq_zero h1
    subst this; rfl
  | succ m =>
    show blkCells (Nat.mul (Nat.succ m) 1) 0 (h.hp.get id) = _
    rw [q4, show Nat.mul (Nat.succ m) 1 = m + 1 from Nat.mul_one _]
    show loadN cc (m + 1) 0 [] = _
    rw [loadN_list (m + 1) 0 cc vs [] h3 h1]; rfl
/-- handed back within a struct -/
theorem clearUp_word {t : TypeId} {id m : Nat} {h0 h : Hs} {v : Value} (w : WdAt t id h v m) (hid : h0.nx ≤ id) (hl : h0.nx ≤ h.lo) :
    ∃ v' h', clearUp h0 (some (.val (.agg #[v]) h)) = some (.val (.agg #[v']) h') ∧ WdAt t h0.nx h' v' m ∧ Ext h0 h' ∧ h'.lo = h0.lo := by
  obtain ⟨cc, rfl, q3, q4, q5⟩ := w
  have h1 : Nat.blt h.lo h0.nx = false := by rw [blt_eq]; simpa using hl
  have h2 : Nat.blt id h0.nx = false := by rw [blt_eq]; simpa using hid
  have hm : mvAll h.hp h0.nx ⟨h0.hp, h0.nx, []⟩ (.agg #[.slice (some ⟨id, 0, none⟩) m m]) = some (.agg #[.slice (some ⟨h0.nx, 0, none⟩) m m], ⟨h0.hp.set h0.nx (some (.row cc m t 1 true true)), h0.nx + 1, [(id, h0.nx)]⟩) := by
    have e : mvCell h.hp h0.nx ⟨h0.hp, h0.nx, []⟩ (.slice (some ⟨id, 0, none⟩) m m) = some (.slice (some ⟨h0.nx, 0, none⟩) m m, ⟨h0.hp.set h0.nx (some (.row cc m t 1 true true)), h0.nx + 1, [(id, h0.nx)]⟩) := by
      show atNew 0 (fun a => Value.slice (some a) m m) (mvId h.hp h0.nx ⟨h0.hp, h0.nx, []⟩ id) = _
      unfold mvId
      rw [h2]
      show atNew 0 (fun a => Value.slice (some a) m m) (mvNew ⟨h0.hp, h0.nx, []⟩ id (h.hp.get id)) = _
      rw [q4]; rfl
    show mvWrap (fun l => .agg l.toArray) (mvCons (mvCells h.hp h0.nx []) (mvCell h.hp h0.nx ⟨h0.hp, h0.nx, []⟩ (.slice (some ⟨id, 0, none⟩) m m))) = _
    rw [e]; rfl
  refine ⟨.slice (some ⟨h0.nx, 0, none⟩) m m, ⟨h0.hp.set h0.nx (some (.row cc m t 1 true true)), h0.nx + 1, h0.lo⟩, ?_, ⟨cc, rfl, Nat.lt_succ_self _, ?_, q5⟩, ⟨Nat.le_succ _, fun id' hid' => ?_⟩, rfl⟩
  · show clear1 h0 _ h (Nat.blt h.lo h0.nx) = _
    rw [h1]
    show clear2 h0 _ h (mvAll h.hp h0.nx ⟨h0.hp, h0.nx, []⟩ _) = _
    rw [hm]; rfl
  · dsimp only
    rw [Tr.get_set, if_pos rfl]
  · dsimp only
    rw [Tr.get_set, if_neg (by omega)]
/-- behind a light operation of a region that draws: what was there, and what is new -/
theorem dLight {h u : Hs} (hn : h.nx ≤ u.nx) (hl : h.nx ≤ u.lo) (he : Ext h u) (K : KV) (v : Value) : ∃ h', dPut K v (dNext h u .light) (andB (dFit h u .light) (Nat.ble 0 u.lo)) = K v h' ∧ Ext u h' ∧ h'.lo = h.lo ∧ h'.nx = u.nx := by
  have h1 : dFit h u .light = true := by
    show andB (Nat.ble h.nx u.nx) (Nat.ble h.nx u.lo) = true
    rw [Nat.ble_eq_true_of_le hn, Nat.ble_eq_true_of_le hl]; rfl
  refine ⟨dNext h u .light, by rw [h1, ble_zero]; rfl, ⟨Nat.le_refl _, fun id hid => ?_⟩, rfl, rfl⟩
  show (backN u.hp (Nat.sub u.nx h.nx) h.nx h.hp).get id = _
  rw [backN_get]
  split
  · rfl
  · rename_i q
    have : id < h.nx := by
      have e : Nat.sub u.nx h.nx = u.nx - h.nx := rfl
      rw [e] at q
      omega
    exact (he.2 id this).symm

/-- a blind operation's value -/
theorem blindD (h : Hs) (x : Value) (F : KV) : after (fun v u => dPut F v (dNext h u .blind) (andB (dFit h u .blind) (Nat.ble 0 u.lo))) (some (x, Hs.mk .e h.nx h.nx)) = F x h := by
  rw [after_some]; exact dBlind h _ F x
/-- a block is made in a region that draws -/
theorem boxD (h : Hs) (t : TypeId) (vs : List Value) (F : KV) : ∃ h', after (fun v u => dPut F v (dNext h u .make) (andB (dFit h u .make) (Nat.ble 0 u.lo))) (oBox t (.c (.agg vs.toArray)) enE (Hs.mk .e h.nx h.nx)) = F (.pointer (some ⟨h.nx, 0, none⟩)) h' ∧
    Ext h h' ∧ h'.nx = h.nx + 1 ∧ h'.lo = h.lo ∧ h'.hp.get h.nx = some (.row (ofList vs) vs.length t 0 true (flatL vs)) := by
  rw [box_eq, after_some]
  have h1 : dFit h (newRow (Hs.mk .e h.nx h.nx) t 0 vs) .make = true := by
    show andB (Nat.ble h.nx (h.nx + 1)) (Nat.ble h.nx h.nx) = true
    rw [Nat.ble_eq_true_of_le (Nat.le_succ _), ble_self]; rfl
  have hg : ∀ id, (dNext h (newRow (Hs.mk .e h.nx h.nx) t 0 vs) .make).hp.get id = if h.nx ≤ id ∧ id < h.nx + (h.nx + 1 - h.nx) then (newRow (Hs.mk .e h.nx h.nx) t 0 vs).hp.get id else h.hp.get id := fun id => by
    show (backN _ (Nat.sub (h.nx + 1) h.nx) h.nx h.hp).get id = _
    rw [backN_get]; rfl
  refine ⟨dNext h (newRow (Hs.mk .e h.nx h.nx) t 0 vs) .make, by rw [h1, ble_zero]; rfl, ⟨Nat.le_succ _, fun id hid => ?_⟩, rfl, rfl, ?_⟩
  · rw [hg, if_neg (by omega)]
  · rw [hg, if_pos (by omega), newRow_get, if_pos rfl]
/-- behind a call that hands back a pointer to a block that stays -/
theorem clrK_ptr {h0 h : Hs} {id : Nat} {k : IntKind} {n : Int} {c : Tr Value} {m e u : Nat} {rw_ : Bool} (hl : h0.nx ≤ h.lo) (hid : h0.nx ≤ id) (hb : h.hp.get id = some (.row c m e u rw_ false)) :
    clrK h0 (.tuple #[.pointer (some ⟨id, 0, none⟩), .int k n]) h = some (.val (.tuple #[.pointer (some ⟨id, 0, none⟩), .int k n]) ⟨h.hp, h.nx, h0.lo⟩) := by
  unfold clrK
  have h1 : Nat.ble h0.nx h.lo = true := Nat.ble_eq_true_of_le hl
  have h2 : Nat.blt id h0.nx = false := by rw [blt_eq]; simpa using hid
  rw [h1]
  show clrS h0 (.tuple #[.pointer (some ⟨id, 0, none⟩), .int k n]) h = _
  unfold clrS
  have e : mvCell h.hp h0.nx ⟨h0.hp, h0.nx, []⟩ (.pointer (some ⟨id, 0, none⟩)) = none := by
    show atNew 0 (fun a => Value.pointer (some a)) (mvId h.hp h0.nx ⟨h0.hp, h0.nx, []⟩ id) = none
    unfold mvId
    rw [h2]
    show atNew 0 (fun a => Value.pointer (some a)) (mvNew ⟨h0.hp, h0.nx, []⟩ id (h.hp.get id)) = none
    rw [hb]; rfl
  have : mvAll h.hp h0.nx ⟨h0.hp, h0.nx, []⟩ (.tuple #[.pointer (some ⟨id, 0, none⟩), .int k n]) = none := by
    show mvWrap (fun l => .tuple l.toArray) (mvCons (mvParts h.hp h0.nx [.int k n]) (mvCell h.hp h0.nx ⟨h0.hp, h0.nx, []⟩ (.pointer (some ⟨id, 0, none⟩)))) = none
    rw [e]; rfl
  rw [this]; rfl
theorem gdT_undef (h : Hs) (f : KV → An) (K : KV) : gdT undef' h f K = K undef' h := rfl
theorem gdF_undef (h : Hs) (f : KV → An) (K : KV) : gdF undef' h f K = K undef' h := rfl
end Go.Gev
