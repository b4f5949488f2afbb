/- Steps of residual programs: boxes, rows of words of which nothing is known but their number. -/
import Derived.Test.YtndlcnfnoiabbaaGevAr
namespace Go.Gev
def Bx (h : Hs) (id : Nat) (vs : List Value) : Prop := ∃ c m e u rw_ fl, h.hp.get id = some (.row c m e u rw_ fl) ∧ ∀ i, c.get i = vs[i]?
theorem Bx.mono {h h' : Hs} {id : Nat} {vs : List Value} (b : Bx h id vs) (hid : id < h.nx) (e : Ext h h') : Bx h' id vs := by
 obtain ⟨c, m, e', u, rw_, fl, q, q2⟩ := b
 exact ⟨c, m, e', u, rw_, fl, (e.2 id hid).trans q, q2⟩
theorem Bx.keep {h h' : Hs} {id : Nat} {vs : List Value} (b : Bx h id vs) (e : h'.hp.get id = h.hp.get id) : Bx h' id vs := by
 obtain ⟨c, m, e', u, rw_, fl, q, q2⟩ := b
 exact ⟨c, m, e', u, rw_, fl, e.trans q, q2⟩
theorem Bx.new (h : Hs) (e u : Nat) (vs : List Value) : Bx (newRow h e u vs) h.nx vs := ⟨_, _, _, _, _, _, by rw [newRow_get, if_pos rfl], fun i => get_ofList _ _⟩
theorem Bx.load {h : Hs} {id i : Nat} {vs : List Value} {v : Value} (b : Bx h id vs) (hi : vs[i]? = some v) (K : Value → An) : kLoad (.pointer (some ⟨id, i, none⟩)) h K = K v := by
 obtain ⟨c, m, e, u, rw_, fl, q, q2⟩ := b
 exact kLoad_ok q ((q2 i).trans hi) K
theorem Bx.field {h : Hs} {id i : Nat} {vs : List Value} {v : Value} (b : Bx h id vs) (hi : vs[i]? = some v) (K : Value → An) : kFieldA i (.pointer (some ⟨id, 0, none⟩)) (fun x => kLoad x h K) = K v := by
 rw [kFieldA_ok, Nat.zero_add, b.load hi]
theorem loadN_list : ∀ (n off : Nat) (c : Tr Value) (vs acc : List Value), (∀ i, i < n → ∃ v, vs[i]? = some v ∧ c.get (off + i) = some v) → vs.length = n → loadN c n off acc = some (acc.reverse ++ vs) := by
 intro n
 induction n with
 | zero =>
  intro off c vs acc _ hl
  have : vs = [] := List.eq_nil_of_length_eq_zero hl
  subst this
  rw [loadN, List.append_nil]
 | succ n ih =>
  intro off c vs acc h hl
  cases vs with
  | nil => simp at hl
  | cons v vs =>
   obtain ⟨w, q1, q2⟩ := h 0 (Nat.succ_pos _)
   simp only [List.getElem?_cons_zero, Option.some.injEq] at q1
   subst q1
   rw [loadN]
   rw [Nat.add_zero] at q2
   rw [q2]
   show loadN c n (Nat.succ off) (v :: acc) = _
   rw [ih (Nat.succ off) c vs (v :: acc) (fun i hi => ?_) (by simpa using hl)]
   ·simp
   ·obtain ⟨w, p1, p2⟩ := h (i + 1) (by omega)
    rw [List.getElem?_cons_succ] at p1
    exact ⟨w, p1, by rw [show Nat.succ off + i = off + (i + 1) by omega]; exact p2⟩
theorem Bx.loadsN {h : Hs} {id : Nat} {vs : List Value} (b : Bx h id vs) {m : Nat} (hm : m ≤ vs.length) (K : Value → An) : kLoads m (.pointer (some ⟨id, 0, none⟩)) h K = K (.agg (vs.take m).toArray) := by
 obtain ⟨c, m', e, u, rw_, fl, q, q2⟩ := b
 show getB h id _ = _
 unfold getB
 rw [getK_eq, q]
 show Option.rec (motive := fun _ => An) none (fun cs => K (.agg cs.toArray)) (loadN c m 0 []) = _
 rw [loadN_list m 0 c (vs.take m) [] (fun i hi => ⟨vs[i], by rw [List.getElem?_take, if_pos hi]; exact List.getElem?_eq_getElem (by omega), by rw [Nat.zero_add, q2]; exact List.getElem?_eq_getElem (by omega)⟩) (by rw [List.length_take]; omega)]
 rfl
theorem Bx.loads {h : Hs} {id : Nat} {vs : List Value} (b : Bx h id vs) (K : Value → An) : kLoads vs.length (.pointer (some ⟨id, 0, none⟩)) h K = K (.agg vs.toArray) := by
 rw [b.loadsN (Nat.le_refl _), List.take_length]
theorem Bx.res {h : Hs} {id : Nat} {v : Value} (b : Bx h id [v]) : packR h (resV enE h [.cell (.c (.pointer (some ⟨id, 0, none⟩))) 1 true]) = some (.val (.agg #[v]) h) := by
 obtain ⟨c, m', e, u, rw_, fl, q, q2⟩ := b
 have : cellV h 1 true (some (id, 0)) = some (.agg #[v]) := by
  show (match blkCells 1 0 (h.hp.get id) with | some cs => some (Value.agg cs.toArray) | none => none) = _
  rw [q]
  show (match loadN c 1 0 [] with | some cs => some (Value.agg cs.toArray) | none => none) = _
  rw [loadN_list 1 0 c [v] [] (fun i hi => ⟨v, by have : i = 0 := by omega
                                                  subst this; rfl, by have : i = 0 := by omega
                                                                      subst this; rw [Nat.zero_add, q2]; rfl⟩) rfl]
  rfl
 show packR h (consR (some []) (cellV h 1 true (some (id, 0)))) = _
 rw [this]; rfl
where Ext.new' (h : Hs) (e u : Nat) (cs : List Value) : Ext h (newRow h e u cs) := ⟨Nat.le_succ _, fun id hid => by rw [newRow_get, if_neg (by omega)]⟩
theorem kI64_remN {m d : Nat} (hd : 0 < d) (K : Value → An) : kI64 .rem (.int .i64 (.ofNat m)) (.int .i64 (.ofNat d)) K = K (.int .i64 (.ofNat (m % d))) := by
 obtain ⟨d, rfl⟩ : ∃ d', d = d' + 1 := ⟨d - 1, by omega⟩
 show mkN .i64 (Nat.mod m (d + 1)) K = _
 rw [mkN_eq]; rfl
theorem kStore1_int {h : Hs} {b o : Nat} {c : Tr Value} {n e u : Nat} {v0 : Value} (hb : h.hp.get b = some (.row c n e u true true)) (hv : c.get o = some v0) (k : IntKind) (x : Int) (K : KV) :
 kStore1 (.pointer (some ⟨b, o, none⟩)) (.int k x) h K = K undef' ⟨h.hp.set b (some (.row (c.set o (some (.int k x))) n e u true true)), h.nx, minN h.lo b⟩ := by
 show getB h b (fun B => st1 h b o (.int k x) K B) = _
 unfold getB
 rw [getK_eq, hb]
 show st1 h b o (.int k x) K (.row c n e u true true) = _
 unfold st1
 show Option.rec (motive := fun _ => An) none _ (Tr.getK c o) = _
 rw [getK_eq, hv]
 obtain ⟨hp, nx, lo⟩ := h
 show (Bool.rec (motive := fun _ => An) (K undef' _) (K undef' _) (Nat.ble lo b) : An) = _
 rw [setK_eq, setK_eq]
 unfold minN
 cases Nat.ble lo b <;> rfl
def Wd (t : TypeId) (n0 : Nat) (h : Hs) (v : Value) (m : Nat) : Prop :=
 ∃ id cc, v = .slice (some ⟨id, 0, none⟩) m m ∧ n0 ≤ id ∧ id < h.nx ∧ h.hp.get id = some (.row cc m t 1 true true) ∧ ∀ i, i < m → ∃ w, cc.get i = some (.int .u64 (.ofNat w))
theorem Wd.mono {t : TypeId} {n0 m : Nat} {h h' : Hs} {v : Value} (w : Wd t n0 h v m) (e : Ext h h') : Wd t n0 h' v m := by
 obtain ⟨id, cc, q1, q2, q3, q4, q5⟩ := w
 exact ⟨id, cc, q1, q2, Nat.lt_of_lt_of_le q3 e.1, (e.2 id q3).trans q4, q5⟩
theorem Wd.len {t : TypeId} {n0 m : Nat} {h : Hs} {v : Value} (w : Wd t n0 h v m) (K : Value → An) : kLenV v K = K (.int .i64 (.ofNat m)) := by
 obtain ⟨id, cc, rfl, _⟩ := w; exact kLenV_ok _ _ _ _
theorem Wd.at {t : TypeId} {n0 m : Nat} {h : Hs} {v : Value} (w : Wd t n0 h v m) {i : Nat} (hi : i < m) : ∃ x, ∀ K : Value → An, kIdxA 1 v (.int .i64 (.ofNat i)) (fun p => kLoad p h K) = K (.int .u64 (.ofNat x)) := by
 obtain ⟨id, cc, rfl, q2, q3, q4, q5⟩ := w
 obtain ⟨x, hx⟩ := q5 i hi
 exact ⟨x, fun K => by rw [kIdxA_ok hi, kLoad_ok q4 (by rw [Nat.zero_add, Nat.mul_one]; exact hx)]⟩
def WdAt (t : TypeId) (id : Nat) (h : Hs) (v : Value) (m : Nat) : Prop :=
 ∃ cc, v = .slice (some ⟨id, 0, none⟩) m m ∧ id < h.nx ∧ h.hp.get id = some (.row cc m t 1 true true) ∧ ∀ i, i < m → ∃ w, cc.get i = some (.int .u64 (.ofNat w))
theorem Wd.at_ {t : TypeId} {n0 m : Nat} {h : Hs} {v : Value} (w : Wd t n0 h v m) : ∃ id, n0 ≤ id ∧ WdAt t id h v m := by
 obtain ⟨id, cc, q1, q2, q3, q4, q5⟩ := w
 exact ⟨id, q2, cc, q1, q3, q4, q5⟩
theorem WdAt.keep {t : TypeId} {id m : Nat} {h h' : Hs} {v : Value} (w : WdAt t id h v m) (hn : h.nx ≤ h'.nx) (hg : h'.hp.get id = h.hp.get id) : WdAt t id h' v m := by
 obtain ⟨cc, q1, q3, q4, q5⟩ := w
 exact ⟨cc, q1, Nat.lt_of_lt_of_le q3 hn, hg.trans q4, q5⟩
theorem WdAt.store {t : TypeId} {id m : Nat} {h : Hs} {v : Value} (w : WdAt t id h v m) {i : Nat} (hi : i < m) (x : Nat) (K : KV) :
 ∃ h', kIdxA 1 v (.int .i64 (.ofNat i)) (fun p => kStore1 p (.int .u64 (.ofNat x)) h (fun u w => dPut K u (dNext h w .bar) (andB (dFit h w .bar) (Nat.ble 0 w.lo)))) = K undef' h' ∧
  WdAt t id h' v m ∧ h'.nx = h.nx ∧ h'.lo = min h.lo id ∧ ∀ id', id' ≠ id → h'.hp.get id' = h.hp.get id' := by
 obtain ⟨cc, rfl, q3, q4, q5⟩ := w
 obtain ⟨y, hy⟩ := q5 i hi
 rw [kIdxA_ok hi, kStore1_int q4 (by rw [Nat.zero_add, Nat.mul_one]; exact hy)]
 rw [dBarS]
 refine ⟨_, rfl, ⟨cc.set (0 + i * 1) (some (.int .u64 (.ofNat x))), rfl, q3, ?_, fun j hj => ?_⟩, rfl, minN_eq _ _, fun id' hid => ?_⟩
 ·dsimp only
  rw [Tr.get_set, if_pos rfl]
 ·rw [Tr.get_set]
  split
  ·exact ⟨x, rfl⟩
  ·exact q5 j hj
 ·dsimp only
  rw [Tr.get_set, if_neg fun e => hid e.symm]
theorem flatL_of : ∀ (vs : List Value), (∀ v ∈ vs, ∃ k n, v = .int k n) → flatL vs = true := by
 intro vs
 induction vs with
 | nil => intro _; rfl
 | cons v vs ih =>
  intro h
  obtain ⟨k, n, rfl⟩ := h v List.mem_cons_self
  exact ih fun x hx => h x (List.mem_cons_of_mem _ hx)
theorem allOne_of : ∀ (vs : List Value), (∀ v ∈ vs, ∃ k n, v = .int k n) → allOne vs = true := by
 intro vs
 induction vs with
 | nil => intro _; rfl
 | cons v vs ih =>
  intro h
  obtain ⟨k, n, rfl⟩ := h v List.mem_cons_self
  exact ih fun x hx => h x (List.mem_cons_of_mem _ hx)
end Go.Gev
