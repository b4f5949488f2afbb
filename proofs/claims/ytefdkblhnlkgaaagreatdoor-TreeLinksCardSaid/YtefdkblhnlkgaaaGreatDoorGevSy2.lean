/- More steps of residual programs: calls of function values, choices and stores in regions that draw, further numbers. -/
import Derived.Test.YtefdkblhnlkgaaaGreatDoorGevSy
namespace Go.Gev

theorem obK_is (K : Value → An) (v : Value) : obK K (some v) = K v := rfl
theorem newRow_nx (h : Hs) (e u : Nat) (cs : List Value) : (newRow h e u cs).nx = h.nx + 1 := rfl
theorem ble_self (n : Nat) : Nat.ble n n = true := Nat.ble_eq_true_of_le (Nat.le_refl n)
theorem ble_zero (n : Nat) : Nat.ble 0 n = true := Nat.ble_eq_true_of_le (Nat.zero_le n)
theorem dBar {h u : Hs} (hn : h.nx ≤ u.nx) (K : KV) (v : Value) : dPut K v (dNext h u .bar) (andB (dFit h u .bar) (Nat.ble 0 u.lo)) = K v u := by
  have h1 : dFit h u .bar = true := Nat.ble_eq_true_of_le hn
  rw [h1, ble_zero]; rfl
theorem dBarS (h : Hs) (hp : Tr Blk) (lo : Nat) (K : KV) (v : Value) : dPut K v (dNext h (Hs.mk hp h.nx lo) .bar) (andB (dFit h (Hs.mk hp h.nx lo) .bar) (Nat.ble 0 (Hs.mk hp h.nx lo).lo)) = K v (Hs.mk hp h.nx lo) := dBar (Nat.le_refl _) K v
theorem dBlind (h : Hs) (a : Tr Blk) (K : KV) (v : Value) : dPut K v (dNext h ⟨a, h.nx, h.nx⟩ .blind) (andB (dFit h ⟨a, h.nx, h.nx⟩ .blind) (Nat.ble 0 h.nx)) = K v h := by
  have h1 : dFit h ⟨a, h.nx, h.nx⟩ .blind = true := by
    show andB (Nat.beq h.nx h.nx) (Nat.ble h.nx h.nx) = true
    rw [Nat.beq_refl, ble_self]; rfl
  rw [h1, ble_zero]; rfl
/-- a choice -/
theorem pickD_true (h : Hs) (x y : Value) (F : KV) : after (fun v u => dPut F v (dNext h u .blind) (andB (dFit h u .blind) (Nat.ble 0 u.lo))) (pickB (.c x) (.c y) enE (Hs.mk .e h.nx h.nx) (.bool true)) = F x h := by
  rw [pick_true, after_some]; exact dBlind h _ F x
theorem pickD_false (h : Hs) (x y : Value) (F : KV) : after (fun v u => dPut F v (dNext h u .blind) (andB (dFit h u .blind) (Nat.ble 0 u.lo))) (pickB (.c x) (.c y) enE (Hs.mk .e h.nx h.nx) (.bool false)) = F y h := by
  rw [pick_false, after_some]; exact dBlind h _ F y
/-- a call of a function value that leaves the memory -/
theorem callD {R : RnK} {f : FuncId} {a b v : Value} {h : Hs} (hr : R f [a, b] h = some (.val v h)) (K : KV) :
    isVal (fun v u => dPut K v (dNext h u .bar) (andB (dFit h u .bar) (Nat.ble 0 u.lo))) (callV (toRn R) [a, b] h (.func (.func f) #[] #[])) = K v h := by
  have e : callV (toRn R) [a, b] h (.func (.func f) #[] #[]) = some (.val v h) := hr
  rw [e]
  exact dBar (Nat.le_refl _) K v
/-- a store of a number -/
theorem kStore1_ok {h : Hs} {b o : Nat} {c : Tr Value} {n e u : Nat} {v0 : Value} (hb : h.hp.get b = some (.row c n e u true true)) (hv : c.get o = some v0) (x : Int) (K : KV) :
    kStore1 (.pointer (some ⟨b, o, none⟩)) (.int .i64 x) h K = K undef' ⟨h.hp.set b (some (.row (c.set o (some (.int .i64 x))) n e u true true)), h.nx, minN h.lo b⟩ := by
  show getB h b (fun B => st1 h b o (.int .i64 x) K B) = _
  unfold getB
  rw [getK_eq, hb]
  show st1 h b o (.int .i64 x) K (.row c n e u true true) = _
  unfold st1
  show Option.rec (motive := fun _ => An) none _ (Tr.getK c o) = _
  rw [getK_eq, hv]
  obtain ⟨hp, nx, lo⟩ := h
  show (Bool.rec (motive := fun _ => An) (K undef' _) (K undef' _) (Nat.ble lo b) : An) = _
  rw [setK_eq, setK_eq]
  unfold minN
  cases Nat.ble lo b <;> rfl
/-- numbers -/
theorem kI64_quoN {m d : Nat} (hd : 0 < d) (hm : m ≤ 9223372036854775807) (K : Value → An) : kI64 .quo (.int .i64 (.ofNat m)) (.int .i64 (.ofNat d)) K = K (.int .i64 (.ofNat (m / d))) := by
  obtain ⟨d, rfl⟩ : ∃ d', d = d' + 1 := ⟨d - 1, by omega⟩
  show ifB (Nat.ble (Nat.div m (d + 1)) 9223372036854775807) (mkN .i64 (Nat.div m (d + 1)) K) _ = _
  have : Nat.ble (Nat.div m (d + 1)) 9223372036854775807 = true := Nat.ble_eq_true_of_le (Nat.le_trans (Nat.div_le_self _ _) hm)
  rw [this, mkN_eq]; rfl
theorem kI64_mulN {m d : Nat} (hm : m * d ≤ 9223372036854775807) (K : Value → An) : kI64 .mul (.int .i64 (.ofNat m)) (.int .i64 (.ofNat d)) K = K (.int .i64 (.ofNat (m * d))) := by
  show ifB (Nat.ble (Nat.mul m d) 9223372036854775807) (mkN .i64 (Nat.mul m d) K) _ = _
  have : Nat.ble (Nat.mul m d) 9223372036854775807 = true := Nat.ble_eq_true_of_le hm
  rw [this, mkN_eq]; rfl
theorem kI64_subN {m d : Nat} (hd : d ≤ m) (hm : m ≤ 9223372036854775807) (K : Value → An) : kI64 .sub (.int .i64 (.ofNat m)) (.int .i64 (.ofNat d)) K = K (.int .i64 (.ofNat (m - d))) := by
  rw [kI64_sub (by simp only [Int.ofNat_eq_natCast]; constructor <;> omega)]
  congr 2; simp only [Int.ofNat_eq_natCast]; omega
theorem kI64_addN {m d : Nat} (hm : m + d ≤ 9223372036854775807) (K : Value → An) : kI64 .add (.int .i64 (.ofNat m)) (.int .i64 (.ofNat d)) K = K (.int .i64 (.ofNat (m + d))) := by
  rw [kI64_add (by simp only [Int.ofNat_eq_natCast]; constructor <;> omega)]; rfl
theorem kI64_eqlN (m d : Nat) (K : Value → An) : kI64 .eql (.int .i64 (.ofNat m)) (.int .i64 (.ofNat d)) K = K (.bool (decide (m = d))) := by
  rw [kI64_eql]; congr 2
  by_cases h : m = d
  · subst h; simp
  · rw [decide_eq_false h]
    exact beq_eq_false_iff_ne.2 fun e => h (Int.ofNat.inj e)
theorem kI64_leqN (m d : Nat) (K : Value → An) : kI64 .leq (.int .i64 (.ofNat m)) (.int .i64 (.ofNat d)) K = K (.bool (decide (m ≤ d))) := by
  rw [kI64_leq]; congr 2
  by_cases h : m ≤ d
  · rw [decide_eq_true h, decide_eq_true (by simp only [Int.ofNat_eq_natCast]; omega)]
  · rw [decide_eq_false h, decide_eq_false (by simp only [Int.ofNat_eq_natCast]; omega)]
theorem kI64_geqN (m d : Nat) (K : Value → An) : kI64 .geq (.int .i64 (.ofNat m)) (.int .i64 (.ofNat d)) K = K (.bool (decide (d ≤ m))) := by
  rw [kI64_geq]; congr 2
  by_cases h : d ≤ m
  · rw [decide_eq_true h, decide_eq_true (by simp only [Int.ofNat_eq_natCast]; omega)]
  · rw [decide_eq_false h, decide_eq_false (by simp only [Int.ofNat_eq_natCast]; omega)]
theorem kI64_gtrN (m d : Nat) (K : Value → An) : kI64 .gtr (.int .i64 (.ofNat m)) (.int .i64 (.ofNat d)) K = K (.bool (decide (d < m))) := by
  rw [kI64_gtr]; congr 2
  by_cases h : d < m
  · rw [decide_eq_true h, decide_eq_true (by simp only [Int.ofNat_eq_natCast]; omega)]
  · rw [decide_eq_false h, decide_eq_false (by simp only [Int.ofNat_eq_natCast]; omega)]
/-- structs of two numbers -/
theorem qA_self (f l : Int) : qA [.i, .i] (.agg #[.int .i64 f, .int .i64 l]) (.agg #[.int .i64 f, .int .i64 l]) = some true := by
  have h : ∀ n : Int, eqI n n = true := fun n => by rw [eqI_eq]; simp
  show eqCells [.i, .i] [.int .i64 f, .int .i64 l] [.int .i64 f, .int .i64 l] = _
  have hc : ∀ n : Int, eqCell .i (.int .i64 n) (.int .i64 n) = some true := fun n => by
    show (match Nat.beq (kn .i64) (kn .i64) with | true => some (eqI n n) | false => none) = some true
    rw [Nat.beq_refl, h]
  rw [eqCells, hc]
  show eqCells [.i] [.int .i64 l] [.int .i64 l] = _
  rw [eqCells, hc]
  rfl

theorem kLoad_lo (v : Value) (h : Hs) (a b : Nat) (K : Value → An) : kLoad v (Hs.mk h.hp a b) K = kLoad v h K := rfl
theorem kLoads_lo (n : Nat) (v : Value) (h : Hs) (a b : Nat) (K : Value → An) : kLoads n v (Hs.mk h.hp a b) K = kLoads n v h K := rfl
theorem Own.sl {n0 : Nat} {t : TypeId} {h : Hs} {v : Value} {L : List (Int × Int)} (o : Own n0 t h v L) : Sl h v L := by
  rcases o with ⟨rfl, rfl⟩ | ⟨id, cc, rfl, o2, o3, o4, o5⟩
  · exact ⟨none, 0, rfl, fun i f l hi => by simp at hi⟩
  · refine ⟨some ⟨id, 0, none⟩, L.length, rfl, fun i f l hi => ⟨id, 0, cc, L.length * 2, t, 2, true, true, rfl, o3, o4, ?_, ?_⟩⟩
    · rw [Nat.zero_add]; exact (o5 i f l hi).1
    · rw [Nat.zero_add]; exact (o5 i f l hi).2
/-- the one pair's second number is set -/
theorem Own.setLen {n0 l0 : Nat} {t : TypeId} {h : Hs} {v : Value} {f l : Int} (o : Own n0 t h v [(f, l)]) (h00 : l0 ≤ n0) (hn : l0 ≤ h.lo) (x : Int) (K : KV) :
    ∃ h', kIdxA 2 v (.int .i64 (.ofNat 0)) (fun p => kFieldA 1 p (fun q => kStore1 q (.int .i64 x) h (fun u w => dPut K u (dNext h w .bar) (andB (dFit h w .bar) (Nat.ble 0 w.lo))))) = K undef' h' ∧
      Own n0 t h' v [(f, x)] ∧ h'.nx = h.nx ∧ l0 ≤ h'.lo ∧ ∀ id, id < n0 → h'.hp.get id = h.hp.get id := by
  rcases o with ⟨_, hL⟩ | ⟨id, cc, rfl, o2, o3, o4, o5⟩
  · cases hL
  · obtain ⟨p1, p2⟩ := o5 0 f l rfl
    rw [kIdxA_ok (show 0 < [(f, l)].length from Nat.zero_lt_one), kFieldA_ok, kStore1_ok o4 p2]
    rw [dBarS]
    refine ⟨_, rfl, .inr ⟨id, cc.set (0 * 2 + 1) (some (.int .i64 x)), rfl, o2, o3, ?_, fun i f' l' hi => ?_⟩, rfl, ?_, fun id' hid => ?_⟩
    · dsimp only
      rw [Tr.get_set, if_pos rfl]; rfl
    · cases i with
      | zero =>
        simp only [List.getElem?_cons_zero, Option.some.injEq, Prod.mk.injEq] at hi
        obtain ⟨rfl, rfl⟩ := hi
        rw [Tr.get_set, if_neg (by decide), Tr.get_set, if_pos (by decide)]
        exact ⟨p1, rfl⟩
      | succ i => simp at hi
    · show l0 ≤ minN h.lo id
      rw [minN_eq]; omega
    · dsimp only
      rw [Tr.get_set, if_neg (by omega)]

/-! ### rows of numbers -/
/-- the slice v holds the numbers L -/
def SlI (h : Hs) (v : Value) (L : List Int) : Prop :=
  ∃ a c, v = .slice a L.length c ∧ ∀ i l, L[i]? = some l → ∃ b o cc n e u rw_ fl, a = some ⟨b, o, none⟩ ∧ b < h.nx ∧ h.hp.get b = some (.row cc n e u rw_ fl) ∧ cc.get (o + i * 1) = some (.int .i64 l)
theorem SlI.mono {h h' : Hs} {v : Value} {L : List Int} (s : SlI h v L) (e : Ext h h') : SlI h' v L := by
  obtain ⟨a, c, h1, h2⟩ := s
  refine ⟨a, c, h1, fun i l hi => ?_⟩
  obtain ⟨b, o, cc, n, e', u, rw_, fl, q1, q2, q3, q4⟩ := h2 i l hi
  exact ⟨b, o, cc, n, e', u, rw_, fl, q1, Nat.lt_of_lt_of_le q2 e.1, (e.2 b q2).trans q3, q4⟩
theorem SlI.lo {h : Hs} {v : Value} {L : List Int} (s : SlI h v L) (n : Nat) : SlI ⟨h.hp, h.nx, n⟩ v L := s
theorem SlI.len {h : Hs} {v : Value} {L : List Int} (s : SlI h v L) (K : Value → An) : kLenV v K = K (.int .i64 (.ofNat L.length)) := by
  obtain ⟨a, c, rfl, _⟩ := s; exact kLenV_ok _ _ _ _
theorem SlI.at {h : Hs} {v : Value} {L : List Int} (s : SlI h v L) {h' : Hs} (e : Ext h h') {i : Nat} {l : Int} (hi : L[i]? = some l) (K : Value → An) :
    kIdxA 1 v (.int .i64 (.ofNat i)) (fun x => kLoad x h' K) = K (.int .i64 l) := by
  obtain ⟨a, c, rfl, h2⟩ := s.mono e
  obtain ⟨b, o, cc, n, e', u, rw_, fl, rfl, q2, q3, q4⟩ := h2 i l hi
  rw [kIdxA_ok (List.getElem?_eq_some_iff.1 hi).1, kLoad_ok q3 q4]

/-- a struct of two numbers is made -/
theorem buildD (h : Hs) (f l : Int) (F : KV) : after (fun v u => dPut F v (dNext h u .blind) (andB (dFit h u .blind) (Nat.ble 0 u.lo))) (oBuild [.int .i64 (.ofNat 0), .int .i64 (.ofNat 0)] [(0, 1, .c (.int .i64 f)), (1, 1, .c (.int .i64 l))] enE (Hs.mk .e h.nx h.nx)) = F (.agg #[.int .i64 f, .int .i64 l]) h := by
  have e : oBuild [.int .i64 (.ofNat 0), .int .i64 (.ofNat 0)] [(0, 1, .c (.int .i64 f)), (1, 1, .c (.int .i64 l))] enE (Hs.mk .e h.nx h.nx) = some (.agg #[.int .i64 f, .int .i64 l], Hs.mk .e h.nx h.nx) := rfl
  rw [e, after_some]
  exact dBlind h _ F _
theorem app0_nil (h : Hs) (t : TypeId) (f l : Int) : app0 t 2 16 (newRow h t 2 [.int .i64 f, .int .i64 l]) (.slice none 0 0) (.slice (some ⟨h.nx, 0, none⟩) 1 1) =
    some (.slice (some ⟨h.nx + 1, 0, none⟩) 1 1, newRow (newRow h t 2 [.int .i64 f, .int .i64 l]) t 2 [.int .i64 f, .int .i64 l]) := by
  have hrow : rowOf (newRow h t 2 [.int .i64 f, .int .i64 l]) 2 1 (some ⟨h.nx, 0, none⟩) = some [.int .i64 f, .int .i64 l] := by
    show blkCells 2 0 ((newRow h t 2 [.int .i64 f, .int .i64 l]).hp.get h.nx) = _
    unfold newRow
    rw [Tr.get_set, if_pos rfl]; rfl
  show app1 _ t 2 16 1 _ (rowOf _ 2 1 (some ⟨h.nx, 0, none⟩)) = _
  rw [hrow]; rfl
/-- the first pair of a row, in a region that draws -/
theorem pushD_nil (h : Hs) (t : TypeId) (f l : Int) (F : KV) :
    after (fun v u => dPut (fun x27 h28 => after (fun v31 u32 => dPut (fun x29 h30 => F x29 h30) v31 (dNext h28 u32 .bar) (andB (dFit h28 u32 .bar) (Nat.ble 0 u32.lo))) (app0 t 2 16 h28 (.slice none 0 0) x27)) v (dNext h u .bar) (andB (dFit h u .bar) (Nat.ble 0 u.lo)))
      (oMkrow t 2 1 [.int .i64 (.ofNat 0), .int .i64 (.ofNat 0)] [(0, 2, .c (.agg #[.int .i64 f, .int .i64 l]))] enE h) =
      F (.slice (some ⟨h.nx + 1, 0, none⟩) 1 1) (newRow (newRow h t 2 [.int .i64 f, .int .i64 l]) t 2 [.int .i64 f, .int .i64 l]) := by
  have hmk : oMkrow t 2 1 [.int .i64 (.ofNat 0), .int .i64 (.ofNat 0)] [(0, 2, .c (.agg #[.int .i64 f, .int .i64 l]))] enE h = some (.slice (some ⟨h.nx, 0, none⟩) 1 1, newRow h t 2 [.int .i64 f, .int .i64 l]) := rfl
  rw [hmk, after_some, dBar (show h.nx ≤ (newRow h t 2 [.int .i64 f, .int .i64 l]).nx from Nat.le_succ _), app0_nil, after_some, dBar (show (newRow h t 2 [Value.int .i64 f, .int .i64 l]).nx ≤ _ from Nat.le_succ _)]
theorem own_new (h : Hs) (n0 : Nat) (hn : n0 ≤ h.nx) (t : TypeId) (f l : Int) : Own n0 t (newRow (newRow h t 2 [.int .i64 f, .int .i64 l]) t 2 [.int .i64 f, .int .i64 l]) (.slice (some ⟨h.nx + 1, 0, none⟩) 1 1) [(f, l)] := by
  refine .inr ⟨h.nx + 1, ofList [.int .i64 f, .int .i64 l], rfl, by omega, Nat.lt_succ_self _, ?_, fun i f' l' hi => ?_⟩
  · rw [newRow_get, newRow_nx, if_pos rfl]; rfl
  · cases i with
    | zero => simp only [List.getElem?_cons_zero, Option.some.injEq, Prod.mk.injEq] at hi; obtain ⟨rfl, rfl⟩ := hi; exact ⟨rfl, rfl⟩
    | succ i => simp at hi
end Go.Gev
