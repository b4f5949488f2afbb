/- More steps of residual programs: calls of function values, choices and stores in regions that draw, further numbers. -/
import Derived.Test.YtndlcnfnoiabbaaGevSy
namespace Go.Gev
theorem ble_self (n : Nat) : Nat.ble n n = true := Nat.ble_eq_true_of_le (Nat.le_refl n)
theorem ble_zero (n : Nat) : Nat.ble 0 n = true := Nat.ble_eq_true_of_le (Nat.zero_le n)
theorem dBar {h u : Hs} (hn : h.nx ≤ u.nx) (K : KV) (v : Value) : dPut K v (dNext h u .bar) (andB (dFit h u .bar) (Nat.ble 0 u.lo)) = K v u := by
 have h1 : dFit h u .bar = true := Nat.ble_eq_true_of_le hn
 rw [h1, ble_zero]; rfl
theorem dBarS (h : Hs) (hp : Tr Blk) (lo : Nat) (K : KV) (v : Value) : dPut K v (dNext h (Hs.mk hp h.nx lo) .bar) (andB (dFit h (Hs.mk hp h.nx lo) .bar) (Nat.ble 0 (Hs.mk hp h.nx lo).lo)) = K v (Hs.mk hp h.nx lo) := dBar (Nat.le_refl _) K v
theorem dBlind (h : Hs) (a : Tr Blk) (K : KV) (v : Value) : dPut K v (dNext h ⟨a, h.nx, h.nx⟩ .blind) (andB (dFit h ⟨a, h.nx, h.nx⟩ .blind) (Nat.ble 0 h.nx)) = K v h := by
 have h1 : dFit h ⟨a, h.nx, h.nx⟩ .blind = true := by
  show andB (Nat.beq h.nx h.nx) (Nat.ble h.nx h.nx) = true
  rw [Nat.beq_refl, ble_self]; rfl
 rw [h1, ble_zero]; rfl
theorem kI64_quoN {m d : Nat} (hd : 0 < d) (hm : m ≤ 9223372036854775807) (K : Value → An) : kI64 .quo (.int .i64 (.ofNat m)) (.int .i64 (.ofNat d)) K = K (.int .i64 (.ofNat (m / d))) := by
 obtain ⟨d, rfl⟩ : ∃ d', d = d' + 1 := ⟨d - 1, by omega⟩
 show ifB (Nat.ble (Nat.div m (d + 1)) 9223372036854775807) (mkN .i64 (Nat.div m (d + 1)) K) _ = _
 have : Nat.ble (Nat.div m (d + 1)) 9223372036854775807 = true := Nat.ble_eq_true_of_le (Nat.le_trans (Nat.div_le_self _ _) hm)
 rw [this, mkN_eq]; rfl
theorem kI64_mulN {m d : Nat} (hm : m * d ≤ 9223372036854775807) (K : Value → An) : kI64 .mul (.int .i64 (.ofNat m)) (.int .i64 (.ofNat d)) K = K (.int .i64 (.ofNat (m * d))) := by
 show ifB (Nat.ble (Nat.mul m d) 9223372036854775807) (mkN .i64 (Nat.mul m d) K) _ = _
 have : Nat.ble (Nat.mul m d) 9223372036854775807 = true := Nat.ble_eq_true_of_le hm
 rw [this, mkN_eq]; rfl
theorem kI64_subN {m d : Nat} (hd : d ≤ m) (hm : m ≤ 9223372036854775807) (K : Value → An) : kI64 .sub (.int .i64 (.ofNat m)) (.int .i64 (.ofNat d)) K = K (.int .i64 (.ofNat (m - d))) := by
 rw [kI64_sub (by simp only [Int.ofNat_eq_natCast]; constructor <;> omega)]
 congr 2; simp only [Int.ofNat_eq_natCast]; omega
theorem kI64_addN {m d : Nat} (hm : m + d ≤ 9223372036854775807) (K : Value → An) : kI64 .add (.int .i64 (.ofNat m)) (.int .i64 (.ofNat d)) K = K (.int .i64 (.ofNat (m + d))) := by
 rw [kI64_add (by simp only [Int.ofNat_eq_natCast]; constructor <;> omega)]; rfl
theorem Own.sl {n0 : Nat} {t : TypeId} {h : Hs} {v : Value} {L : List (Int × Int)} (o : Own n0 t h v L) : Sl h v L := by
 rcases o with ⟨rfl, rfl⟩ | ⟨id, cc, rfl, o2, o3, o4, o5⟩
 ·exact ⟨none, 0, rfl, fun i f l hi => by simp at hi⟩
 ·refine ⟨some ⟨id, 0, none⟩, L.length, rfl, fun i f l hi => ⟨id, 0, cc, L.length * 2, t, 2, true, true, rfl, o3, o4, ?_, ?_⟩⟩
  ·rw [Nat.zero_add]; exact (o5 i f l hi).1
  ·rw [Nat.zero_add]; exact (o5 i f l hi).2
def SlI (h : Hs) (v : Value) (L : List Int) : Prop :=
 ∃ a c, v = .slice a L.length c ∧ ∀ i l, L[i]? = some l → ∃ b o cc n e u rw_ fl, a = some ⟨b, o, none⟩ ∧ b < h.nx ∧ h.hp.get b = some (.row cc n e u rw_ fl) ∧ cc.get (o + i * 1) = some (.int .i64 l)
theorem SlI.mono {h h' : Hs} {v : Value} {L : List Int} (s : SlI h v L) (e : Ext h h') : SlI h' v L := by
 obtain ⟨a, c, h1, h2⟩ := s
 refine ⟨a, c, h1, fun i l hi => ?_⟩
 obtain ⟨b, o, cc, n, e', u, rw_, fl, q1, q2, q3, q4⟩ := h2 i l hi
 exact ⟨b, o, cc, n, e', u, rw_, fl, q1, Nat.lt_of_lt_of_le q2 e.1, (e.2 b q2).trans q3, q4⟩
theorem SlI.lo {h : Hs} {v : Value} {L : List Int} (s : SlI h v L) (n : Nat) : SlI ⟨h.hp, h.nx, n⟩ v L := s
theorem SlI.len {h : Hs} {v : Value} {L : List Int} (s : SlI h v L) (K : Value → An) : kLenV v K = K (.int .i64 (.ofNat L.length)) := by
 obtain ⟨a, c, rfl, _⟩ := s; exact kLenV_ok _ _ _ _
theorem SlI.at {h : Hs} {v : Value} {L : List Int} (s : SlI h v L) {h' : Hs} (e : Ext h h') {i : Nat} {l : Int} (hi : L[i]? = some l) (K : Value → An) :
 kIdxA 1 v (.int .i64 (.ofNat i)) (fun x => kLoad x h' K) = K (.int .i64 l) := by
 obtain ⟨a, c, rfl, h2⟩ := s.mono e
 obtain ⟨b, o, cc, n, e', u, rw_, fl, rfl, q2, q3, q4⟩ := h2 i l hi
 rw [kIdxA_ok (List.getElem?_eq_some_iff.1 hi).1, kLoad_ok q3 q4]
end Go.Gev
