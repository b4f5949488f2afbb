/- The run of 'PoolGroups' at whatever geometry, whatever client. -/
import Derived.Test.YtpiamfcnhkjflaaPoolGroupsSym
namespace Go.Proofs.Ytpiamfcnhkjflaa.poolGroups
open Go Go.Gev Go.RowKit

theorem follows : Try.prog.follows .mixedOrders = true := by kernel_rfl

theorem names : (Try.prog.funcs.toList.all fun fn => !fn.body.isSome || !(fn.name == "runtime.NumGoroutine")) = true := by decide +kernel

theorem named : Named Try.prog := fun f fn hf hb => by
  have hm : fn ∈ Try.prog.funcs.toList := by
    obtain ⟨h1, h2⟩ := Array.getElem?_eq_some_iff.1 hf
    rw [← h2]; simp
  have h := List.all_eq_true.1 names fn hm
  rw [hb] at h
  simpa using h

/-- runs of a depth -/
noncomputable def RT (d : Nat) : RnK := runK (tabOf Try.prog 1000000 entries) d
theorem at3 (d : Nat) (args : List Value) (h : Hs) : RT (d + 1) 3 args h = r3 (RT d) 1000000 args h := by kernel_rfl
theorem at7 (d : Nat) (args : List Value) (h : Hs) : RT (d + 1) 7 args h = r7 (RT d) 1000000 args h := by kernel_rfl
theorem at8 (d : Nat) (args : List Value) (h : Hs) : RT (d + 1) 8 args h = r8 (RT d) 1000000 args h := by kernel_rfl
theorem at9 (d : Nat) (args : List Value) (h : Hs) : RT (d + 1) 9 args h = r9 (RT d) 1000000 args h := by kernel_rfl
theorem at10 (d : Nat) (args : List Value) (h : Hs) : RT (d + 1) 10 args h = r10 (RT d) 1000000 args h := by kernel_rfl
theorem at11 (d : Nat) (args : List Value) (h : Hs) : RT (d + 1) 11 args h = r11 (RT d) 1000000 args h := by kernel_rfl
theorem at20 (d : Nat) (args : List Value) (h : Hs) : RT (d + 1) 20 args h = r20 (RT d) 1000000 args h := by kernel_rfl
theorem at26 (d : Nat) (args : List Value) (h : Hs) : RT (d + 1) 26 args h = r26 (RT d) 1000000 args h := by kernel_rfl
theorem at27 (d : Nat) (args : List Value) (h : Hs) : RT (d + 1) 27 args h = r27 (RT d) 1000000 args h := by kernel_rfl
theorem at28 (d : Nat) (args : List Value) (h : Hs) : RT (d + 1) 28 args h = r28 (RT d) 1000000 args h := by kernel_rfl
theorem at39 (d : Nat) (args : List Value) (h : Hs) : RT (d + 1) 39 args h = r39 (RT d) 1000000 args h := by kernel_rfl
theorem at40 (d : Nat) (args : List Value) (h : Hs) : RT (d + 1) 40 args h = r40 (RT d) 1000000 args h := by kernel_rfl
theorem at43 (d : Nat) (args : List Value) (h : Hs) : RT (d + 1) 43 args h = r43 (RT d) 1000000 args h := by kernel_rfl
theorem awake1 (b : Blk) : RT 60 6 [] ⟨.n (some b) .e .e, 1, 0⟩ = some (.val (.bool true) ⟨.n (some b) .e .e, 1, 0⟩) := by kernel_rfl

theorem insE (d : Nat) : InE (RT (d + 1)) := fun n a b h => by rw [at26]; exact in_ok _ _ n a b h
theorem dataE (d : Nat) : ∃ R' N', (∃ R'' N'', ∀ args h, R' 43 args h = r43 R'' N'' args h) ∧ ∀ args h, RT (d + 2) 27 args h = r27 R' N' args h := ⟨_, _, ⟨_, _, at43 d⟩, at27 (d + 1)⟩
theorem goodT (d : Nat) {b n c k : Nat} (g : Geo b n c k) (h : Hs) : RT (d + 3) 7 [gv (.ofNat b) (.ofNat n) (.ofNat c) (.ofNat k)] h = some (.val (.bool true) h) := by
  rw [at7]; exact good_true (insE (d + 1)) (dataE d) g h
theorem geoE (d : Nat) : GeoE (RT (d + 3)) where
  good := fun g h => goodT d g h
  data := dataE (d + 1)
theorem dataT (d : Nat) {b n c k : Nat} (g : Geo b n c k) (h : Hs) : RT (d + 4) 10 [gv (.ofNat b) (.ofNat n) (.ofNat c) (.ofNat k)] h = some (.val (.tuple #[iN (frm b n c k), iN (alln b n c k)]) h) := by
  rw [at10]; exact Data_ok (geoE d) g h
theorem setE (d : Nat) : SetE (RT (d + 1)) where
  clone := fun w hm => by rw [at40]; exact clone_ok _ _ w hm
  there := fun w hi => by rw [at39]; exact there_ok _ _ w hi
theorem setT (d : Nat) {id m : Nat} {v sl : Value} {h : Hs} {L : List Nat} (w : WdAt 60 id h v m) (hm : m ≤ 100000) (s : SlI h sl (L.map Int.ofNat)) (hL : ∀ j ∈ L, j / 64 < m ∧ j ≤ 100000) (hLn : L.length ≤ 1000) :
    ∃ v' h', RT (d + 2) 20 [.agg #[v], .bool true, sl] h = some (.val (.agg #[v']) h') ∧ WdAt 60 h.nx h' v' m ∧ Ext h h' ∧ h'.lo = h.lo ∧ h.nx < h'.nx := by
  rw [at20]; exact set_ok (setE d) w hm s hL hLn (by decide)
theorem empE (d : Nat) : EmpE (RT (d + 5)) where
  data := fun g h => dataT (d + 1) g h
  new := fun hb h => by rw [at28]; exact new_ok _ _ hb h
  set := fun w hm s hL hLn => setT (d + 3) w hm s hL hLn
theorem lawE : LawE (RT 60) where
  good := fun b n c k h => by rw [at7]; exact good_any (insE 58) (dataE 57) b n c k h
  data := fun g h => dataT 56 g h
  empty := fun g h => by rw [at9]; exact empty_ok (empE 54) g (by decide) h
  pool := fun g idw v h w => by rw [at8]; exact pool_ok (goodT 56) (setT 57) g w
  group := fun g h id w bx i hi => by rw [at11]; exact group_ok (dataT 55) g bx hi
  none := fun bx i hi => by rw [at11]; exact group_no bx hi

theorem ran (b n c k a : Int) : RT 61 3 [gv b n c k, .int .i64 a] ⟨.e, 0, 0⟩ = some (.val (.bool true) ⟨.e, 0, 0⟩) := by
  rw [at3]
  exact groups_ok lawE (by decide) b n c k a (awake1 _)

theorem called (w : World) (b n c k a : Int) : Calls Try.prog 3 #[gv b n c k, .int .i64 a] w fun e w' => e = .returned (.bool true) ∧ Below w.heap.size w w' := by
  have R0 : HR w.heap.size (fun _ => none) ⟨.e, 0, 0⟩ w := ⟨Nat.le_refl _, fun _ _ => rfl, (fun id b hb => by rw [Tr.get_e] at hb; cases hb), (fun id id' b b' H H' hb => by rw [Tr.get_e] at hb; cases hb)⟩
  have hg : VR (fun _ => none) (gv b n c k) (gv b n c k) := VR.agg_of (.cons (.int _ _) (.cons (.int _ _) (.cons (.int _ _) (.cons (.int _ _) .nil))))
  have hl : VL (fun _ => none) [gv b n c k, .int .i64 a] (#[gv b n c k, .int .i64 a] : Array Value).toList := .cons hg (.cons (.int _ _) .nil)
  refine (runK_ok follows named (tabOf_ok entries_ok) 61 3 [gv b n c k, .int .i64 a] #[gv b n c k, .int .i64 a] _ ⟨.e, 0, 0⟩ _ w.heap.size _ w (ran b n c k a) hl R0).mono fun e w' hq => ?_
  obtain ⟨v', ρ', q1, q2, q3⟩ := hq
  exact ⟨by rw [q1, q2.bool_inv], q3.below⟩
end Go.Proofs.Ytpiamfcnhkjflaa.poolGroups
