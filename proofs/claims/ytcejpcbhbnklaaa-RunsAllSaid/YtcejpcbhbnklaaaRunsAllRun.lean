/- The run of 'RunsAll' at whatever rows of pairs of numbers. -/
import Derived.Test.YtcejpcbhbnklaaaRunsAllSym
namespace Go.Proofs.Ytcejpcbhbnklaaa.runsAll
open Go Go.Gev Go.RowKit

theorem follows : Try.prog.follows .mixedOrders = true := by kernel_rfl

theorem names : (Try.prog.funcs.toList.all fun fn => !fn.body.isSome || !(fn.name == "runtime.NumGoroutine")) = true := by decide +kernel

theorem named : Named Try.prog := fun f fn hf hb => by
  have hm : fn ∈ Try.prog.funcs.toList := by
    obtain ⟨h1, h2⟩ := Array.getElem?_eq_some_iff.1 hf
    rw [← h2]; simp
  have h := List.all_eq_true.1 names fn hm
  rw [hb] at h
  simpa using h

/-- runs of a depth -/
noncomputable def RT (d : Nat) : RnK := runK (tabOf Try.prog 1000000 entries) d
theorem at3 (d : Nat) (args : List Value) (h : Hs) : RT (d + 1) 3 args h = r3 (RT d) 1000000 args h := by kernel_rfl
theorem at6 (d : Nat) (args : List Value) (h : Hs) : RT (d + 1) 6 args h = r6 (RT d) 1000000 args h := by kernel_rfl
theorem at7 (d : Nat) (args : List Value) (h : Hs) : RT (d + 1) 7 args h = r7 (RT d) 1000000 args h := by kernel_rfl
theorem at13 (d : Nat) (args : List Value) (h : Hs) : RT (d + 1) 13 args h = r13 (RT d) 1000000 args h := by kernel_rfl
theorem awake0 : RT 50 5 [] ⟨.e, 0, 0⟩ = some (.val (.bool true) ⟨.e, 0, 0⟩) := by kernel_rfl
theorem awake1 (b : Blk) : RT 50 5 [] ⟨.n (some b) .e .e, 1, 1⟩ = some (.val (.bool true) ⟨.n (some b) .e .e, 1, 1⟩) := by kernel_rfl

theorem ran {v : Value} {L : List (Int × Int)} {h : Hs} (hh : h = ⟨.e, 0, 0⟩ ∨ ∃ b, h = ⟨.n (some b) .e .e, 1, 1⟩) (s : Sl h v L) : RT 51 3 [v] h = some (.val (.bool true) ⟨h.hp, h.nx, h.lo⟩) := by
  rw [at3]
  have hz : (⟨h.hp, h.nx, h.nx⟩ : Hs) = h := by rcases hh with rfl | ⟨b, rfl⟩ <;> rfl
  refine all_ok (by decide) s ?_ (fun hL j hj hj2 => ?_) (fun hL => ?_)
  · rw [hz]
    rcases hh with rfl | ⟨b, rfl⟩
    · exact awake0
    · exact awake1 b
  · rw [at6]
    exact at_ok ⟨_, at13 48⟩ (s.lo _) (by omega) (by decide) hj hj2
  · rw [at7]
    exact total_ok ⟨_, at13 48⟩ (s.lo _) (by omega) (by decide)

theorem called (w : World) (v : Value) (hv : v = .slice none 0 0 ∨ ∃ (a : Addr) (cap : Nat) (L : List (Int × Int)), v = .slice (some a) L.length cap ∧ L.length ≤ cap ∧ cap ≤ maxLen ∧
      ∀ i f l, L[i]? = some (f, l) → w.cell? (a.add (i * 2)) = some (.int .i64 f) ∧ w.cell? (a.add (i * 2 + 1)) = some (.int .i64 l)) :
    Calls Try.prog 3 #[v] w fun e w' => e = .returned (.bool true) ∧ Below w.heap.size w w' := by
  obtain ⟨v0, h0, ρ, L, hh, s, hr, R⟩ := pairs_arg hv
  have hl : VL ρ [v0] (#[v] : Array Value).toList := .cons hr .nil
  refine (runK_ok follows named (tabOf_ok entries_ok) 51 3 [v0] #[v] _ h0 _ w.heap.size ρ w (ran hh s) hl R).mono fun e w' hq => ?_
  obtain ⟨v', ρ', q1, q2, q3⟩ := hq
  exact ⟨by rw [q1, q2.bool_inv], q3.below⟩
end Go.Proofs.Ytcejpcbhbnklaaa.runsAll
