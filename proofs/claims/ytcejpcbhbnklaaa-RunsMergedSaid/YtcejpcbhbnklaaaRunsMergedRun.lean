/- The run of 'RunsMerged' at whatever row of numbers, at whatever number. -/
import Derived.Test.YtcejpcbhbnklaaaRunsMergedSym
namespace Go.Proofs.Ytcejpcbhbnklaaa.runsMerged
open Go Go.Gev Go.RowKit

theorem follows : Try.prog.follows .mixedOrders = true := by kernel_rfl

theorem names : (Try.prog.funcs.toList.all fun fn => !fn.body.isSome || !(fn.name == "runtime.NumGoroutine")) = true := by decide +kernel

theorem named : Named Try.prog := fun f fn hf hb => by
  have hm : fn ∈ Try.prog.funcs.toList := by
    obtain ⟨h1, h2⟩ := Array.getElem?_eq_some_iff.1 hf
    rw [← h2]; simp
  have h := List.all_eq_true.1 names fn hm
  rw [hb] at h
  simpa using h

/-- runs of a depth -/
noncomputable def RT (d : Nat) : RnK := runK (tabOf Try.prog 1000000 entries) d
theorem at4 (d : Nat) (args : List Value) (h : Hs) : RT (d + 1) 4 args h = r4 (RT d) 1000000 args h := by kernel_rfl
theorem at7 (d : Nat) (args : List Value) (h : Hs) : RT (d + 1) 7 args h = r7 (RT d) 1000000 args h := by kernel_rfl
theorem at8 (d : Nat) (args : List Value) (h : Hs) : RT (d + 1) 8 args h = r8 (RT d) 1000000 args h := by kernel_rfl
theorem at9 (d : Nat) (args : List Value) (h : Hs) : RT (d + 1) 9 args h = r9 (RT d) 1000000 args h := by kernel_rfl
theorem at10 (d : Nat) (args : List Value) (h : Hs) : RT (d + 1) 10 args h = r10 (RT d) 1000000 args h := by kernel_rfl
theorem at11 (d : Nat) (args : List Value) (h : Hs) : RT (d + 1) 11 args h = r11 (RT d) 1000000 args h := by kernel_rfl
theorem at13 (d : Nat) (args : List Value) (h : Hs) : RT (d + 1) 13 args h = r13 (RT d) 1000000 args h := by kernel_rfl
theorem at14 (d : Nat) (args : List Value) (h : Hs) : RT (d + 1) 14 args h = r14 (RT d) 1000000 args h := by kernel_rfl
theorem at15 (d : Nat) (args : List Value) (h : Hs) : RT (d + 1) 15 args h = r15 (RT d) 1000000 args h := by kernel_rfl
theorem at17 (d : Nat) (args : List Value) (h : Hs) : RT (d + 1) 17 args h = r17 (RT d) 1000000 args h := by kernel_rfl
theorem at18 (d : Nat) (args : List Value) (h : Hs) : RT (d + 1) 18 args h = r18 (RT d) 1000000 args h := by kernel_rfl
theorem at20 (d : Nat) (args : List Value) (h : Hs) : RT (d + 1) 20 args h = r20 (RT d) 1000000 args h := by kernel_rfl
theorem at23 (d : Nat) (args : List Value) (h : Hs) : RT (d + 1) 23 args h = r23 (RT d) 1000000 args h := by kernel_rfl
theorem at25 (d : Nat) (args : List Value) (h : Hs) : RT (d + 1) 25 args h = r25 (RT d) 1000000 args h := by kernel_rfl
theorem at29 (d : Nat) (args : List Value) (h : Hs) : RT (d + 1) 29 args h = r29 (RT d) 1000000 args h := by kernel_rfl
theorem at34 (d : Nat) (args : List Value) (h : Hs) : RT (d + 1) 34 args h = r34 (RT d) 1000000 args h := by kernel_rfl
theorem at35 (d : Nat) (args : List Value) (h : Hs) : RT (d + 1) 35 args h = r35 (RT d) 1000000 args h := by kernel_rfl
theorem awake0 : RT 50 5 [] ⟨.e, 0, 0⟩ = some (.val (.bool true) ⟨.e, 0, 0⟩) := by kernel_rfl
theorem awake1 (b : Blk) : RT 50 5 [] ⟨.n (some b) .e .e, 1, 1⟩ = some (.val (.bool true) ⟨.n (some b) .e .e, 1, 1⟩) := by kernel_rfl

theorem cmps (d : Nat) : Cmp (RT (d + 1)) := fun f1 l1 f2 l2 h hd => by rw [at15]; exact cmp_ok hd
theorem sorts (d : Nat) : SortE (RT (d + 4)) where
  ins := ⟨_, _, cmps (d + 2), by decide, at20 (d + 3)⟩
  piv := ⟨_, _, ⟨_, _, ⟨_, _, cmps d, at35 (d + 1)⟩, at34 (d + 2)⟩, at23 (d + 3)⟩
  part := ⟨_, _, cmps (d + 2), by decide, at25 (d + 3)⟩
theorem sorted (d : Nat) (v : Value) (L : List (Int × Int)) (h : Hs) (s : Sl h v L) (hi : Inc L) (h1 : 1 ≤ L.length) (hL : L.length ≤ 20) : RT (d + 6) 14 [v, cls] h = some (.val (.tuple #[]) h) := by
  rw [at14]
  exact sort_ok ⟨_, _, sorts d, by decide, at17 (d + 4)⟩ ⟨_, _, ⟨_, _, at29 (d + 3)⟩, at18 (d + 4)⟩ s hi h1 hL
theorem env : Env (RT 50) where
  merge := fun v a ls h s hl h1 ha ha2 => by rw [at8]; exact merge_ok ⟨_, _, by decide, at13 48⟩ s hl h1 ha ha2 (by decide)
  apart := fun v a ls h s hl h1 ha ha2 => by rw [at9]; exact apart_ok ⟨_, _, by decide, at13 48⟩ (sorted 43) s hl h1 ha ha2 (by decide)
  own := fun v f l h s => by rw [at11]; exact own_ok s (by decide)
  alike := fun v1 v2 f l h s1 s2 => by rw [at10]; exact alike_ok s1 s2 (by decide)
  total := fun v L h s hL => by rw [at7]; exact total_ok ⟨_, at13 48⟩ s hL (by decide)

theorem ran {v : Value} {L : List Int} {a : Int} {h : Hs} (hh : h = ⟨.e, 0, 0⟩ ∨ ∃ b, h = ⟨.n (some b) .e .e, 1, 1⟩) (s : SlI h v L) : RT 51 4 [v, .int .i64 a] h = some (.val (.bool true) ⟨h.hp, h.nx, h.lo⟩) := by
  rw [at4]
  have hz : (⟨h.hp, h.nx, h.nx⟩ : Hs) = h := by rcases hh with rfl | ⟨b, rfl⟩ <;> rfl
  refine merged_ok env (by decide) s ?_
  rw [hz]
  rcases hh with rfl | ⟨b, rfl⟩
  · exact awake0
  · exact awake1 b

theorem called (w : World) (v : Value) (a : Int) (hv : IsInts w v) : Calls Try.prog 4 #[v, .int .i64 a] w fun e w' => e = .returned (.bool true) ∧ Below w.heap.size w w' := by
  obtain ⟨v0, h0, ρ, L, hh, s, hr, R⟩ := ints_arg hv
  have hl : VL ρ [v0, .int .i64 a] (#[v, .int .i64 a] : Array Value).toList := .cons hr (.cons (.int _ _) .nil)
  refine (runK_ok follows named (tabOf_ok entries_ok) 51 4 [v0, .int .i64 a] #[v, .int .i64 a] _ h0 _ w.heap.size ρ w (ran hh s) hl R).mono fun e w' hq => ?_
  obtain ⟨v', ρ', q1, q2, q3⟩ := hq
  exact ⟨by rw [q1, q2.bool_inv], q3.below⟩
end Go.Proofs.Ytcejpcbhbnklaaa.runsMerged
