/- check.Show and CheckShow in the model: what they return, by the shelf's contracts of strconv.Itoa and strings.Join; four numbers in decimal, parted by spaces, tell the four numbers. -/
import Derived.Lib.ItoaNum
import Derived.Lib.Join
import Derived.Test.YtbecnapcgehliaaGreatDoorProg
import Derived.Test.YtbecnapcgehliaaGreatDoorShowShelf
import Derived.Maps.OwnIn
import Derived.OwnWalkIn
import Derived.OrdersHeld
import Derived.KernelRfl
import Derived.WalkSpells
import Derived.WalkKit
import Derived.Lib.ItoaLen
import Derived.Lib.AppendIntMem
import Derived.Lib.SmallJoins
import Derived.Test.YtbecnapcgehliaaGreatDoorGevWI
namespace Go.Proofs.YtbecnapcgehliaaGreatDoor.shown
section
open Go Go.Lib

theorem dig_ok {d : Nat} (h : d < 10) : (UInt8.ofNat (48 + d)).toNat = 48 + d := by
  rw [UInt8.toNat_ofNat']; omega
theorem dec_bytes : ∀ (u : Nat), ∀ c ∈ decDigits u, 48 ≤ c.toNat ∧ c.toNat ≤ 57 := by
  intro u
  induction u using Nat.strongRecOn with
  | _ u ih =>
    intro c hc
    rw [decDigits] at hc
    split at hc
    · rename_i h
      rw [List.mem_singleton.1 hc, dig_ok h]; omega
    · rename_i h
      rcases List.mem_append.1 hc with hc | hc
      · exact ih (u / 10) (by omega) c hc
      · rw [List.mem_singleton.1 hc, dig_ok (by omega)]; omega
def valOf (l : List UInt8) : Nat := l.foldl (fun a c => a * 10 + (c.toNat - 48)) 0
theorem val_dec : ∀ (u : Nat), valOf (decDigits u) = u := by
  intro u
  induction u using Nat.strongRecOn with
  | _ u ih =>
    rw [decDigits]
    split
    · rename_i h
      simp [valOf]; omega
    · rename_i h
      have := ih (u / 10) (by omega)
      unfold valOf at this ⊢
      rw [List.foldl_append, this]
      simp; omega
theorem dec_pos (u : Nat) : 1 ≤ (decDigits u).length := by
  rw [decDigits]; split <;> simp
theorem itoa_bytes (n : Int) : ∀ c ∈ itoa n, c.toNat ≠ 32 := by
  intro c hc
  unfold itoa at hc
  split at hc
  · rcases List.mem_cons.1 hc with rfl | hc
    · decide
    · have := dec_bytes _ c hc; omega
  · have := dec_bytes _ c hc; omega
theorem itoa_pos (n : Int) : 1 ≤ (itoa n).length := by
  unfold itoa; split
  · simp
  · exact dec_pos _
theorem itoa_inj {m n : Int} (h : itoa m = itoa n) : m = n := by
  have first : ∀ (u : Nat) l, decDigits u ≠ 45 :: l := fun u l e => by
    have := dec_bytes u 45 (by rw [e]; exact List.mem_cons_self)
    simp at this
  unfold itoa at h
  split at h <;> split at h
  · have := congrArg valOf (List.cons.inj h).2
    rw [val_dec, val_dec] at this; omega
  · exact absurd h.symm (first _ _)
  · exact absurd h (first _ _)
  · have := congrArg valOf h
    rw [val_dec, val_dec] at this; omega
theorem part_inj : ∀ {a b r s : List UInt8}, (∀ c ∈ a, c.toNat ≠ 32) → (∀ c ∈ b, c.toNat ≠ 32) → a ++ 32 :: r = b ++ 32 :: s → a = b ∧ r = s := by
  intro a
  induction a with
  | nil =>
    intro b r s ha hb h
    cases b with
    | nil => exact ⟨rfl, (List.cons.inj h).2⟩
    | cons x b =>
      have := (List.cons.inj h).1
      exact absurd (by rw [← this]; rfl) (hb x List.mem_cons_self)
  | cons x a ih =>
    intro b r s ha hb h
    cases b with
    | nil =>
      have := (List.cons.inj h).1
      exact absurd (by rw [this]; rfl) (ha x List.mem_cons_self)
    | cons y b =>
      obtain ⟨h1, h2⟩ := List.cons.inj h
      obtain ⟨h3, h4⟩ := ih (fun c hc => ha c (List.mem_cons_of_mem _ hc)) (fun c hc => hb c (List.mem_cons_of_mem _ hc)) h2
      exact ⟨by rw [h1, h3], h4⟩
def told (a b c d : Int) : List UInt8 := join [itoa a, itoa b, itoa c, itoa d] [32]
theorem told_eq (a b c d : Int) : told a b c d = itoa a ++ 32 :: (itoa b ++ 32 :: (itoa c ++ 32 :: itoa d)) := by
  unfold told; rw [join_cons]; simp [joinTail]
theorem told_inj {a b c d a' b' c' d' : Int} (h : told a b c d = told a' b' c' d') : a = a' ∧ b = b' ∧ c = c' ∧ d = d' := by
  rw [told_eq, told_eq] at h
  obtain ⟨h1, h⟩ := part_inj (itoa_bytes _) (itoa_bytes _) h
  obtain ⟨h2, h⟩ := part_inj (itoa_bytes _) (itoa_bytes _) h
  obtain ⟨h3, h4⟩ := part_inj (itoa_bytes _) (itoa_bytes _) h
  exact ⟨itoa_inj h1, itoa_inj h2, itoa_inj h3, itoa_inj h4⟩
theorem told_len (a b c d : Int) : 7 ≤ (told a b c d).length := by
  rw [told_eq]
  have := itoa_pos a; have := itoa_pos b; have := itoa_pos c; have := itoa_pos d
  simp; omega
end
section
open Go Go.RowKit Go.Maps Go.Proofs
theorem own_below {w w1 : World} {base : Nat} {e : TypeId} {size : Nat} {v : Value} {n : Nat} {xs : List Value} (h : w.ownsRow base e size v n xs) (hb : Below w.heap.size w w1) : w1.ownsRow base e size v n xs :=
  ⟨h.1, h.2.imp id fun ⟨g, cap, cur, e1, h1, h2, r⟩ => ⟨g, cap, cur, e1, h1, (hb.block g (Array.getElem?_eq_some_iff.1 h2).1).trans h2, r⟩⟩
def Tab (w : World) : Prop := Lib.TabIs Tryz.prog w "internal/strconv.uint64pow10" .u64 Lib.pow10Tab
def fits (n : Int) : Prop := -9223372036854775808 ≤ n ∧ n ≤ 9223372036854775807
def strV (n : Int) : Value := .string ⟨(Lib.itoa n).toArray⟩

structure Rd (W : World) (l : List Int) (i : Nat) (v : Value) (w : World) : Prop where
  below : Below W.heap.size W w
  row : w.heap[W.heap.size + 1]? = some (.cells (l.map (Value.int .i64)).toArray 3 (0, 0))
  size : W.heap.size + 2 ≤ w.heap.size
  own : w.ownsRow (W.heap.size + 2) 9 1 v i ((l.take i).map strV)
def num : Option Value → Nat
  | some (Value.int _ k) => k.toNat
  | _ => 0
def mea (a : Act) : Nat := 4 - num a.tmps[16]?
set_option maxRecDepth 100000 in
set_option maxHeartbeats 2000000 in
theorem show_C (a b c d : Int) (ha : fits a) (hb : fits b) (hc : fits c) (hd : fits d) (W : World) (ht : ∀ w, Below W.heap.size W w → Tab w) :
    CallsIn Fence.wide 10 Tryz.prog 5 #[.agg #[.int .i64 a, .int .i64 b, .int .i64 c, .int .i64 d]] W fun x W' => x = .returned (.string ⟨(told a b c d).toArray⟩) ∧ Below W.heap.size W W' := by
  have hi9 : Tryz.prog.info? 9 = some Tryz.t9 := by kernel_rfl
  have eIt := enters_of Tryz.func11 (by kernel_rfl) rfl
  have eJo := enters_of Tryz.func12 (by kernel_rfl) rfl
  refine callsIn_of_wp Tryz.func5 rfl trivial ?_ rfl
  simp only [Tryz.ntmps5, List.size_toArray, List.length_cons, List.length_nil, Nat.reduceAdd, Nat.reduceSub, Array.replicate_succ, Array.replicate_zero, List.push_toArray, List.append_toArray, List.nil_append, List.cons_append]
  gi_wp2
  refine wpIn_loop (fun a' w => ∃ (i : Nat) (v x5 x17 x18 x19 x20 x21 x22 x23 x24 x25 : Value), i ≤ 4 ∧ a' = ⟨#[.agg #[.int .i64 a, .int .i64 b, .int .i64 c, .int .i64 d], .pointer (some ⟨W.heap.size, 0, none⟩), .string ⟨#[]⟩, v, undef, x5, .pointer (some ⟨W.heap.size, 0, none⟩), .int .i64 a, .pointer (some ⟨W.heap.size, 1, none⟩), .int .i64 b, .pointer (some ⟨W.heap.size, 2, none⟩), .int .i64 c, .pointer (some ⟨W.heap.size, 3, none⟩), .int .i64 d, .slice (some ⟨W.heap.size + 1, 0, none⟩) 4 4, .int .i64 4, .int .i64 (i : Int), x17, x18, x19, x20, x21, x22, x23, x24, x25, undef, undef], []⟩ ∧ Rd W [a, b, c, d] i v w) (fun a' _ => mea a') ?_ ?_
  · refine ⟨0, .slice none 0 0, _, _, _, _, _, _, _, _, _, _, by omega, rfl, ⟨⟨rfl, rfl, rfl, by simp; omega, fun k hk => ?_⟩, ?_, by simp, World.ownsRow_nil _ _ _ _⟩⟩
    · rw [heap_alloc_old _ _ (by simp; omega), heap_alloc_old _ _ hk]
    · have h1 : (W.alloc (.cells #[.int .i64 a, .int .i64 b, .int .i64 c, .int .i64 d] 23)).heap.size = W.heap.size + 1 := by simp
      rw [← h1]; exact heap_alloc_new _ _
  · rintro a' w ⟨i, v, x5, x17, x18, x19, x20, x21, x22, x23, x24, x25, hi, rfl, R⟩
    by_cases hlt : i < 4
    · obtain ⟨n, hn, hfn⟩ : ∃ n, [a, b, c, d][i]? = some n ∧ fits n := by
        match i, hlt with
        | 0, _ => exact ⟨_, rfl, ha⟩
        | 1, _ => exact ⟨_, rfl, hb⟩
        | 2, _ => exact ⟨_, rfl, hc⟩
        | 3, _ => exact ⟨_, rfl, hd⟩
      have hcell : w.cell? ⟨W.heap.size + 1, i, none⟩ = some (.int .i64 n) := by
        simp only [World.cell?, R.row]
        match i, hlt with
        | 0, _ => cases hn; rfl
        | 1, _ => cases hn; rfl
        | 2, _ => cases hn; rfl
        | 3, _ => cases hn; rfl
      have hlt' : (i : Int) < 4 := by omega
      gi_wp2
      refine ⟨trivial, (callsIn_wide.2 (Tryz.strconv_Itoa n hfn.1 hfn.2 w (ht w R.below))).mono ?_⟩
      rintro e w1 ⟨rfl, k, os, hw1⟩
      have hb1 : Below w.heap.size w w1 := hw1 ▸ Lib.below_grow _ _ (Nat.le_refl _) k os
      clear hw1
      have hs1 := hb1.size
      have hs0 := R.size
      have hown1 := own_below R.own hb1
      gi_wp2_with (refine wpListIn_append_own _ rfl _ _ 40 rfl (W.heap.size + 2) 9 Tryz.t9 (.string ⟨#[]⟩) 1 16 Tryz.underlying40 hi9 rfl rfl rfl rfl (by decide) _ _ _ rfl (hown1.alloc _) ⟨w1.heap.size, 0, none⟩ 1 1 [strV n] rfl rfl ?c1 ?c2 ?c3 ?c4 ?c5 ?_)
      case c1 =>
        intro j u hu
        cases j with
        | zero =>
          simp only [List.getElem?_cons_zero, Option.some.injEq] at hu
          subst hu
          show (w1.alloc _).cell? ⟨w1.heap.size, 0, none⟩ = _
          simp only [World.cell?, heap_alloc_new]
          rfl
        | succ j => simp at hu
      case c2 =>
        intro u hu
        simp only [List.mem_singleton] at hu
        subst hu
        rfl
      case c3 =>
        unfold maxLen
        omega
      case c4 => omega
      case c5 => simp; omega
      intro v' w3 hrow3 hg3 hne
      have hb3 : Below (W.heap.size + 2) w w3 := ((hb1.mono (by omega)).alloc (by omega) _).grown hg3 (by simp; omega) (fun k e => by have := hown1.lt k e; omega)
      have R3 : Rd W [a, b, c, d] (i + 1) v' w3 := ⟨R.below.trans (hb3.mono (by omega)), (hb3.block _ (by omega)).trans R.row, Nat.le_trans R.size hb3.size, by
        have : ([a, b, c, d].take (i + 1)).map strV = ([a, b, c, d].take i).map strV ++ [strV n] := by
          rw [List.take_add_one, hn]; simp
        rw [this, List.map_take]; exact hrow3⟩
      gi_wp2
      refine ⟨⟨i + 1, v', _, _, _, _, _, _, _, _, _, _, by omega, rfl, R3⟩, ?_⟩
      show 4 - ((i : Int) + 1).toNat < 4 - (i : Int).toNat
      omega
    · obtain rfl : i = 4 := by omega
      gi_wp2
      rcases R.own.2 with ⟨rfl, hz⟩ | ⟨gb, cap, cur, rfl, hbase, hgb, r1, r2, r3, r4⟩
      · cases hz
      have hgl : gb < w.heap.size := (Array.getElem?_eq_some_iff.1 hgb).1
      have hl : ∀ n, fits n → (Lib.itoa n).length ≤ 21 := fun n h => Lib.itoa_length_le n h.1 h.2
      refine ⟨trivial, (callsIn_wide.2 (Tryz.strings_Join gb 0 cap [⟨(Lib.itoa a).toArray⟩, ⟨(Lib.itoa b).toArray⟩, ⟨(Lib.itoa c).toArray⟩, ⟨(Lib.itoa d).toArray⟩] ⟨#[32]⟩ w ?_ hgl (by simp) (by simpa using r1) ?_)).mono ?_⟩
      · intro j x hj
        have h4 : cur.toList.take 4 = [strV a, strV b, strV c, strV d] := by simpa using r4
        have hj4 : j < 4 := by
          have := (List.getElem?_eq_some_iff.1 hj).1
          simpa using this
        have h5 : w.cell? ⟨gb, 0 + j, none⟩ = (cur.toList.take 4)[j]? := by
          simp only [World.cell?, hgb, Nat.zero_add]
          rw [List.getElem?_take_of_lt hj4]
          simp
        rw [h5, h4]
        match j, hj4 with
        | 0, _ => cases hj; rfl
        | 1, _ => cases hj; rfl
        | 2, _ => cases hj; rfl
        | 3, _ => cases hj; rfl
      · show (told a b c d).length ≤ _
        rw [told_eq]
        have := hl a ha; have := hl b hb; have := hl c hc; have := hl d hd
        simp; omega
      · rintro e w' ⟨rfl, hbj⟩
        gi_wp2
        go_ret
        exact ⟨rfl, R.below.trans (hbj.mono (by have := R.below.size; omega))⟩
end
section
open Go Go.RowKit Go.Maps Go.Proofs
def z0 : Oper := { dst := some 7, op := Op.load 23 (Operand.tmp 2), type := 23, pos := "more.go:30", after := #[], guard := none }
def z1 : Oper := { dst := some 8, op := Op.call { callee := Callee.value (Operand.func 5), args := #[Operand.tmp 7], argTypes := #[23] }, type := 9, pos := "more.go:30", after := #[{ on := 0, ground := Ground.data }], guard := none }
def z2 : Oper := { dst := some 9, op := Op.load 23 (Operand.tmp 3), type := 23, pos := "more.go:30", after := #[], guard := none }
def z3 : Oper := { dst := some 10, op := Op.call { callee := Callee.value (Operand.func 5), args := #[Operand.tmp 9], argTypes := #[23] }, type := 9, pos := "more.go:30", after := #[{ on := 2, ground := Ground.data }, { on := 1, ground := Ground.chain }], guard := none }
def z4 : Oper := { dst := some 11, op := Op.binOp BinOp.eql 9 (Operand.tmp 8) (Operand.tmp 10) 9, type := 4, pos := "more.go:30", after := #[{ on := 1, ground := Ground.data }, { on := 3, ground := Ground.data }], guard := none }
def z5 : Oper := { dst := some 12, op := Op.load 23 (Operand.tmp 2), type := 23, pos := "more.go:30", after := #[], guard := none }
def z6 : Oper := { dst := some 13, op := Op.load 23 (Operand.tmp 3), type := 23, pos := "more.go:30", after := #[], guard := none }
def z7 : Oper := { dst := some 14, op := Op.binOp BinOp.eql 23 (Operand.tmp 12) (Operand.tmp 13) 23, type := 4, pos := "more.go:30", after := #[{ on := 5, ground := Ground.data }, { on := 6, ground := Ground.data }], guard := none }
def z8 : Oper := { dst := some 15, op := Op.binOp BinOp.eql 4 (Operand.tmp 11) (Operand.tmp 14) 4, type := 4, pos := "more.go:30", after := #[{ on := 4, ground := Ground.data }, { on := 7, ground := Ground.data }], guard := none }
def z9 : Oper := { dst := some 16, op := Op.move (Operand.tmp 15), type := 4, pos := "more.go:30", after := #[{ on := 8, ground := Ground.data }, { on := 3, ground := Ground.chain }], guard := none }
def z10 : Oper := { dst := some 17, op := Op.load 23 (Operand.tmp 2), type := 23, pos := "more.go:30", after := #[{ on := 9, ground := Ground.guard }], guard := some (9, true) }
def z11 : Oper := { dst := some 18, op := Op.call { callee := Callee.value (Operand.func 5), args := #[Operand.tmp 17], argTypes := #[23] }, type := 9, pos := "more.go:30", after := #[{ on := 10, ground := Ground.data }, { on := 9, ground := Ground.chain }, { on := 9, ground := Ground.guard }], guard := some (9, true) }
def z12 : Oper := { dst := some 19, op := Op.call { callee := Callee.builtin Builtin.len, args := #[Operand.tmp 18], argTypes := #[9] }, type := 3, pos := "more.go:30", after := #[{ on := 11, ground := Ground.data }, { on := 9, ground := Ground.guard }], guard := some (9, true) }
def z13 : Oper := { dst := some 20, op := Op.binOp BinOp.geq 3 (Operand.tmp 19) (Operand.const (Value.int IntKind.i64 7)) 3, type := 4, pos := "more.go:30", after := #[{ on := 12, ground := Ground.data }, { on := 9, ground := Ground.guard }], guard := some (9, true) }
def z14 : Oper := { dst := some 21, op := Op.pick (Operand.tmp 16) (Operand.tmp 20) (Operand.const (Value.bool false)), type := 4, pos := "more.go:30", after := #[{ on := 9, ground := Ground.data }, { on := 13, ground := Ground.data }], guard := none }
def z15 : Oper := { dst := some 4, op := Op.assign (Operand.tmp 21), type := 4, pos := "more.go:30", after := #[{ on := 14, ground := Ground.data }, { on := 11, ground := Ground.chain }, { on := 0, ground := Ground.phase }, { on := 1, ground := Ground.phase }, { on := 2, ground := Ground.phase }, { on := 3, ground := Ground.phase }, { on := 4, ground := Ground.phase }, { on := 5, ground := Ground.phase }, { on := 6, ground := Ground.phase }, { on := 7, ground := Ground.phase }, { on := 8, ground := Ground.phase }, { on := 9, ground := Ground.phase }, { on := 10, ground := Ground.phase }, { on := 11, ground := Ground.phase }, { on := 12, ground := Ground.phase }, { on := 13, ground := Ground.phase }, { on := 14, ground := Ground.phase }], guard := none }
def opsS : Array Oper := #[z0, z1, z2, z3, z4, z5, z6, z7, z8, z9, z10, z11, z12, z13, z14, z15]
theorem wpOp_callsG {P : Program} {ops : Array Oper} {Q : Exit → Act → World → Prop} {i : Nat} {o : Oper} {K : Act → World → Prop} {a : Act} {w : World} {f : FuncId} {args : Array Value} (hi : ops[i]? = some o) (hg : Region.wanted o (yielded ops a.tmps) = true)
    (hx : (execOp a.eval o).run P w = .ok (.enter f args) w) (hc : Calls P f args w fun x w' => ∃ v, x = .returned v ∧ K (a.put o.dst v) w') : wpOp P ops Q i K a w := by
  unfold wpOp
  simp only [hi, hg, if_true]
  left
  unfold Oper.wp
  rw [hx]
  simp only [Oper.upon]
  refine hc.mono fun x w' hh => ?_
  obtain ⟨v, rfl, h⟩ := hh
  exact h
theorem wpOp_valueG {P : Program} {ops : Array Oper} {Q : Exit → Act → World → Prop} {i : Nat} {o : Oper} {K : Act → World → Prop} {a : Act} {w w' : World} {v : Value} (hi : ops[i]? = some o) (hg : Region.wanted o (yielded ops a.tmps) = true)
    (hx : (execOp a.eval o).run P w = .ok (.value v) w') (h : K (a.put o.dst v) w') : wpOp P ops Q i K a w := by
  unfold wpOp
  simp only [hi, hg, if_true]
  left
  unfold Oper.wp
  rw [hx]
  exact h
theorem wpAnyH_one {P : Program} {md : Region.Mode} {ops : Array Oper} {Q : Exit → Act → World → Prop} {S : World → Prop} {i : Nat} {fuel : Nat} {listed : Array Bool} {a : Act} {w : World} (hr : Region.ready md ops listed = [i])
    (h : wpOp P ops Q i (fun a' w' => S w' ∧ wpAnyH P md ops Q S fuel (listed.setIfInBounds i true) a' w') a w) : wpAnyH P md ops Q S (fuel + 1) listed a w :=
  wpAnyH_all hr (by simp) fun j hj => by rw [List.mem_singleton.1 hj]; exact h
def Sd (p : Nat) (la lb : Array Value) (w : World) : Prop := w.heap[p]? = some (.cells la 23 (0, 0)) ∧ w.heap[p + 1]? = some (.cells lb 23 (0, 0)) ∧ ∀ w', Below w.heap.size w w' → Tab w'
theorem Sd.next {p : Nat} {la lb : Array Value} {w w' : World} (h : Sd p la lb w) (hb : Below w.heap.size w w') : Sd p la lb w' :=
  ⟨(hb.block _ (Array.getElem?_eq_some_iff.1 h.1).1).trans h.1, (hb.block _ (Array.getElem?_eq_some_iff.1 h.2.1).1).trans h.2.1, fun w2 h2 => h.2.2 w2 (hb.trans (h2.mono hb.size))⟩
set_option maxRecDepth 100000 in
set_option maxHeartbeats 4000000 in
theorem regS (a b c d a' b' c' d' : Int) (ha : fits a) (hb : fits b) (hc : fits c) (hd : fits d) (ha' : fits a') (hb' : fits b') (hc' : fits c') (hd' : fits d') (p : Nat) (w : World)
    (h1 : Sd p #[.int .i64 a, .int .i64 b, .int .i64 c, .int .i64 d] #[.int .i64 a', .int .i64 b', .int .i64 c', .int .i64 d'] w) (Q0 : Act → World → Prop) (hQ : ∀ (E : Bool) w', Below w.heap.size w w' → Q0 ⟨#[.agg #[.int .i64 a, .int .i64 b, .int .i64 c, .int .i64 d], .agg #[.int .i64 a', .int .i64 b', .int .i64 c', .int .i64 d'], .pointer (some ⟨p, 0, none⟩), .pointer (some ⟨p + 1, 0, none⟩), .bool true, .bool true, .bool false, .agg #[.int .i64 a, .int .i64 b, .int .i64 c, .int .i64 d], .string ⟨(told a b c d).toArray⟩, .agg #[.int .i64 a', .int .i64 b', .int .i64 c', .int .i64 d'], .string ⟨(told a' b' c' d').toArray⟩, .bool E, .agg #[.int .i64 a, .int .i64 b, .int .i64 c, .int .i64 d], .agg #[.int .i64 a', .int .i64 b', .int .i64 c', .int .i64 d'], .bool E, .bool true, .bool true, .agg #[.int .i64 a, .int .i64 b, .int .i64 c, .int .i64 d], .string ⟨(told a b c d).toArray⟩, .int .i64 (told a b c d).length, .bool true, .bool true], []⟩ w') :
    wpAnyH Tryz.prog .any opsS (fun e a w => e = .normal ∧ Q0 a w) (Sd p #[.int .i64 a, .int .i64 b, .int .i64 c, .int .i64 d] #[.int .i64 a', .int .i64 b', .int .i64 c', .int .i64 d']) 16 (Array.replicate 16 false) ⟨#[.agg #[.int .i64 a, .int .i64 b, .int .i64 c, .int .i64 d], .agg #[.int .i64 a', .int .i64 b', .int .i64 c', .int .i64 d'], .pointer (some ⟨p, 0, none⟩), .pointer (some ⟨p + 1, 0, none⟩), .bool false, .bool true, .bool false, undef, undef, undef, undef, undef, undef, undef, undef, undef, undef, undef, undef, undef, undef, undef], []⟩ w := by
  have s23 := Tryz.sizeOf23
  have g23 := Tryz.isAgg23
  have hlen : (7 : Int) ≤ (told a b c d).length := by have := told_len a b c d; omega
  obtain ⟨E, hE0⟩ : ∃ E : Bool, E = decide (a = a' ∧ b = b' ∧ c = c' ∧ d = d') := ⟨_, rfl⟩
  have hEs : (told a b c d == told a' b' c' d') = E := by
    rw [hE0]
    by_cases h : a = a' ∧ b = b' ∧ c = c' ∧ d = d'
    · obtain ⟨rfl, rfl, rfl, rfl⟩ := h; simp
    · rw [decide_eq_false h]
      cases hq : (told a b c d == told a' b' c' d') with
      | false => rfl
      | true => exact absurd (told_inj (eq_of_beq hq)) h
  refine wpAnyH_take (i := 0) (oi := z0) (v := .agg #[.int .i64 a, .int .i64 b, .int .i64 c, .int .i64 d]) rfl (by kernel_rfl) (by kernel_rfl) (by kernel_rfl) (fun _ _ _ h => by cases h.1) (.inl ⟨rfl, fun w' hS => ?_⟩) h1 ?_
  · simp [execOp, Act.eval, z0, go_sem, World.cell?, hS.1, g23, s23]
  change wpAnyH Tryz.prog .any opsS (fun e a w => e = .normal ∧ Q0 a w) (Sd p #[.int .i64 a, .int .i64 b, .int .i64 c, .int .i64 d] #[.int .i64 a', .int .i64 b', .int .i64 c', .int .i64 d']) _ _ ⟨#[.agg #[.int .i64 a, .int .i64 b, .int .i64 c, .int .i64 d], .agg #[.int .i64 a', .int .i64 b', .int .i64 c', .int .i64 d'], .pointer (some ⟨p, 0, none⟩), .pointer (some ⟨p + 1, 0, none⟩), .bool false, .bool true, .bool false, .agg #[.int .i64 a, .int .i64 b, .int .i64 c, .int .i64 d], undef, undef, undef, undef, undef, undef, undef, undef, undef, undef, undef, undef, undef, undef], []⟩ w
  refine wpAnyH_take (i := 2) (oi := z2) (v := .agg #[.int .i64 a', .int .i64 b', .int .i64 c', .int .i64 d']) rfl (by kernel_rfl) (by kernel_rfl) (by kernel_rfl) (fun _ _ _ h => by cases h.1) (.inl ⟨rfl, fun w' hS => ?_⟩) h1 ?_
  · simp [execOp, Act.eval, z2, go_sem, World.cell?, hS.2.1, g23, s23]
  change wpAnyH Tryz.prog .any opsS (fun e a w => e = .normal ∧ Q0 a w) (Sd p #[.int .i64 a, .int .i64 b, .int .i64 c, .int .i64 d] #[.int .i64 a', .int .i64 b', .int .i64 c', .int .i64 d']) _ _ ⟨#[.agg #[.int .i64 a, .int .i64 b, .int .i64 c, .int .i64 d], .agg #[.int .i64 a', .int .i64 b', .int .i64 c', .int .i64 d'], .pointer (some ⟨p, 0, none⟩), .pointer (some ⟨p + 1, 0, none⟩), .bool false, .bool true, .bool false, .agg #[.int .i64 a, .int .i64 b, .int .i64 c, .int .i64 d], undef, .agg #[.int .i64 a', .int .i64 b', .int .i64 c', .int .i64 d'], undef, undef, undef, undef, undef, undef, undef, undef, undef, undef, undef, undef], []⟩ w
  refine wpAnyH_take (i := 5) (oi := z5) (v := .agg #[.int .i64 a, .int .i64 b, .int .i64 c, .int .i64 d]) rfl (by kernel_rfl) (by kernel_rfl) (by kernel_rfl) (fun _ _ _ h => by cases h.1) (.inl ⟨rfl, fun w' hS => ?_⟩) h1 ?_
  · simp [execOp, Act.eval, z5, go_sem, World.cell?, hS.1, g23, s23]
  change wpAnyH Tryz.prog .any opsS (fun e a w => e = .normal ∧ Q0 a w) (Sd p #[.int .i64 a, .int .i64 b, .int .i64 c, .int .i64 d] #[.int .i64 a', .int .i64 b', .int .i64 c', .int .i64 d']) _ _ ⟨#[.agg #[.int .i64 a, .int .i64 b, .int .i64 c, .int .i64 d], .agg #[.int .i64 a', .int .i64 b', .int .i64 c', .int .i64 d'], .pointer (some ⟨p, 0, none⟩), .pointer (some ⟨p + 1, 0, none⟩), .bool false, .bool true, .bool false, .agg #[.int .i64 a, .int .i64 b, .int .i64 c, .int .i64 d], undef, .agg #[.int .i64 a', .int .i64 b', .int .i64 c', .int .i64 d'], undef, undef, .agg #[.int .i64 a, .int .i64 b, .int .i64 c, .int .i64 d], undef, undef, undef, undef, undef, undef, undef, undef, undef], []⟩ w
  refine wpAnyH_take (i := 6) (oi := z6) (v := .agg #[.int .i64 a', .int .i64 b', .int .i64 c', .int .i64 d']) rfl (by kernel_rfl) (by kernel_rfl) (by kernel_rfl) (fun _ _ _ h => by cases h.1) (.inl ⟨rfl, fun w' hS => ?_⟩) h1 ?_
  · simp [execOp, Act.eval, z6, go_sem, World.cell?, hS.2.1, g23, s23]
  change wpAnyH Tryz.prog .any opsS (fun e a w => e = .normal ∧ Q0 a w) (Sd p #[.int .i64 a, .int .i64 b, .int .i64 c, .int .i64 d] #[.int .i64 a', .int .i64 b', .int .i64 c', .int .i64 d']) _ _ ⟨#[.agg #[.int .i64 a, .int .i64 b, .int .i64 c, .int .i64 d], .agg #[.int .i64 a', .int .i64 b', .int .i64 c', .int .i64 d'], .pointer (some ⟨p, 0, none⟩), .pointer (some ⟨p + 1, 0, none⟩), .bool false, .bool true, .bool false, .agg #[.int .i64 a, .int .i64 b, .int .i64 c, .int .i64 d], undef, .agg #[.int .i64 a', .int .i64 b', .int .i64 c', .int .i64 d'], undef, undef, .agg #[.int .i64 a, .int .i64 b, .int .i64 c, .int .i64 d], .agg #[.int .i64 a', .int .i64 b', .int .i64 c', .int .i64 d'], undef, undef, undef, undef, undef, undef, undef, undef], []⟩ w
  refine wpAnyH_take (i := 7) (oi := z7) (v := .bool E) rfl (by kernel_rfl) (by kernel_rfl) (by kernel_rfl) (fun _ _ _ h => by cases h.1) (.inl ⟨rfl, fun w' hS => ?_⟩) h1 ?_
  · simp [execOp, Act.eval, z7, go_sem]
    rw [hE0]
    by_cases k0 : a = a' <;> by_cases k1 : b = b' <;> by_cases k2 : c = c' <;> by_cases k3 : d = d' <;> simp [k0, k1, k2, k3]
  change wpAnyH Tryz.prog .any opsS (fun e a w => e = .normal ∧ Q0 a w) (Sd p #[.int .i64 a, .int .i64 b, .int .i64 c, .int .i64 d] #[.int .i64 a', .int .i64 b', .int .i64 c', .int .i64 d']) _ _ ⟨#[.agg #[.int .i64 a, .int .i64 b, .int .i64 c, .int .i64 d], .agg #[.int .i64 a', .int .i64 b', .int .i64 c', .int .i64 d'], .pointer (some ⟨p, 0, none⟩), .pointer (some ⟨p + 1, 0, none⟩), .bool false, .bool true, .bool false, .agg #[.int .i64 a, .int .i64 b, .int .i64 c, .int .i64 d], undef, .agg #[.int .i64 a', .int .i64 b', .int .i64 c', .int .i64 d'], undef, undef, .agg #[.int .i64 a, .int .i64 b, .int .i64 c, .int .i64 d], .agg #[.int .i64 a', .int .i64 b', .int .i64 c', .int .i64 d'], .bool E, undef, undef, undef, undef, undef, undef, undef], []⟩ w
  refine wpAnyH_one (i := 1) (by kernel_rfl) (wpOp_callsG (o := z1) (f := 5) (args := #[.agg #[.int .i64 a, .int .i64 b, .int .i64 c, .int .i64 d]]) rfl (by kernel_rfl) (by simp [execOp, Act.eval, z1, go_sem]) ((callsIn_wide.1 (show_C a b c d ha hb hc hd w h1.2.2)).mono fun x w1 hh => ?_))
  obtain ⟨rfl, bw1⟩ := hh
  have h2 := h1.next bw1
  refine ⟨_, rfl, h2, ?_⟩
  change wpAnyH Tryz.prog .any opsS (fun e a w => e = .normal ∧ Q0 a w) (Sd p #[.int .i64 a, .int .i64 b, .int .i64 c, .int .i64 d] #[.int .i64 a', .int .i64 b', .int .i64 c', .int .i64 d']) _ _ ⟨#[.agg #[.int .i64 a, .int .i64 b, .int .i64 c, .int .i64 d], .agg #[.int .i64 a', .int .i64 b', .int .i64 c', .int .i64 d'], .pointer (some ⟨p, 0, none⟩), .pointer (some ⟨p + 1, 0, none⟩), .bool false, .bool true, .bool false, .agg #[.int .i64 a, .int .i64 b, .int .i64 c, .int .i64 d], .string ⟨(told a b c d).toArray⟩, .agg #[.int .i64 a', .int .i64 b', .int .i64 c', .int .i64 d'], undef, undef, .agg #[.int .i64 a, .int .i64 b, .int .i64 c, .int .i64 d], .agg #[.int .i64 a', .int .i64 b', .int .i64 c', .int .i64 d'], .bool E, undef, undef, undef, undef, undef, undef, undef], []⟩ w1
  refine wpAnyH_one (i := 3) (by kernel_rfl) (wpOp_callsG (o := z3) (f := 5) (args := #[.agg #[.int .i64 a', .int .i64 b', .int .i64 c', .int .i64 d']]) rfl (by kernel_rfl) (by simp [execOp, Act.eval, z3, go_sem]) ((callsIn_wide.1 (show_C a' b' c' d' ha' hb' hc' hd' w1 h2.2.2)).mono fun x w2 hh => ?_))
  obtain ⟨rfl, bw2⟩ := hh
  have h3 := h2.next bw2
  refine ⟨_, rfl, h3, ?_⟩
  change wpAnyH Tryz.prog .any opsS (fun e a w => e = .normal ∧ Q0 a w) (Sd p #[.int .i64 a, .int .i64 b, .int .i64 c, .int .i64 d] #[.int .i64 a', .int .i64 b', .int .i64 c', .int .i64 d']) _ _ ⟨#[.agg #[.int .i64 a, .int .i64 b, .int .i64 c, .int .i64 d], .agg #[.int .i64 a', .int .i64 b', .int .i64 c', .int .i64 d'], .pointer (some ⟨p, 0, none⟩), .pointer (some ⟨p + 1, 0, none⟩), .bool false, .bool true, .bool false, .agg #[.int .i64 a, .int .i64 b, .int .i64 c, .int .i64 d], .string ⟨(told a b c d).toArray⟩, .agg #[.int .i64 a', .int .i64 b', .int .i64 c', .int .i64 d'], .string ⟨(told a' b' c' d').toArray⟩, undef, .agg #[.int .i64 a, .int .i64 b, .int .i64 c, .int .i64 d], .agg #[.int .i64 a', .int .i64 b', .int .i64 c', .int .i64 d'], .bool E, undef, undef, undef, undef, undef, undef, undef], []⟩ w2
  refine wpAnyH_one (i := 4) (by kernel_rfl) (wpOp_valueG (o := z4) (v := .bool E) (w' := w2) rfl (by kernel_rfl) (by simp [execOp, Act.eval, z4, go_sem, hEs]) ⟨h3, ?_⟩)
  change wpAnyH Tryz.prog .any opsS (fun e a w => e = .normal ∧ Q0 a w) (Sd p #[.int .i64 a, .int .i64 b, .int .i64 c, .int .i64 d] #[.int .i64 a', .int .i64 b', .int .i64 c', .int .i64 d']) _ _ ⟨#[.agg #[.int .i64 a, .int .i64 b, .int .i64 c, .int .i64 d], .agg #[.int .i64 a', .int .i64 b', .int .i64 c', .int .i64 d'], .pointer (some ⟨p, 0, none⟩), .pointer (some ⟨p + 1, 0, none⟩), .bool false, .bool true, .bool false, .agg #[.int .i64 a, .int .i64 b, .int .i64 c, .int .i64 d], .string ⟨(told a b c d).toArray⟩, .agg #[.int .i64 a', .int .i64 b', .int .i64 c', .int .i64 d'], .string ⟨(told a' b' c' d').toArray⟩, .bool E, .agg #[.int .i64 a, .int .i64 b, .int .i64 c, .int .i64 d], .agg #[.int .i64 a', .int .i64 b', .int .i64 c', .int .i64 d'], .bool E, undef, undef, undef, undef, undef, undef, undef], []⟩ w2
  refine wpAnyH_one (i := 8) (by kernel_rfl) (wpOp_valueG (o := z8) (v := .bool true) (w' := w2) rfl (by kernel_rfl) (by simp [execOp, Act.eval, z8, go_sem]) ⟨h3, ?_⟩)
  change wpAnyH Tryz.prog .any opsS (fun e a w => e = .normal ∧ Q0 a w) (Sd p #[.int .i64 a, .int .i64 b, .int .i64 c, .int .i64 d] #[.int .i64 a', .int .i64 b', .int .i64 c', .int .i64 d']) _ _ ⟨#[.agg #[.int .i64 a, .int .i64 b, .int .i64 c, .int .i64 d], .agg #[.int .i64 a', .int .i64 b', .int .i64 c', .int .i64 d'], .pointer (some ⟨p, 0, none⟩), .pointer (some ⟨p + 1, 0, none⟩), .bool false, .bool true, .bool false, .agg #[.int .i64 a, .int .i64 b, .int .i64 c, .int .i64 d], .string ⟨(told a b c d).toArray⟩, .agg #[.int .i64 a', .int .i64 b', .int .i64 c', .int .i64 d'], .string ⟨(told a' b' c' d').toArray⟩, .bool E, .agg #[.int .i64 a, .int .i64 b, .int .i64 c, .int .i64 d], .agg #[.int .i64 a', .int .i64 b', .int .i64 c', .int .i64 d'], .bool E, .bool true, undef, undef, undef, undef, undef, undef], []⟩ w2
  refine wpAnyH_one (i := 9) (by kernel_rfl) (wpOp_valueG (o := z9) (v := .bool true) (w' := w2) rfl (by kernel_rfl) (by simp [execOp, Act.eval, z9, go_sem]) ⟨h3, ?_⟩)
  change wpAnyH Tryz.prog .any opsS (fun e a w => e = .normal ∧ Q0 a w) (Sd p #[.int .i64 a, .int .i64 b, .int .i64 c, .int .i64 d] #[.int .i64 a', .int .i64 b', .int .i64 c', .int .i64 d']) _ _ ⟨#[.agg #[.int .i64 a, .int .i64 b, .int .i64 c, .int .i64 d], .agg #[.int .i64 a', .int .i64 b', .int .i64 c', .int .i64 d'], .pointer (some ⟨p, 0, none⟩), .pointer (some ⟨p + 1, 0, none⟩), .bool false, .bool true, .bool false, .agg #[.int .i64 a, .int .i64 b, .int .i64 c, .int .i64 d], .string ⟨(told a b c d).toArray⟩, .agg #[.int .i64 a', .int .i64 b', .int .i64 c', .int .i64 d'], .string ⟨(told a' b' c' d').toArray⟩, .bool E, .agg #[.int .i64 a, .int .i64 b, .int .i64 c, .int .i64 d], .agg #[.int .i64 a', .int .i64 b', .int .i64 c', .int .i64 d'], .bool E, .bool true, .bool true, undef, undef, undef, undef, undef], []⟩ w2
  refine wpAnyH_one (i := 10) (by kernel_rfl) (wpOp_valueG (o := z10) (v := .agg #[.int .i64 a, .int .i64 b, .int .i64 c, .int .i64 d]) (w' := w2) rfl (by kernel_rfl) (by simp [execOp, Act.eval, z10, go_sem, World.cell?, h3.1, g23, s23]) ⟨h3, ?_⟩)
  change wpAnyH Tryz.prog .any opsS (fun e a w => e = .normal ∧ Q0 a w) (Sd p #[.int .i64 a, .int .i64 b, .int .i64 c, .int .i64 d] #[.int .i64 a', .int .i64 b', .int .i64 c', .int .i64 d']) _ _ ⟨#[.agg #[.int .i64 a, .int .i64 b, .int .i64 c, .int .i64 d], .agg #[.int .i64 a', .int .i64 b', .int .i64 c', .int .i64 d'], .pointer (some ⟨p, 0, none⟩), .pointer (some ⟨p + 1, 0, none⟩), .bool false, .bool true, .bool false, .agg #[.int .i64 a, .int .i64 b, .int .i64 c, .int .i64 d], .string ⟨(told a b c d).toArray⟩, .agg #[.int .i64 a', .int .i64 b', .int .i64 c', .int .i64 d'], .string ⟨(told a' b' c' d').toArray⟩, .bool E, .agg #[.int .i64 a, .int .i64 b, .int .i64 c, .int .i64 d], .agg #[.int .i64 a', .int .i64 b', .int .i64 c', .int .i64 d'], .bool E, .bool true, .bool true, .agg #[.int .i64 a, .int .i64 b, .int .i64 c, .int .i64 d], undef, undef, undef, undef], []⟩ w2
  refine wpAnyH_one (i := 11) (by kernel_rfl) (wpOp_callsG (o := z11) (f := 5) (args := #[.agg #[.int .i64 a, .int .i64 b, .int .i64 c, .int .i64 d]]) rfl (by kernel_rfl) (by simp [execOp, Act.eval, z11, go_sem]) ((callsIn_wide.1 (show_C a b c d ha hb hc hd w2 h3.2.2)).mono fun x w3 hh => ?_))
  obtain ⟨rfl, bw3⟩ := hh
  have h4 := h3.next bw3
  refine ⟨_, rfl, h4, ?_⟩
  change wpAnyH Tryz.prog .any opsS (fun e a w => e = .normal ∧ Q0 a w) (Sd p #[.int .i64 a, .int .i64 b, .int .i64 c, .int .i64 d] #[.int .i64 a', .int .i64 b', .int .i64 c', .int .i64 d']) _ _ ⟨#[.agg #[.int .i64 a, .int .i64 b, .int .i64 c, .int .i64 d], .agg #[.int .i64 a', .int .i64 b', .int .i64 c', .int .i64 d'], .pointer (some ⟨p, 0, none⟩), .pointer (some ⟨p + 1, 0, none⟩), .bool false, .bool true, .bool false, .agg #[.int .i64 a, .int .i64 b, .int .i64 c, .int .i64 d], .string ⟨(told a b c d).toArray⟩, .agg #[.int .i64 a', .int .i64 b', .int .i64 c', .int .i64 d'], .string ⟨(told a' b' c' d').toArray⟩, .bool E, .agg #[.int .i64 a, .int .i64 b, .int .i64 c, .int .i64 d], .agg #[.int .i64 a', .int .i64 b', .int .i64 c', .int .i64 d'], .bool E, .bool true, .bool true, .agg #[.int .i64 a, .int .i64 b, .int .i64 c, .int .i64 d], .string ⟨(told a b c d).toArray⟩, undef, undef, undef], []⟩ w3
  refine wpAnyH_one (i := 12) (by kernel_rfl) (wpOp_valueG (o := z12) (v := .int .i64 (told a b c d).length) (w' := w3) rfl (by kernel_rfl) (by simp [execOp, Act.eval, z12, go_sem]) ⟨h4, ?_⟩)
  change wpAnyH Tryz.prog .any opsS (fun e a w => e = .normal ∧ Q0 a w) (Sd p #[.int .i64 a, .int .i64 b, .int .i64 c, .int .i64 d] #[.int .i64 a', .int .i64 b', .int .i64 c', .int .i64 d']) _ _ ⟨#[.agg #[.int .i64 a, .int .i64 b, .int .i64 c, .int .i64 d], .agg #[.int .i64 a', .int .i64 b', .int .i64 c', .int .i64 d'], .pointer (some ⟨p, 0, none⟩), .pointer (some ⟨p + 1, 0, none⟩), .bool false, .bool true, .bool false, .agg #[.int .i64 a, .int .i64 b, .int .i64 c, .int .i64 d], .string ⟨(told a b c d).toArray⟩, .agg #[.int .i64 a', .int .i64 b', .int .i64 c', .int .i64 d'], .string ⟨(told a' b' c' d').toArray⟩, .bool E, .agg #[.int .i64 a, .int .i64 b, .int .i64 c, .int .i64 d], .agg #[.int .i64 a', .int .i64 b', .int .i64 c', .int .i64 d'], .bool E, .bool true, .bool true, .agg #[.int .i64 a, .int .i64 b, .int .i64 c, .int .i64 d], .string ⟨(told a b c d).toArray⟩, .int .i64 (told a b c d).length, undef, undef], []⟩ w3
  refine wpAnyH_one (i := 13) (by kernel_rfl) (wpOp_valueG (o := z13) (v := .bool true) (w' := w3) rfl (by kernel_rfl) (by simp [execOp, Act.eval, z13, go_sem, hlen]) ⟨h4, ?_⟩)
  change wpAnyH Tryz.prog .any opsS (fun e a w => e = .normal ∧ Q0 a w) (Sd p #[.int .i64 a, .int .i64 b, .int .i64 c, .int .i64 d] #[.int .i64 a', .int .i64 b', .int .i64 c', .int .i64 d']) _ _ ⟨#[.agg #[.int .i64 a, .int .i64 b, .int .i64 c, .int .i64 d], .agg #[.int .i64 a', .int .i64 b', .int .i64 c', .int .i64 d'], .pointer (some ⟨p, 0, none⟩), .pointer (some ⟨p + 1, 0, none⟩), .bool false, .bool true, .bool false, .agg #[.int .i64 a, .int .i64 b, .int .i64 c, .int .i64 d], .string ⟨(told a b c d).toArray⟩, .agg #[.int .i64 a', .int .i64 b', .int .i64 c', .int .i64 d'], .string ⟨(told a' b' c' d').toArray⟩, .bool E, .agg #[.int .i64 a, .int .i64 b, .int .i64 c, .int .i64 d], .agg #[.int .i64 a', .int .i64 b', .int .i64 c', .int .i64 d'], .bool E, .bool true, .bool true, .agg #[.int .i64 a, .int .i64 b, .int .i64 c, .int .i64 d], .string ⟨(told a b c d).toArray⟩, .int .i64 (told a b c d).length, .bool true, undef], []⟩ w3
  refine wpAnyH_one (i := 14) (by kernel_rfl) (wpOp_valueG (o := z14) (v := .bool true) (w' := w3) rfl (by kernel_rfl) (by simp [execOp, Act.eval, z14, go_sem]) ⟨h4, ?_⟩)
  change wpAnyH Tryz.prog .any opsS (fun e a w => e = .normal ∧ Q0 a w) (Sd p #[.int .i64 a, .int .i64 b, .int .i64 c, .int .i64 d] #[.int .i64 a', .int .i64 b', .int .i64 c', .int .i64 d']) _ _ ⟨#[.agg #[.int .i64 a, .int .i64 b, .int .i64 c, .int .i64 d], .agg #[.int .i64 a', .int .i64 b', .int .i64 c', .int .i64 d'], .pointer (some ⟨p, 0, none⟩), .pointer (some ⟨p + 1, 0, none⟩), .bool false, .bool true, .bool false, .agg #[.int .i64 a, .int .i64 b, .int .i64 c, .int .i64 d], .string ⟨(told a b c d).toArray⟩, .agg #[.int .i64 a', .int .i64 b', .int .i64 c', .int .i64 d'], .string ⟨(told a' b' c' d').toArray⟩, .bool E, .agg #[.int .i64 a, .int .i64 b, .int .i64 c, .int .i64 d], .agg #[.int .i64 a', .int .i64 b', .int .i64 c', .int .i64 d'], .bool E, .bool true, .bool true, .agg #[.int .i64 a, .int .i64 b, .int .i64 c, .int .i64 d], .string ⟨(told a b c d).toArray⟩, .int .i64 (told a b c d).length, .bool true, .bool true], []⟩ w3
  refine wpAnyH_one (i := 15) (by kernel_rfl) (wpOp_valueG (o := z15) (v := .bool true) (w' := w3) rfl (by kernel_rfl) (by simp [execOp, Act.eval, z15, go_sem]) ⟨h4, ?_⟩)
  exact ⟨by kernel_rfl, rfl, hQ E w3 ((bw1.trans (bw2.mono bw1.size)).trans (bw3.mono (Nat.le_trans bw1.size bw2.size)))⟩
end
section
open Go Go.Gev Go.RowKit Go.Maps Go.Proofs
set_option maxRecDepth 100000 in
set_option maxHeartbeats 2000000 in
theorem root_C (hawake : ∀ w, Calls Tryz.prog 4 #[] w fun e w' => e = .returned (.bool true) ∧ Below w.heap.size w w') (a b c d a' b' c' d' : Int) (ha : fits a) (hb : fits b) (hc : fits c) (hd : fits d)
    (ha' : fits a') (hb' : fits b') (hc' : fits c') (hd' : fits d') (W : World) (ht : ∀ w, Below W.heap.size W w → Tab w) :
    Calls Tryz.prog 3 #[.agg #[.int .i64 a, .int .i64 b, .int .i64 c, .int .i64 d], .agg #[.int .i64 a', .int .i64 b', .int .i64 c', .int .i64 d']] W fun x W' => x = .returned (.bool true) ∧ Below W.heap.size W W' := by
  have eA := enters_of Tryz.func4 (by kernel_rfl) rfl
  refine (callsIn_wide (n := 0)).1 ?_
  refine callsIn_of_wp Tryz.func3 rfl trivial ?_ rfl
  simp only [Tryz.ntmps3, List.size_toArray, List.length_cons, List.length_nil, Nat.reduceAdd, Nat.reduceSub, Array.replicate_succ, Array.replicate_zero, List.push_toArray, List.append_toArray, List.nil_append, List.cons_append]
  gi_wp2
  refine ⟨trivial, rfl, (callsIn_wide.2 (hawake _)).mono ?_⟩
  rintro e w1 ⟨rfl, hb1⟩
  have hb0 : Below W.heap.size W w1 := by
    refine Below.trans ?_ (hb1.mono (by simp; omega))
    exact ((Below.refl W.heap.size W).alloc (Nat.le_refl _) _).alloc (by simp) _
  have hp : w1.heap[W.heap.size]? = some (.cells #[.int .i64 a, .int .i64 b, .int .i64 c, .int .i64 d] 23 (0, 0)) := by
    rw [hb1.block _ (by simp; omega), heap_alloc_old _ _ (by simp)]
    exact heap_alloc_new _ _
  have hq : w1.heap[W.heap.size + 1]? = some (.cells #[.int .i64 a', .int .i64 b', .int .i64 c', .int .i64 d'] 23 (0, 0)) := by
    rw [hb1.block _ (by simp)]
    have h1 : (W.alloc (.cells #[.int .i64 a, .int .i64 b, .int .i64 c, .int .i64 d] 23)).heap.size = W.heap.size + 1 := by simp
    rw [← h1]; exact heap_alloc_new _ _
  clear hb1
  gi_wp2
  have hbd : Below W.heap.size W { w1 with drawn := w1.drawn + 1 } := hb0.trans ⟨rfl, rfl, rfl, Nat.le_refl _, fun _ _ => rfl⟩
  refine wpIn_mono (wpIn_region_any (by kernel_rfl) (anyIn (ro := none) (fun ⟨a1, w1, hc⟩ => by cases hc.1) (.inl rfl) _ _ _ _ (wpAny_of_held _ _ _ _ (regS a b c d a' b' c' d' ha hb hc hd ha' hb' hc' hd' W.heap.size { w1 with drawn := w1.drawn + 1 } ⟨hp, hq, fun w' hw' => ht w' (hbd.trans (hw'.mono hb0.size))⟩ (fun x w' => ∃ x7 x8 x9 x10 x11 x12 x13 x14 x15 x16 x17 x18 x19 x20 x21 : Value, x = ⟨#[.agg #[.int .i64 a, .int .i64 b, .int .i64 c, .int .i64 d], .agg #[.int .i64 a', .int .i64 b', .int .i64 c', .int .i64 d'], .pointer (some ⟨W.heap.size, 0, none⟩), .pointer (some ⟨W.heap.size + 1, 0, none⟩), .bool true, .bool true, .bool false, x7, x8, x9, x10, x11, x12, x13, x14, x15, x16, x17, x18, x19, x20, x21], []⟩ ∧ Below W.heap.size W w') (fun E w' hw' => ⟨_, _, _, _, _, _, _, _, _, _, _, _, _, _, _, rfl, hbd.trans (hw'.mono hb0.size)⟩))))) ?_
  rintro _ x w' ⟨rfl, x7, x8, x9, x10, x11, x12, x13, x14, x15, x16, x17, x18, x19, x20, x21, rfl, h4⟩
  gi_wp2
  go_ret
  exact ⟨rfl, h4⟩
end
end Go.Proofs.YtbecnapcgehliaaGreatDoor.shown
