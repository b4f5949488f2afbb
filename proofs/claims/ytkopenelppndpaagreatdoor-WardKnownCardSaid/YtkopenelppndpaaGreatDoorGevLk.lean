/- A walk over a map in whatever order, whose rounds ask two functions: what 'deed' does at its end (how many names each node has). -/
import Derived.Test.YtkopenelppndpaaGreatDoorGevCl
import Derived.Test.YtkopenelppndpaaGreatDoorGevMm
namespace Go.Gev
open Go.RowKit Go.Maps

/-- an entry: its node, its type, the nodes that its names tell -/
structure LkE where
  n : Int
  ty : Int
  ks : List Int

/-! ### the evaluator's side -/
noncomputable section
def intOf : Value → Option Int
  | .int k n => match k with
    | .i64 => some n
    | _ => none
  | _ => none
def isSl : Value → Bool
  | .slice _ _ _ => true
  | _ => false
def isStr : Value → Bool
  | .string _ => true
  | _ => false
def lkCons : Option Int → Option (List Int) → Option (List Int)
  | some n, some l => some (n :: l)
  | _, _ => none
def lkNodes : Nat → List Value → Option (List Int)
  | 0, xs => match xs with
    | [] => some []
    | _ :: _ => none
  | N + 1, xs => match xs with
    | s :: v :: t => match isStr s with
      | true => lkCons (keyI v) (lkNodes N t)
      | false => none
    | _ => none
def lkNodesO (n : Nat) : Option (List Value) → Option (List Int)
  | some xs => lkNodes n xs
  | none => none
def lkNames (h : Hs) : Value → Option (List Int)
  | .slice a n c => match a with
    | none => match n, c with
      | 0, 0 => some []
      | _, _ => none
    | some a => match a.spot with
      | none => match Nat.ble n 100000 with
        | true => lkNodesO n (blkCells (Nat.mul 2 n) a.off (h.hp.get a.block))
        | false => none
      | some _ => none
  | _ => none
def lkPart4 (n : Int) (ty : Option Int) (ks : Option (List Int)) : Option LkE := match ty with
  | some t => match ks with
    | some ks => some ⟨n, t, ks⟩
    | none => none
  | none => none
def isI64' (v : Value) : Bool := match intOf v with
  | some _ => true
  | none => false
def lkPart3 (h : Hs) (n : Int) : List Value → Option LkE
  | [nd, ty, dt, nm] => match andB (isI64' nd) (isSl dt) with
    | true => lkPart4 n (intOf ty) (lkNames h nm)
    | false => none
  | _ => none
def lkPart2 (h : Hs) (n : Int) : Value → Option LkE
  | .agg xs => lkPart3 h n xs.toList
  | _ => none
def lkPart (h : Hs) (e : MapEntry) : Option LkE := match intOf e.key with
  | some n => lkPart2 h n e.val
  | none => none
def lkPartsC : Option LkE → Option (List LkE) → Option (List LkE)
  | some e, some l => some (e :: l)
  | _, _ => none
def lkParts (h : Hs) : List MapEntry → Option (List LkE)
  | [] => some []
  | e :: es => lkPartsC (lkPart h e) (lkParts h es)
def cntI (n : Int) : List Int → Nat
  | [] => 0
  | k :: ks => match eqI k n with
    | true => Nat.succ (cntI n ks)
    | false => cntI n ks
def lkCnt (n : Int) : List LkE → Nat
  | [] => 0
  | e :: es => Nat.add (cntI n e.ks) (lkCnt n es)
def lkLen : List LkE → Nat
  | [] => 0
  | e :: es => Nat.add e.ks.length (lkLen es)
/-- a row that is flat -/
def flatRow : Option Blk → Option Blk
  | some (.row c n e u rw fl) => match andB rw fl with
    | true => some (.row c n e u rw fl)
    | false => none
  | _ => none
/-- the memory in which the two functions are run: the words, the edit (frozen) -/
def lkMem (h : Hs) (eid wid : Nat) (b : Blk) : Hs := ⟨Tr.set (Tr.set .e wid (some b)) eid (frz1 (h.hp.get eid)), h.nx, h.nx⟩
variable (RN RS : List Value → Hs → An) (h : Hs) (eid eo wid : Nat) (img : List Value) (all : List LkE)
def lkSet2 : An → Option Blk
  | some (.val _ h2) => flatRow (h2.hp.get wid)
  | _ => none
def lkSet (e : LkE) (ty sz rn : Value) (h1 : Hs) : Option Blk → Option Blk := fun _ =>
  lkSet2 wid (RS [.pointer (some ⟨eid, eo, none⟩), .int .i64 e.n, .agg #[ty, .int .i64 (.ofNat (lkCnt e.n all)), sz, rn]] h1)
def lkY2 (b : Blk) (e : LkE) (ty sz rn : Value) (h1 : Hs) : Bool → Option Blk
  | true => some b
  | false => lkSet RS eid eo wid all e ty sz rn h1 none
def lkY (b : Blk) (e : LkE) (h1 : Hs) (ok : Bool) : List Value → Option Blk
  | [ty, lk, sz, rn] => match andB (andB (isI64' ty) (isI64' sz)) (isSl rn) with
    | true => match intOf lk with
      | some l => lkY2 RS eid eo wid all b e ty sz rn h1 (orB (notB ok) (orB (eqI e.ty 2) (eqI l (.ofNat (lkCnt e.n all)))))
      | none => none
    | false => none
  | _ => none
def lkOk (b : Blk) (e : LkE) (h1 : Hs) (y : Value) : Value → Option Blk
  | .bool ok => match y with
    | .agg ys => lkY RS eid eo wid all b e h1 ok ys.toList
    | _ => none
  | _ => none
def lkTup (b : Blk) (e : LkE) (h1 : Hs) : List Value → Option Blk
  | [y, o] => lkOk RS eid eo wid all b e h1 y o
  | _ => none
def lkNode2 (b : Blk) (e : LkE) (h1 : Hs) (v : Value) : Bool → Option Blk
  | true => match v with
    | .tuple xs => lkTup RS eid eo wid all b e h1 xs.toList
    | _ => none
  | false => none
def lkNode (b : Blk) (e : LkE) : An → Option Blk
  | some (.val v h1) => lkNode2 RS eid eo wid all b e h1 v (Nat.ble h.nx h1.lo)
  | _ => none
/-- what a round makes of the words -/
def lkStep (b : Blk) (e : LkE) : Option Blk := lkNode RS h eid eo wid all b e (RN [.agg img.toArray, .int .i64 e.n] (lkMem h eid wid b))
def eqOBl (b : Blk) : Option Blk → Bool
  | some b' => eqBl b' b
  | none => false
/-- the first that turns them -/
def lkFind1 (e : LkE) (b0 : Blk) (rest : Option (Option (Int × Blk))) : Option Blk → Option (Option (Int × Blk))
  | some b => match eqBl b b0 with
    | true => rest
    | false => some (some (e.n, b))
  | none => none
def lkFind (b0 : Blk) : List LkE → Option (Option (Int × Blk))
  | [] => some none
  | e :: es => lkFind1 e b0 (lkFind b0 es) (lkStep RN RS h eid eo wid img all b0 e)
def lkAll1 (b0 b1 : Blk) (e : LkE) : Bool → Bool
  | true => eqOBl b1 (lkStep RN RS h eid eo wid img all b0 e)
  | false => andB (eqOBl b0 (lkStep RN RS h eid eo wid img all b0 e)) (eqOBl b1 (lkStep RN RS h eid eo wid img all b1 e))
def lkAll (c : Int) (b0 b1 : Blk) : List LkE → Bool
  | [] => true
  | e :: es => andB (lkAll1 RN RS h eid eo wid img all b0 b1 e (eqI e.n c)) (lkAll c b0 b1 es)
def lkSame (b0 : Blk) : List LkE → Bool
  | [] => true
  | e :: es => andB (eqOBl b0 (lkStep RN RS h eid eo wid img all b0 e)) (lkSame b0 es)
def lkOut (b : Blk) : An := some (.val (.tuple #[]) ⟨h.hp.set wid (some b), h.nx, minN h.lo wid⟩)
def lkGo2 (b0 : Blk) : Option (Option (Int × Blk)) → An
  | some r => match r with
    | none => match lkSame RN RS h eid eo wid img all b0 all with
      | true => lkOut h wid b0
      | false => none
    | some p => match andB (lkAll RN RS h eid eo wid img all p.1 b0 p.2 all) (match flatRow (some p.2) with | some _ => true | none => false) with
      | true => lkOut h wid p.2
      | false => none
  | none => none
def lkGo1 : Option Blk → An
  | some b0 => lkGo2 RN RS h eid eo wid img all b0 (lkFind RN RS h eid eo wid img all b0 all)
  | none => none
end
noncomputable section
variable (RN RS : List Value → Hs → An) (h : Hs)
def lkEs2 (mid eid eo wid nid : Nat) (img : List Value) (es : List MapEntry) (cl : Nat) : Option (List Int) → Option (List LkE) → An
  | some ks, some all => match andB (andB (andB (bornsGood cl es) (distB eqI ks)) (andB (Nat.ble es.length 1000) (Nat.ble (lkLen all) 1000000))) (andB (notB (Nat.beq mid wid)) (andB (notB (Nat.beq eid wid)) (notB (Nat.beq nid wid)))) with
    | true => lkGo1 RN RS h eid eo wid img all (flatRow (h.hp.get wid))
    | false => none
  | _, _ => none
def lkEs (mid eid eo wid nid : Nat) (img : List Value) : Option Blk → An
  | some (.mp es cl) => lkEs2 RN RS h mid eid eo wid nid img es cl (keysA keyI es) (lkParts h es)
  | _ => none
def lkImg2 (mid eid eo nid : Nat) (img : List Value) : Value → An
  | .slice a _ _ => match a with
    | some a => lkEs RN RS h mid eid eo a.block nid img (h.hp.get nid)
    | none => none
  | _ => none
def lkImg (mid eid eo nid : Nat) : Option (List Value) → An
  | some xs => match xs with
    | [g0, g1, g2, g3, ws] => match andB (andB (isI64' g0) (isI64' g1)) (andB (isI64' g2) (isI64' g3)) with
      | true => lkImg2 RN RS h mid eid eo nid xs ws
      | false => none
    | _ => none
  | none => none
def lkMk3 (mid : Nat) (m : Value) : Option (Nat × Nat) → An
  | some p => match m with
    | .map k => match k with
      | some nid => lkImg RN RS h mid p.1 p.2 nid (blkCells 5 p.2 (h.hp.get p.1))
      | none => none
    | _ => none
  | none => none
def lkMk2 (mid : Nat) : Option (List Value) → An
  | some xs => match xs with
    | [ed, _, _, m] => lkMk3 RN RS h mid m (addrOf ed)
    | _ => none
  | none => none
def lkMk1 : Option (Nat × Nat) → An
  | some p => lkMk2 RN RS h p.1 (blkCells 4 p.2 (h.hp.get p.1))
  | none => none
def linksG (args : List Value) (h : Hs) : An := match args with
  | [a] => lkMk1 RN RS h (addrOf a)
  | _ => none
end

/-! ### the model's side -/
def NamesAt (W : World) (v : Value) (ks : List Int) : Prop := (ks = [] ∧ v = .slice none 0 0) ∨
  ∃ b o c, v = .slice (some ⟨b, o, none⟩) ks.length c ∧ b < W.heap.size ∧ ∀ j k, ks[j]? = some k → ∃ s, W.cell? ⟨b, o + 2 * j, none⟩ = some (.string s) ∧ W.cell? ⟨b, o + 2 * j + 1, none⟩ = some (.int .i64 k) ∧ -9223372036854775808 ≤ k ∧ k ≤ 9223372036854775807
def LkAt (W : World) (e : MapEntry) (s : LkE) : Prop := e.key = .int .i64 s.n ∧ ∃ (nd : Int) (da : Option Addr) (dn dc : Nat) (nm : Value), e.val = .agg #[.int .i64 nd, .int .i64 s.ty, .slice da dn dc, nm] ∧ NamesAt W nm s.ks
/-- a round's two calls -/
def LkStep (P : Program) (node set : FuncId) (wb : Nat) (J : Bool → World → Prop) (img edp : Value) (cnt : Int → Nat) (c : Option Int) (e : LkE) : Prop :=
  ∀ t w, J t w → (c = some e.n → t = false) → Calls P node #[img, .int .i64 e.n] w fun x w1 => Below w.heap.size w w1 ∧ ∃ (ty lk sz : Int) (ra : Option Addr) (rn rc : Nat) (ok : Bool), x = .returned (.tuple #[.agg #[.int .i64 ty, .int .i64 lk, .int .i64 sz, .slice ra rn rc], .bool ok]) ∧
    (¬ (ok = true ∧ e.ty ≠ 2 ∧ lk ≠ (cnt e.n : Int)) → J (t || decide (c = some e.n)) w1) ∧
    (ok = true ∧ e.ty ≠ 2 ∧ lk ≠ (cnt e.n : Int) → ∀ w2, Below w1.heap.size w1 w2 → Calls P set #[edp, .int .i64 e.n, .agg #[.int .i64 ty, .int .i64 (cnt e.n : Int), .int .i64 sz, .slice ra rn rc]] w2 fun x w3 =>
      (∃ v, x = .returned v) ∧ J (t || decide (c = some e.n)) w3 ∧ (∀ k, (k < w.heap.size ∨ w1.heap.size ≤ k) → k < w2.heap.size → k ≠ wb → w3.heap[k]? = w2.heap[k]?) ∧ w2.heap.size ≤ w3.heap.size)
/-- what the function does, in the model -/
def LinksC (P : Program) (f node set : FuncId) : Prop :=
  ∀ (W : World) (mb mo eb eo bm : Nat) (es : Array MapEntry) (cl : Nat) (sp : MapEntry → LkE) (g0 g1 g2 g3 : Int) (wa : Option Addr) (wn wc wb : Nat) (J : Bool → World → Prop) (c : Option Int) (cnt : Int → Nat),
    W.cell? ⟨mb, mo, none⟩ = some (.pointer (some ⟨eb, eo, none⟩)) → W.cell? ⟨mb, mo + 3, none⟩ = some (.map (some bm)) →
    W.cell? ⟨eb, eo, none⟩ = some (.int .i64 g0) → W.cell? ⟨eb, eo + 1, none⟩ = some (.int .i64 g1) → W.cell? ⟨eb, eo + 2, none⟩ = some (.int .i64 g2) → W.cell? ⟨eb, eo + 3, none⟩ = some (.int .i64 g3) → W.cell? ⟨eb, eo + 4, none⟩ = some (.slice wa wn wc) →
    W.heap[bm]? = some (.map es cl) → (∀ e ∈ es.toList, e.born < cl) → (es.toList.map (·.born)).Nodup → (es.toList.map (·.key)).Nodup → es.size ≤ 1000 →
    (∀ e ∈ es.toList, LkAt W e (sp e)) → lkLen (es.toList.map sp) ≤ 1000000 → (∀ n, cnt n = lkCnt n (es.toList.map sp)) →
    (∀ e ∈ es.toList, -9223372036854775808 ≤ (sp e).n ∧ (sp e).n ≤ 9223372036854775807) →
    mb ≠ wb → eb ≠ wb → bm ≠ wb → wb < W.heap.size → J false W → (∀ t w w', J t w → Below W.heap.size w w' → J t w') →
    (∀ t w, J t w → W.heap.size ≤ w.heap.size ∧ ∀ k, k < W.heap.size → k ≠ wb → w.heap[k]? = W.heap[k]?) →
    (∀ e ∈ es.toList, LkStep P node set wb J (.agg #[.int .i64 g0, .int .i64 g1, .int .i64 g2, .int .i64 g3, .slice wa wn wc]) (.pointer (some ⟨eb, eo, none⟩)) cnt c (sp e)) →
    Calls P f #[.pointer (some ⟨mb, mo, none⟩)] W fun x W' => x = .returned (.tuple #[]) ∧ J (decide (∃ e ∈ es.toList, c = some (sp e).n)) W'

/-! ### the entries -/
theorem intOf_some {v : Value} {n : Int} (h : intOf v = some n) : v = .int .i64 n := by
  unfold intOf at h
  split at h
  · rename_i k m
    split at h
    · injection h with h; rw [h]
    · cases h
  · cases h
theorem isI64'_some {v : Value} (h : isI64' v = true) : ∃ n, v = .int .i64 n := by
  unfold isI64' at h
  split at h
  · rename_i n hn; exact ⟨n, intOf_some hn⟩
  · cases h
theorem isStr_some {v : Value} (h : isStr v = true) : ∃ s, v = .string s := by
  unfold isStr at h
  split at h
  · exact ⟨_, rfl⟩
  · cases h
theorem isSl_some {v : Value} (h : isSl v = true) : ∃ a n c, v = .slice a n c := by
  unfold isSl at h
  split at h
  · exact ⟨_, _, _, rfl⟩
  · cases h
theorem isSl_VR {ρ : Ren} {v v' : Value} (h : isSl v = true) (hv : VR ρ v v') : ∃ a n c, v' = .slice a n c := by
  obtain ⟨a, n, c, rfl⟩ := isSl_some h
  cases hv <;> exact ⟨_, _, _, rfl⟩
theorem lkNodes_ok : ∀ {N : Nat} {xs : List Value} {ks : List Int}, lkNodes N xs = some ks → ks.length = N ∧ xs.length = 2 * N ∧ ∀ j k, ks[j]? = some k → ∃ s, xs[2 * j]? = some (.string s) ∧ xs[2 * j + 1]? = some (.int .i64 k) ∧ -9223372036854775808 ≤ k ∧ k ≤ 9223372036854775807 := by
  intro N
  induction N with
  | zero =>
    intro xs ks h
    cases xs with
    | nil => simp only [lkNodes, Option.some.injEq] at h; subst h; exact ⟨rfl, rfl, fun j k hj => by simp at hj⟩
    | cons a t => cases h
  | succ N ih =>
    intro xs ks h
    match xs, h with
    | s :: v :: t, h =>
      simp only [lkNodes] at h
      cases hs : isStr s with
      | false => rw [hs] at h; cases h
      | true =>
        rw [hs] at h
        obtain ⟨str, rfl⟩ := isStr_some hs
        have h : lkCons (keyI v) (lkNodes N t) = some ks := h
        cases hv : keyI v with
        | none => rw [hv] at h; cases h
        | some k0 =>
          cases ht : lkNodes N t with
          | none => rw [hv, ht] at h; cases h
          | some l =>
            rw [hv, ht] at h
            injection h with h
            subst h
            obtain ⟨i1, i2, i3⟩ := ih ht
            obtain ⟨q1, q2, q3⟩ := keyI_in hv
            refine ⟨by simp [i1], by simp [i2]; omega, fun j k hj => ?_⟩
            cases j with
            | zero =>
              simp only [List.getElem?_cons_zero, Option.some.injEq] at hj
              subst hj
              exact ⟨str, rfl, by simp [q1], q2, q3⟩
            | succ j =>
              obtain ⟨s2, r1, r2, r3⟩ := i3 j k (by simpa using hj)
              refine ⟨s2, ?_, ?_, r3⟩
              · rw [show 2 * (j + 1) = 2 * j + 1 + 1 from by omega]; simpa using r1
              · rw [show 2 * (j + 1) + 1 = 2 * j + 1 + 1 + 1 from by omega]; simpa using r2
section
variable {B : Nat} {ρ : Ren} {h : Hs} {w : World}
theorem lkNames_ok (R : HR B ρ h w) {nm nm' : Value} {ks : List Int} (hv : VR ρ nm nm') (hs : lkNames h nm = some ks) : NamesAt w nm' ks := by
  cases hv with
  | nilslice => simp only [lkNames, Option.some.injEq] at hs; exact .inl ⟨hs.symm, rfl⟩
  | slice id off n c c' H hH h1 h2 h3 h4 =>
    simp only [lkNames] at hs
    cases hb : Nat.ble n 100000 with
    | false => rw [hb] at hs; cases hs
    | true =>
      rw [hb] at hs
      have hs : lkNodesO n (blkCells (Nat.mul 2 n) off (h.hp.get id)) = some ks := hs
      cases hc : blkCells (Nat.mul 2 n) off (h.hp.get id) with
      | none => rw [hc] at hs; cases hs
      | some xs =>
        rw [hc] at hs
        have hs : lkNodes n xs = some ks := hs
        obtain ⟨i1, i2, i3⟩ := lkNodes_ok hs
        obtain ⟨H', ys, e1, e2, e3, e4⟩ := R.cells hc
        rw [hH] at e1
        injection e1 with e1
        subst e1
        have hlt : H.blk < w.heap.size := by
          cases hb2 : h.hp.get id with
          | none => rw [hb2] at hc; cases hc
          | some b =>
            obtain ⟨H2, f1, f2⟩ := (R.has id b hb2).host_lt
            rw [hH] at f1; injection f1 with f1; subst f1; exact f2
        refine .inr ⟨H.blk, H.off + off, c', by rw [i1], hlt, fun j k hj => ?_⟩
        obtain ⟨s, r1, r2, r3⟩ := i3 j k hj
        have hlen : ys.length = xs.length := e2.1.symm
        have cell : ∀ (i : Nat) (v : Value), xs[i]? = some v → flat1 v = true → w.cell? ⟨H.blk, H.off + off + i, none⟩ = some v := fun i v hi hf => by
          have hil : i < ys.length := by rw [hlen]; exact (List.getElem?_eq_some_iff.1 hi).1
          have h5 := e4 i _ (List.getElem?_eq_getElem hil)
          rw [add_block] at h5
          rw [h5, flat1_VR hf (e2.2 i v _ hi (List.getElem?_eq_getElem hil))]
        exact ⟨s, cell _ _ r1 rfl, by have := cell _ _ r2 rfl; rw [Nat.add_assoc]; exact this, r3⟩
  | empty b o k a' c' h3 => simp [lkNames] at hs
  | _ => cases hs
theorem lkPart_ok (R : HR B ρ h w) {e e' : MapEntry} {s : LkE} (hk : e'.key = e.key) (hv : VR ρ e.val e'.val) (hs : lkPart h e = some s) : LkAt w e' s := by
  unfold lkPart at hs
  cases hn : intOf e.key with
  | none => rw [hn] at hs; cases hs
  | some n =>
    rw [hn] at hs
    have hs : lkPart2 h n e.val = some s := hs
    unfold lkPart2 at hs
    split at hs
    · rename_i xs hxs
      rw [hxs] at hv
      obtain ⟨ys, hy, hl⟩ := hv.agg_inv
      unfold lkPart3 at hs
      split at hs
      · rename_i nd ty dt nm hxl
        rw [hxl] at hl
        cases hc : andB (isI64' nd) (isSl dt) with
        | false => rw [hc] at hs; cases hs
        | true =>
          rw [hc] at hs
          obtain ⟨c1, c2⟩ := andB_true hc
          obtain ⟨ndn, rfl⟩ := isI64'_some c1
          have hs : lkPart4 n (intOf ty) (lkNames h nm) = some s := hs
          cases ht : intOf ty with
          | none => rw [ht] at hs; cases hs
          | some t =>
            rw [ht] at hs
            have := intOf_some ht
            subst this
            cases hm : lkNames h nm with
            | none => rw [hm] at hs; cases hs
            | some ks =>
              rw [hm] at hs
              injection hs with hs
              subst hs
              obtain ⟨a0, r0, hr0, v0, l0⟩ := hl.head
              obtain ⟨a1, r1, rfl, v1, l1⟩ := l0.head
              obtain ⟨a2, r2, rfl, v2, l2⟩ := l1.head
              obtain ⟨a3, r3, rfl, v3, l3⟩ := l2.head
              have := l3.nil_left
              subst this
              obtain rfl := v0.int_inv
              obtain rfl := v1.int_inv
              obtain ⟨da, dn, dc, rfl⟩ := isSl_VR c2 v2
              have hys : ys = #[.int .i64 ndn, .int .i64 t, .slice da dn dc, a3] := by apply Array.ext'; simpa using hr0
              exact ⟨by rw [hk]; exact intOf_some hn, ndn, da, dn, dc, a3, by rw [hy, hys], lkNames_ok R v3 hm⟩
      · cases hs
    · cases hs
theorem lkParts_choice (R : HR B ρ h w) {es es2 : List MapEntry} (m : MK ρ es es2) : ∀ {all : List LkE}, (es2.map (·.key)).Nodup → lkParts h es = some all → ∃ sp : MapEntry → LkE, es2.map sp = all ∧ ∀ e' ∈ es2, LkAt w e' (sp e') := by
  induction m with
  | nil =>
    intro all _ hp
    simp only [lkParts, Option.some.injEq] at hp
    subst hp
    exact ⟨fun _ => ⟨0, 0, []⟩, rfl, fun e he => by cases he⟩
  | @cons e e' es es2 hk hv t ih =>
    intro all hnd hp
    rw [List.map_cons, List.nodup_cons] at hnd
    simp only [lkParts] at hp
    cases h1 : lkPart h e with
    | none => rw [h1] at hp; cases hp
    | some s =>
      cases h2 : lkParts h es with
      | none => rw [h1, h2] at hp; cases hp
      | some l =>
        rw [h1, h2] at hp
        injection hp with hp
        subst hp
        obtain ⟨sp, g1, g2⟩ := ih hnd.2 h2
        have hne : ∀ x ∈ es2, x.key ≠ e'.key := fun x hx q => hnd.1 (by rw [← q]; exact List.mem_map_of_mem hx)
        refine ⟨fun x => open Classical in if x.key = e'.key then s else sp x, ?_, fun x hx => ?_⟩
        · rw [List.map_cons, if_pos rfl, ← g1]
          congr 1
          exact List.map_congr_left fun x hx => if_neg (hne x hx)
        · rcases List.mem_cons.1 hx with rfl | hx
          · simp only [if_true]; exact lkPart_ok R hk hv h1
          · simp only [if_neg (hne x hx)]; exact g2 x hx
end
theorem lkLen_perm {a b : List LkE} (h : a.Perm b) : lkLen a = lkLen b := by
  induction h with
  | nil => rfl
  | cons x _ ih => exact congrArg (Nat.add x.ks.length) ih
  | swap x y l => show y.ks.length + (x.ks.length + lkLen l) = x.ks.length + (y.ks.length + lkLen l); omega
  | trans _ _ i j => exact i.trans j
theorem lkCnt_perm {n : Int} {a b : List LkE} (h : a.Perm b) : lkCnt n a = lkCnt n b := by
  induction h with
  | nil => rfl
  | cons x _ ih => exact congrArg (Nat.add (cntI n x.ks)) ih
  | swap x y l => show cntI n y.ks + (cntI n x.ks + lkCnt n l) = cntI n x.ks + (cntI n y.ks + lkCnt n l); omega
  | trans _ _ i j => exact i.trans j
theorem eqBl_eq' {a b : Blk} (h : eqOBl b (some a) = true) : a = b := eqBl_eq h
theorem eqOBl_some {b : Blk} {o : Option Blk} (h : eqOBl b o = true) : o = some b := by
  cases o with
  | none => cases h
  | some a => rw [eqBl_eq' h]

/-! ### a round -/
section
variable {RN RS : List Value → Hs → An} {h : Hs} {eid eo wid : Nat} {img : List Value} {all : List LkE}
theorem lkStep_inv {b b' : Blk} {e : LkE} (hs : lkStep RN RS h eid eo wid img all b e = some b') :
    ∃ (h1 : Hs) (ty lk sz : Int) (rn : Value) (ok : Bool), RN [.agg img.toArray, .int .i64 e.n] (lkMem h eid wid b) = some (.val (.tuple #[.agg #[.int .i64 ty, .int .i64 lk, .int .i64 sz, rn], .bool ok]) h1) ∧ h.nx ≤ h1.lo ∧ isSl rn = true ∧
      ((¬ (ok = true ∧ e.ty ≠ 2 ∧ lk ≠ (lkCnt e.n all : Int)) ∧ b' = b) ∨ ((ok = true ∧ e.ty ≠ 2 ∧ lk ≠ (lkCnt e.n all : Int)) ∧ ∃ v h2, RS [.pointer (some ⟨eid, eo, none⟩), .int .i64 e.n, .agg #[.int .i64 ty, .int .i64 (lkCnt e.n all : Int), .int .i64 sz, rn]] h1 = some (.val v h2) ∧ flatRow (h2.hp.get wid) = some b')) := by
  unfold lkStep at hs
  unfold lkNode at hs
  split at hs
  · rename_i v h1 hr
    unfold lkNode2 at hs
    split at hs
    · rename_i hble
      split at hs
      · rename_i xs
        unfold lkTup at hs
        split at hs
        · rename_i y o hx
          unfold lkOk at hs
          split at hs
          · rename_i ok
            split at hs
            · rename_i ys
              unfold lkY at hs
              split at hs
              · rename_i ty lk sz rn hy
                cases hc : andB (andB (isI64' ty) (isI64' sz)) (isSl rn) with
                | false => rw [hc] at hs; cases hs
                | true =>
                  rw [hc] at hs
                  obtain ⟨c1, c2⟩ := andB_true hc
                  obtain ⟨c3, c4⟩ := andB_true c1
                  obtain ⟨t, rfl⟩ := isI64'_some c3
                  obtain ⟨z, rfl⟩ := isI64'_some c4
                  cases hl : intOf lk with
                  | none => rw [hl] at hs; cases hs
                  | some l =>
                    rw [hl] at hs
                    have := intOf_some hl
                    subst this
                    have hys : ys = #[.int .i64 t, .int .i64 l, .int .i64 z, rn] := by apply Array.ext'; simpa using hy
                    have hxs : xs = #[.agg ys, .bool ok] := by apply Array.ext'; simpa using hx
                    subst hxs; subst hys
                    refine ⟨h1, t, l, z, rn, ok, hr, Nat.le_of_ble_eq_true hble, c2, ?_⟩
                    have hs : lkY2 RS eid eo wid all b e (.int .i64 t) (.int .i64 z) rn h1 (orB (notB ok) (orB (eqI e.ty 2) (eqI l (.ofNat (lkCnt e.n all))))) = some b' := hs
                    cases hcond : orB (notB ok) (orB (eqI e.ty 2) (eqI l (.ofNat (lkCnt e.n all)))) with
                    | true =>
                      rw [hcond] at hs
                      injection hs with hs
                      refine .inl ⟨fun ⟨a1, a2, a3⟩ => ?_, hs.symm⟩
                      subst a1
                      have hcond : orB (eqI e.ty 2) (eqI l (.ofNat (lkCnt e.n all))) = true := hcond
                      cases h2 : eqI e.ty 2 with
                      | true => rw [eqI_eq] at h2; simp at h2; exact a2 h2
                      | false =>
                        rw [h2] at hcond
                        have hcond : eqI l (.ofNat (lkCnt e.n all)) = true := hcond
                        rw [eqI_eq] at hcond; simp at hcond; exact a3 hcond
                    | false =>
                      rw [hcond] at hs
                      have hs : lkSet2 wid (RS [.pointer (some ⟨eid, eo, none⟩), .int .i64 e.n, .agg #[.int .i64 t, .int .i64 (.ofNat (lkCnt e.n all)), .int .i64 z, rn]] h1) = some b' := hs
                      refine .inr ⟨?_, ?_⟩
                      · cases ok with
                        | false => cases hcond
                        | true =>
                          have hcond : orB (eqI e.ty 2) (eqI l (.ofNat (lkCnt e.n all))) = false := hcond
                          cases h2 : eqI e.ty 2 with
                          | true => rw [h2] at hcond; cases hcond
                          | false =>
                            rw [h2] at hcond
                            have hcond : eqI l (.ofNat (lkCnt e.n all)) = false := hcond
                            rw [eqI_eq] at hcond h2
                            simp at hcond h2
                            exact ⟨rfl, h2, hcond⟩
                      · unfold lkSet2 at hs
                        split at hs
                        · rename_i v2 h2 hr2; exact ⟨v2, h2, hr2, hs⟩
                        · cases hs
              · cases hs
            · cases hs
          · cases hs
        · cases hs
      · cases hs
    · cases hs
  · cases hs
end
theorem flatRow_some {o : Option Blk} {b : Blk} (h : flatRow o = some b) : o = some b ∧ ∃ c n e u, b = .row c n e u true true := by
  unfold flatRow at h
  split at h
  · rename_i c n e u rw fl
    cases hc : andB rw fl with
    | false => rw [hc] at h; cases h
    | true =>
      rw [hc] at h
      obtain ⟨rfl, rfl⟩ := andB_true hc
      injection h with h
      subst h
      exact ⟨rfl, c, n, e, u, rfl⟩
  · cases h
/-- less is known -/
theorem HR.sub {B : Nat} {ρ : Ren} {h : Hs} {w : World} (R : HR B ρ h w) {g : Tr Blk} (lo : Nat) (hg : ∀ id b, g.get id = some b → h.hp.get id = some b) : HR B ρ ⟨g, h.nx, lo⟩ w :=
  ⟨R.base, R.dom, fun id b hb => R.has id b (hg id b hb), fun id id' b b' H H' hb hb' => R.inj id id' b b' H H' (hg id b hb) (hg id' b' hb')⟩
/-- the words are other ones -/
noncomputable def hWd (h : Hs) (wid : Nat) (b : Blk) : Hs := ⟨h.hp.set wid (some b), h.nx, minN h.lo wid⟩
theorem lkMem_get {h : Hs} {eid wid : Nat} {b x : Blk} {id : Nat} (hg : (lkMem h eid wid b).hp.get id = some x) : (id = wid ∧ x = b) ∨ (id = eid ∧ frz1 (h.hp.get eid) = some x) := by
  have hg : (Tr.set (Tr.set .e wid (some b)) eid (frz1 (h.hp.get eid))).get id = some x := hg
  rw [Tr.get_set] at hg
  split at hg
  · rename_i e; exact .inr ⟨e.symm, hg⟩
  · rw [Tr.get_set] at hg
    split at hg
    · rename_i e; injection hg with hg; exact .inl ⟨e.symm, hg.symm⟩
    · rw [Tr.get_e] at hg; cases hg
theorem lkMem_HR {B : Nat} {ρ : Ren} {h : Hs} {w : World} {eid wid : Nat} {b : Blk} (hne : eid ≠ wid) (R : HR B ρ (hWd h wid b) w) : HR B ρ (lkMem h eid wid b) w := by
  have h1 : (hWd h wid b).hp.get eid = h.hp.get eid := by
    show (h.hp.set wid (some b)).get eid = _
    rw [Tr.get_set, if_neg fun e => hne e.symm]
  have R1 := R.frz eid h.nx
  refine HR.sub R1 h.nx (g := (lkMem h eid wid b).hp) fun id x hx => ?_
  show ((hWd h wid b).hp.set eid (frz1 ((hWd h wid b).hp.get eid))).get id = some x
  rw [h1]
  rcases lkMem_get hx with ⟨rfl, rfl⟩ | ⟨rfl, hx⟩
  · rw [Tr.get_set, if_neg hne]
    show (h.hp.set id (some x)).get id = _
    rw [Tr.get_set, if_pos rfl]
  · rw [Tr.get_set, if_pos rfl]; exact hx

/-- what is right of a function's runs -/
def RunsOk (P : Program) (f : FuncId) (R : List Value → Hs → An) : Prop := ∀ (args : List Value) (args' : Array Value) (v : Value) (h h' : Hs) (B : Nat) (ρ : Ren) (w : World), R args h = some (.val v h') → VL ρ args args'.toList → HR B ρ h w →
    Calls P f args' w (fun e w' => ∃ v' ρ', e = .returned v' ∧ VR ρ' v v' ∧ St B ρ h w ρ' h' w')
def LkJ (B : Nat) (ρ : Ren) (h : Hs) (wid wb : Nat) (W : World) (b0 b1 : Blk) (t : Bool) (w : World) : Prop :=
  HR B ρ (hWd h wid (bif t then b1 else b0)) w ∧ (∀ k, k < W.heap.size → k ≠ wb → w.heap[k]? = W.heap[k]?) ∧ Below B W w
theorem LkJ.more {B : Nat} {ρ : Ren} {h : Hs} {wid wb : Nat} {W : World} {b0 b1 : Blk} {t : Bool} {w w' : World} (j : LkJ B ρ h wid wb W b0 b1 t w) (hb : Below w.heap.size w w') : LkJ B ρ h wid wb W b0 b1 t w' :=
  ⟨(St.more j.1 hb).hr, fun k hk hne => (hb.block k (Nat.lt_of_lt_of_le hk j.2.2.size)).trans (j.2.1 k hk hne), j.2.2.trans (hb.mono j.1.base)⟩

section
variable {P : Program} {node set : FuncId} {RN RS : List Value → Hs → An} (hRN : RunsOk P node RN) (hRS : RunsOk P set RS)
  {B : Nat} {ρ : Ren} {h : Hs} {W : World} {eid eo wid : Nat} {img : List Value} {all : List LkE} {b0 b1 : Blk} {Hw : Host}
include hRN hRS
theorem lkStep_ok (hne : eid ≠ wid) (hw : ρ wid = some Hw) (hwn : wid < h.nx) (hf0 : isRw b0 = true) (hf1 : isRw b1 = true) {img' : Array Value} {edp : Value} (himg : VL ρ img img'.toList) (hedp : VR ρ (.pointer (some ⟨eid, eo, none⟩)) edp)
    {c : Option Int} {e : LkE} (hst : ∀ t, (c = some e.n → t = false) → lkStep RN RS h eid eo wid img all (bif t then b1 else b0) e = some (bif (t || decide (c = some e.n)) then b1 else b0)) :
    LkStep P node set Hw.blk (LkJ B ρ h wid Hw.blk W b0 b1) (.agg img') edp (fun n => lkCnt n all) c e := by
  intro t w j ht
  obtain ⟨h1, ty, lk, sz, rn, ok, r1, r2, r3, r4⟩ := lkStep_inv (hst t ht)
  generalize hbt : (bif t then b1 else b0) = b at *
  generalize hbt' : (bif (t || decide (c = some e.n)) then b1 else b0) = b' at *
  have hrb : isRw b = true := by rw [← hbt]; cases t <;> assumption
  have hrb' : isRw b' = true := by rw [← hbt']; generalize (t || decide (c = some e.n)) = s; cases s <;> assumption
  have Rw : HR B ρ (hWd h wid b) w := by have := j.1; rw [hbt] at this; exact this
  have Rm : HR B ρ (lkMem h eid wid b) w := lkMem_HR hne Rw
  have hvl : VL ρ [.agg img.toArray, .int .i64 e.n] (#[.agg img', .int .i64 e.n] : Array Value).toList := .cons (by have := VR.agg_of himg; simpa using this) (.cons (.int _ _) .nil)
  refine (hRN _ _ _ _ _ B ρ w r1 hvl Rm).mono fun x w1 hx => ?_
  obtain ⟨v', ρ1, rfl, hv, S⟩ := hx
  have hnx : (lkMem h eid wid b).nx = h.nx := rfl
  have hbel : Below w.heap.size w w1 := ⟨S.below.os, S.below.tape, S.below.output, S.size, fun k hk => S.frame k hk fun id x H q1 q2 q3 q4 => by
    have := Rm.lt q1
    omega⟩
  obtain ⟨ys, rfl, hl⟩ := hv.tuple_inv
  obtain ⟨y0, s0, hs0, v0, l0⟩ := hl.head
  obtain ⟨y1, s1, rfl, v1, l1⟩ := l0.head
  have := l1.nil_left
  subst this
  obtain rfl := v1.bool_inv
  obtain ⟨zs, rfl, hz⟩ := v0.agg_inv
  obtain ⟨a0, t0, ht0, u0, m0⟩ := hz.head
  obtain ⟨a1, t1, rfl, u1, m1⟩ := m0.head
  obtain ⟨a2, t2, rfl, u2, m2⟩ := m1.head
  obtain ⟨a3, t3, rfl, u3, m3⟩ := m2.head
  have := m3.nil_left
  subst this
  obtain rfl := u0.int_inv
  obtain rfl := u1.int_inv
  obtain rfl := u2.int_inv
  obtain ⟨ra, rn', rc, rfl⟩ := isSl_VR r3 u3
  have hzs : zs = #[.int .i64 ty, .int .i64 lk, .int .i64 sz, .slice ra rn' rc] := by apply Array.ext'; simpa using ht0
  have hys : ys = #[.agg zs, .bool ok] := by apply Array.ext'; simpa using hs0
  subst hys; subst hzs
  refine ⟨hbel, ty, lk, sz, ra, rn', rc, ok, rfl, fun hno => ?_, fun hyes w2 hb2 => ?_⟩
  · rcases r4 with ⟨_, e1⟩ | ⟨q, _⟩
    · subst e1
      have := j.more hbel
      unfold LkJ at this ⊢
      rw [hbt] at this
      rw [hbt']
      exact this
    · exact absurd q hno
  · rcases r4 with ⟨q, _⟩ | ⟨_, v2, h2, r5, r6⟩
    · exact absurd hyes q
    have R2 : HR B ρ1 h1 w2 := (St.more S.hr hb2).hr
    have hvl2 : VL ρ1 [.pointer (some ⟨eid, eo, none⟩), .int .i64 e.n, .agg #[.int .i64 ty, .int .i64 (lkCnt e.n all : Int), .int .i64 sz, rn]] (#[edp, .int .i64 e.n, .agg #[.int .i64 ty, .int .i64 (lkCnt e.n all : Int), .int .i64 sz, .slice ra rn' rc]] : Array Value).toList := by
      refine .cons (hedp.mono S.le) (.cons (.int _ _) (.cons ?_ .nil))
      exact VR.agg_of (xs := [.int .i64 ty, .int .i64 (lkCnt e.n all : Int), .int .i64 sz, rn]) (ys := [.int .i64 ty, .int .i64 (lkCnt e.n all : Int), .int .i64 sz, .slice ra rn' rc]) (.cons (.int _ _) (.cons (.int _ _) (.cons (.int _ _) (.cons u3 .nil))))
    refine (hRS _ _ _ _ _ B ρ1 w2 r5 hvl2 R2).mono fun x w3 hx => ?_
    obtain ⟨v3, ρ3, rfl, _, S3⟩ := hx
    have hframe : ∀ k, k < w.heap.size → k ≠ Hw.blk → w3.heap[k]? = w2.heap[k]? := fun k hk hkw => by
      refine S3.frame k (Nat.lt_of_lt_of_le hk (Nat.le_trans hbel.size hb2.size)) fun id x H q1 q2 q3 q4 => ?_
      rcases Nat.lt_or_ge id h.nx with hid | hid
      · obtain ⟨x0, p1, p2, _⟩ := S.gone id x q1 hid
        rw [S.old id hid] at q3
        rcases lkMem_get p1 with ⟨rfl, rfl⟩ | ⟨rfl, hfz⟩
        · rw [hw] at q3; injection q3 with q3; subst q3; exact fun e9 => hkw e9.symm
        · rw [← p2, (frz1_some hfz).1] at q2; cases q2
      · rcases S.fresh id H hid q3 with p | ⟨id0, x0, H0, p1, _, _, p4, _⟩
        · omega
        · have := Rm.lt p1
          omega
    have hframe2 : ∀ k, (k < w.heap.size ∨ w1.heap.size ≤ k) → k < w2.heap.size → k ≠ Hw.blk → w3.heap[k]? = w2.heap[k]? := fun k hk hk2 hkw => by
      rcases hk with hk | hk
      · exact hframe k hk hkw
      · refine S3.frame k hk2 fun id x H q1 q2 q3 q4 => ?_
        obtain ⟨H2, f1, f2⟩ := (S.hr.has id x q1).host_lt
        rw [q3] at f1; injection f1 with f1; subst f1
        omega
    have hchain : ∀ k, k < w.heap.size → k ≠ Hw.blk → w3.heap[k]? = w.heap[k]? := fun k hk hkw => (hframe k hk hkw).trans ((hb2.block k (Nat.lt_of_lt_of_le hk hbel.size)).trans (hbel.block k hk))
    have hB : B ≤ w.heap.size := Rw.base
    have hBel : Below B W w3 := ((j.2.2.trans (hbel.mono hB)).trans (hb2.mono (Nat.le_trans hB hbel.size))).trans S3.below
    refine ⟨⟨v3, rfl⟩, ⟨?_, fun k hk hkw => ?_, hBel⟩, hframe2, S3.size⟩
    · rw [hbt']
      obtain ⟨g1, cc, nn, ee, uu, rfl⟩ := flatRow_some r6
      have hgetb : ∀ id x, (hWd h wid (.row cc nn ee uu true true)).hp.get id = some x → (id = wid ∧ x = .row cc nn ee uu true true) ∨ (id ≠ wid ∧ (hWd h wid b).hp.get id = some x) := fun id x hx => by
        have hx : (h.hp.set wid (some (.row cc nn ee uu true true))).get id = some x := hx
        rw [Tr.get_set] at hx
        split at hx
        · rename_i e9; injection hx with hx; exact .inl ⟨e9.symm, hx.symm⟩
        · rename_i e9
          refine .inr ⟨fun e8 => e9 e8.symm, ?_⟩
          show (h.hp.set wid (some b)).get id = some x
          rw [Tr.get_set, if_neg e9]; exact hx
      have hgw : (hWd h wid b).hp.get wid = some b := by
        show (h.hp.set wid (some b)).get wid = some b
        rw [Tr.get_set, if_pos rfl]
      refine ⟨Nat.le_trans hB (Nat.le_trans hbel.size (Nat.le_trans hb2.size S3.size)), Rw.dom, fun id x hx => ?_, fun id id' x x' H H' hx hx' hidne hr hH hH' => ?_⟩
      · rcases hgetb id x hx with ⟨rfl, rfl⟩ | ⟨hn, hx⟩
        · obtain ⟨X, arr, fz, s1, s2, s3, s4, s5, s6, s7⟩ := S3.hr.has id _ g1
          have hold : ρ3 id = ρ id := (S3.old id (Nat.lt_of_lt_of_le hwn S.nx)).trans (S.old id hwn)
          refine ⟨X, arr, fz, hold ▸ s1, s2, s3, s4, fun i v hv2 => ?_, s6, s7⟩
          obtain ⟨u, f1, f2⟩ := s5 i v hv2
          exact ⟨u, f1, flat_VR (s7 rfl i v hv2) f2⟩
        · refine (Rw.has id x hx).mono (Ren.le_refl _) fun H hH => ?_
          obtain ⟨H2, f1, f2⟩ := (Rw.has id x hx).host_lt
          rw [hH] at f1; injection f1 with f1; subst f1
          exact hchain _ f2 fun e9 => Rw.inj wid id b x Hw H hgw hx (fun e8 => hn e8.symm) hrb hw hH e9.symm
      · rcases hgetb id x hx with ⟨rfl, rfl⟩ | ⟨hn, hx⟩
        · rcases hgetb id' x' hx' with ⟨rfl, rfl⟩ | ⟨hn', hx'⟩
          · exact absurd rfl hidne
          · exact Rw.inj id id' b x' H H' hgw hx' hidne hrb hH hH'
        · rcases hgetb id' x' hx' with ⟨rfl, rfl⟩ | ⟨hn', hx'⟩
          · exact Rw.inj id id' x b H H' hx hgw hidne hr hH hH'
          · exact Rw.inj id id' x x' H H' hx hx' hidne hr hH hH'
    · exact (hchain k (Nat.lt_of_lt_of_le hk j.2.2.size) hkw).trans (j.2.1 k hk hkw)
end

/-! ### the steps of all -/
section
variable {RN RS : List Value → Hs → An} {h : Hs} {eid eo wid : Nat} {img : List Value} {all : List LkE} {b0 b1 : Blk}
theorem lkSame_mem : ∀ {es : List LkE}, lkSame RN RS h eid eo wid img all b0 es = true → ∀ e ∈ es, lkStep RN RS h eid eo wid img all b0 e = some b0 := by
  intro es
  induction es with
  | nil => intro _ e he; cases he
  | cons x t ih =>
    intro hs e he
    obtain ⟨s1, s2⟩ := andB_true (show andB (eqOBl b0 (lkStep RN RS h eid eo wid img all b0 x)) (lkSame RN RS h eid eo wid img all b0 t) = true from hs)
    rcases List.mem_cons.1 he with rfl | he
    · exact eqOBl_some s1
    · exact ih s2 e he
theorem lkAll_mem {c : Int} : ∀ {es : List LkE}, lkAll RN RS h eid eo wid img all c b0 b1 es = true → ∀ e ∈ es, lkAll1 RN RS h eid eo wid img all b0 b1 e (eqI e.n c) = true := by
  intro es
  induction es with
  | nil => intro _ e he; cases he
  | cons x t ih =>
    intro hs e he
    obtain ⟨s1, s2⟩ := andB_true (show andB (lkAll1 RN RS h eid eo wid img all b0 b1 x (eqI x.n c)) (lkAll RN RS h eid eo wid img all c b0 b1 t) = true from hs)
    rcases List.mem_cons.1 he with rfl | he
    · exact s1
    · exact ih s2 e he
theorem lkFind_mem {p : Int × Blk} : ∀ {es : List LkE}, lkFind RN RS h eid eo wid img all b0 es = some (some p) → ∃ e ∈ es, e.n = p.1 := by
  intro es
  induction es with
  | nil => intro hs; cases hs
  | cons x t ih =>
    intro hs
    have hs : lkFind1 x b0 (lkFind RN RS h eid eo wid img all b0 t) (lkStep RN RS h eid eo wid img all b0 x) = some (some p) := hs
    unfold lkFind1 at hs
    split at hs
    · split at hs
      · obtain ⟨e, h1, h2⟩ := ih hs
        exact ⟨e, List.mem_cons_of_mem _ h1, h2⟩
      · injection hs with hs; injection hs with hs
        subst hs
        exact ⟨x, List.mem_cons_self, rfl⟩
    · cases hs
/-- what the evaluator's checks say of the steps -/
def Steps (RN RS : List Value → Hs → An) (h : Hs) (eid eo wid : Nat) (img : List Value) (all : List LkE) (b0 b1 : Blk) (c : Option Int) : Prop :=
  ∀ e ∈ all, ∀ t, (c = some e.n → t = false) → lkStep RN RS h eid eo wid img all (bif t then b1 else b0) e = some (bif (t || decide (c = some e.n)) then b1 else b0)
theorem lkGo2_ok {v : Value} {h' : Hs} (hf : ∃ cc n e u, b0 = .row cc n e u true true) (hr : lkGo2 RN RS h eid eo wid img all b0 (lkFind RN RS h eid eo wid img all b0 all) = some (.val v h')) :
    v = .tuple #[] ∧ ∃ (c : Option Int) (b1 : Blk), (∃ cc n e u, b1 = .row cc n e u true true) ∧ Steps RN RS h eid eo wid img all b0 b1 c ∧ ∀ t, (t = true ↔ ∃ e ∈ all, c = some e.n) → h' = hWd h wid (bif t then b1 else b0) := by
  cases hff : lkFind RN RS h eid eo wid img all b0 all with
  | none => rw [hff] at hr; cases hr
  | some r =>
    rw [hff] at hr
    cases r with
    | none =>
      simp only [lkGo2] at hr
      cases hs : lkSame RN RS h eid eo wid img all b0 all with
      | false => rw [hs] at hr; cases hr
      | true =>
        rw [hs] at hr
        simp only [lkOut, Option.some.injEq, Out.val.injEq] at hr
        obtain ⟨rfl, rfl⟩ := hr
        refine ⟨rfl, none, b0, hf, fun e he t _ => ?_, fun t _ => by cases t <;> rfl⟩
        have := lkSame_mem hs e he
        cases t <;> exact this
    | some p =>
      simp only [lkGo2] at hr
      cases hs : andB (lkAll RN RS h eid eo wid img all p.1 b0 p.2 all) (match flatRow (some p.2) with | some _ => true | none => false) with
      | false => rw [hs] at hr; cases hr
      | true =>
        rw [hs] at hr
        obtain ⟨s1, s2⟩ := andB_true hs
        have hfl : ∃ cc n e u, p.2 = .row cc n e u true true := by
          cases hfr : flatRow (some p.2) with
          | none => rw [hfr] at s2; cases s2
          | some b =>
            obtain ⟨q1, q2⟩ := flatRow_some hfr
            injection q1 with q1
            rw [q1]; exact q2
        simp only [lkOut, Option.some.injEq, Out.val.injEq] at hr
        obtain ⟨rfl, rfl⟩ := hr
        refine ⟨rfl, some p.1, p.2, hfl, fun e he t ht => ?_, fun t ht => ?_⟩
        · have h1 := lkAll_mem s1 e he
          cases hc : eqI e.n p.1 with
          | true =>
            rw [hc] at h1
            rw [eqI_eq] at hc
            have hc : e.n = p.1 := by simpa using hc
            have := ht (by rw [hc])
            subst this
            have h1 := eqOBl_some h1
            rw [show decide (some p.1 = some e.n) = true from by simp [hc]]
            exact h1
          | false =>
            rw [hc] at h1
            rw [eqI_eq] at hc
            have hc : ¬ e.n = p.1 := by simpa using hc
            obtain ⟨h2, h3⟩ := andB_true (show andB (eqOBl b0 (lkStep RN RS h eid eo wid img all b0 e)) (eqOBl p.2 (lkStep RN RS h eid eo wid img all p.2 e)) = true from h1)
            rw [show decide (some p.1 = some e.n) = false from by simp; exact fun q => hc q.symm]
            cases t
            · exact eqOBl_some h2
            · exact eqOBl_some h3
        · obtain ⟨e, h1, h2⟩ := lkFind_mem hff
          have : t = true := ht.2 ⟨e, h1, by rw [h2]⟩
          subst this
          rfl
end
theorem hWd_get {h : Hs} {wid : Nat} {b x : Blk} {id : Nat} (hx : (hWd h wid b).hp.get id = some x) : (id = wid ∧ x = b) ∨ (id ≠ wid ∧ h.hp.get id = some x) := by
  have hx : (h.hp.set wid (some b)).get id = some x := hx
  rw [Tr.get_set] at hx
  split at hx
  · rename_i e9; injection hx with hx; exact .inl ⟨e9.symm, hx.symm⟩
  · rename_i e9; exact .inr ⟨fun e8 => e9 e8.symm, hx⟩
theorem minN_l {a b : Nat} : minN a b ≤ a := by rw [minN_eq]; exact Nat.min_le_left _ _
theorem minN_r {a b : Nat} : minN a b ≤ b := by rw [minN_eq]; exact Nat.min_le_right _ _
theorem LkJ.far {B : Nat} {ρ : Ren} {h : Hs} {wid : Nat} {Hw : Host} {W : World} {b0 b1 : Blk} {t : Bool} {w w' : World} (R : HR B ρ h W) (hg : h.hp.get wid = some b0) (j : LkJ B ρ h wid Hw.blk W b0 b1 t w) (hb : Below W.heap.size w w') : LkJ B ρ h wid Hw.blk W b0 b1 t w' := by
  refine ⟨⟨Nat.le_trans j.1.base hb.size, j.1.dom, fun id b hx => (j.1.has id b hx).mono (Ren.le_refl _) fun H hH => hb.block _ ?_, j.1.inj⟩, fun k hk hne => (hb.block k hk).trans (j.2.1 k hk hne), j.2.2.trans (hb.mono R.base)⟩
  have hin : ∃ x, h.hp.get id = some x := by
    rcases hWd_get hx with ⟨rfl, rfl⟩ | ⟨_, hx⟩
    · exact ⟨_, hg⟩
    · exact ⟨_, hx⟩
  obtain ⟨x, hx⟩ := hin
  obtain ⟨H2, f1, f2⟩ := (R.has id x hx).host_lt
  rw [hH] at f1; injection f1 with f1; subst f1
  exact f2
/-- what the words' turning is, as a step -/
theorem LkJ.st {B : Nat} {ρ : Ren} {h : Hs} {w W' : World} {wid : Nat} {b0 b1 : Blk} {Hw : Host} {t : Bool} (R : HR B ρ h w) (hg : h.hp.get wid = some b0) (hw : ρ wid = some Hw) (hf0 : isRw b0 = true) (hf1 : isRw b1 = true) (j : LkJ B ρ h wid Hw.blk w b0 b1 t W') :
    St B ρ h w ρ (hWd h wid (bif t then b1 else b0)) W' := by
  have hlt := R.lt hg
  have hrb : isRw (bif t then b1 else b0) = true := by cases t <;> assumption
  refine ⟨j.1, Nat.le_refl _, Ren.le_refl _, fun _ _ => rfl, j.2.2, j.2.2.size, minN_l, fun id b hb hid => ?_, fun id b hb hid => ?_, fun id b hb hid => ?_, fun k hk hno => ?_, fun id H hid e => ?_⟩
  · have h1 : minN h.lo wid ≤ wid := minN_r
    have hid : id < minN h.lo wid := hid
    show (h.hp.set wid _).get id = some b
    rw [Tr.get_set, if_neg (by omega)]; exact hb
  · rcases hWd_get hb with ⟨rfl, rfl⟩ | ⟨hn, hb⟩
    · exact ⟨b0, hg, by rw [hrb, hf0], fun hl => absurd (Nat.lt_of_lt_of_le hl minN_r) (Nat.lt_irrefl _)⟩
    · exact ⟨b, hb, rfl, fun _ => rfl⟩
  · rcases hWd_get hb with ⟨rfl, rfl⟩ | ⟨hn, hb⟩
    · omega
    · have := R.lt hb; omega
  · exact j.2.1 k hk fun e => hno wid b0 Hw hg hf0 hw minN_r e.symm
  · rw [R.dom id hid] at e; cases e

set_option maxHeartbeats 1000000 in
/-- THE SUMMARY -/
theorem links_sum {P : Program} {f node set : FuncId} {RN RS : List Value → Hs → An} (hf : (FF P f).isSome = true) (hRN : RunsOk P node RN) (hRS : RunsOk P set RS) (C : LinksC P f node set) : SumOk P f (linksG RN RS) := by
  refine ⟨Option.isSome_iff_exists.1 hf, fun args args' v h h' B ρ w hr hl Rl => ?_⟩
  unfold linksG at hr
  split at hr
  · rename_i a
    obtain ⟨a', r1, e1, hva, hl1⟩ := hl.head
    have := hl1.nil_left
    subst this
    have harg : args' = #[a'] := by apply Array.ext'; simpa using e1
    subst harg
    cases hp : addrOf a with
    | none => rw [hp] at hr; cases hr
    | some p =>
    rw [hp] at hr
    have hr : lkMk2 RN RS h p.1 (blkCells 4 p.2 (h.hp.get p.1)) = some (.val v h') := hr
    obtain ⟨H, hH, _, rfl⟩ := addrOf_VR hva hp
    cases hcs : blkCells 4 p.2 (h.hp.get p.1) with
    | none => rw [hcs] at hr; cases hr
    | some xs =>
    rw [hcs] at hr
    obtain ⟨hlen, cc, m, et, u, rw_, fl, hbk, hget⟩ := blkCells_get hcs
    rcases xs with _ | ⟨ed, _ | ⟨c1, _ | ⟨c2, _ | ⟨mv, _ | ⟨c4, xs⟩⟩⟩⟩⟩ <;> try (simp at hlen; done)
    have hr : lkMk3 RN RS h p.1 mv (addrOf ed) = some (.val v h') := hr
    cases hpe : addrOf ed with
    | none => rw [hpe] at hr; cases hr
    | some q =>
    rw [hpe] at hr
    obtain ⟨nid, rfl⟩ : ∃ k, mv = .map (some k) := by
      cases mv with
      | map mo => cases mo with
        | none => simp [lkMk3] at hr
        | some k => exact ⟨k, rfl⟩
      | _ => simp [lkMk3] at hr
    have hr : lkImg RN RS h p.1 q.1 q.2 nid (blkCells 5 q.2 (h.hp.get q.1)) = some (.val v h') := hr
    obtain ⟨H', arr, fz, q1, _, hh, hsz, hcell, _⟩ := Rl.has p.1 _ hbk
    rw [hH] at q1
    injection q1 with q1
    subst q1
    obtain ⟨a0, g0, w0⟩ := hcell _ _ (hget 0 _ rfl)
    obtain ⟨a3, g3, w3⟩ := hcell _ _ (hget 3 _ rfl)
    obtain ⟨He, hHe, hed, rfl⟩ := addrOf_VR w0 hpe
    cases w3 with
    | map _ Hm hHm =>
    cases hce : blkCells 5 q.2 (h.hp.get q.1) with
    | none => rw [hce] at hr; cases hr
    | some xs =>
    rw [hce] at hr
    obtain ⟨hlen2, cc2, m2, et2, u2, rw2, fl2, hbk2, hget2⟩ := blkCells_get hce
    rcases xs with _ | ⟨x0, _ | ⟨x1, _ | ⟨x2, _ | ⟨x3, _ | ⟨x4, _ | ⟨x5, xs⟩⟩⟩⟩⟩⟩ <;> try (simp at hlen2; done)
    simp only [lkImg] at hr
    cases hck0 : andB (andB (isI64' x0) (isI64' x1)) (andB (isI64' x2) (isI64' x3)) with
    | false => rw [hck0] at hr; cases hr
    | true =>
    rw [hck0] at hr
    obtain ⟨z1, z2⟩ := andB_true hck0
    obtain ⟨z3, z4⟩ := andB_true z1
    obtain ⟨z5, z6⟩ := andB_true z2
    obtain ⟨n0, rfl⟩ := isI64'_some z3
    obtain ⟨n1, rfl⟩ := isI64'_some z4
    obtain ⟨n2, rfl⟩ := isI64'_some z5
    obtain ⟨n3, rfl⟩ := isI64'_some z6
    obtain ⟨wa, wn, wc, rfl⟩ : ∃ wa wn wc, x4 = .slice (some wa) wn wc := by
      cases x4 with
      | slice ao n c => cases ao with
        | none => simp [lkImg2] at hr
        | some k => exact ⟨k, n, c, rfl⟩
      | _ => simp [lkImg2] at hr
    have hr : lkEs RN RS h p.1 q.1 q.2 wa.block nid [.int .i64 n0, .int .i64 n1, .int .i64 n2, .int .i64 n3, .slice (some wa) wn wc] (h.hp.get nid) = some (.val v h') := hr
    generalize himge : [Value.int .i64 n0, .int .i64 n1, .int .i64 n2, .int .i64 n3, .slice (some wa) wn wc] = img at hr
    generalize hwid : wa.block = wid at hr
    obtain ⟨He', arr2, fz2, q2, _, hh2, hsz2, hcell2, _⟩ := Rl.has q.1 _ hbk2
    rw [hHe] at q2
    injection q2 with q2
    subst q2
    obtain ⟨b0', i0, j0⟩ := hcell2 _ _ (hget2 0 _ rfl)
    obtain ⟨b1', i1, j1⟩ := hcell2 _ _ (hget2 1 _ rfl)
    obtain ⟨b2', i2, j2⟩ := hcell2 _ _ (hget2 2 _ rfl)
    obtain ⟨b3', i3, j3⟩ := hcell2 _ _ (hget2 3 _ rfl)
    obtain ⟨b4', i4, j4⟩ := hcell2 _ _ (hget2 4 _ rfl)
    obtain rfl := j0.int_inv
    obtain rfl := j1.int_inv
    obtain rfl := j2.int_inv
    obtain rfl := j3.int_inv
    obtain ⟨va, vn, vc, rfl⟩ := isSl_VR rfl j4
    cases hk : h.hp.get nid with
    | none => rw [hk] at hr; cases hr
    | some bk =>
    rw [hk] at hr
    cases bk with
    | mp es cl =>
      have hr : lkEs2 RN RS h p.1 q.1 q.2 wid nid img es cl (keysA keyI es) (lkParts h es) = some (.val v h') := hr
      cases hks : keysA keyI es with
      | none => rw [hks] at hr; cases hr
      | some ks =>
      cases hpa : lkParts h es with
      | none => rw [hks, hpa] at hr; cases hr
      | some all =>
      rw [hks, hpa] at hr
      simp only [lkEs2] at hr
      cases hck : andB (andB (andB (bornsGood cl es) (distB eqI ks)) (andB (Nat.ble es.length 1000) (Nat.ble (lkLen all) 1000000))) (andB (notB (Nat.beq p.1 wid)) (andB (notB (Nat.beq q.1 wid)) (notB (Nat.beq nid wid)))) with
      | false => rw [hck] at hr; cases hr
      | true =>
      rw [hck] at hr
      obtain ⟨k1, k2⟩ := andB_true hck
      obtain ⟨k3, k4⟩ := andB_true k1
      obtain ⟨k5, k6⟩ := andB_true k3
      obtain ⟨k7, k8⟩ := andB_true k4
      obtain ⟨k9, k10⟩ := andB_true k2
      obtain ⟨k11, k12⟩ := andB_true k10
      have k7 := Nat.le_of_ble_eq_true k7
      have k8 := Nat.le_of_ble_eq_true k8
      have ne_of : ∀ {a b : Nat}, notB (Nat.beq a b) = true → a ≠ b := fun {a b} hab e => by
        subst e
        rw [show Nat.beq a a = true from Nat.beq_refl a] at hab
        cases hab
      have nm := ne_of k9
      have ne := ne_of k11
      have nn := ne_of k12
      have hr : lkGo1 RN RS h q.1 q.2 wid img all (flatRow (h.hp.get wid)) = some (.val v h') := hr
      cases hfr : flatRow (h.hp.get wid) with
      | none => rw [hfr] at hr; cases hr
      | some b0 =>
      rw [hfr] at hr
      obtain ⟨hgw, hfl0⟩ := flatRow_some hfr
      obtain ⟨rfl, c, b1, hfl1, hsteps, hout⟩ := lkGo2_ok hfl0 hr
      have hrw0 : isRw b0 = true := by obtain ⟨_, _, _, _, rfl⟩ := hfl0; rfl
      have hrw1 : isRw b1 = true := by obtain ⟨_, _, _, _, rfl⟩ := hfl1; rfl
      obtain ⟨Hw, hHw, hwlt⟩ := (Rl.has wid b0 hgw).host_lt
      obtain ⟨Hm', es', y1, _, y2, y3⟩ := Rl.has nid _ hk
      rw [hHm] at y1
      injection y1 with y1
      subst y1
      obtain ⟨hlt, hnb, es2, hperm, hal⟩ := y3.align k5
      obtain ⟨hkm, hki⟩ := keyI_all hks
      have hks_nd : (ks.map fun n => Value.int .i64 n).Nodup := by
        have hn : ks.Nodup := distB_spec (fun a b hab e => by rw [eqI_eq] at hab; subst e; simp at hab) k6
        unfold List.Nodup at hn ⊢
        rw [List.pairwise_map]
        exact hn.imp fun hne e => hne (by injection e)
      have hnk2 : (es2.map (·.key)).Nodup := by rw [hal.keys, hkm]; exact hks_nd
      have hnk : (es'.toList.map (·.key)).Nodup := (hperm.map _).nodup_iff.1 hnk2
      obtain ⟨sp, hsp, hat⟩ := lkParts_choice Rl hal hnk2 hpa
      have hallp : all.Perm (es'.toList.map sp) := by rw [← hsp]; exact hperm.map sp
      have hmem : ∀ e ∈ es'.toList, sp e ∈ all := fun e he => hallp.symm.subset (List.mem_map_of_mem he)
      have hrange : ∀ e ∈ es'.toList, -9223372036854775808 ≤ (sp e).n ∧ (sp e).n ≤ 9223372036854775807 := fun e he => by
        obtain ⟨e0, p1, p2⟩ := mem_of_map (g := (·.key)) hal.keys (hperm.symm.subset he)
        have p2 : e0.key = e.key := p2
        obtain ⟨x, hx⟩ := keysA_some hks e0 p1
        obtain ⟨t1, t2, t3⟩ := keyI_in hx
        have h1 := (hat e (hperm.symm.subset he)).1
        rw [← p2, t1] at h1
        injection h1 with _ h1
        rw [← h1]; exact ⟨t2, t3⟩
      have hsize : es'.size ≤ 1000 := by
        have := hperm.length_eq
        have h2 := hal.len
        simp only [Array.length_toList] at this
        omega
      have himg : VL ρ img (#[.int .i64 n0, .int .i64 n1, .int .i64 n2, .int .i64 n3, .slice va vn vc] : Array Value).toList := by
        rw [← himge]
        exact .cons (.int _ _) (.cons (.int _ _) (.cons (.int _ _) (.cons (.int _ _) (.cons j4 .nil))))
      have cellAt : ∀ {b : Nat} {arr : Array Value} {T : TypeId} {fz : Nat × Nat} {o : Nat} {x : Value}, w.heap[b]? = some (.cells arr T fz) → arr[o]? = some x → w.cell? ⟨b, o, none⟩ = some x := fun {b arr T fz o x} h1 h2 => by simp only [World.cell?, h1]; simpa using h2
      have hJ0 : LkJ B ρ h wid Hw.blk w b0 b1 false w := ⟨HR.sub Rl _ fun id b hb => by
        rcases hWd_get hb with ⟨rfl, rfl⟩ | ⟨_, hb⟩
        · exact hgw
        · exact hb, fun _ _ _ => rfl, Below.refl _ _⟩
      have X := C w H.blk (H.off + p.2) He.blk (He.off + q.2) Hm.blk es' cl sp n0 n1 n2 n3 va vn vc Hw.blk (LkJ B ρ h wid Hw.blk w b0 b1) c (fun n => lkCnt n all)
        (cellAt hh (by simpa using g0)) (cellAt hh (by rw [Nat.add_assoc]; exact g3))
        (cellAt hh2 (by simpa using i0)) (cellAt hh2 (by rw [Nat.add_assoc]; exact i1)) (cellAt hh2 (by rw [Nat.add_assoc]; exact i2)) (cellAt hh2 (by rw [Nat.add_assoc]; exact i3)) (cellAt hh2 (by rw [Nat.add_assoc]; exact i4))
        y2 hlt hnb hnk hsize (fun e he => hat e (hperm.symm.subset he)) (by rw [← lkLen_perm hallp]; exact k8) (fun n => lkCnt_perm hallp) hrange
        (fun e => Rl.inj wid p.1 b0 _ Hw H hgw hbk (fun q => nm q.symm) hrw0 hHw hH e.symm) (fun e => Rl.inj wid q.1 b0 _ Hw He hgw hbk2 (fun q => ne q.symm) hrw0 hHw hHe e.symm) (fun e => Rl.inj wid nid b0 _ Hw Hm hgw hk (fun q => nn q.symm) hrw0 hHw hHm e.symm)
        hwlt hJ0 (fun t w1 w2 j hb => j.far Rl hgw hb) (fun t w1 j => ⟨j.2.2.size, j.2.1⟩)
        (fun e he => lkStep_ok hRN hRS ne hHw (Rl.lt hgw) hrw0 hrw1 himg (.ptr q.1 q.2 He hHe) (fun t ht => hsteps (sp e) (hmem e he) t ht))
      refine X.mono fun x W' hx => ?_
      obtain ⟨rfl, j⟩ := hx
      have hd : (decide (∃ e ∈ es'.toList, c = some (sp e).n)) = true ↔ ∃ e ∈ all, c = some e.n := by
        rw [decide_eq_true_eq]
        constructor
        · rintro ⟨e, h1, h2⟩; exact ⟨sp e, hmem e h1, h2⟩
        · rintro ⟨e, h1, h2⟩
          obtain ⟨e', h3, h4⟩ := List.mem_map.1 (hallp.subset h1)
          exact ⟨e', h3, by rw [h4]; exact h2⟩
      rw [hout _ hd]
      exact ⟨_, ρ, rfl, .tuple _ _ rfl (fun i a => by simp at a), LkJ.st Rl hgw hHw hrw0 hrw1 j⟩
    | _ => cases hr
  · cases hr
theorem runs_ok {P : Program} (hm : P.follows .mixedOrders = true) (hN : Named P) {F : Nat} {tab : RnK → RnK} (hT : TabOk P F tab) {sums : List (Nat × SmK)} (hS : SumsOk P sums) (d : Nat) (f : FuncId) : RunsOk P f (fun a h => runK (tabF tab sums) d f a h) :=
  fun args args' v h h' B ρ w hr hl R => runF_ok hm hN hT hS d f args args' v h h' B ρ w hr hl R
end Go.Gev
