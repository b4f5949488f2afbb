/- Which nodes stay: what 'cure' tells from a walk over the map of the nodes that are sound, whatever order it is walked in. -/
import Derived.Test.YtedgkbmfdniibaaGreatDoorGevLc
namespace Go.Gev
open Go.RowKit Go.Maps

/-! ### the evaluator's side -/
noncomputable section
def kpInts : List Value → Option (List Int)
  | [] => some []
  | v :: t => lkCons (keyI v) (kpInts t)
def kpIntsO : Option (List Value) → Option (List Int)
  | some xs => kpInts xs
  | none => none
def kpRow (h : Hs) : Value → Option (List Int)
  | .slice a n c => match a with
    | none => match n, c with
      | 0, 0 => some []
      | _, _ => none
    | some a => match a.spot with
      | none => match Nat.ble n 100000 with
        | true => kpIntsO (blkCells n a.off (h.hp.get a.block))
        | false => none
      | some _ => none
  | _ => none
def kpFlat : List (List Int) → List Int
  | [] => []
  | a :: t => a ++ kpFlat t
def kpHas (n : Int) : List Int → Bool
  | [] => false
  | k :: ks => orB (eqI k n) (kpHas n ks)
def kpPick1 (n : Int) (l : List Int) : Bool → List Int
  | true => l ++ [n]
  | false => l
/-- those of 1 .. N that are among them -/
def kpPick (ks : List Int) : Nat → List Int
  | 0 => []
  | N + 1 => kpPick1 (.ofNat (Nat.succ N)) (kpPick ks N) (kpHas (.ofNat (Nat.succ N)) ks)
def kpT (v : Value) : Bool := match v with
  | .bool b => b
  | _ => false
def kpTrue : List MapEntry → Bool
  | [] => true
  | e :: es => andB (kpT e.val) (kpTrue es)
def kpBsC : Option (List Int) → Option (List (List Int)) → Option (List (List Int))
  | some a, some l => some (a :: l)
  | _, _ => none
/-- nothing is turned yet -/
def kpF (h : Hs) : Hs := ⟨h.hp, h.nx, h.nx⟩
variable (RO RS RB : List Value → Hs → An) (T : Nat) (h : Hs)
def kpB2 (h1 : Hs) : An → Option (List Int)
  | some (.val v h3) => match Nat.ble h1.nx h3.lo with
    | true => kpRow h3 v
    | false => none
  | _ => none
def kpB (img : List Value) (h1 : Hs) (n : Int) : Option (List Int) := kpB2 h1 (RB [.agg img.toArray, .int .i64 n] (kpF h1))
def kpBs (img : List Value) (h1 : Hs) : List Int → Option (List (List Int))
  | [] => some []
  | n :: t => kpBsC (kpB RB img h1 n) (kpBs img h1 t)
def kpOut : List Int → An
  | [] => some (.val (.slice none 0 0) h)
  | x :: xs => some (.val (.slice (some ⟨h.nx, 0, none⟩) (Nat.succ xs.length) (Nat.succ xs.length)) (newRow h T 1 ((x :: xs).map encZ)))
def kpGo2 (ks : List Int) (N : Nat) : Option (List (List Int)) → An
  | some bss => match andB (distB eqI (kpFlat bss)) (Nat.ble (kpFlat bss).length 100000) with
    | true => kpOut T h (kpPick ks N)
    | false => none
  | none => none
def kpGo1 (img : List Value) (h1 : Hs) (N : Nat) (es : List MapEntry) (cl : Nat) : Option (List Int) → An
  | some ks => match andB (andB (bornsGood cl es) (distB eqI ks)) (andB (Nat.ble es.length 1000) (kpTrue es)) with
    | true => kpGo2 T h ks N (kpBs RB img h1 ks)
    | false => none
  | none => none
def kpMap (img : List Value) (h1 : Hs) (N : Nat) : Option Blk → An
  | some (.mp es cl) => kpGo1 RB T h img h1 N es cl (keysA keyI es)
  | _ => none
def kpSound2 (img : List Value) (h1 : Hs) (N : Nat) (h2 : Hs) : Value → An
  | .map m => match m with
    | some mid => match andB (Nat.ble h1.nx h2.lo) (Nat.ble h1.nx mid) with
      | true => kpMap RB T h img h1 N (h2.hp.get mid)
      | false => none
    | none => none
  | _ => none
def kpSound (img : List Value) (h1 : Hs) (N : Nat) : An → An
  | some (.val v h2) => kpSound2 RB T h img h1 N h2 v
  | _ => none
def kpN (img : List Value) (h1 : Hs) : Option Int → An
  | some g => match g with
    | .ofNat N => match Nat.ble N 1000 with
      | true => kpSound RB T h img h1 N (RS [.agg img.toArray] (kpF h1))
      | false => none
    | .negSucc _ => none
  | none => none
def kpImg (h1 : Hs) : List Value → An
  | [g0, g1, g2, g3, ws] => match andB (andB (isI64' g0) (isI64' g2)) (andB (isI64' g3) (isSl ws)) with
    | true => kpN RS RB T h [g0, g1, g2, g3, ws] h1 (intOf g1)
    | false => none
  | _ => none
def kpOk2 (h1 : Hs) (x : Value) : Bool → An
  | true => match x with
    | .agg ys => kpImg RS RB T h h1 ys.toList
    | _ => none
  | false => none
def kpOk (h1 : Hs) (x : Value) : Option Int → An
  | some e => kpOk2 RS RB T h h1 x (eqI e 0)
  | none => none
def kpTup (h1 : Hs) : List Value → An
  | [x, e] => kpOk RS RB T h h1 x (intOf e)
  | _ => none
def kpOpen (h1 : Hs) : Value → An
  | .tuple xs => kpTup RS RB T h h1 xs.toList
  | _ => none
def kp1 : An → An
  | some (.val v h1) => match Nat.ble h.nx h1.lo with
    | true => kpOpen RS RB T h h1 v
    | false => none
  | _ => none
end
noncomputable def keptG (RO RS RB : List Value → Hs → An) (T : Nat) (args : List Value) (h : Hs) : An := match args with
  | [l] => kp1 RS RB T h (RO [l] (kpF h))
  | _ => none

/-! ### the model's side -/
def IntsAt (w : World) (v : Value) (ks : List Int) : Prop := (ks = [] ∧ v = .slice none 0 0) ∨
  ∃ b o c, v = .slice (some ⟨b, o, none⟩) ks.length c ∧ b < w.heap.size ∧ ∀ j k, ks[j]? = some k → w.cell? ⟨b, o + j, none⟩ = some (.int .i64 k)
def SoundAt (es : Array MapEntry) (cl : Nat) (ks : List Int) : Prop := (∀ e ∈ es.toList, e.born < cl) ∧ (es.toList.map (·.born)).Nodup ∧ (∃ es2 : List MapEntry, es2.Perm es.toList ∧ es2.map (·.key) = ks.map (fun n => Value.int .i64 n)) ∧ ∀ e ∈ es.toList, e.val = .bool true
abbrev fits64 (n : Int) : Prop := -9223372036854775808 ≤ n ∧ n ≤ 9223372036854775807
/-- what the function does, in the model -/
def KeptC (P : Program) (f opn sound blocks : FuncId) (T : TypeId) : Prop :=
  ∀ (W : World) (l : Value) (N : Nat) (ks : List Int) (bs : Int → List Int), N ≤ 1000 → ks.Nodup → ks.length ≤ 1000 → (ks.flatMap bs).Nodup → (ks.flatMap bs).length ≤ 100000 → (∀ n ∈ ks, fits64 n) → (∀ n ∈ ks, ∀ b ∈ bs n, fits64 b) →
    Calls P opn #[l] W (fun x w1 => Below W.heap.size W w1 ∧ ∃ (g0 g2 g3 : Int) (wa : Option Addr) (wn wc : Nat), x = .returned (.tuple #[.agg #[.int .i64 g0, .int .i64 N, .int .i64 g2, .int .i64 g3, .slice wa wn wc], .int .i64 0]) ∧
      (∀ w, Below w1.heap.size w1 w → Calls P sound #[.agg #[.int .i64 g0, .int .i64 N, .int .i64 g2, .int .i64 g3, .slice wa wn wc]] w fun x w2 => Below w.heap.size w w2 ∧ ∃ bm es cl, x = .returned (.map (some bm)) ∧ w.heap.size ≤ bm ∧ w2.heap[bm]? = some (.map es cl) ∧ SoundAt es cl ks) ∧
      (∀ n ∈ ks, ∀ w, Below w1.heap.size w1 w → Calls P blocks #[.agg #[.int .i64 g0, .int .i64 N, .int .i64 g2, .int .i64 g3, .slice wa wn wc], .int .i64 n] w fun x w2 => Below w.heap.size w w2 ∧ ∃ v, x = .returned v ∧ IntsAt w2 v (bs n))) →
    Calls P f #[l] W fun x W' => ∃ v, x = .returned v ∧ W'.ownsRow W.heap.size T 1 v (kpPick ks N).length ((kpPick ks N).map encZ) ∧ (v = .slice none 0 0 ↔ kpPick ks N = []) ∧ Below W.heap.size W W'

/-! ### plain facts -/
theorem kpInts_ok : ∀ {xs : List Value} {ks : List Int}, kpInts xs = some ks → ks.length = xs.length ∧ ∀ (j : Nat) (k : Int), ks[j]? = some k → xs[j]? = some (Value.int .i64 k) ∧ fits64 k := by
  intro xs
  induction xs with
  | nil => intro ks h; simp only [kpInts, Option.some.injEq] at h; subst h; exact ⟨rfl, fun j k hj => by simp at hj⟩
  | cons v t ih =>
    intro ks h
    simp only [kpInts] at h
    cases hv : keyI v with
    | none => rw [hv] at h; cases h
    | some k0 =>
      cases ht : kpInts t with
      | none => rw [hv, ht] at h; cases h
      | some l =>
        rw [hv, ht] at h
        injection h with h
        subst h
        obtain ⟨i1, i2⟩ := ih ht
        obtain ⟨q1, q2, q3⟩ := keyI_in hv
        refine ⟨by simp [i1], fun j k hj => ?_⟩
        cases j with
        | zero =>
          simp only [List.getElem?_cons_zero, Option.some.injEq] at hj
          subst hj
          exact ⟨by simp [q1], q2, q3⟩
        | succ j => simpa using i2 j k (by simpa using hj)
theorem kpRow_ok {B : Nat} {ρ : Ren} {h : Hs} {w : World} (R : HR B ρ h w) {v v' : Value} {ks : List Int} (hv : VR ρ v v') (hs : kpRow h v = some ks) : IntsAt w v' ks ∧ ∀ k ∈ ks, fits64 k := by
  cases hv with
  | nilslice => simp only [kpRow, Option.some.injEq] at hs; exact ⟨.inl ⟨hs.symm, rfl⟩, fun k hk => by rw [← hs] at hk; cases hk⟩
  | slice id off n c c' H hH h1 h2 h3 h4 =>
    simp only [kpRow] at hs
    cases hb : Nat.ble n 100000 with
    | false => rw [hb] at hs; cases hs
    | true =>
      rw [hb] at hs
      have hs : kpIntsO (blkCells n off (h.hp.get id)) = some ks := hs
      cases hc : blkCells n off (h.hp.get id) with
      | none => rw [hc] at hs; cases hs
      | some xs =>
        rw [hc] at hs
        have hs : kpInts xs = some ks := hs
        obtain ⟨i1, i3⟩ := kpInts_ok hs
        obtain ⟨H', ys, e1, e2, e3, e4⟩ := R.cells hc
        rw [hH] at e1
        injection e1 with e1
        subst e1
        have hlt : H.blk < w.heap.size := by
          cases hb2 : h.hp.get id with
          | none => rw [hb2] at hc; cases hc
          | some b =>
            obtain ⟨H2, f1, f2⟩ := (R.has id b hb2).host_lt
            rw [hH] at f1; injection f1 with f1; subst f1; exact f2
        refine ⟨.inr ⟨H.blk, H.off + off, c', by rw [i1, e3], hlt, fun j k hj => ?_⟩, fun k hk => ?_⟩
        · obtain ⟨r1, _⟩ := i3 j k hj
          have hlen : ys.length = xs.length := e2.1.symm
          have hil : j < ys.length := by rw [hlen]; exact (List.getElem?_eq_some_iff.1 r1).1
          have h5 := e4 j _ (List.getElem?_eq_getElem hil)
          rw [add_block] at h5
          rw [h5, flat1_VR rfl (e2.2 j _ _ r1 (List.getElem?_eq_getElem hil))]
        · obtain ⟨j, hj⟩ := List.getElem?_of_mem hk
          exact (i3 j k hj).2
  | empty b o k a' c' h3 =>
    exfalso
    unfold kpRow at hs
    simp at hs
  | _ => cases hs
theorem kpHas_iff {n : Int} : ∀ {ks : List Int}, kpHas n ks = true ↔ n ∈ ks := by
  intro ks
  induction ks with
  | nil => simp [kpHas]
  | cons k ks ih =>
    simp only [kpHas]
    rw [show orB (eqI k n) (kpHas n ks) = (eqI k n || kpHas n ks) from by cases eqI k n <;> rfl, Bool.or_eq_true, ih, eqI_eq, beq_iff_eq, List.mem_cons]
    constructor
    · rintro (h | h)
      · exact .inl h.symm
      · exact .inr h
    · rintro (h | h)
      · exact .inl h.symm
      · exact .inr h
theorem kpPick_len (ks : List Int) : ∀ N, (kpPick ks N).length ≤ N
  | 0 => Nat.le_refl _
  | N + 1 => by
    have := kpPick_len ks N
    simp only [kpPick]
    cases kpHas (.ofNat (Nat.succ N)) ks <;> simp [kpPick1] <;> omega
theorem kpPick_succ (ks : List Int) (N : Nat) : kpPick ks (N + 1) = if ((N + 1 : Nat) : Int) ∈ ks then kpPick ks N ++ [((N + 1 : Nat) : Int)] else kpPick ks N := by
  show kpPick1 (.ofNat (Nat.succ N)) (kpPick ks N) (kpHas (.ofNat (Nat.succ N)) ks) = _
  by_cases h : ((N + 1 : Nat) : Int) ∈ ks
  · rw [if_pos h, show kpHas (.ofNat (Nat.succ N)) ks = true from kpHas_iff.2 h]; rfl
  · rw [if_neg h, show kpHas (.ofNat (Nat.succ N)) ks = false from by
      cases e : kpHas (.ofNat (Nat.succ N)) ks with
      | false => rfl
      | true => exact absurd (kpHas_iff.1 e) h]
    rfl
theorem kpTrue_mem : ∀ {es : List MapEntry}, kpTrue es = true → ∀ e ∈ es, e.val = .bool true := by
  intro es
  induction es with
  | nil => intro _ e he; cases he
  | cons a es ih =>
    intro h e he
    obtain ⟨h1, h2⟩ := andB_true h
    rcases List.mem_cons.1 he with rfl | he
    · unfold kpT at h1
      split at h1
      · rename_i b hb; subst h1; exact hb
      · cases h1
    · exact ih h2 e he
theorem kpBs_ok {RB : List Value → Hs → An} {img : List Value} {h1 : Hs} : ∀ {ks : List Int} {bss : List (List Int)}, kpBs RB img h1 ks = some bss → ∃ bs : Int → List Int, bss = ks.map bs ∧ ∀ n ∈ ks, kpB RB img h1 n = some (bs n) := by
  intro ks bss h
  refine ⟨fun n => (kpB RB img h1 n).getD [], ?_, ?_⟩
  · induction ks generalizing bss with
    | nil => simp only [kpBs, Option.some.injEq] at h; subst h; rfl
    | cons n t ih =>
      simp only [kpBs] at h
      cases h1' : kpB RB img h1 n with
      | none => rw [h1'] at h; cases h
      | some a =>
        cases h2 : kpBs RB img h1 t with
        | none => rw [h1', h2] at h; cases h
        | some l =>
          rw [h1', h2] at h
          injection h with h
          subst h
          rw [List.map_cons, ← ih h2, h1']; rfl
  · induction ks generalizing bss with
    | nil => intro n hn; cases hn
    | cons n t ih =>
      simp only [kpBs] at h
      cases h1' : kpB RB img h1 n with
      | none => rw [h1'] at h; cases h
      | some a =>
        cases h2 : kpBs RB img h1 t with
        | none => rw [h1', h2] at h; cases h
        | some l =>
          intro m hm
          rcases List.mem_cons.1 hm with rfl | hm
          · simp [h1']
          · exact ih h2 m hm
theorem kpFlat_map (bs : Int → List Int) : ∀ ks : List Int, kpFlat (ks.map bs) = ks.flatMap bs
  | [] => rfl
  | a :: t => by rw [List.map_cons, List.flatMap_cons, ← kpFlat_map bs t]; rfl

/-! ### who has a block: a map whose elements are rows of at most one -/
def lenR : Value → Option (DataW Unit × List MemPlace)
  | .slice none 0 0 => some (.lit (.int .i64 0), [])
  | .slice (some _) 1 _ => some (.lit (.int .i64 1), [])
  | _ => none
def WhoAt (w : World) (P : Program) (T b N : Nat) (bs : List Int) : Prop := ∃ D : DataW Unit, w.ownsMap P T lenR b N D ∧ IsMap D ∧ ∀ k : Int, D.atKey (.int .i64 k) (.lit (.int .i64 0)) = .lit (.int .i64 (if k ∈ bs then 1 else 0))
section
variable {P : Program} {T E TC b N : Nat} {bs : List Int} {w : World}
theorem WhoAt.made (w : World) (P : Program) (T : Nat) : WhoAt (w.alloc (.map #[] 0)) P T w.heap.size 0 [] :=
  ⟨.map [], World.ownsMap_made w P T _, isMap_empty, fun _ => by simp; rfl⟩
theorem WhoAt.fresh (h : w.heap[b]? = some (.map #[] 0)) : WhoAt w P T b 0 [] := by
  obtain ⟨D, ⟨es, cl, h1, h2, h3, h4⟩, h5, h6⟩ := WhoAt.made w P T
  rw [heap_alloc_new] at h1
  injection h1 with h1
  injection h1 with h1 h7
  subst h1 h7
  exact ⟨D, ⟨_, _, h, h2, h3, h4⟩, h5, h6⟩
theorem WhoAt.same {w' : World} (h : WhoAt w P T b N bs) (e : w'.heap[b]? = w.heap[b]?) : WhoAt w' P T b N bs := by
  obtain ⟨D, ⟨es, cl, h1, h2, h3, h4⟩, h5, h6⟩ := h
  exact ⟨D, ⟨es, cl, e.trans h1, h2, h3, h4⟩, h5, h6⟩
theorem WhoAt.mono (h : WhoAt w P T b N bs) {M : Nat} (hm : N ≤ M) : WhoAt w P T b M bs := by
  obtain ⟨D, h1, h2, h3⟩ := h
  exact ⟨D, h1.mono hm, h2, h3⟩
theorem WhoAt.lt (h : WhoAt w P T b N bs) : b < w.heap.size := by
  obtain ⟨D, h1, _⟩ := h
  exact h1.lt
theorem WhoAt.look (h : WhoAt w P T b N bs) (ht : P.underlying TC = some (.map T E)) (hT : P.underlying T = some (.int .i64)) (hz : ∀ w : World, (zeroValue E).run P w = .ok (.slice none 0 0) w) {k : Int} (hk : fits64 k) :
    ∃ a n c, (Instr.lookup TC (.map (some b)) (.int .i64 k) false).run P w = .ok (.slice a n c) w ∧ n ≤ 1 ∧ (k ∉ bs → a = none ∧ n = 0 ∧ c = 0) := by
  obtain ⟨D, hD, _, hf⟩ := h
  obtain ⟨v, ps, hrun, hv⟩ := hD.lookup (int_keyed hT) ht (hz w) (zd := .lit (.int .i64 0)) (zp := []) rfl (keyOf_int_mk hT (wf_i64 hk.1 hk.2))
  rw [hf k] at hv
  unfold lenR at hv
  split at hv
  · exact ⟨_, _, _, hrun, Nat.zero_le _, fun _ => ⟨rfl, rfl, rfl⟩⟩
  · refine ⟨_, _, _, hrun, Nat.le_refl _, fun hn => ?_⟩
    rw [if_neg hn] at hv
    simp at hv
  · cases hv
theorem WhoAt.upd (h : WhoAt w P T b N bs) (ht : P.underlying TC = some (.map T E)) (hT : P.underlying T = some (.int .i64)) (hN : N < maxLen) {k : Int} (hk : fits64 k) (a : Addr) (c : Nat) :
    ∃ w', (Instr.mapUpdate TC (.map (some b)) (.int .i64 k) (.slice (some a) 1 c)).run P w = .ok () w' ∧ WhoAt w' P T b (N + 1) (k :: bs) ∧ w.grownBy w' (some b) := by
  obtain ⟨D, hD, hm, hf⟩ := h
  obtain ⟨w', r1, r2, r3⟩ := hD.update (int_keyed hT) ht hN (keyOf_int_mk hT (wf_i64 hk.1 hk.2)) (val := .slice (some a) 1 c) (d := .lit (.int .i64 1)) (ps := []) rfl
  refine ⟨w', r1, ⟨_, r2, hm.put _ _, fun j => ?_⟩, r3⟩
  by_cases hj : j = k
  · subst hj
    rw [atKey_put_same hm (by trivial)]
    simp
  · rw [atKey_put_other (fun e => hj (by injection e)), hf j]
    simp [hj]
end
theorem look_sound {P : Program} {TS TI TB bm : Nat} {es : Array MapEntry} {cl : Nat} {ks : List Int} {w : World} (hb : w.heap[bm]? = some (.map es cl)) (hS : SoundAt es cl ks) (hks : ks.Nodup) (hlen : ks.length ≤ 1000) (hfit : ∀ n ∈ ks, fits64 n)
    (ht : P.underlying TS = some (.map TI TB)) (hT : P.underlying TI = some (.int .i64)) (hz : ∀ w : World, (zeroValue TB).run P w = .ok (.bool false) w) {k : Int} (hk : fits64 k) :
    (Instr.lookup TS (.map (some bm)) (.int .i64 k) false).run P w = .ok (.bool (decide (k ∈ ks))) w := by
  obtain ⟨h1, h2, ⟨es2, hp, hkeys⟩, hv⟩ := hS
  have hkmem : ∀ x ∈ es.toList, ∃ n ∈ ks, x.key = .int .i64 n := fun x hx => by
    have : x.key ∈ ks.map (fun n => Value.int .i64 n) := by rw [← hkeys]; exact List.mem_map_of_mem (hp.symm.subset hx)
    obtain ⟨n, hn, e⟩ := List.mem_map.1 this
    exact ⟨n, hn, e.symm⟩
  have hsize : es.size = ks.length := by
    have a := hp.length_eq
    have b := congrArg List.length hkeys
    simp at a b
    omega
  have F : Go.WideElems.Fit P TI (fun _ => some ((.nil : DataW Unit), [])) es cl := by
    refine ⟨?_, ?_, fun x hx => ?_⟩
    · rw [hsize]; unfold maxLen; omega
    · rw [MapKept.stamped_iff]
      refine ⟨h1, h2, ?_⟩
      have h3 : (es.toList.map (·.key)).Nodup := by
        refine (hp.map _).nodup_iff.1 ?_
        rw [hkeys]
        unfold List.Nodup at hks ⊢
        rw [List.pairwise_map]
        exact hks.imp fun hne e => hne (by injection e)
      unfold List.Nodup at h3
      rw [List.pairwise_map] at h3
      exact h3
    · obtain ⟨n, hn, e⟩ := hkmem x hx
      refine ⟨(.int .i64 n, .nil), ?_⟩
      simp [Go.WideElems.rd, e, keyOf_int_mk hT (wf_i64 (hfit n hn).1 (hfit n hn).2)]
  rcases Maps.fit_look false (int_keyed hT) ht (hz w) hb F (keyOf_int_mk hT (wf_i64 hk.1 hk.2)) with ⟨hrun, hno, _⟩ | ⟨e0, y, he0, hek, hrun, _⟩
  · rw [hrun]
    have : k ∉ ks := fun hm => by
      have : Value.int .i64 k ∈ es2.map (·.key) := by rw [hkeys]; exact List.mem_map_of_mem hm
      obtain ⟨x, hx, e⟩ := List.mem_map.1 this
      exact hno x (hp.subset hx) e
    simp [this]
  · rw [hrun]
    obtain ⟨n, hn, e⟩ := hkmem e0 he0
    rw [hek] at e
    injection e with _ e
    rw [hv e0 he0]
    simp [e, hn]

/-! ### the walk's invariant -/
structure KP (P : Program) (TI TW TM : TypeId) (W w1 : World) (xb vb wb bm : Nat) (cs : Array Value) (es : Array MapEntry) (cl : Nat) (pr : List Int) (M : Nat) (w : World) : Prop where
  below : Below W.heap.size W w
  below1 : Below w1.heap.size w1 w
  img : w.heap[xb]? = some (.cells cs TM (0, 0))
  var : w.heap[vb]? = some (.cells #[.map (some wb)] TW (0, 0))
  who : WhoAt w P TI wb M pr
  map : w.heap[bm]? = some (.map es cl)
section
variable {P : Program} {TI TW TM : TypeId} {W w1 w w' : World} {xb vb wb bm cl M : Nat} {cs : Array Value} {es : Array MapEntry} {pr : List Int}
theorem lt_of_get {w : World} {b : Nat} {o : Obj} (h : w.heap[b]? = some o) : b < w.heap.size := (Array.getElem?_eq_some_iff.1 h).1
theorem KP.far (h : KP P TI TW TM W w1 xb vb wb bm cs es cl pr M w) (hb : Below w.heap.size w w') : KP P TI TW TM W w1 xb vb wb bm cs es cl pr M w' :=
  ⟨h.below.trans (hb.mono h.below.size), h.below1.trans (hb.mono h.below1.size), (hb.block _ (lt_of_get h.img)).trans h.img, (hb.block _ (lt_of_get h.var)).trans h.var, h.who.same (hb.block _ h.who.lt), (hb.block _ (lt_of_get h.map)).trans h.map⟩
theorem KP.upd {pr2 : List Int} {M2 : Nat} (h : KP P TI TW TM W w1 xb vb wb bm cs es cl pr M w) (hw : WhoAt w' P TI wb M2 pr2) (hg : w.grownBy w' (some wb)) (h1 : W.heap.size ≤ wb) (h2 : w1.heap.size ≤ wb) (h3 : xb ≠ wb) (h4 : vb ≠ wb) (h5 : bm ≠ wb) : KP P TI TW TM W w1 xb vb wb bm cs es cl pr2 M2 w' :=
  ⟨h.below.grown hg h.below.size (fun k e => by injection e with e; omega), h.below1.grown hg h.below1.size (fun k e => by injection e with e; omega), (hg.block _ (lt_of_get h.img) (by simpa using h3)).trans h.img, (hg.block _ (lt_of_get h.var) (by simpa using h4)).trans h.var, hw, (hg.block _ (lt_of_get h.map) (by simpa using h5)).trans h.map⟩
theorem WhoAt.congr {T b N : Nat} {bs bs2 : List Int} (h : WhoAt w P T b N bs) (e : ∀ k, k ∈ bs ↔ k ∈ bs2) : WhoAt w P T b N bs2 := by
  obtain ⟨D, h1, h2, h3⟩ := h
  refine ⟨D, h1, h2, fun k => ?_⟩
  rw [h3 k]
  by_cases hk : k ∈ bs
  · rw [if_pos hk, if_pos ((e k).1 hk)]
  · rw [if_neg hk, if_neg fun q => hk ((e k).2 q)]
theorem KP.next {it : Nat} (h : KP P TI TW TM W w1 xb vb wb bm cs es cl pr M w) (hfar : ∀ k, k ≠ it → w'.heap[k]? = w.heap[k]?) (hbel : ∀ n, n ≤ it → Below n w w') (h1 : W.heap.size ≤ it) (h2 : w1.heap.size ≤ it) (h3 : xb ≠ it) (h4 : vb ≠ it) (h5 : wb ≠ it) (h6 : bm ≠ it) : KP P TI TW TM W w1 xb vb wb bm cs es cl pr M w' :=
  ⟨h.below.trans (hbel _ h1), h.below1.trans (hbel _ h2), (hfar _ h3).trans h.img, (hfar _ h4).trans h.var, h.who.same (hfar _ h5), (hfar _ h6).trans h.map⟩
theorem KP.grow {B4 : Nat} {row : Option Nat} (h : KP P TI TW TM W w1 xb vb wb bm cs es cl pr M w) (hg : w.grownBy w' row) (hr : ∀ k, row = some k → B4 ≤ k) (h1 : W.heap.size ≤ B4) (h2 : w1.heap.size ≤ B4) (h3 : xb < B4) (h4 : vb < B4) (h5 : wb < B4) (h6 : bm < B4) : KP P TI TW TM W w1 xb vb wb bm cs es cl pr M w' := by
  have hne : ∀ {i : Nat}, i < B4 → some i ≠ row := fun {i} hi e => by have := hr i e.symm; omega
  exact ⟨h.below.grown hg h.below.size (fun k e => by have := hr k e; omega), h.below1.grown hg h.below1.size (fun k e => by have := hr k e; omega), (hg.block _ (lt_of_get h.img) (hne h3)).trans h.img, (hg.block _ (lt_of_get h.var) (hne h4)).trans h.var, h.who.same (hg.block _ h.who.lt (hne h5)), (hg.block _ (lt_of_get h.map) (hne h6)).trans h.map⟩
theorem WhoAt.isMap {T b N : Nat} {bs : List Int} (h : WhoAt w P T b N bs) : ∃ es cl, w.heap[b]? = some (.map es cl) := by
  obtain ⟨D, ⟨es, cl, h1, _⟩, _⟩ := h
  exact ⟨es, cl, h1⟩
theorem IntsAt.far {v : Value} {xs : List Int} (h : IntsAt w v xs) (hb : Below w.heap.size w w') : IntsAt w' v xs := by
  rcases h with ⟨rfl, rfl⟩ | ⟨b, o, c, rfl, hlt, hc⟩
  · exact .inl ⟨rfl, rfl⟩
  · exact .inr ⟨b, o, c, rfl, Nat.lt_of_lt_of_le hlt hb.size, fun j k hj => (World.cell?_of_block (hb.block b hlt)).trans (hc j k hj)⟩
/-- a row of numbers is no map -/
theorem IntsAt.upd {v : Value} {xs : List Int} {T N : Nat} {bs : List Int} (h : IntsAt w v xs) (hw : WhoAt w P T wb N bs) (hs : w.heap.size ≤ w'.heap.size) (hk : ∀ i, i < w.heap.size → i ≠ wb → w'.heap[i]? = w.heap[i]?) : IntsAt w' v xs := by
  rcases h with ⟨rfl, rfl⟩ | ⟨b, o, c, rfl, hlt, hc⟩
  · exact .inl ⟨rfl, rfl⟩
  · refine .inr ⟨b, o, c, rfl, Nat.lt_of_lt_of_le hlt hs, fun j k hj => ?_⟩
    have h1 := hc j k hj
    have hne : b ≠ wb := fun e => by
      subst e
      obtain ⟨es, cl, hm⟩ := hw.isMap
      simp only [World.cell?, hm] at h1
      cases h1
    exact (World.cell?_of_block (hk b hlt hne)).trans h1
end

theorem IntsAt.cell {w : World} {a : Option Addr} {n c : Nat} {xs : List Int} (h : IntsAt w (.slice a n c) xs) {j : Nat} {k : Int} (hj : xs[j]? = some k) : ∃ b o, a = some ⟨b, o, none⟩ ∧ b < w.heap.size ∧ w.cell? ⟨b, o + j, none⟩ = some (.int .i64 k) := by
  rcases h with ⟨rfl, _⟩ | ⟨b, o, c', e, hb, hc⟩
  · simp at hj
  · injection e with e1 _ _
    exact ⟨b, o, e1, hb, hc j k hj⟩
theorem ownsRow_base {w : World} {B B' : Nat} {T : TypeId} {v : Value} {n : Nat} {xs : List Value} (h : w.ownsRow B T 1 v n xs) (hb : B' ≤ B) : w.ownsRow B' T 1 v n xs := by
  obtain ⟨h1, h2⟩ := h
  refine ⟨h1, ?_⟩
  rcases h2 with h2 | ⟨g, cap, cur, e, hg, r⟩
  · exact .inl h2
  · exact .inr ⟨g, cap, cur, e, by omega, r⟩
theorem ownsRow_far {w w' : World} {B : Nat} {T : TypeId} {v : Value} {n : Nat} {xs : List Value} (h : w.ownsRow B T 1 v n xs) (hb : Below w.heap.size w w') : w'.ownsRow B T 1 v n xs := by
  obtain ⟨h1, h2⟩ := h
  refine ⟨h1, ?_⟩
  rcases h2 with h2 | ⟨g, cap, cur, e, hg, hh, r⟩
  · exact .inl h2
  · exact .inr ⟨g, cap, cur, e, hg, (hb.block g (lt_of_get hh)).trans hh, r⟩
theorem ownBlock_ge {w : World} {B : Nat} {T : TypeId} {v : Value} {n : Nat} {xs : List Value} (h : w.ownsRow B T 1 v n xs) : ∀ k, v.ownBlock = some k → B ≤ k := fun k hk => by
  rcases h.2 with ⟨rfl, _⟩ | ⟨g, cap, cur, rfl, hg, _⟩
  · cases hk
  · simp [Value.ownBlock] at hk
    omega
theorem mem_flat_len (bs : Int → List Int) {n : Int} (ks : List Int) (h : n ∈ ks) : (bs n).length ≤ (ks.flatMap bs).length := by
  induction ks with
  | nil => cases h
  | cons a t ih =>
    rw [List.flatMap_cons, List.length_append]
    rcases List.mem_cons.1 h with rfl | h
    · omega
    · have := ih h
      omega
/-! ### the nodes that are sound -/
def keyN (e : MapEntry) : Int := match e.key with
  | .int _ n => n
  | _ => 0
theorem sound_key {es : Array MapEntry} {cl : Nat} {ks : List Int} (h : SoundAt es cl ks) : ∀ e ∈ es.toList, e.key = .int .i64 (keyN e) ∧ keyN e ∈ ks := fun e he => by
  obtain ⟨_, _, ⟨es2, hp, hkeys⟩, _⟩ := h
  have : e.key ∈ ks.map (fun n => Value.int .i64 n) := by rw [← hkeys]; exact List.mem_map_of_mem (hp.symm.subset he)
  obtain ⟨n, hn, e1⟩ := List.mem_map.1 this
  have : keyN e = n := by unfold keyN; rw [← e1]
  rw [this]
  exact ⟨e1.symm, hn⟩
theorem sound_perm {es : Array MapEntry} {cl : Nat} {ks : List Int} (h : SoundAt es cl ks) : (es.toList.map keyN).Perm ks := by
  obtain ⟨_, _, ⟨es2, hp, hkeys⟩, _⟩ := h
  have : es2.map keyN = ks := by
    have h1 : es2.map keyN = (es2.map (·.key)).map (fun v => match v with | .int _ n => n | _ => 0) := by rw [List.map_map]; rfl
    rw [h1, hkeys, List.map_map]
    conv => rhs; rw [← List.map_id ks]
    exact List.map_congr_left fun _ _ => rfl
  rw [← this]
  exact (hp.map _).symm
theorem sound_flat {es : Array MapEntry} {cl : Nat} {ks : List Int} (h : SoundAt es cl ks) (bs : Int → List Int) : (es.toList.flatMap fun e => bs (keyN e)).Perm (ks.flatMap bs) := by
  have h1 : (es.toList.flatMap fun e => bs (keyN e)) = (es.toList.map keyN).flatMap bs := by rw [List.flatMap_map]
  rw [h1]
  exact (sound_perm h).flatMap_right bs
theorem sound_next {es : Array MapEntry} {cl : Nat} {ks : List Int} (h : SoundAt es cl ks) {bs : Int → List Int} (hfl : (ks.flatMap bs).Nodup) (hfln : (ks.flatMap bs).length ≤ 100000) {ds : List MapEntry} {e : MapEntry} (hr : ∃ l, ((ds ++ [e]) ++ l).Perm es.toList) :
    ((ds.flatMap fun e => bs (keyN e)) ++ bs (keyN e)).Nodup ∧ ((ds.flatMap fun e => bs (keyN e)) ++ bs (keyN e)).length ≤ 100000 := by
  obtain ⟨l, hp⟩ := hr
  have hp2 := (hp.flatMap_right fun e => bs (keyN e)).trans (sound_flat h bs)
  rw [List.flatMap_append, List.flatMap_append] at hp2
  have hnd := hp2.symm.nodup hfl
  have hlen := hp2.length_eq
  have e1 : ([e].flatMap fun e => bs (keyN e)) = bs (keyN e) := by simp
  rw [e1] at hnd hlen
  refine ⟨(List.nodup_append.1 hnd).1, ?_⟩
  rw [List.length_append] at hlen
  omega
theorem not_taken {p xs : List Int} {j : Nat} {k : Int} (h : (p ++ xs).Nodup) (hk : xs[j]? = some k) : k ∉ p ++ xs.take j := fun hm => by
  rcases List.mem_append.1 hm with h1 | h1
  · exact (List.nodup_append.1 h).2.2 _ h1 _ (List.mem_of_getElem? hk) rfl
  · have hx := (List.nodup_append.1 h).2.1
    have hj : j < xs.length := (List.getElem?_eq_some_iff.1 hk).1
    have e : xs = xs.take j ++ xs.drop j := (List.take_append_drop j xs).symm
    rw [e] at hx
    refine (List.nodup_append.1 hx).2.2 _ h1 k ?_ rfl
    rw [List.mem_iff_getElem?]
    exact ⟨0, by rw [List.getElem?_drop]; simpa using hk⟩

/-! ### the summary -/
theorem kpF_HR {B : Nat} {ρ : Ren} {h : Hs} {w : World} (R : HR B ρ h w) : HR B ρ (kpF h) w := R.sub h.nx fun _ _ hb => hb
theorem below_of {B : Nat} {ρ ρ1 : Ren} {h h1 : Hs} {w w1 : World} (R : HR B ρ h w) (S : St B ρ h w ρ1 h1 w1) (hlo : h.nx ≤ h1.lo) : Below w.heap.size w w1 :=
  ⟨S.below.os, S.below.tape, S.below.output, S.size, fun k hk => S.frame k hk fun id x H q1 q2 q3 q4 => by
    have := R.lt q1
    omega⟩
theorem kept_sum {P : Program} {f opn sound blocks : FuncId} {T : TypeId} {RO RS RB : List Value → Hs → An} (hf : (FF P f).isSome = true) (hRO : RunsOk P opn RO) (hRS : RunsOk P sound RS) (hRB : RunsOk P blocks RB) (C : KeptC P f opn sound blocks T) : SumOk P f (keptG RO RS RB T) := by
  refine ⟨Option.isSome_iff_exists.1 hf, fun args args' v h h' B ρ w hr hl Rl => ?_⟩
  unfold keptG at hr
  split at hr
  case h_2 => cases hr
  rename_i l
  obtain ⟨l', r0, e0', hvl, hl1⟩ := hl.head
  have := hl1.nil_left
  subst this
  have harg : args' = #[l'] := by apply Array.ext'; simpa using e0'
  subst harg
  unfold kp1 at hr
  split at hr
  case h_2 => cases hr
  rename_i v1 h1 hro
  cases hlo1 : Nat.ble h.nx h1.lo with
  | false => rw [hlo1] at hr; cases hr
  | true =>
  rw [hlo1] at hr
  have hlo1 := Nat.le_of_ble_eq_true hlo1
  replace hr : kpOpen RS RB T h h1 v1 = some (.val v h') := hr
  unfold kpOpen at hr
  split at hr
  case h_2 => cases hr
  rename_i xs
  unfold kpTup at hr
  split at hr
  case h_2 => cases hr
  rename_i x e hxs
  cases he : intOf e with
  | none => rw [he] at hr; cases hr
  | some e0 =>
  rw [he] at hr
  have := intOf_some he
  subst this
  replace hr : kpOk2 RS RB T h h1 x (eqI e0 0) = some (.val v h') := hr
  cases hz : eqI e0 0 with
  | false => rw [hz] at hr; cases hr
  | true =>
  rw [hz] at hr
  rw [eqI_eq] at hz
  obtain rfl : e0 = 0 := by simpa using hz
  have hagg0 : ∃ ys, x = .agg ys ∧ kpImg RS RB T h h1 ys.toList = some (.val v h') := by
    cases x <;> first | exact ⟨_, rfl, hr⟩ | cases hr
  clear hr
  obtain ⟨ys, rfl, hr⟩ := hagg0
  unfold kpImg at hr
  split at hr
  case h_2 => cases hr
  rename_i g0 g1 g2 g3 ws hys
  cases hc0 : andB (andB (isI64' g0) (isI64' g2)) (andB (isI64' g3) (isSl ws)) with
  | false => rw [hc0] at hr; cases hr
  | true =>
  rw [hc0] at hr
  obtain ⟨z1, z2⟩ := andB_true hc0
  obtain ⟨z3, z4⟩ := andB_true z1
  obtain ⟨z5, z6⟩ := andB_true z2
  obtain ⟨n0, rfl⟩ := isI64'_some z3
  obtain ⟨n2, rfl⟩ := isI64'_some z4
  obtain ⟨n3, rfl⟩ := isI64'_some z5
  cases hg1 : intOf g1 with
  | none => rw [hg1] at hr; cases hr
  | some n1 =>
  rw [hg1] at hr
  have := intOf_some hg1
  subst this
  generalize himge : [Value.int .i64 n0, .int .i64 n1, .int .i64 n2, .int .i64 n3, ws] = img at hr hys
  cases n1 with
  | negSucc n => cases hr
  | ofNat N =>
  simp only [kpN] at hr
  cases hN : Nat.ble N 1000 with
  | false => rw [hN] at hr; cases hr
  | true =>
  rw [hN] at hr
  have hN := Nat.le_of_ble_eq_true hN
  have hs2 : ∃ v2 h2, RS [.agg img.toArray] (kpF h1) = some (.val v2 h2) ∧ kpSound2 RB T h img h1 N h2 v2 = some (.val v h') := by
    cases hq : RS [.agg img.toArray] (kpF h1) with
    | none => rw [hq] at hr; cases hr
    | some o =>
      rw [hq] at hr
      cases o with
      | val v2 h2 => exact ⟨v2, h2, rfl, hr⟩
      | fin => cases hr
  clear hr
  obtain ⟨v2, h2, hrs, hr2⟩ := hs2
  have hs3 : ∃ mid, v2 = .map (some mid) ∧ (match andB (Nat.ble h1.nx h2.lo) (Nat.ble h1.nx mid) with | true => kpMap RB T h img h1 N (h2.hp.get mid) | false => none) = some (.val v h') := by
    cases v2 with
    | map mo =>
      cases mo with
      | none => cases hr2
      | some mid => exact ⟨mid, rfl, hr2⟩
    | _ => cases hr2
  clear hr2
  obtain ⟨mid, rfl, hr⟩ := hs3
  cases hc1 : andB (Nat.ble h1.nx h2.lo) (Nat.ble h1.nx mid) with
  | false => rw [hc1] at hr; cases hr
  | true =>
  rw [hc1] at hr
  obtain ⟨hlo2, hmid⟩ := andB_true hc1
  have hlo2 := Nat.le_of_ble_eq_true hlo2
  have hmid := Nat.le_of_ble_eq_true hmid
  replace hr : kpMap RB T h img h1 N (h2.hp.get mid) = some (.val v h') := hr
  cases hbk : h2.hp.get mid with
  | none => rw [hbk] at hr; cases hr
  | some bk =>
  rw [hbk] at hr
  cases bk with
  | row => cases hr
  | it => cases hr
  | lp => cases hr
  | mp es cl =>
  replace hr : kpGo1 RB T h img h1 N es cl (keysA keyI es) = some (.val v h') := hr
  cases hks : keysA keyI es with
  | none => rw [hks] at hr; cases hr
  | some ks =>
  rw [hks] at hr
  simp only [kpGo1] at hr
  cases hck : andB (andB (bornsGood cl es) (distB eqI ks)) (andB (Nat.ble es.length 1000) (kpTrue es)) with
  | false => rw [hck] at hr; cases hr
  | true =>
  rw [hck] at hr
  obtain ⟨k1, k2⟩ := andB_true hck
  obtain ⟨k3, k4⟩ := andB_true k1
  obtain ⟨k5, k6⟩ := andB_true k2
  have k5 := Nat.le_of_ble_eq_true k5
  replace hr : kpGo2 T h ks N (kpBs RB img h1 ks) = some (.val v h') := hr
  cases hbs : kpBs RB img h1 ks with
  | none => rw [hbs] at hr; cases hr
  | some bss =>
  rw [hbs] at hr
  simp only [kpGo2] at hr
  cases hcd : andB (distB eqI (kpFlat bss)) (Nat.ble (kpFlat bss).length 100000) with
  | false => rw [hcd] at hr; cases hr
  | true =>
  rw [hcd] at hr
  obtain ⟨d1, d2⟩ := andB_true hcd
  have d2 := Nat.le_of_ble_eq_true d2
  replace hr : kpOut T h (kpPick ks N) = some (.val v h') := hr
  have hne : ∀ a b : Int, eqI a b = false → a ≠ b := fun a b hab e => by rw [eqI_eq] at hab; subst e; simp at hab
  have hksn : ks.Nodup := distB_spec hne k4
  obtain ⟨bs, hbm, hbsn⟩ := kpBs_ok hbs
  subst hbm
  rw [kpFlat_map] at d1 d2
  have hfln : (ks.flatMap bs).Nodup := distB_spec hne d1
  obtain ⟨hkm, hki⟩ := keyI_all hks
  have hklen : ks.length = es.length := by have := congrArg List.length hkm; simpa using this.symm
  have hfit : ∀ n ∈ ks, fits64 n := fun n hn => by
    have : Value.int .i64 n ∈ es.map (·.key) := by rw [hkm]; exact List.mem_map_of_mem hn
    obtain ⟨e, he, hek⟩ := List.mem_map.1 this
    obtain ⟨y, hy⟩ := keysA_some hks e he
    obtain ⟨t1, t2, t3⟩ := keyI_in hy
    rw [hek] at t1
    injection t1 with _ t1
    subst t1
    exact ⟨t2, t3⟩
  have hrow : ∀ n ∈ ks, ∃ v3 h3, RB [.agg img.toArray, .int .i64 n] (kpF h1) = some (.val v3 h3) ∧ h1.nx ≤ h3.lo ∧ kpRow h3 v3 = some (bs n) := fun n hn => by
    have hq := hbsn n hn
    unfold kpB kpB2 at hq
    split at hq
    · rename_i v3 h3 hb3
      cases hq2 : Nat.ble h1.nx h3.lo with
      | false => rw [hq2] at hq; cases hq
      | true => rw [hq2] at hq; exact ⟨v3, h3, hb3, Nat.le_of_ble_eq_true hq2, hq⟩
    · cases hq
  have hfitb : ∀ n ∈ ks, ∀ b ∈ bs n, fits64 b := fun n hn b hb => by
    obtain ⟨v3, h3, _, _, hq⟩ := hrow n hn
    -- the numbers of a row fit, whatever world
    unfold kpRow at hq
    split at hq
    · split at hq
      · split at hq
        · injection hq with hq; rw [← hq] at hb; cases hb
        · cases hq
      · split at hq
        · split at hq
          · unfold kpIntsO at hq
            split at hq
            · obtain ⟨j, hj⟩ := List.getElem?_of_mem hb
              exact ((kpInts_ok hq).2 j b hj).2
            · cases hq
          · cases hq
        · cases hq
    · cases hq
  refine (C w l' N ks bs hN hksn (by omega) hfln d2 hfit hfitb ?_).mono fun x W' hx => ?_
  · refine (hRO _ _ _ _ _ B ρ w hro hl (kpF_HR Rl)).mono fun x1 w1 hx => ?_
    obtain ⟨v1', ρ1, rfl, hv1, S1⟩ := hx
    obtain ⟨ts, rfl, hts⟩ := hv1.tuple_inv
    rw [hxs] at hts
    obtain ⟨x', r1, hr1, u0, l0⟩ := hts.head
    obtain ⟨e', r2, rfl, u1, l1⟩ := l0.head
    have := l1.nil_left
    subst this
    obtain rfl := u1.int_inv
    obtain ⟨ysl, rfl, hyl⟩ := u0.agg_inv
    have himg : VL ρ1 img ysl.toList := by rw [hys] at hyl; exact hyl
    rw [← himge] at himg
    obtain ⟨a0, t0, ht0, w0, m0⟩ := himg.head
    obtain ⟨a1, t1, rfl, w1', m1⟩ := m0.head
    obtain ⟨a2, t2, rfl, w2', m2⟩ := m1.head
    obtain ⟨a3, t3, rfl, w3', m3⟩ := m2.head
    obtain ⟨a4, t4, rfl, w4', m4⟩ := m3.head
    have := m4.nil_left
    subst this
    obtain rfl := w0.int_inv
    obtain rfl := w1'.int_inv
    obtain rfl := w2'.int_inv
    obtain rfl := w3'.int_inv
    obtain ⟨wa, wn, wc, rfl⟩ := isSl_VR z6 w4'
    have hysl : ysl = #[.int .i64 n0, .int .i64 (.ofNat N), .int .i64 n2, .int .i64 n3, .slice wa wn wc] := by apply Array.ext'; simpa using ht0
    have htsl : ts = #[.agg ysl, .int .i64 0] := by apply Array.ext'; simpa using hr1
    subst htsl
    subst hysl
    have himg2 : VL ρ1 img (#[.int .i64 n0, .int .i64 (.ofNat N), .int .i64 n2, .int .i64 n3, .slice wa wn wc] : Array Value).toList := by rw [hys] at hyl; exact hyl
    have hagg : VR ρ1 (.agg img.toArray) (.agg #[.int .i64 n0, .int .i64 (.ofNat N), .int .i64 n2, .int .i64 n3, .slice wa wn wc]) := by
      have := VR.agg_of himg2
      simpa using this
    refine ⟨below_of (kpF_HR Rl) S1 hlo1, n0, n2, n3, wa, wn, wc, rfl, fun w2 hb2 => ?_, fun n hn w2 hb2 => ?_⟩
    · have R2 : HR B ρ1 (kpF h1) w2 := kpF_HR (St.more S1.hr hb2).hr
      refine (hRS _ _ _ _ _ B ρ1 w2 hrs (.cons hagg .nil) R2).mono fun x3 w3 hx => ?_
      obtain ⟨v3', ρ3, rfl, hv3, S3⟩ := hx
      cases hv3 with
      | map _ Hm hHm =>
      obtain ⟨Hm', es', y1, _, y2, y3⟩ := S3.hr.has mid _ hbk
      rw [hHm] at y1
      injection y1 with y1
      subst y1
      obtain ⟨hlt, hnb, es2, hperm, hal⟩ := y3.align k3
      refine ⟨below_of R2 S3 hlo2, Hm.blk, es', cl, rfl, ?_, y2, hlt, hnb, ⟨es2, hperm, by rw [hal.keys, hkm]⟩, fun e he => ?_⟩
      · rcases S3.fresh mid Hm hmid hHm with p | ⟨id0, x0, H0, p1, _, _, p4, _⟩
        · exact p
        · have h9 : id0 < h1.nx := R2.lt p1
          omega
      · have hvals : ∀ {a b : List MapEntry}, MK ρ3 a b → (∀ e ∈ a, e.val = .bool true) → ∀ e ∈ b, e.val = .bool true := fun {a b} m => by
          induction m with
          | nil => intro _ e he; cases he
          | cons hk hv t ih =>
            intro ha e he
            rcases List.mem_cons.1 he with rfl | he
            · have := ha _ List.mem_cons_self
              rw [this] at hv
              exact hv.bool_inv
            · exact ih (fun e he => ha e (List.mem_cons_of_mem _ he)) e he
        exact hvals hal (kpTrue_mem k6) e (hperm.symm.subset he)
    · have R2 : HR B ρ1 (kpF h1) w2 := kpF_HR (St.more S1.hr hb2).hr
      obtain ⟨v3, h3, q1, q2, q3⟩ := hrow n hn
      refine (hRB _ _ _ _ _ B ρ1 w2 q1 (.cons hagg (.cons (.int _ _) .nil)) R2).mono fun x3 w3 hx => ?_
      obtain ⟨v3', ρ3, rfl, hv3, S3⟩ := hx
      exact ⟨below_of R2 S3 q2, v3', rfl, (kpRow_ok S3.hr hv3 q3).1⟩
  · obtain ⟨v0, rfl, hrw, hnil, hb⟩ := hx
    cases hpk : kpPick ks N with
    | nil =>
      rw [hpk] at hr hnil
      simp only [kpOut, Option.some.injEq, Out.val.injEq] at hr
      obtain ⟨rfl, rfl⟩ := hr
      rw [hnil.2 rfl]
      exact ⟨_, ρ, rfl, .nilslice, St.more Rl hb⟩
    | cons y t =>
      rw [hpk] at hr hrw
      simp only [kpOut, Option.some.injEq, Out.val.injEq] at hr
      obtain ⟨rfl, rfl⟩ := hr
      obtain ⟨ρ', p1, p2⟩ := St.ownRow Rl hb (enc := encZ) (fun ρ x => .int _ _) (fun _ => rfl) (by simp) hrw
      exact ⟨_, ρ', rfl, p1, p2⟩
end Go.Gev
