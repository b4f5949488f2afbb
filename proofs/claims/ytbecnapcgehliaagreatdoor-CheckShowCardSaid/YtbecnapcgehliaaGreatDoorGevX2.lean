/- More operations of the evaluator do what the model's do: unsafe's few, marks, what the model stands in for. -/
import Derived.Test.YtbecnapcgehliaaGreatDoorGevX1
import Derived.Lib.AppendStr
namespace Go.Gev
open Go.RowKit

/-- one row is gone; the model's block may be another -/
theorem step_drop {B : Nat} {ρ : Ren} {h : Hs} {w w' : World} (R : HR B ρ h w) {id n e u : Nat} {fl : Bool} {c : Tr Value} (hb : h.hp.get id = some (.row c n e u true fl)) {H : Host} (he : ρ id = some H)
    (hos : w'.os = w.os) (htape : w'.tape = w.tape) (hout : w'.output = w.output) (hsz : w'.heap.size = w.heap.size) (hfar : ∀ k, k ≠ H.blk → w'.heap[k]? = w.heap[k]?) :
    St B ρ h w ρ ⟨h.hp.set id none, h.nx, minN h.lo id⟩ w' := by
  obtain ⟨H0, arr, fz, he0, hu, hh, hs, hc, hr, _⟩ := R.has id _ hb
  rw [he] at he0
  injection he0 with he0
  subst he0
  obtain ⟨_, hoff, hB, hn, hiff⟩ := hr rfl
  have hget : ∀ j, (h.hp.set id none).get j = if id = j then none else h.hp.get j := fun j => Tr.get_set _ _ _ _
  have hold : ∀ j b, (h.hp.set id none).get j = some b → h.hp.get j = some b ∧ j ≠ id := fun j b hj => by
    rw [hget] at hj
    split at hj
    · cases hj
    · rename_i e; exact ⟨hj, fun e' => e e'.symm⟩
  refine ⟨⟨by rw [hsz]; exact R.base, R.dom, fun j b hj => ?_, fun j j' b b' L L' hj hj' hne hr eL eL' => ?_⟩, Nat.le_refl _, Ren.le_refl _, fun _ _ => rfl, ⟨hos, htape, hout, by rw [hsz]; exact Nat.le_refl _, fun k hk => hfar k (by omega)⟩, by rw [hsz]; exact Nat.le_refl _, minN_le_left _ _,
    fun j b hj hl => ?_, fun j b hj hjlt => ?_, fun j b hj hge => ?_, fun k hk hno => ?_, fun j L hj eL => ?_⟩
  · obtain ⟨h1, h2⟩ := hold j b hj
    refine (R.has j b h1).mono (Ren.le_refl _) fun L eL => hfar _ fun e' => ?_
    exact R.inj id j _ b H L hb h1 (fun e => h2 e.symm) rfl he eL e'.symm
  · exact R.inj j j' b b' L L' (hold j b hj).1 (hold j' b' hj').1 hne hr eL eL'
  · have := minN_le_right h.lo id
    simp only at hl
    show (h.hp.set id none).get j = _
    rw [hget, if_neg (by omega)]
    exact hj
  · exact ⟨b, (hold j b hj).1, rfl, fun _ => rfl⟩
  · have := R.lt (hold j b hj).1
    omega
  · exact hfar k (fun e1 => hno id _ H hb rfl he (minN_le_right _ _) e1.symm)
  · rw [R.dom j hj] at eL; cases eL

theorem freeze_far (w : World) (a : Addr) (n k : Nat) (hk : k ≠ a.block) : (w.freeze a n).heap[k]? = w.heap[k]? := by
  unfold World.freeze
  split
  · rfl
  · simp only [Array.getElem?_modify]
    rw [if_neg (fun e => hk e.symm)]
theorem freeze_size (w : World) (a : Addr) (n : Nat) : (w.freeze a n).heap.size = w.heap.size := by
  unfold World.freeze
  split
  · rfl
  · simp
theorem freeze_rest (w : World) (a : Addr) (n : Nat) : (w.freeze a n).os = w.os ∧ (w.freeze a n).tape = w.tape ∧ (w.freeze a n).output = w.output := by
  unfold World.freeze
  split <;> exact ⟨rfl, rfl, rfl⟩
theorem freeze_at (w : World) (g n : Nat) (arr : Array Value) (e : TypeId) (fz : Nat × Nat) (hh : w.heap[g]? = some (.cells arr e fz)) :
    (w.freeze ⟨g, n, none⟩ 1).heap[g]? = some (.cells arr e (if fz.1 == fz.2 then (n, n + 1) else (min fz.1 n, max fz.2 (n + 1)))) := by
  unfold World.freeze
  rw [if_neg (by decide)]
  simp only [Array.getElem?_modify, if_true, hh]
  rfl

section
variable {P : Program} {cx : Cx} {o : Oper}

theorem snd_mark {s e : TypeId} {x : Operand} {x' : GX} (ho : o.op = .convert s s x) (hs : P.underlying s = some (.slice e)) (he : P.underlying e = some (.int .u8)) (hx : gx cx x = some x') : Snd P cx o (oMark x') := by
  intro B ρ en h w a v h' E R e1
  have hv := gx_VR E hx
  simp only [oMark] at e1
  generalize hq : a.eval x = u' at hv
  generalize ev en x' = u at hv e1
  cases hv with
  | slice id off n c c' H h0 h1 h2 h3 h4 =>
    simp only [mark1, mark2] at e1
    cases hoff : Nat.beq off 0 with
    | false => rw [hoff] at e1; cases e1
    | true =>
      have := Nat.eq_of_beq_eq_true hoff
      subst this
      rw [hoff] at e1
      simp only at e1
      cases hb : h.hp.get id with
      | none => rw [hb] at e1; cases e1
      | some b =>
        rw [hb] at e1
        cases b with
        | mp => cases e1
        | it => cases e1
        | lp => cases e1
        | row cc sz eb ub rw_ fl =>
          cases rw_ with
          | false => cases e1
          | true =>
            simp only [mark3, Option.some.injEq, Prod.mk.injEq] at e1
            obtain ⟨rfl, rfl⟩ := e1
            obtain ⟨H0, arr, fz, he0, hu, hh, hsz, hcc, hr, hfl⟩ := R.has id _ hb
            rw [h0] at he0
            injection he0 with he0
            subst he0
            obtain ⟨hfz, hHo, hHB, hn, hiff⟩ := hr rfl
            have hshape : w.shape? H.blk = some (eb, arr.size) := by unfold World.shape?; rw [hh]
            have hrun : (execOp a.eval o).run P w = .ok (.value (.slice (some ⟨H.blk, H.off + 0, none⟩) n c')) (w.freeze ⟨H.blk, arr.size, none⟩ 1) := by
              simp [execOp, ho, hq, convert, under_run hs, under_run he, markStringish, hshape]
            refine ⟨_, _, ρ.add h.nx ⟨H.blk, 0, arr.size, 0, none⟩, .inl hrun, ?_, step_move (K := ⟨H.blk, 0, arr.size, 0, none⟩) R hb h0 (freeze_at w H.blk arr.size arr eb fz hh) ?_ rfl rfl rfl hHB (.inl rfl) (fun k _ hk => freeze_far w _ 1 k hk)
              ⟨(freeze_rest w _ 1).1, (freeze_rest w _ 1).2.1, (freeze_rest w _ 1).2.2, by rw [freeze_size]; exact Nat.le_refl _, fun k hk => freeze_far w _ 1 k (by have : B ≤ H.blk := hHB; show k ≠ H.blk; omega)⟩ hn ?_ hiff hfl⟩
            · rw [hHo]
              exact .slice h.nx 0 n c c' _ (Ren.add_same _ _ _) h1 h2 h3 (.inl rfl)
            · right
              refine ⟨rfl, ?_⟩
              rcases hfz with rfl | ⟨_, hfz⟩
              · exact Nat.le_refl _
              · split
                · exact Nat.le_refl _
                · show arr.size ≤ min fz.1 arr.size
                  omega
            · intro i v hv
              obtain ⟨v', q1, q2⟩ := hcc i v hv
              rw [hHo, Nat.zero_add] at q1
              exact ⟨v', q1, q2⟩
  | _ => cases e1

theorem isSm_some {x : Option Value} (h : isSm x = true) : ∃ v, x = some v := by cases x with | none => cases h | some v => exact ⟨v, rfl⟩
theorem snd_toUns {s d t : TypeId} {n : Nat} {x : Operand} {x' : GX} (ho : o.op = .convert s d x) (hs : P.underlying s = some (.pointer t)) (hd : P.underlying d = some .unsafePointer) (hn : sizeOfT P t = some n) (hn0 : n ≠ 0) (hx : gx cx x = some x') : Snd P cx o (oToUns x') :=
  snd_still fun B ρ en h w a v h' E R eg => by
    have hv := gx_VR E hx
    obtain ⟨e1, rfl⟩ := ret1_some (show ret1 h (toUns1 h (ev en x') (addrOf (ev en x'))) = _ from eg)
    refine ⟨rfl, ?_⟩
    cases hp : addrOf (ev en x') with
    | none => rw [hp] at e1; cases e1
    | some p =>
      rw [hp] at e1
      simp only [toUns1] at e1
      cases hi : isSm (blkCell p.2 (h'.hp.get p.1)) with
      | false => rw [hi] at e1; cases e1
      | true =>
        rw [hi] at e1
        injection e1 with e1
        obtain ⟨y, hy⟩ := isSm_some hi
        obtain ⟨H, hH, _, hax⟩ := addrOf_VR hv hp
        obtain ⟨H', v', q1, q2, q3⟩ := R.cell hy
        rw [hH] at q1
        injection q1 with q1
        subst q1
        subst e1
        refine ⟨a.eval x, ?_, hv⟩
        have hsh : ∃ e c, w.shape? H.blk = some (e, c) ∧ H.off + p.2 < c := by
          unfold World.cell? at q2
          unfold World.shape?
          cases hb : w.heap[H.blk]? with
          | none => rw [hb] at q2; cases q2
          | some b =>
            rw [hb] at q2
            cases b with
            | cells c e f =>
              simp only [Option.isSome_none, Bool.false_eq_true, if_false] at q2
              exact ⟨e, c.size, rfl, (Array.getElem?_eq_some_iff.1 q2).1⟩
            | _ => cases q2
        obtain ⟨e, c, hsh, hlt⟩ := hsh
        have hsize : (sizeOf t).run P w = .ok n w := size_run hn w
        have hge : ¬ (c ≤ H.off + p.2) := by omega
        rw [hax]
        simp [execOp, ho, hax, convert, under_run hs, under_run hd, Conv.unsafePointer, Conv.seenAt, viewAt, cellsIn, hsh, hsize, hn0, hge]
theorem snd_fromUns {s d t : TypeId} {n : Nat} {x : Operand} {x' : GX} (ho : o.op = .convert s d x) (hs : P.underlying s = some .unsafePointer) (hd : P.underlying d = some (.pointer t)) (hn : sizeOfT P t = some n) (hn0 : n ≠ 0) (hx : gx cx x = some x') : Snd P cx o (oFromUns t n x') :=
  snd_still fun B ρ en h w a v h' E R eg => by
    have hv := gx_VR E hx
    obtain ⟨e1, rfl⟩ := ret1_some (show ret1 h (fromUns1 t n h (ev en x') (addrOf (ev en x'))) = _ from eg)
    refine ⟨rfl, ?_⟩
    cases hp : addrOf (ev en x') with
    | none => rw [hp] at e1; cases e1
    | some p =>
      rw [hp] at e1
      simp only [fromUns1] at e1
      cases h0 : Nat.beq p.2 0 with
      | false => rw [h0] at e1; cases e1
      | true =>
        rw [h0] at e1
        simp only at e1
        cases hi : headOf t n (h'.hp.get p.1) with
        | false => rw [hi] at e1; cases e1
        | true =>
          rw [hi] at e1
          injection e1 with e1
          subst e1
          obtain ⟨H, hH, _, hax⟩ := addrOf_VR hv hp
          have hp0 := Nat.eq_of_beq_eq_true h0
          cases hb : h'.hp.get p.1 with
          | none => rw [hb] at hi; cases hi
          | some b =>
            rw [hb] at hi
            cases b with
            | mp => cases hi
            | it => cases hi
            | lp => cases hi
            | row c m e u rw_ fl =>
              cases rw_ with
              | false => cases hi
              | true =>
                simp only [headOf] at hi
                cases het : Nat.beq e t with
                | false => rw [het] at hi; cases hi
                | true =>
                  rw [het] at hi
                  have := Nat.eq_of_beq_eq_true het
                  subst this
                  have hle : n ≤ m := Nat.le_of_ble_eq_true hi
                  obtain ⟨H0, arr, fz, he0, hu, hh, hsz, hcc, hr, hfl⟩ := R.has p.1 _ hb
                  rw [hH] at he0
                  injection he0 with he0
                  subst he0
                  obtain ⟨hfz, hHo, hHB, hn1, hiff⟩ := hr rfl
                  refine ⟨a.eval x, ?_, hv⟩
                  have hsh : w.shape? H.blk = some (e, arr.size) := by unfold World.shape?; rw [hh]
                  have hsize : (sizeOf e).run P w = .ok n w := size_run hn w
                  have hcells : P.cellsOf e = n := by
                    unfold sizeOfT at hn
                    unfold Program.cellsOf
                    cases hinf : P.info? e with
                    | none => rw [hinf] at hn; cases hn
                    | some i => rw [hinf] at hn; injection hn
                  have hcount : 1 ≤ arr.size / n := (Nat.le_div_iff_mul_le (Nat.pos_of_ne_zero hn0)).2 (by omega)
                  have hlies : liesAt P P.depth e (arr.size / P.cellsOf e) 0 e 1 = true := by
                    have hd : P.depth = (2 * (P.types.size + Made.depth) + 1) + 1 := rfl
                    rw [hcells, hd]
                    simp only [liesAt, Bool.or_eq_true]
                    left
                    rw [hd]
                    simp [rowAt, hcells, hn0, hcount, sameLayout]
                  rw [hax, hHo, hp0]
                  simp [execOp, ho, hax, hHo, hp0, convert, under_run hs, under_run hd, Conv.unsafePointer, Conv.seenAt, viewAt, hsh, hsize, hn0, variablesAt, hlies]
theorem snd_sdata {c : Call} {x : Operand} {x' : GX} (ho : o.op = .call c) (hc : c.callee = .builtin .unsafeSliceData) (ha : c.args = #[x]) (hx : gx cx x = some x') : Snd P cx o (oSdata x') :=
  snd_still fun B ρ en h w a v h' E R eg => by
    have hv := gx_VR E hx
    obtain ⟨e1, rfl⟩ := ret1_some (show ret1 h (sdata1 (ev en x')) = _ from eg)
    refine ⟨rfl, ?_⟩
    generalize hq : a.eval x = u' at hv
    generalize ev en x' = u at hv e1
    cases hv with
    | nilslice =>
      simp only [sdata1, Option.some.injEq] at e1
      subst e1
      refine ⟨.pointer none, ?_, .nilptr⟩
      simp [execOp, ho, resolve, hc, ha, invoke, builtin, hq, Lib.run_unsafeSliceData_nil]
    | slice id off n cc c' H h0 h1 h2 h3 h4 =>
      cases n with
      | zero => cases e1
      | succ n =>
        simp only [sdata1, Option.some.injEq] at e1
        subst e1
        refine ⟨.pointer (some ⟨H.blk, H.off + off, none⟩), ?_, .ptr id off H h0⟩
        have hc0 : c' ≠ 0 := by omega
        have := Lib.run_unsafeSliceData_row (P := P) w c.argTypes o.type ⟨H.blk, H.off + off, none⟩ (n + 1) c' hc0
        simp [execOp, ho, resolve, hc, ha, invoke, builtin, hq, this]
    | empty b oo k a' c' h3 => cases e1
    | _ => cases e1

theorem cellsOf_of {P : Program} {e : TypeId} {n : Nat} (hn : sizeOfT P e = some n) : P.cellsOf e = n := by
  unfold sizeOfT at hn
  unfold Program.cellsOf
  cases hinf : P.info? e with
  | none => rw [hinf] at hn; cases hn
  | some i => rw [hinf] at hn; injection hn
theorem strO_some {x : Option (List UInt8)} {v : Value} (h : strO x = some v) : ∃ l, x = some l ∧ v = .string ⟨l.toArray⟩ := by
  cases x with
  | none => cases h
  | some l => injection h with h; exact ⟨l, rfl, h.symm⟩
theorem bytesO_some {x : Option (List Value)} {l : List UInt8} (h : bytesO x = some l) : ∃ vs, x = some vs ∧ vs = l.map fun b => Value.int .u8 (b.toNat : Int) := by
  cases x with
  | none => cases h
  | some vs => exact ⟨vs, rfl, bytesV_spec h⟩

theorem snd_ustr {c : Call} {x n : Operand} {x' n' : GX} {pt it e : TypeId} (ho : o.op = .call c) (hc : c.callee = .builtin .unsafeString) (ha : c.args = #[x, n]) (hat : c.argTypes = #[pt, it]) (hp : P.underlying pt = some (.pointer e)) (hs : sizeOfT P e = some 1) (hx : gx cx x = some x') (hn : gx cx n = some n') : Snd P cx o (oUstr e x' n') := by
  intro B ρ en h w a v h' E R eg
  have hv := gx_VR E hx
  have hnv := gx_VR E hn
  simp only [oUstr] at eg
  generalize hq : a.eval x = u' at hv
  generalize hqn : a.eval n = m' at hnv
  generalize ev en x' = u at hv eg
  generalize ev en n' = m at hnv eg
  cases hnat : nat64 m with
  | none => rw [hnat] at eg; cases u <;> cases eg
  | some k =>
    rw [hnat] at eg
    have hm : m = .int .i64 (k : Int) := by
      cases m <;> try cases hnat
      case int kd z => cases kd <;> cases z <;> simp only [nat64] at hnat <;> try cases hnat
                       rfl
    subst hm
    have hm' := hnv.int_inv
    subst hm'
    have hp1 : ∃ p, u = .pointer p := by cases u <;> first | exact ⟨_, rfl⟩ | (cases k <;> cases eg)
    obtain ⟨p, rfl⟩ := hp1
    obtain ⟨p', rfl⟩ : ∃ p', u' = .pointer p' := by cases hv <;> exact ⟨_, rfl⟩
    have hcall : (execOp a.eval o).run P w = ((Builtin.unsafeString_ #[pt, it] o.type #[.pointer p', .int .i64 (k : Int)]).run P w).andThen fun v w => .ok (.value v) w := by
      simp [execOp, ho, resolve, hc, ha, hat, invoke, builtin, hq, hqn]
    cases k with
    | zero =>
      simp only [ustr1, Option.some.injEq, Prod.mk.injEq] at eg
      obtain ⟨rfl, rfl⟩ := eg
      refine ⟨.string .empty, w, ρ, .inl ?_, .string _, St.refl R⟩
      rw [hcall]
      have := Lib.run_unsafeString_none (P := P) w pt it o.type p'
      rw [show ((0 : Nat) : Int) = 0 from rfl, this]
      rfl
    | succ k =>
      simp only [ustr1] at eg
      cases hble : Nat.ble (Nat.succ k) 9223372036854775807 with
      | false => rw [hble] at eg; cases eg
      | true =>
        rw [hble] at eg
        have hk63 := Nat.le_of_ble_eq_true hble
        cases p with
        | none => cases eg
        | some ad =>
          simp only [ustr2] at eg
          obtain ⟨bk, off, sp⟩ := ad
          cases sp with
          | some q => cases eg
          | none =>
            simp only at eg
            cases hoff : Nat.beq off 0 with
            | false => rw [hoff] at eg; cases eg
            | true =>
              have := Nat.eq_of_beq_eq_true hoff
              subst this
              rw [hoff] at eg
              simp only at eg
              cases hb : h.hp.get bk with
              | none => rw [hb] at eg; cases eg
              | some b =>
                rw [hb] at eg
                cases b with
                | mp => cases eg
                | it => cases eg
                | lp => cases eg
                | row cc sz eb ub rw_ fl =>
                  cases rw_ with
                  | false => cases eg
                  | true =>
                    simp only [ustr3] at eg
                    cases het : Nat.beq eb e with
                    | false => rw [het] at eg; cases eg
                    | true =>
                      have := Nat.eq_of_beq_eq_true het
                      subst this
                      rw [het] at eg
                      simp only [ustr4] at eg
                      cases hso : strO (bytesO (loadN cc (Nat.succ k) 0 [])) with
                      | none => rw [hso] at eg; cases eg
                      | some sv =>
                        rw [hso] at eg
                        simp only [Option.some.injEq, Prod.mk.injEq] at eg
                        obtain ⟨rfl, rfl⟩ := eg
                        obtain ⟨l, hl, rfl⟩ := strO_some hso
                        obtain ⟨vs, hvs, rfl⟩ := bytesO_some hl
                        have hbc : blkCells (Nat.succ k) 0 (h.hp.get bk) = some (l.map fun b => Value.int .u8 (b.toNat : Int)) := by rw [hb]; exact hvs
                        obtain ⟨H, ys, q1, q2, q3, q4⟩ := R.cells hbc
                        have hy := q2.bytes
                        subst hy
                        obtain ⟨H0, arr, fz, he0, hu, hh, hsz, hcc, hr, hfl⟩ := R.has bk _ hb
                        rw [q1] at he0
                        injection he0 with he0
                        subst he0
                        obtain ⟨hfz, hHo, hHB, hn1, hiff⟩ := hr rfl
                        have hlen : l.length = k + 1 := by simpa using q3
                        have hpp : p' = some ⟨H.blk, 0, none⟩ := by
                          cases hv with
                          | ptr _ _ H2 hh2 =>
                            rw [q1] at hh2
                            injection hh2 with hh2
                            subst hh2
                            rw [hHo]
                        subst hpp
                        rw [hHo] at q4
                        have hsh : w.shape? H.blk = some (eb, arr.size) := by unfold World.shape?; rw [hh]
                        have hcell : ∀ j x, l[j]? = some x → w.cell? ((⟨H.blk, 0, none⟩ : Addr).add j) = some (.int .u8 x.toNat) := fun j x hj => q4 j _ (by rw [List.getElem?_map, hj]; rfl)
                        have hfit : l.length ≤ arr.size := by
                          have h9 := q4 k (.int .u8 ((l[k]'(by omega)).toNat : Int)) (by rw [List.getElem?_map, List.getElem?_eq_getElem (by omega)]; rfl)
                          rw [add_block, Nat.zero_add, cell_of_row w H.blk k arr eb fz hh] at h9
                          have := (Array.getElem?_eq_some_iff.1 h9).1
                          omega
                        have hrun := Lib.run_unsafeString_row (P := P) w pt it o.type eb hp (cellsOf_of hs) H.blk arr.size hsh l (by intro e; subst e; simp at hlen) hfit (by omega) hcell
                        rw [hlen] at hrun
                        refine ⟨.string ⟨l.toArray⟩, w.freeze ⟨H.blk, 0, none⟩ (k + 1), ρ, .inl ?_, .string _, step_drop R hb q1 (freeze_rest w _ _).1 (freeze_rest w _ _).2.1 (freeze_rest w _ _).2.2 (freeze_size w _ _) fun j hj => freeze_far w _ _ j hj⟩
                        rw [hcall, hrun]
                        rfl
end
end Go.Gev
