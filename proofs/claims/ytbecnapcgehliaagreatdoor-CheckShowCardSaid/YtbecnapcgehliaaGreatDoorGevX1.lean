/- More operations of the evaluator do what the model's do: bytes and strings. -/
import Derived.Test.YtbecnapcgehliaaGreatDoorGevOp8
import Derived.Lib.UnsafeStr
import Derived.Laws.BytesArg
import Derived.Laws.IdiomStrings
namespace Go.Gev
open Go.RowKit

/-! ### bytes -/
theorem byteOf_spec {v : Value} {b : UInt8} (h : byteOf v = some b) : v = .int .u8 (b.toNat : Int) := by
  cases v <;> try cases h
  case int k n =>
    cases k <;> cases n <;> simp only [byteOf] at h <;> try cases h
    rename_i m
    cases hm : Nat.ble m 255 with
    | false => rw [hm] at h; cases h
    | true =>
      rw [hm] at h
      injection h with h
      subst h
      have := Nat.le_of_ble_eq_true hm
      have e : (UInt8.ofNat m).toNat = m := by simp; omega
      rw [e]
      rfl
theorem byteVs_eq (l : List UInt8) : byteVs l = l.map fun b => Value.int .u8 (b.toNat : Int) := by
  induction l with
  | nil => rfl
  | cons b l ih => simp only [byteVs, List.map_cons, ih]; rfl
theorem bytesV_spec : ∀ {vs : List Value} {l : List UInt8}, bytesV vs = some l → vs = l.map fun b => Value.int .u8 (b.toNat : Int) := by
  intro vs
  induction vs with
  | nil => intro l h; injection h with h; subst h; rfl
  | cons v vs ih =>
    intro l h
    simp only [bytesV] at h
    cases hb : byteOf v with
    | none => rw [hb] at h; cases h
    | some b =>
      rw [hb] at h
      cases hv : bytesV vs with
      | none => rw [hv] at h; cases h
      | some bs =>
        rw [hv] at h
        injection h with h
        subst h
        rw [byteOf_spec hb, ih hv]
        rfl
/-- flat cells are the same in both memories -/
theorem VL.bytes {ρ : Ren} {l : List UInt8} {ys : List Value} (h : VL ρ (l.map fun b => Value.int .u8 (b.toNat : Int)) ys) : ys = l.map fun b => Value.int .u8 (b.toNat : Int) := by
  apply List.ext_getElem?
  intro i
  have hl := h.1
  rcases Nat.lt_or_ge i ys.length with hi | hi
  · have hi2 : i < (l.map fun b => Value.int .u8 (b.toNat : Int)).length := by omega
    rw [List.getElem?_eq_getElem hi, List.getElem?_eq_getElem hi2]
    have := (h.2 i _ _ (List.getElem?_eq_getElem hi2) (List.getElem?_eq_getElem hi))
    rw [List.getElem_map] at this ⊢
    rw [this.int_inv]
  · rw [List.getElem?_eq_none hi, List.getElem?_eq_none (by omega)]
theorem VL.bytes_refl {ρ : Ren} (l : List UInt8) : VL ρ (l.map fun b => Value.int .u8 (b.toNat : Int)) (l.map fun b => Value.int .u8 (b.toNat : Int)) :=
  ⟨rfl, fun i x y hx hy => by
    rw [hx] at hy
    injection hy with hy
    subst hy
    rw [List.getElem?_map] at hx
    cases hb : l[i]? with
    | none => rw [hb] at hx; cases hx
    | some b => rw [hb] at hx; simp at hx; subst hx; exact .int _ _⟩

section
variable {P : Program} {cx : Cx} {o : Oper}

theorem snd_toStr {s d e : TypeId} {x : Operand} {x' : GX} (ho : o.op = .convert s d x) (hs : P.underlying s = some (.slice e)) (hd : P.underlying d = some .string) (he : P.underlying e = some (.int .u8)) (hx : gx cx x = some x') : Snd P cx o (oToStr x') :=
  snd_still fun B ρ en h w a v h' E R e1 => by
    have hv := gx_VR E hx
    obtain ⟨e1, rfl⟩ := ret1_some (show ret1 h (toStr1 h (ev en x')) = _ from e1)
    refine ⟨rfl, ?_⟩
    generalize hq : a.eval x = u' at hv
    generalize ev en x' = u at hv e1
    cases u with
    | slice sa n c =>
      simp only [toStr1] at e1
      cases hr : rowOf h' 1 n sa with
      | none => rw [hr] at e1; cases e1
      | some vs =>
        rw [hr] at e1
        simp only [bytesO] at e1
        cases hb : bytesV vs with
        | none => rw [hb] at e1; cases e1
        | some l =>
          rw [hb] at e1
          simp only [strO, Option.some.injEq] at e1
          subst e1
          have hvs := bytesV_spec hb
          subst hvs
          obtain ⟨ys, a', c', rfl, hys, hlen, hcells⟩ := news_of R hv hr
          have hy := hys.bytes
          subst hy
          have hn : n = l.length := by simpa using hlen.symm
          subst hn
          refine ⟨.string ⟨l.toArray⟩, ?_, .string _⟩
          have hc : (execOp a.eval o).run P w = ((convert s d (a.eval x)).run P w).andThen fun v w => .ok (.value v) w := by
            simp [execOp, ho]
          rw [hc, hq, run_convert_bytes_string w s d e a' l.length c' hs he hd]
          cases a' with
          | none =>
            have hl : l = [] := by
              rcases hcells with h0 | ⟨a, ha, _⟩
              · exact List.eq_nil_of_length_eq_zero h0
              · cases ha
            subst hl
            rfl
          | some b =>
            have hld : (loadCells b l.length).run P w = .ok ((l.map fun b => (b.toNat : Int)).map (Value.int .u8)).toArray w := by
              have hmap : (l.map fun b => Value.int .u8 (b.toNat : Int)) = (l.map fun b => (b.toNat : Int)).map (Value.int .u8) := by simp
              rcases hcells with h0 | ⟨a, ha, hcl⟩
              · have hl : l = [] := List.eq_nil_of_length_eq_zero h0
                subst hl
                rfl
              · injection ha with ha
                subst ha
                have := run_loadCells_list (P := P) w b _ hcl
                rw [hmap] at this
                simpa using this
            rw [run_bytesToString w b l.length c' _ hld, foldl_push_byteCells]
            simp
    | _ => cases e1

/-- a new row that the model marks as a string's: it is not appended to -/
theorem step_newF {B : Nat} {ρ : Ren} {h : Hs} {w w0 : World} (R : HR B ρ h w0) (hw : w0.heap = w.heap) (hos : w.os = w0.os) (htape : w.tape = w0.tape) (hout : w.output = w0.output)
    (e : Nat) (cs : List Value) (arr : Array Value) (more : List Value) (hcs : VL ρ cs more) (hm : arr.toList.take more.length = more) (fz : Nat × Nat) (hfz : arr.size ≤ fz.1) :
    St B ρ h w0 (ρ.add h.nx ⟨w.heap.size, 0, arr.size, 0, none⟩) (newRow h e 0 cs) (w.alloc (.cells arr e fz)) := by
  have R' : HR B ρ h w := R.of_heap hw.symm
  have hnx : ρ h.nx = none := R.dom _ (Nat.le_refl _)
  have hle := Ren.le_add ⟨w.heap.size, 0, arr.size, 0, none⟩ hnx
  have S := step_new R hw hos htape hout e 0 cs arr more hcs hm
  have hold : ∀ k, k ≠ w.heap.size → (w.alloc (.cells arr e fz)).heap[k]? = (w.alloc (.cells arr e)).heap[k]? := fun k hk => by
    show (w.heap.push _)[k]? = (w.heap.push _)[k]?
    rw [Array.getElem?_push, Array.getElem?_push, if_neg (by omega), if_neg (by omega)]
  have hget : ∀ id, (newRow h e 0 cs).hp.get id = if h.nx = id then some (.row (ofList cs) cs.length e 0 true (flatL cs)) else h.hp.get id := fun id => Tr.get_set _ _ _ _
  refine ⟨⟨by have := S.hr.base; simpa using this, S.hr.dom, fun id b hb => ?_, S.hr.inj⟩, S.nx, S.le, S.old, ⟨S.below.os, S.below.tape, S.below.output, by have := S.below.size; simpa using this, fun k hk => ?_⟩, by have := S.size; simpa using this, S.lo, S.keep, S.gone, S.newrw, fun k hk hno => ?_, S.fresh⟩
  · have hBR := S.hr.has id b hb
    by_cases hid : id = h.nx
    · subst hid
      have hbb := hb
      rw [hget, if_pos rfl] at hbb
      injection hbb with hbb
      subst hbb
      obtain ⟨H, arr', fz', e1, e2, e3, e4, e5, e6, e7⟩ := hBR
      rw [Ren.add_same] at e1
      injection e1 with e1
      subst e1
      have e8 : (w.alloc (.cells arr e)).heap[w.heap.size]? = some (.cells arr e) := heap_alloc_new w _
      have e3 : (w.alloc (.cells arr e)).heap[w.heap.size]? = some (.cells arr' e fz') := e3
      rw [e8] at e3
      injection e3 with e3
      injection e3 with q1 q2 q3
      subst q1
      obtain ⟨_, p2, p3, p4, p5⟩ := e6 rfl
      exact ⟨⟨w.heap.size, 0, arr.size, 0, none⟩, arr, fz, Ren.add_same _ _ _, rfl, heap_alloc_new w _, rfl, e5, fun _ => ⟨.inr ⟨rfl, hfz⟩, rfl, p3, p4, p5⟩, e7⟩
    · refine hBR.mono (Ren.le_refl _) fun K hK => hold _ fun e' => ?_
      have hbb := hb
      rw [hget, if_neg (fun e => hid e.symm)] at hbb
      rw [Ren.add_other _ _ hid] at hK
      obtain ⟨K', h1, h2⟩ := (R'.has id b hbb).host_lt
      rw [hK] at h1
      injection h1 with h1
      subst h1
      omega
  · rw [hold k (by have := R'.base; omega)]; exact S.below.block k hk
  · rw [hold k (by rw [hw] at hk; omega)]; exact S.frame k hk hno

theorem snd_toBytes {s d e : TypeId} {x : Operand} {x' : GX} (ho : o.op = .convert s d x) (hs : P.underlying s = some .string) (hd : P.underlying d = some (.slice e)) (he : P.underlying e = some (.int .u8)) (hx : gx cx x = some x') : Snd P cx o (oToBytes e x') := by
  intro B ρ en h w a v h' E R e1
  have hv := gx_VR E hx
  simp only [oToBytes] at e1
  generalize ev en x' = u at hv e1
  cases u with
  | string s0 =>
    have hq := hv.string_inv
    simp only [toBytes1] at e1
    cases hble : Nat.ble s0.data.toList.length 70368744177664 with
    | false => rw [hble] at e1; cases e1
    | true =>
    rw [hble] at e1
    simp only [Option.some.injEq, Prod.mk.injEq] at e1
    obtain ⟨rfl, rfl⟩ := e1
    have hle := Nat.le_of_ble_eq_true hble
    have hrun := run_bytes_of_string (P := P) w s d e s0 hs hd he
    have hc : (execOp a.eval o).run P w = ((convert s d (a.eval x)).run P w).andThen fun v w => .ok (.value v) w := by
      simp only [execOp, ho, Sem.run_bind, Sem.run_pure]
    rw [hq, hrun] at hc
    have hsz : s0.data.toList.length = s0.size := Array.length_toList
    have hge := grownCap_ge w s0.size 0 e
    generalize hcap : grownCap w s0.size 0 e = cap at hc hge
    have hcm : cap ≤ maxLen := by
      rw [← hcap]
      exact grownCap_le_maxLen w s0.size 0 e (Nat.le_trans (by omega : s0.size ≤ 70368744177664) (by decide))
    refine ⟨_, _, _, .inl hc, ?_, step_newF (w := w.drew) R rfl rfl rfl rfl e (byteVs s0.data.toList) _ (byteVs s0.data.toList) (by rw [byteVs_eq]; exact VL.bytes_refl _) ?_ _ (Nat.le_refl _)⟩
    · rw [hsz]
      exact .slice h.nx 0 s0.size s0.size cap _ (Ren.add_same _ _ _) (Nat.le_refl _) hge hcm (.inl rfl)
    · rw [byteVs_eq]
      unfold bytesRow
      rw [Array.toList_append, List.take_append_of_le_length (by simp)]
      rw [List.take_of_length_le (by simp)]
      simp
  | _ => cases e1
end
end Go.Gev
