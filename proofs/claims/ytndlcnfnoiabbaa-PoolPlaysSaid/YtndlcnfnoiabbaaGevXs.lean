/- More operations of the evaluator do what the model's do: bytes and strings. -/
import Derived.Test.YtndlcnfnoiabbaaGevOps
import Derived.Lib.UnsafeStr
import Derived.Laws.BytesArg
import Derived.Laws.IdiomStrings
import Derived.Lib.AppendStr
import Derived.Laws.Externs
import Derived.KernelRfl
import Derived.Lib.Bytealg
import Derived.Room.MakeNoZero
import Derived.Maps.RangeRun
namespace Go.Gev
open Go.RowKit
theorem byteOf_spec {v : Value} {b : UInt8} (h : byteOf v = some b) : v = .int .u8 (b.toNat : Int) := by
 cases v <;> try cases h
 case int k n =>
  cases k <;> cases n <;> simp only [byteOf] at h <;> try cases h
  rename_i m
  cases hm : Nat.ble m 255 with
  | false => rw [hm] at h; cases h
  | true =>
   rw [hm] at h
   injection h with h
   subst h
   have := Nat.le_of_ble_eq_true hm
   have e : (UInt8.ofNat m).toNat = m := by simp; omega
   rw [e]
   rfl
theorem byteVs_eq (l : List UInt8) : byteVs l = l.map fun b => Value.int .u8 (b.toNat : Int) := by
 induction l with
 | nil => rfl
 | cons b l ih => simp only [byteVs, List.map_cons, ih]; rfl
theorem bytesV_spec : ∀ {vs : List Value} {l : List UInt8}, bytesV vs = some l → vs = l.map fun b => Value.int .u8 (b.toNat : Int) := by
 intro vs
 induction vs with
 | nil => intro l h; injection h with h; subst h; rfl
 | cons v vs ih =>
  intro l h
  simp only [bytesV] at h
  cases hb : byteOf v with
  | none => rw [hb] at h; cases h
  | some b =>
   rw [hb] at h
   cases hv : bytesV vs with
   | none => rw [hv] at h; cases h
   | some bs =>
    rw [hv] at h
    injection h with h
    subst h
    rw [byteOf_spec hb, ih hv]
    rfl
theorem VL.bytes {ρ : Ren} {l : List UInt8} {ys : List Value} (h : VL ρ (l.map fun b => Value.int .u8 (b.toNat : Int)) ys) : ys = l.map fun b => Value.int .u8 (b.toNat : Int) := by
 apply List.ext_getElem?
 intro i
 have hl := h.1
 rcases Nat.lt_or_ge i ys.length with hi | hi
 ·have hi2 : i < (l.map fun b => Value.int .u8 (b.toNat : Int)).length := by omega
  rw [List.getElem?_eq_getElem hi, List.getElem?_eq_getElem hi2]
  have := (h.2 i _ _ (List.getElem?_eq_getElem hi2) (List.getElem?_eq_getElem hi))
  rw [List.getElem_map] at this ⊢
  rw [this.int_inv]
 ·rw [List.getElem?_eq_none hi, List.getElem?_eq_none (by omega)]
theorem VL.bytes_refl {ρ : Ren} (l : List UInt8) : VL ρ (l.map fun b => Value.int .u8 (b.toNat : Int)) (l.map fun b => Value.int .u8 (b.toNat : Int)) :=
 ⟨rfl, fun i x y hx hy => by
  rw [hx] at hy
  injection hy with hy
  subst hy
  rw [List.getElem?_map] at hx
  cases hb : l[i]? with
  | none => rw [hb] at hx; cases hx
  | some b => rw [hb] at hx; simp at hx; subst hx; exact .int _ _⟩
section
variable {P : Program} {cx : Cx} {o : Oper}
theorem snd_toStr {s d e : TypeId} {x : Operand} {x' : GX} (ho : o.op = .convert s d x) (hs : P.underlying s = some (.slice e)) (hd : P.underlying d = some .string) (he : P.underlying e = some (.int .u8)) (hx : gx cx x = some x') : Snd P cx o (oToStr x') :=
 snd_still fun B ρ en h w a v h' E R e1 => by
  have hv := gx_VR E hx
  obtain ⟨e1, rfl⟩ := ret1_some (show ret1 h (toStr1 h (ev en x')) = _ from e1)
  refine ⟨rfl, ?_⟩
  generalize hq : a.eval x = u' at hv
  generalize ev en x' = u at hv e1
  cases u with
  | slice sa n c =>
   simp only [toStr1] at e1
   cases hr : rowOf h' 1 n sa with
   | none => rw [hr] at e1; cases e1
   | some vs =>
    rw [hr] at e1
    simp only [bytesO] at e1
    cases hb : bytesV vs with
    | none => rw [hb] at e1; cases e1
    | some l =>
     rw [hb] at e1
     simp only [strO, Option.some.injEq] at e1
     subst e1
     have hvs := bytesV_spec hb
     subst hvs
     obtain ⟨ys, a', c', rfl, hys, hlen, hcells⟩ := news_of R hv hr
     have hy := hys.bytes
     subst hy
     have hn : n = l.length := by simpa using hlen.symm
     subst hn
     refine ⟨.string ⟨l.toArray⟩, ?_, .string _⟩
     have hc : (execOp a.eval o).run P w = ((convert s d (a.eval x)).run P w).andThen fun v w => .ok (.value v) w := by
      simp [execOp, ho]
     rw [hc, hq, run_convert_bytes_string w s d e a' l.length c' hs he hd]
     cases a' with
     | none =>
      have hl : l = [] := by
       rcases hcells with h0 | ⟨a, ha, _⟩
       ·exact List.eq_nil_of_length_eq_zero h0
       ·cases ha
      subst hl
      rfl
     | some b =>
      have hld : (loadCells b l.length).run P w = .ok ((l.map fun b => (b.toNat : Int)).map (Value.int .u8)).toArray w := by
       have hmap : (l.map fun b => Value.int .u8 (b.toNat : Int)) = (l.map fun b => (b.toNat : Int)).map (Value.int .u8) := by simp
       rcases hcells with h0 | ⟨a, ha, hcl⟩
       ·have hl : l = [] := List.eq_nil_of_length_eq_zero h0
        subst hl
        rfl
       ·injection ha with ha
        subst ha
        have := run_loadCells_list (P := P) w b _ hcl
        rw [hmap] at this
        simpa using this
      rw [run_bytesToString w b l.length c' _ hld, foldl_push_byteCells]
      simp
  | _ => cases e1
theorem step_newF {B : Nat} {ρ : Ren} {h : Hs} {w w0 : World} (R : HR B ρ h w0) (hw : w0.heap = w.heap) (hos : w.os = w0.os) (htape : w.tape = w0.tape) (hout : w.output = w0.output)
 (e un : Nat) (cs : List Value) (arr : Array Value) (more : List Value) (hcs : VL ρ cs more) (hm : arr.toList.take more.length = more) (fz : Nat × Nat) (hfz : arr.size ≤ fz.1) :
 St B ρ h w0 (ρ.add h.nx ⟨w.heap.size, 0, arr.size, un, none⟩) (newRow h e un cs) (w.alloc (.cells arr e fz)) := by
 have R' : HR B ρ h w := R.of_heap hw.symm
 have hnx : ρ h.nx = none := R.dom _ (Nat.le_refl _)
 have hle := Ren.le_add ⟨w.heap.size, 0, arr.size, un, none⟩ hnx
 have S := step_new R hw hos htape hout e un cs arr more hcs hm
 have hold : ∀ k, k ≠ w.heap.size → (w.alloc (.cells arr e fz)).heap[k]? = (w.alloc (.cells arr e)).heap[k]? := fun k hk => by
  show (w.heap.push _)[k]? = (w.heap.push _)[k]?
  rw [Array.getElem?_push, Array.getElem?_push, if_neg (by omega), if_neg (by omega)]
 have hget : ∀ id, (newRow h e un cs).hp.get id = if h.nx = id then some (.row (ofList cs) cs.length e un true (flatL cs)) else h.hp.get id := fun id => Tr.get_set _ _ _ _
 refine ⟨⟨by have := S.hr.base; simpa using this, S.hr.dom, fun id b hb => ?_, S.hr.inj⟩, S.nx, S.le, S.old, ⟨S.below.os, S.below.tape, S.below.output, by have := S.below.size; simpa using this, fun k hk => ?_⟩, by have := S.size; simpa using this, S.lo, S.keep, S.gone, S.newrw, fun k hk hno => ?_, S.fresh⟩
 ·have hBR := S.hr.has id b hb
  by_cases hid : id = h.nx
  ·subst hid
   have hbb := hb
   rw [hget, if_pos rfl] at hbb
   injection hbb with hbb
   subst hbb
   obtain ⟨H, arr', fz', e1, e2, e3, e4, e5, e6, e7⟩ := hBR
   rw [Ren.add_same] at e1
   injection e1 with e1
   subst e1
   have e8 : (w.alloc (.cells arr e)).heap[w.heap.size]? = some (.cells arr e) := heap_alloc_new w _
   have e3 : (w.alloc (.cells arr e)).heap[w.heap.size]? = some (.cells arr' e fz') := e3
   rw [e8] at e3
   injection e3 with e3
   injection e3 with q1 q2 q3
   subst q1
   obtain ⟨_, p2, p3, p4, p5⟩ := e6 rfl
   exact ⟨⟨w.heap.size, 0, arr.size, un, none⟩, arr, fz, Ren.add_same _ _ _, rfl, heap_alloc_new w _, rfl, e5, fun _ => ⟨.inr hfz, rfl, p3, p4, p5⟩, e7⟩
  ·refine hBR.mono (Ren.le_refl _) fun K hK => hold _ fun e' => ?_
   have hbb := hb
   rw [hget, if_neg (fun e => hid e.symm)] at hbb
   rw [Ren.add_other _ _ hid] at hK
   obtain ⟨K', h1, h2⟩ := (R'.has id b hbb).host_lt
   rw [hK] at h1
   injection h1 with h1
   subst h1
   omega
 ·rw [hold k (by have := R'.base; omega)]; exact S.below.block k hk
 ·rw [hold k (by rw [hw] at hk; omega)]; exact S.frame k hk hno
theorem snd_toBytes {s d e : TypeId} {x : Operand} {x' : GX} (ho : o.op = .convert s d x) (hs : P.underlying s = some .string) (hd : P.underlying d = some (.slice e)) (he : P.underlying e = some (.int .u8)) (hx : gx cx x = some x') : Snd P cx o (oToBytes e x') := by
 intro B ρ en h w a v h' E R e1
 have hv := gx_VR E hx
 simp only [oToBytes] at e1
 generalize ev en x' = u at hv e1
 cases u with
 | string s0 =>
  have hq := hv.string_inv
  simp only [toBytes1] at e1
  cases hble : Nat.ble s0.data.toList.length 70368744177664 with
  | false => rw [hble] at e1; cases e1
  | true =>
  rw [hble] at e1
  simp only [Option.some.injEq, Prod.mk.injEq] at e1
  obtain ⟨rfl, rfl⟩ := e1
  have hle := Nat.le_of_ble_eq_true hble
  have hrun := run_bytes_of_string (P := P) w s d e s0 hs hd he
  have hc : (execOp a.eval o).run P w = ((convert s d (a.eval x)).run P w).andThen fun v w => .ok (.value v) w := by
   simp only [execOp, ho, Sem.run_bind, Sem.run_pure]
  rw [hq, hrun] at hc
  have hsz : s0.data.toList.length = s0.size := Array.length_toList
  have hge := grownCap_ge w s0.size 0 e
  generalize hcap : grownCap w s0.size 0 e = cap at hc hge
  have hcm : cap ≤ maxLen := by
   rw [← hcap]
   exact grownCap_le_maxLen w s0.size 0 e (Nat.le_trans (by omega : s0.size ≤ 70368744177664) (by decide))
  refine ⟨_, _, _, .inl hc, ?_, step_newF (w := w.drew) R rfl rfl rfl rfl e 1 (byteVs s0.data.toList) _ (byteVs s0.data.toList) (by rw [byteVs_eq]; exact VL.bytes_refl _) ?_ _ (Nat.le_refl _)⟩
  ·rw [hsz]
   exact .slice h.nx 0 s0.size s0.size cap _ (Ren.add_same _ _ _) (Nat.le_refl _) hge hcm (.inr (by unfold bytesRow; simp; omega))
  ·rw [byteVs_eq]
   unfold bytesRow
   rw [Array.toList_append, List.take_append_of_le_length (by simp)]
   rw [List.take_of_length_le (by simp)]
   simp
 | _ => cases e1
end
end Go.Gev
namespace Go.Gev
open Go.RowKit
theorem step_drop {B : Nat} {ρ : Ren} {h : Hs} {w w' : World} (R : HR B ρ h w) {id n e u : Nat} {fl : Bool} {c : Tr Value} (hb : h.hp.get id = some (.row c n e u true fl)) {H : Host} (he : ρ id = some H)
 (hos : w'.os = w.os) (htape : w'.tape = w.tape) (hout : w'.output = w.output) (hsz : w'.heap.size = w.heap.size) (hfar : ∀ k, k ≠ H.blk → w'.heap[k]? = w.heap[k]?) :
 St B ρ h w ρ ⟨h.hp.set id none, h.nx, minN h.lo id⟩ w' := by
 obtain ⟨H0, arr, fz, he0, hu, hh, hs, hc, hr, _⟩ := R.has id _ hb
 rw [he] at he0
 injection he0 with he0
 subst he0
 obtain ⟨_, hoff, hB, hn, hiff⟩ := hr rfl
 have hget : ∀ j, (h.hp.set id none).get j = if id = j then none else h.hp.get j := fun j => Tr.get_set _ _ _ _
 have hold : ∀ j b, (h.hp.set id none).get j = some b → h.hp.get j = some b ∧ j ≠ id := fun j b hj => by
  rw [hget] at hj
  split at hj
  ·cases hj
  ·rename_i e; exact ⟨hj, fun e' => e e'.symm⟩
 refine ⟨⟨by rw [hsz]; exact R.base, R.dom, fun j b hj => ?_, fun j j' b b' L L' hj hj' hne hr eL eL' => ?_⟩, Nat.le_refl _, Ren.le_refl _, fun _ _ => rfl, ⟨hos, htape, hout, by rw [hsz]; exact Nat.le_refl _, fun k hk => hfar k (by omega)⟩, by rw [hsz]; exact Nat.le_refl _, minN_le_left _ _,
  fun j b hj hl => ?_, fun j b hj hjlt => ?_, fun j b hj hge => ?_, fun k hk hno => ?_, fun j L hj eL => ?_⟩
 ·obtain ⟨h1, h2⟩ := hold j b hj
  refine (R.has j b h1).mono (Ren.le_refl _) fun L eL => hfar _ fun e' => ?_
  exact R.inj id j _ b H L hb h1 (fun e => h2 e.symm) rfl he eL e'.symm
 ·exact R.inj j j' b b' L L' (hold j b hj).1 (hold j' b' hj').1 hne hr eL eL'
 ·have := minN_le_right h.lo id
  simp only at hl
  show (h.hp.set id none).get j = _
  rw [hget, if_neg (by omega)]
  exact hj
 ·exact ⟨b, (hold j b hj).1, rfl, fun _ => rfl⟩
 ·have := R.lt (hold j b hj).1
  omega
 ·exact hfar k (fun e1 => hno id _ H hb rfl he (minN_le_right _ _) e1.symm)
 ·rw [R.dom j hj] at eL; cases eL
theorem freeze_far (w : World) (a : Addr) (n k : Nat) (hk : k ≠ a.block) : (w.freeze a n).heap[k]? = w.heap[k]? := by
 unfold World.freeze
 split
 ·rfl
 ·simp only [Array.getElem?_modify]
  rw [if_neg (fun e => hk e.symm)]
theorem freeze_size (w : World) (a : Addr) (n : Nat) : (w.freeze a n).heap.size = w.heap.size := by
 unfold World.freeze
 split
 ·rfl
 ·simp
theorem freeze_rest (w : World) (a : Addr) (n : Nat) : (w.freeze a n).os = w.os ∧ (w.freeze a n).tape = w.tape ∧ (w.freeze a n).output = w.output := by
 unfold World.freeze
 split <;> exact ⟨rfl, rfl, rfl⟩
theorem freeze_at (w : World) (g n : Nat) (arr : Array Value) (e : TypeId) (fz : Nat × Nat) (hh : w.heap[g]? = some (.cells arr e fz)) :
 (w.freeze ⟨g, n, none⟩ 1).heap[g]? = some (.cells arr e (if fz.1 == fz.2 then (n, n + 1) else (min fz.1 n, max fz.2 (n + 1)))) := by
 unfold World.freeze
 rw [if_neg (by decide)]
 simp only [Array.getElem?_modify, if_true, hh]
 rfl
section
variable {P : Program} {cx : Cx} {o : Oper}
theorem snd_mark {s e : TypeId} {x : Operand} {x' : GX} (ho : o.op = .convert s s x) (hs : P.underlying s = some (.slice e)) (he : P.underlying e = some (.int .u8)) (hx : gx cx x = some x') : Snd P cx o (oMark x') := by
 intro B ρ en h w a v h' E R e1
 have hv := gx_VR E hx
 simp only [oMark] at e1
 generalize hq : a.eval x = u' at hv
 generalize ev en x' = u at hv e1
 cases hv with
 | slice id off n c c' H h0 h1 h2 h3 h4 =>
  simp only [mark1, mark2] at e1
  cases hoff : Nat.beq off 0 with
  | false => rw [hoff] at e1; cases e1
  | true =>
   have := Nat.eq_of_beq_eq_true hoff
   subst this
   rw [hoff] at e1
   simp only at e1
   cases hb : h.hp.get id with
   | none => rw [hb] at e1; cases e1
   | some b =>
    rw [hb] at e1
    cases b with
    | mp => cases e1
    | it => cases e1
    | lp => cases e1
    | row cc sz eb ub rw_ fl =>
     cases rw_ with
     | false => cases e1
     | true =>
      simp only [mark3, Option.some.injEq, Prod.mk.injEq] at e1
      obtain ⟨rfl, rfl⟩ := e1
      obtain ⟨H0, arr, fz, he0, hu, hh, hsz, hcc, hr, hfl⟩ := R.has id _ hb
      rw [h0] at he0
      injection he0 with he0
      subst he0
      obtain ⟨hfz, hHo, hHB, hn, hiff⟩ := hr rfl
      have hshape : w.shape? H.blk = some (eb, arr.size) := by unfold World.shape?; rw [hh]
      have hrun : (execOp a.eval o).run P w = .ok (.value (.slice (some ⟨H.blk, H.off + 0, none⟩) n c')) (w.freeze ⟨H.blk, arr.size, none⟩ 1) := by
       simp [execOp, ho, hq, convert, under_run hs, under_run he, markStringish, hshape]
      refine ⟨_, _, ρ.add h.nx ⟨H.blk, 0, arr.size, 0, none⟩, .inl hrun, ?_, step_move (K := ⟨H.blk, 0, arr.size, 0, none⟩) R hb h0 (freeze_at w H.blk arr.size arr eb fz hh) ?_ rfl rfl rfl hHB (.inl rfl) (fun k _ hk => freeze_far w _ 1 k hk)
       ⟨(freeze_rest w _ 1).1, (freeze_rest w _ 1).2.1, (freeze_rest w _ 1).2.2, by rw [freeze_size]; exact Nat.le_refl _, fun k hk => freeze_far w _ 1 k (by have : B ≤ H.blk := hHB; show k ≠ H.blk; omega)⟩ hn ?_ hiff hfl⟩
      ·rw [hHo]
       exact .slice h.nx 0 n c c' _ (Ren.add_same _ _ _) h1 h2 h3 (.inl rfl)
      ·right
       rcases hfz with rfl | hfz
       ·exact Nat.le_refl _
       ·split
        ·exact Nat.le_refl _
        ·show arr.size ≤ min fz.1 arr.size
         omega
      ·intro i v hv
       obtain ⟨v', q1, q2⟩ := hcc i v hv
       rw [hHo, Nat.zero_add] at q1
       exact ⟨v', q1, q2⟩
 | _ => cases e1
theorem isSm_some {x : Option Value} (h : isSm x = true) : ∃ v, x = some v := by cases x with | none => cases h | some v => exact ⟨v, rfl⟩
theorem snd_toUns {s d t : TypeId} {n : Nat} {x : Operand} {x' : GX} (ho : o.op = .convert s d x) (hs : P.underlying s = some (.pointer t)) (hd : P.underlying d = some .unsafePointer) (hn : sizeOfT P t = some n) (hn0 : n ≠ 0) (hx : gx cx x = some x') : Snd P cx o (oToUns x') :=
 snd_still fun B ρ en h w a v h' E R eg => by
  have hv := gx_VR E hx
  obtain ⟨e1, rfl⟩ := ret1_some (show ret1 h (toUns1 h (ev en x') (addrOf (ev en x'))) = _ from eg)
  refine ⟨rfl, ?_⟩
  cases hp : addrOf (ev en x') with
  | none => rw [hp] at e1; cases e1
  | some p =>
   rw [hp] at e1
   simp only [toUns1] at e1
   cases hi : isSm (blkCell p.2 (h'.hp.get p.1)) with
   | false => rw [hi] at e1; cases e1
   | true =>
    rw [hi] at e1
    injection e1 with e1
    obtain ⟨y, hy⟩ := isSm_some hi
    obtain ⟨H, hH, _, hax⟩ := addrOf_VR hv hp
    obtain ⟨H', v', q1, q2, q3⟩ := R.cell hy
    rw [hH] at q1
    injection q1 with q1
    subst q1
    subst e1
    refine ⟨a.eval x, ?_, hv⟩
    have hsh : ∃ e c, w.shape? H.blk = some (e, c) ∧ H.off + p.2 < c := by
     unfold World.cell? at q2
     unfold World.shape?
     cases hb : w.heap[H.blk]? with
     | none => rw [hb] at q2; cases q2
     | some b =>
      rw [hb] at q2
      cases b with
      | cells c e f =>
       simp only [Option.isSome_none, Bool.false_eq_true, if_false] at q2
       exact ⟨e, c.size, rfl, (Array.getElem?_eq_some_iff.1 q2).1⟩
      | _ => cases q2
    obtain ⟨e, c, hsh, hlt⟩ := hsh
    have hsize : (sizeOf t).run P w = .ok n w := size_run hn w
    have hge : ¬ (c ≤ H.off + p.2) := by omega
    rw [hax]
    simp [execOp, ho, hax, convert, under_run hs, under_run hd, Conv.unsafePointer, Conv.seenAt, viewAt, cellsIn, hsh, hsize, hn0, hge]
theorem snd_fromUns {s d t : TypeId} {n : Nat} {x : Operand} {x' : GX} (ho : o.op = .convert s d x) (hs : P.underlying s = some .unsafePointer) (hd : P.underlying d = some (.pointer t)) (hn : sizeOfT P t = some n) (hn0 : n ≠ 0) (hx : gx cx x = some x') : Snd P cx o (oFromUns t n x') :=
 snd_still fun B ρ en h w a v h' E R eg => by
  have hv := gx_VR E hx
  obtain ⟨e1, rfl⟩ := ret1_some (show ret1 h (fromUns1 t n h (ev en x') (addrOf (ev en x'))) = _ from eg)
  refine ⟨rfl, ?_⟩
  cases hp : addrOf (ev en x') with
  | none => rw [hp] at e1; cases e1
  | some p =>
   rw [hp] at e1
   simp only [fromUns1] at e1
   cases h0 : Nat.beq p.2 0 with
   | false => rw [h0] at e1; cases e1
   | true =>
    rw [h0] at e1
    simp only at e1
    cases hi : headOf t n (h'.hp.get p.1) with
    | false => rw [hi] at e1; cases e1
    | true =>
     rw [hi] at e1
     injection e1 with e1
     subst e1
     obtain ⟨H, hH, _, hax⟩ := addrOf_VR hv hp
     have hp0 := Nat.eq_of_beq_eq_true h0
     cases hb : h'.hp.get p.1 with
     | none => rw [hb] at hi; cases hi
     | some b =>
      rw [hb] at hi
      cases b with
      | mp => cases hi
      | it => cases hi
      | lp => cases hi
      | row c m e u rw_ fl =>
       cases rw_ with
       | false => cases hi
       | true =>
        simp only [headOf] at hi
        cases het : Nat.beq e t with
        | false => rw [het] at hi; cases hi
        | true =>
         rw [het] at hi
         have := Nat.eq_of_beq_eq_true het
         subst this
         have hle : n ≤ m := Nat.le_of_ble_eq_true hi
         obtain ⟨H0, arr, fz, he0, hu, hh, hsz, hcc, hr, hfl⟩ := R.has p.1 _ hb
         rw [hH] at he0
         injection he0 with he0
         subst he0
         obtain ⟨hfz, hHo, hHB, hn1, hiff⟩ := hr rfl
         refine ⟨a.eval x, ?_, hv⟩
         have hsh : w.shape? H.blk = some (e, arr.size) := by unfold World.shape?; rw [hh]
         have hsize : (sizeOf e).run P w = .ok n w := size_run hn w
         have hcells : P.cellsOf e = n := by
          unfold sizeOfT at hn
          unfold Program.cellsOf
          cases hinf : P.info? e with
          | none => rw [hinf] at hn; cases hn
          | some i => rw [hinf] at hn; injection hn
         have hcount : 1 ≤ arr.size / n := (Nat.le_div_iff_mul_le (Nat.pos_of_ne_zero hn0)).2 (by omega)
         have hlies : liesAt P P.depth e (arr.size / P.cellsOf e) 0 e 1 = true := by
          have hd : P.depth = (2 * (P.types.size + Made.depth) + 1) + 1 := rfl
          rw [hcells, hd]
          simp only [liesAt, Bool.or_eq_true]
          left
          rw [hd]
          simp [rowAt, hcells, hn0, hcount, sameLayout]
         rw [hax, hHo, hp0]
         simp [execOp, ho, hax, hHo, hp0, convert, under_run hs, under_run hd, Conv.unsafePointer, Conv.seenAt, viewAt, hsh, hsize, hn0, variablesAt, hlies]
theorem snd_sdata {c : Call} {x : Operand} {x' : GX} (ho : o.op = .call c) (hc : c.callee = .builtin .unsafeSliceData) (ha : c.args = #[x]) (hx : gx cx x = some x') : Snd P cx o (oSdata x') :=
 snd_still fun B ρ en h w a v h' E R eg => by
  have hv := gx_VR E hx
  obtain ⟨e1, rfl⟩ := ret1_some (show ret1 h (sdata1 (ev en x')) = _ from eg)
  refine ⟨rfl, ?_⟩
  generalize hq : a.eval x = u' at hv
  generalize ev en x' = u at hv e1
  cases hv with
  | nilslice =>
   simp only [sdata1, Option.some.injEq] at e1
   subst e1
   refine ⟨.pointer none, ?_, .nilptr⟩
   simp [execOp, ho, resolve, hc, ha, invoke, builtin, hq, Lib.run_unsafeSliceData_nil]
  | slice id off n cc c' H h0 h1 h2 h3 h4 =>
   cases n with
   | zero => cases e1
   | succ n =>
    simp only [sdata1, Option.some.injEq] at e1
    subst e1
    refine ⟨.pointer (some ⟨H.blk, H.off + off, none⟩), ?_, .ptr id off H h0⟩
    have hc0 : c' ≠ 0 := by omega
    have := Lib.run_unsafeSliceData_row (P := P) w c.argTypes o.type ⟨H.blk, H.off + off, none⟩ (n + 1) c' hc0
    simp [execOp, ho, resolve, hc, ha, invoke, builtin, hq, this]
  | empty b oo k a' c' h3 => cases e1
  | _ => cases e1
theorem cellsOf_of {P : Program} {e : TypeId} {n : Nat} (hn : sizeOfT P e = some n) : P.cellsOf e = n := by
 unfold sizeOfT at hn
 unfold Program.cellsOf
 cases hinf : P.info? e with
 | none => rw [hinf] at hn; cases hn
 | some i => rw [hinf] at hn; injection hn
theorem strO_some {x : Option (List UInt8)} {v : Value} (h : strO x = some v) : ∃ l, x = some l ∧ v = .string ⟨l.toArray⟩ := by
 cases x with
 | none => cases h
 | some l => injection h with h; exact ⟨l, rfl, h.symm⟩
theorem bytesO_some {x : Option (List Value)} {l : List UInt8} (h : bytesO x = some l) : ∃ vs, x = some vs ∧ vs = l.map fun b => Value.int .u8 (b.toNat : Int) := by
 cases x with
 | none => cases h
 | some vs => exact ⟨vs, rfl, bytesV_spec h⟩
theorem snd_ustr {c : Call} {x n : Operand} {x' n' : GX} {pt it e : TypeId} (ho : o.op = .call c) (hc : c.callee = .builtin .unsafeString) (ha : c.args = #[x, n]) (hat : c.argTypes = #[pt, it]) (hp : P.underlying pt = some (.pointer e)) (hs : sizeOfT P e = some 1) (hx : gx cx x = some x') (hn : gx cx n = some n') : Snd P cx o (oUstr e x' n') := by
 intro B ρ en h w a v h' E R eg
 have hv := gx_VR E hx
 have hnv := gx_VR E hn
 simp only [oUstr] at eg
 generalize hq : a.eval x = u' at hv
 generalize hqn : a.eval n = m' at hnv
 generalize ev en x' = u at hv eg
 generalize ev en n' = m at hnv eg
 cases hnat : nat64 m with
 | none => rw [hnat] at eg; cases u <;> cases eg
 | some k =>
  rw [hnat] at eg
  have hm : m = .int .i64 (k : Int) := by
   cases m <;> try cases hnat
   case int kd z => cases kd <;> cases z <;> simp only [nat64] at hnat <;> try cases hnat
                    rfl
  subst hm
  have hm' := hnv.int_inv
  subst hm'
  have hp1 : ∃ p, u = .pointer p := by cases u <;> first | exact ⟨_, rfl⟩ | (cases k <;> cases eg)
  obtain ⟨p, rfl⟩ := hp1
  obtain ⟨p', rfl⟩ : ∃ p', u' = .pointer p' := by cases hv <;> exact ⟨_, rfl⟩
  have hcall : (execOp a.eval o).run P w = ((Builtin.unsafeString_ #[pt, it] o.type #[.pointer p', .int .i64 (k : Int)]).run P w).andThen fun v w => .ok (.value v) w := by
   simp [execOp, ho, resolve, hc, ha, hat, invoke, builtin, hq, hqn]
  cases k with
  | zero =>
   simp only [ustr1, Option.some.injEq, Prod.mk.injEq] at eg
   obtain ⟨rfl, rfl⟩ := eg
   refine ⟨.string .empty, w, ρ, .inl ?_, .string _, St.refl R⟩
   rw [hcall]
   have := Lib.run_unsafeString_none (P := P) w pt it o.type p'
   rw [show ((0 : Nat) : Int) = 0 from rfl, this]
   rfl
  | succ k =>
   simp only [ustr1] at eg
   cases hble : Nat.ble (Nat.succ k) 9223372036854775807 with
   | false => rw [hble] at eg; cases eg
   | true =>
    rw [hble] at eg
    have hk63 := Nat.le_of_ble_eq_true hble
    cases p with
    | none => cases eg
    | some ad =>
     simp only [ustr2] at eg
     obtain ⟨bk, off, sp⟩ := ad
     cases sp with
     | some q => cases eg
     | none =>
      simp only at eg
      cases hoff : Nat.beq off 0 with
      | false => rw [hoff] at eg; cases eg
      | true =>
       have := Nat.eq_of_beq_eq_true hoff
       subst this
       rw [hoff] at eg
       simp only at eg
       cases hb : h.hp.get bk with
       | none => rw [hb] at eg; cases eg
       | some b =>
        rw [hb] at eg
        cases b with
        | mp => cases eg
        | it => cases eg
        | lp => cases eg
        | row cc sz eb ub rw_ fl =>
         cases rw_ with
         | false => cases eg
         | true =>
          simp only [ustr3] at eg
          cases het : Nat.beq eb e with
          | false => rw [het] at eg; cases eg
          | true =>
           have := Nat.eq_of_beq_eq_true het
           subst this
           rw [het] at eg
           simp only [ustr4] at eg
           cases hso : strO (bytesO (loadN cc (Nat.succ k) 0 [])) with
           | none => rw [hso] at eg; cases eg
           | some sv =>
            rw [hso] at eg
            simp only [Option.some.injEq, Prod.mk.injEq] at eg
            obtain ⟨rfl, rfl⟩ := eg
            obtain ⟨l, hl, rfl⟩ := strO_some hso
            obtain ⟨vs, hvs, rfl⟩ := bytesO_some hl
            have hbc : blkCells (Nat.succ k) 0 (h.hp.get bk) = some (l.map fun b => Value.int .u8 (b.toNat : Int)) := by rw [hb]; exact hvs
            obtain ⟨H, ys, q1, q2, q3, q4⟩ := R.cells hbc
            have hy := q2.bytes
            subst hy
            obtain ⟨H0, arr, fz, he0, hu, hh, hsz, hcc, hr, hfl⟩ := R.has bk _ hb
            rw [q1] at he0
            injection he0 with he0
            subst he0
            obtain ⟨hfz, hHo, hHB, hn1, hiff⟩ := hr rfl
            have hlen : l.length = k + 1 := by simpa using q3
            have hpp : p' = some ⟨H.blk, 0, none⟩ := by
             cases hv with
             | ptr _ _ H2 hh2 =>
              rw [q1] at hh2
              injection hh2 with hh2
              subst hh2
              rw [hHo]
            subst hpp
            rw [hHo] at q4
            have hsh : w.shape? H.blk = some (eb, arr.size) := by unfold World.shape?; rw [hh]
            have hcell : ∀ j x, l[j]? = some x → w.cell? ((⟨H.blk, 0, none⟩ : Addr).add j) = some (.int .u8 x.toNat) := fun j x hj => q4 j _ (by rw [List.getElem?_map, hj]; rfl)
            have hfit : l.length ≤ arr.size := by
             have h9 := q4 k (.int .u8 ((l[k]'(by omega)).toNat : Int)) (by rw [List.getElem?_map, List.getElem?_eq_getElem (by omega)]; rfl)
             rw [add_block, Nat.zero_add, cell_of_row w H.blk k arr eb fz hh] at h9
             have := (Array.getElem?_eq_some_iff.1 h9).1
             omega
            have hrun := Lib.run_unsafeString_row (P := P) w pt it o.type eb hp (cellsOf_of hs) H.blk arr.size hsh l (by intro e; subst e; simp at hlen) hfit (by omega) hcell
            rw [hlen] at hrun
            refine ⟨.string ⟨l.toArray⟩, w.freeze ⟨H.blk, 0, none⟩ (k + 1), ρ, .inl ?_, .string _, step_drop R hb q1 (freeze_rest w _ _).1 (freeze_rest w _ _).2.1 (freeze_rest w _ _).2.2 (freeze_size w _ _) fun j hj => freeze_far w _ _ j hj⟩
            rw [hcall, hrun]
            rfl
end
end Go.Gev
namespace Go.Gev
open Go.RowKit
section
variable {P : Program} {cx : Cx} {o : Oper}
theorem strCells_byteVs (s : ByteArray) : Lib.strCells s = byteVs s.data.toList := by rw [byteVs_eq]; rfl
theorem run_append_room_stringG (w : World) (t u ty e : TypeId) (i : TypeInfo) (ht : P.underlying t = some (.slice e)) (hu : P.underlying u = some .string) (hi : P.info? e = some i) (hs1 : i.size = 1)
 (g sLen sCap : Nat) (cur : Array Value) (fz : Nat × Nat) (hg : w.heap[g]? = some (.cells cur e fz)) (hfz : fz = (0, 0) ∨ cur.size ≤ fz.1) (s : ByteArray)
 (hroom : sLen + s.size ≤ sCap) (hfit : sLen + s.size ≤ cur.size) :
 (Builtin.append_ #[t, u] ty #[.slice (some ⟨g, 0, none⟩) sLen sCap, .string s]).run P w =
  .ok (.slice (some ⟨g, 0, none⟩) (sLen + s.size) sCap) (w.setRow g (cur.toList.take sLen ++ Lib.strCells s ++ cur.toList.drop (sLen + s.size)).toArray) := by
 have hf := Lib.run_firstCells_string (P := P) w 1 s
 have hst := run_storeCells_atG P g sLen e fz (Lib.strCells s) 0 cur w hg hfz (by simpa [Lib.strCells_length] using hfit) (Lib.strCells_oneCell s)
 simp only [Nat.add_zero, Lib.strCells_length] at hst
 simp [Builtin.append_, run_underlying ht, run_underlying hu, sizeOf, typeInfo, hi, hs1, Builtin.lenOf, hroom, hf, Addr.add_lit, hst]
theorem runApp_str {w : World} {t ti ty e : TypeId} {i : TypeInfo} {z : Value} (ht : P.underlying t = some (.slice e)) (hti : P.underlying ti = some .string) (hi : P.info? e = some i) (hz : i.zero = some z)
 (hs : i.size = 1) (s : ByteArray) : RunApp P w e i z #[t, ti] ty (.string s) s.size (Lib.strCells s) := by
 refine ⟨fun hm a n c hn => ?_, fun hm h64 h48 => ?_, fun g n c cur fz hg hfz hroom hfit => ?_, fun b n c olds ho1 ho2 hc h64 hfit hm0 => ?_⟩
 ·have hf : (Builtin.firstCells i.size 0 (.string s)).run P w = .ok #[] w := by
   have := Lib.run_firstCells_string (P := P) w i.size s
   rw [hm] at this
   rw [this]
   have hnil : Lib.strCells s = [] := List.eq_nil_of_length_eq_zero (by rw [Lib.strCells_length]; exact hm)
   rw [hnil]
  cases a <;> simp [Builtin.append_, run_underlying ht, run_underlying hti, sizeOf, typeInfo, hi, Builtin.lenOf, hm, hn, hf, storeCells]
 ·have := run_append_nil_string (P := P) w t ti ty e i z ht hti hi hz s hm h64 h48
  rw [this]
  congr 4
  unfold Lib.strCells
  apply Array.ext'
  simp
 ·have := run_append_room_stringG (P := P) w t ti ty e i ht hti hi hs g n c cur fz hg hfz s hroom (by rw [hs, Nat.mul_one, Lib.strCells_length] at hfit; exact hfit)
  rw [hs, Nat.mul_one, Lib.strCells_length]
  exact this
 ·exact Lib.run_append_grow_string (P := P) w t ti ty e i z ht hti hi hz b n c olds ho1 ho2 s hc h64 hfit
theorem allOne_byteVs (l : List UInt8) : allOne (byteVs l) = true := by
 induction l with
 | nil => rfl
 | cons b l ih => show (match true with | true => allOne (byteVs l) | false => false) = true; exact ih
theorem snd_appendS {c : Call} {s x : Operand} {s' x' : GX} {t ti e : TypeId} {z : List Value} (ho : o.op = .call c) (hc : c.callee = .builtin .append) (ha : c.args = #[s, x]) (hat : c.argTypes = #[t, ti]) (ht : P.underlying t = some (.slice e)) (hti : P.underlying ti = some .string)
 (hu : sizeOfT P e = some 1) (hb : bytesOfT P e = some 1) (hz : zeroOf P e = some z) (hs : gx cx s = some s') (hx : gx cx x = some x') : Snd P cx o (oAppendS e 1 s' x') := by
 intro B ρ en h w a v h' E R eg
 have hsv := gx_VR E hs
 have hv := gx_VR E hx
 simp only [oAppendS] at eg
 generalize hqs : a.eval s = us at hsv
 generalize hq : a.eval x = u' at hv
 generalize ev en x' = u at hv eg
 generalize ev en s' = sv at hsv eg
 cases u with
 | string t0 =>
  have := hv.string_inv
  subst this
  simp only [app1, allOne_byteVs] at eg
  unfold sizeOfT at hu
  unfold bytesOfT at hb
  unfold zeroOf at hz
  cases hi : P.info? e with
  | none => rw [hi] at hu; cases hu
  | some i =>
   rw [hi] at hu hb hz
   injection hu with hu
   injection hb with hb
   cases hz0 : i.zero with
   | none => simp only [hz0] at hz; cases hz
   | some zv =>
    simp only [hz0] at hz
    have hzc : zv.cells.size = i.size := by
     cases hok : okCL zv.cells.toList with
     | false => rw [hok] at hz; cases hz
     | true =>
      rw [hok] at hz
      cases hl : Nat.beq zv.cells.toList.length i.size with
      | false => simp only [hl] at hz; cases hz
      | true => have := Nat.eq_of_beq_eq_true hl; simpa using this
    have hlen : t0.data.toList.length = t0.size := Array.length_toList
    have A := runApp_str (P := P) (w := w) (ty := o.type) ht hti hi hz0 hu t0
    have key := step_app2 (P := P) (e := e) (ty := o.type) (args := #[t, ti]) (m := t0.size) (s := sv) (s' := us) (x' := .string t0) (i := i) (z := zv) (news := byteVs t0.data.toList) (ys := Lib.strCells t0) R hzc (by omega) (by omega) A hsv
     (by rw [strCells_byteVs, byteVs_eq]; exact VL.bytes_refl _) (by rw [← strCells_byteVs, Lib.strCells_length, hu, Nat.mul_one]) (v := v) (h' := h') (by rw [hu, hb, ← hlen]; exact eg)
    obtain ⟨v', w', ρ', h1, h2, h3⟩ := key
    refine ⟨v', w', ρ', .inl ?_, h2, h3⟩
    simp [execOp, ho, resolve, hc, ha, hat, invoke, builtin, hq, hqs, h1]
 | _ => cases eg
theorem standIn_some {f : FuncId} {name : String} (h : standIn P f name = true) : ∃ fn, P.funcs[f]? = some fn ∧ fn.body.isNone = true ∧ fn.name = name ∧ fn.origin = "" := by
 unfold standIn at h
 cases hf : P.funcs[f]? with
 | none => rw [hf] at h; cases h
 | some fn =>
  rw [hf] at h
  simp only [Bool.and_eq_true, beq_iff_eq] at h
  exact ⟨fn, rfl, h.1.1, h.1.2, h.2⟩
theorem noEscape_rows (fn : Func) (hn : fn.name = "internal/abi.NoEscape") (ho : fn.origin = "") : Extern.findNext fn = none ∧ Extern.find fn = some Extern.AbiNoEscape.same := by
 obtain ⟨nm, og, ta, pa, rt, nf, nt, rs, bd, nr, ou, fi, el, ln, me, tn⟩ := fn
 have hn : nm = "internal/abi.NoEscape" := hn
 have ho : og = "" := ho
 subst hn; subst ho
 exact ⟨by kernel_rfl, by kernel_rfl⟩
theorem indexByte_rows (fn : Func) (hn : fn.name = "internal/bytealg.IndexByteString") (ho : fn.origin = "") : Extern.findNext fn = none ∧ Extern.find fn = some Extern.BytealgIndexByte.indexByte := by
 obtain ⟨nm, og, ta, pa, rt, nf, nt, rs, bd, nr, ou, fi, el, ln, me, tn⟩ := fn
 have hn : nm = "internal/bytealg.IndexByteString" := hn
 have ho : og = "" := ho
 subst hn; subst ho
 exact ⟨by kernel_rfl, by kernel_rfl⟩
theorem snd_noEscape {c : Call} {f : FuncId} {x : Operand} {x' : GX} (ho : o.op = .call c) (hc : c.callee = .value (.func f)) (ha : c.args = #[x]) (hf : standIn P f "internal/abi.NoEscape" = true) (hx : gx cx x = some x') : Snd P cx o (oMv x') :=
 snd_still fun B ρ en h w a v h' E R eg => by
  simp only [oMv, Option.some.injEq, Prod.mk.injEq] at eg
  obtain ⟨rfl, rfl⟩ := eg
  refine ⟨rfl, a.eval x, ?_, gx_VR E hx⟩
  obtain ⟨fn, h1, h2, h3, h4⟩ := standIn_some hf
  obtain ⟨r1, r2⟩ := noEscape_rows fn h3 h4
  have hrun := run_callFunc_extern (P := P) h1 (by rw [h3]; decide) h2 r1 r2 #[a.eval x] w
  have he : (execOp a.eval o).run P w = (callFunc f #[a.eval x]).run P w := by
   simp [execOp, ho, resolve, hc, ha, Act.eval, Deferred.ofValue, invoke]
  rw [he, hrun]
  rfl
theorem find?_congr' {α : Type} {p q : α → Bool} : ∀ {l : List α}, (∀ x ∈ l, p x = q x) → l.find? p = l.find? q := by
 intro l
 induction l with
 | nil => intro _; rfl
 | cons a l ih =>
  intro h
  simp only [List.find?_cons]
  rw [h a List.mem_cons_self, ih fun x hx => h x (List.mem_cons_of_mem _ hx)]
theorem findB_range (c : UInt8) : ∀ (l : List UInt8) (k : Nat), (List.range' k l.length).find? (fun j => (l[j - k]?).getD 0 == c) = findB c.toNat l k := by
 intro l
 induction l with
 | nil => intro k; rfl
 | cons b l ih =>
  intro k
  simp only [List.length_cons, List.range'_succ, List.find?_cons, Nat.sub_self, List.getElem?_cons_zero, Option.getD_some, findB]
  have hb : (b == c) = Nat.beq b.toNat c.toNat := by
   rw [Bool.eq_iff_iff, beq_iff_eq]
   constructor
   ·rintro rfl; exact Nat.beq_refl _
   ·intro h; exact UInt8.toNat_inj.1 (Nat.eq_of_beq_eq_true h)
  rw [hb]
  cases Nat.beq b.toNat c.toNat with
  | true => rfl
  | false =>
   simp only
   rw [← ih (k + 1)]
   refine find?_congr' fun x hx => ?_
   have hx2 := (List.mem_range'_1.1 hx).1
   obtain ⟨d, rfl⟩ : ∃ d, x = k + 1 + d := ⟨x - (k + 1), by omega⟩
   rw [show k + 1 + d - k = d + 1 from by omega, show k + 1 + d - (k + 1) = d from by omega, List.getElem?_cons_succ]
theorem snd_idxB {c : Call} {f : FuncId} {x y : Operand} {x' y' : GX} (ho : o.op = .call c) (hc : c.callee = .value (.func f)) (ha : c.args = #[x, y]) (hf : standIn P f "internal/bytealg.IndexByteString" = true) (hx : gx cx x = some x') (hy : gx cx y = some y') : Snd P cx o (oIdxB x' y') :=
 snd_still fun B ρ en h w a v h' E R eg => by
  have hv := gx_VR E hx
  have hw := gx_VR E hy
  obtain ⟨e1, rfl⟩ := ret1_some (show ret1 h (idxB1 (ev en x') (ev en y')) = _ from eg)
  refine ⟨rfl, v, ?_, ?_⟩
  ·generalize hqx : a.eval x = ux at hv
   generalize hqy : a.eval y = uy at hw
   generalize ev en x' = u at hv e1
   generalize ev en y' = t at hw e1
   cases u <;> try cases e1
   rename_i s
   cases t <;> try cases e1
   rename_i k n
   cases k <;> cases n <;> simp only [idxB1] at e1 <;> try cases e1
   rename_i m
   cases hm : Nat.ble m 255 with
   | false => rw [hm] at e1; cases e1
   | true =>
    rw [hm] at e1
    simp only [Option.some.injEq] at e1
    subst e1
    have hle := Nat.le_of_ble_eq_true hm
    have hs := hv.string_inv
    have hi := hw.int_inv
    subst hs; subst hi
    obtain ⟨fn, h1, h2, h3, h4⟩ := standIn_some hf
    obtain ⟨r1, r2⟩ := indexByte_rows fn h3 h4
    have hrun := run_callFunc_extern (P := P) h1 (by rw [h3]; decide) h2 r1 r2 #[.string s, .int .u8 (.ofNat m)] w
    have he : (execOp a.eval o).run P w = (callFunc f #[a.eval x, a.eval y]).run P w := by
     simp [execOp, ho, resolve, hc, ha, Act.eval, Deferred.ofValue, invoke]
    rw [he, hqx, hqy, hrun]
    have hto : (UInt8.ofNat m).toNat = m := by simp; omega
    have hfind : (List.range s.size).find? (fun i => s[i]! == UInt8.ofNat m) = findB m s.data.toList 0 := by
     have := findB_range (UInt8.ofNat m) s.data.toList 0
     rw [hto, ← List.range_eq_range', Array.length_toList] at this
     rw [← this]
     refine find?_congr' fun i hi => ?_
     have hlt : i < s.size := List.mem_range.1 hi
     have hlt' : i < s.data.size := hlt
     rw [getElem!_pos s i hlt, Nat.sub_zero, Array.getElem?_toList, Array.getElem?_eq_getElem hlt']
     rfl
    have hidx : (Extern.BytealgIndexByte.indexByte #[.string s, .int .u8 (.ofNat m)]).run P w = .ok (findV (findB m s.data.toList 0)) w := by
     have hdef : Extern.BytealgIndexByte.indexByte #[.string s, .int .u8 (.ofNat m)] = (do
      let b ← Extern.Bytes.bytesOf (.string s)
      let c ← Extern.Bytes.asByte (.int .u8 (.ofNat m))
      match (List.range b.size).find? fun i => b[i]! == c with
      | some i => pure (goInt i)
      | none => pure (goInt (-1))) := rfl
     rw [hdef]
     have hc2 : (((Int.ofNat m).toNat).toUInt8) = UInt8.ofNat m := rfl
     simp only [Extern.Bytes.bytesOf, Extern.Bytes.asByte, Sem.run_bind, Sem.run_pure, Result.andThen_ok, hc2, hfind]
     cases findB m s.data.toList 0 with
     | none => rfl
     | some i => rfl
    rw [hidx]
    rfl
  ·generalize ev en x' = u at e1
   generalize ev en y' = t at e1
   cases u <;> try cases e1
   cases t <;> try cases e1
   rename_i k n
   cases k <;> cases n <;> simp only [idxB1] at e1 <;> try cases e1
   rename_i m
   cases hm : Nat.ble m 255 with
   | false => rw [hm] at e1; cases e1
   | true =>
    rw [hm] at e1
    simp only [Option.some.injEq] at e1
    subst e1
    cases findB m _ 0 <;> exact .int _ _
theorem makeNoZero_rows (fn : Func) (hn : fn.name = "internal/bytealg.MakeNoZero") (ho : fn.origin = "") : Extern.findNext fn = none ∧ Extern.find fn = some (Extern.BytealgMakeNoZero.makeNoZero fn.params fn.resultTypes) := by
 obtain ⟨nm, og, ta, pa, rt, nf, nt, rs, bd, nr, ou, fi, el, ln, me, tn⟩ := fn
 have hn : nm = "internal/bytealg.MakeNoZero" := hn
 have ho : og = "" := ho
 subst hn; subst ho
 exact ⟨by kernel_rfl, by kernel_rfl⟩
theorem countString_rows (fn : Func) (hn : fn.name = "internal/bytealg.CountString") (ho : fn.origin = "") : Extern.findNext fn = none ∧ Extern.find fn = some Extern.BytealgCount.count := by
 obtain ⟨nm, og, ta, pa, rt, nf, nt, rs, bd, nr, ou, fi, el, ln, me, tn⟩ := fn
 have hn : nm = "internal/bytealg.CountString" := hn
 have ho : og = "" := ho
 subst hn; subst ho
 exact ⟨by kernel_rfl, by kernel_rfl⟩
theorem mkNZof_some {f : FuncId} {fn : Func} {e : TypeId} (hf : P.funcs[f]? = some fn) (h : mkNZof P f = some e) : ∃ t, fn.resultTypes = #[t] ∧ P.underlying t = some (.slice e) := by
 unfold mkNZof at h
 rw [hf] at h
 simp only at h
 split at h
 ·rename_i t ht
  split at h
  ·rename_i e' he
   injection h with h
   subst h
   refine ⟨t, ?_, he⟩
   apply Array.ext'
   simpa using ht
  ·cases h
 ·cases h
theorem VL.unknown {ρ : Ren} : ∀ {xs ys : List Value}, xs.length = ys.length → (∀ x ∈ xs, x = dunno) → VL ρ xs ys
 | [], [], _, _ => VL.nil
 | x :: xs, y :: ys, h, hx => VL.cons (by rw [hx x List.mem_cons_self]; exact .dunno y) (VL.unknown (by simpa using h) fun z hz => hx z (List.mem_cons_of_mem _ hz))
 | [], _ :: _, h, _ => by simp at h
 | _ :: _, [], h, _ => by simp at h
theorem rep_dunno : ∀ (n : Nat), ∀ x ∈ rep [dunno] n, x = dunno := by
 intro n
 induction n with
 | zero => intro x hx; cases hx
 | succ n ih =>
  intro x hx
  rcases List.mem_cons.1 (show x ∈ dunno :: rep [dunno] n from hx) with h | h
  ·exact h
  ·exact ih x h
theorem snd_mkNZ {c : Call} {f : FuncId} {x : Operand} {x' : GX} {e : TypeId} (ho : o.op = .call c) (hc : c.callee = .value (.func f)) (ha : c.args = #[x]) (hf : standIn P f "internal/bytealg.MakeNoZero" = true) (he : mkNZof P f = some e) (hx : gx cx x = some x') : Snd P cx o (oMkNZ e x') := by
 intro B ρ en h w a v h' E R e1
 have hv := gx_VR E hx
 simp only [oMkNZ] at e1
 generalize hqx : a.eval x = ux at hv
 generalize ev en x' = u at hv e1
 cases hn : nat64 u with
 | none => rw [hn] at e1; cases e1
 | some n =>
  rw [hn] at e1
  simp only [mkNZ] at e1
  cases hb : Nat.ble n 70368744177664 with
  | false => rw [hb] at e1; cases e1
  | true =>
   rw [hb] at e1
   simp only [Option.some.injEq, Prod.mk.injEq] at e1
   obtain ⟨rfl, rfl⟩ := e1
   have hle := Nat.le_of_ble_eq_true hb
   have hu : u = .int .i64 (.ofNat n) := by
    cases u <;> try (simp [nat64] at hn; done)
    rename_i k m
    cases k <;> cases m <;> simp only [nat64, Option.some.injEq] at hn <;> first | (subst hn; rfl) | cases hn
   subst hu
   have hq := hv.int_inv
   subst hq
   obtain ⟨fn, h1, h2, h3, h4⟩ := standIn_some hf
   obtain ⟨r1, r2⟩ := makeNoZero_rows fn h3 h4
   obtain ⟨t, ht1, ht2⟩ := mkNZof_some h1 he
   have hrun := run_callFunc_extern (P := P) h1 (by rw [h3]; decide) h2 r1 r2 #[.int .i64 (.ofNat n)] w
   obtain ⟨cs, q1, q2, q3, q4⟩ := Lib.run_makeNoZero_cap (P := P) w fn.params t e ht2 n (by omega)
   have he2 : (execOp a.eval o).run P w = (callFunc f #[a.eval x]).run P w := by
    simp [execOp, ho, resolve, hc, ha, Act.eval, Deferred.ofValue, invoke]
   have hlen : (rep [dunno] n).length = n := by rw [rep_length]; simp
   have htk : (cs.toList.take n).length = n := by rw [List.length_take]; simp; omega
   refine ⟨_, _, _, .inl (by rw [he2, hqx, hrun, ht1]; exact congrArg (fun r => Result.andThen r _) q1), ?_, step_new (w := w.drew.drew) R rfl rfl rfl rfl e 1 (rep [dunno] n) cs (cs.toList.take n) (VL.unknown (by rw [hlen, htk]) (rep_dunno n)) (by rw [htk])⟩
   exact .slice h.nx 0 n n cs.size _ (Ren.add_same _ _ _) (Nat.le_refl _) q2 (q3 (Nat.le_trans hle (by decide))) (.inr (by simp))
theorem countB_eq (c : UInt8) : ∀ (l : List UInt8) (n : Nat), countB c.toNat l n = n + Lib.countByte l c := by
 intro l
 induction l with
 | nil => intro n; rfl
 | cons b l ih =>
  intro n
  simp only [countB, Lib.countByte]
  have hb : (b == c) = Nat.beq b.toNat c.toNat := by
   rw [Bool.eq_iff_iff, beq_iff_eq]
   constructor
   ·rintro rfl; exact Nat.beq_refl _
   ·intro h; exact UInt8.toNat_inj.1 (Nat.eq_of_beq_eq_true h)
  cases hq : Nat.beq b.toNat c.toNat with
  | true => rw [hq] at hb; simp only [ih]; simp_all [Lib.countByte]; omega
  | false => rw [hq] at hb; simp only [ih]; simp_all [Lib.countByte]
theorem snd_cntB {c : Call} {f : FuncId} {x y : Operand} {x' y' : GX} (ho : o.op = .call c) (hc : c.callee = .value (.func f)) (ha : c.args = #[x, y]) (hf : standIn P f "internal/bytealg.CountString" = true) (hx : gx cx x = some x') (hy : gx cx y = some y') : Snd P cx o (oCntB x' y') :=
 snd_still fun B ρ en h w a v h' E R eg => by
  have hv := gx_VR E hx
  have hw := gx_VR E hy
  obtain ⟨e1, rfl⟩ := ret1_some (show ret1 h (cntB1 (ev en x') (ev en y')) = _ from eg)
  refine ⟨rfl, v, ?_⟩
  generalize hqx : a.eval x = ux at hv
  generalize hqy : a.eval y = uy at hw
  generalize ev en x' = u at hv e1
  generalize ev en y' = t at hw e1
  cases u <;> try cases e1
  rename_i s
  cases t <;> try cases e1
  rename_i k n
  cases k <;> cases n <;> simp only [cntB1] at e1 <;> try cases e1
  rename_i m
  cases hm : Nat.ble m 255 with
  | false => rw [hm] at e1; cases e1
  | true =>
   rw [hm] at e1
   simp only [Option.some.injEq] at e1
   subst e1
   have hle := Nat.le_of_ble_eq_true hm
   have hs := hv.string_inv
   have hi := hw.int_inv
   subst hs; subst hi
   refine ⟨?_, .int _ _⟩
   obtain ⟨fn, h1, h2, h3, h4⟩ := standIn_some hf
   obtain ⟨r1, r2⟩ := countString_rows fn h3 h4
   have hrun := run_callFunc_extern (P := P) h1 (by rw [h3]; decide) h2 r1 r2 #[.string s, .int .u8 (.ofNat m)] w
   have he : (execOp a.eval o).run P w = (callFunc f #[a.eval x, a.eval y]).run P w := by
    simp [execOp, ho, resolve, hc, ha, Act.eval, Deferred.ofValue, invoke]
   have hto : (UInt8.ofNat m).toNat = m := by simp; omega
   have hcb := countB_eq (UInt8.ofNat m) s.data.toList 0
   rw [hto, Nat.zero_add] at hcb
   rw [he, hqx, hqy, hrun, Lib.run_countString, hcb]
   rfl
end
end Go.Gev
namespace Go.Gev
open Go.RowKit
theorem ME.len {ρ : Ren} {es es' : List MapEntry} (m : ME ρ es es') : es.length = es'.length := by
 induction m with
 | nil => rfl
 | cons _ _ _ _ ih => simp [ih]
theorem ME.snoc {ρ : Ren} {es es' : List MapEntry} (m : ME ρ es es') {e e' : MapEntry} (hk : e'.key = e.key) (hb : e'.born = e.born) (hv : VR ρ e.val e'.val) : ME ρ (es ++ [e]) (es' ++ [e']) := by
 induction m with
 | nil => exact .cons hk hb hv .nil
 | cons h1 h2 h3 _ ih => exact .cons h1 h2 h3 ih
theorem ME.setVal {ρ : Ren} {es es' : List MapEntry} (m : ME ρ es es') {v v' : Value} (hv : VR ρ v v') : ∀ i, ME ρ (Gev.setVal v i es) (es'.modify i fun e => { e with val := v' }) := by
 induction m with
 | nil => intro i; cases i <;> exact .nil
 | cons h1 h2 h3 t ih =>
  intro i
  cases i with
  | zero => exact .cons h1 h2 hv t
  | succ i => exact .cons h1 h2 h3 (ih i)
theorem ME.dropAt {ρ : Ren} {es es' : List MapEntry} (m : ME ρ es es') : ∀ i, ME ρ (Gev.dropAt i es) (es'.eraseIdx i) := by
 induction m with
 | nil => intro i; cases i <;> exact .nil
 | cons h1 h2 h3 t ih =>
  intro i
  cases i with
  | zero => exact t
  | succ i => exact .cons h1 h2 h3 (ih i)
theorem ba_beq (s t : ByteArray) : (s == t) = true ↔ s = t := by
 cases s; cases t
 rename_i a b
 show (a == b) = true ↔ _
 rw [beq_iff_eq]
 constructor
 ·rintro rfl; rfl
 ·intro e; injection e
theorem eqL_iff : ∀ {a b : List UInt8}, eqL a b = true ↔ a = b := by
 intro a
 induction a with
 | nil => intro b; cases b <;> simp [eqL]
 | cons x xs ih =>
  intro b
  cases b with
  | nil => simp [eqL]
  | cons y ys =>
   simp only [eqL]
   cases h : Nat.beq x.toNat y.toNat with
   | true =>
    have : x = y := UInt8.toNat_inj.1 (Nat.eq_of_beq_eq_true h)
    subst this
    simp [ih]
   | false =>
    have : x ≠ y := fun e => by subst e; rw [Nat.beq_refl] at h; cases h
    simp [this]
theorem eqKey_now {kd : TypeDesc} {b : Bool} (hkd : (b = true ∧ ∃ kk, kd = .int kk) ∨ (b = false ∧ kd = .string)) {k y : Value} (hk : keyish b k = true) {r : Bool} (h : eqKey k y = some r) : Instr.sameNow kd k y = some r ∧ (r = true → y = k) := by
 cases k <;> try (exact absurd hk Bool.false_ne_true)
 case int kk n =>
  have hb : b = true := hk
  subst hb
  rcases hkd with ⟨_, kk2, rfl⟩ | ⟨h0, _⟩
  ·cases y <;> try (simp [eqKey, eqI2] at h; done)
   rename_i k3 m
   simp only [eqKey, eqI2] at h
   cases hkn : Nat.beq (kn kk) (kn k3) with
   | false => rw [hkn] at h; cases h
   | true =>
    rw [hkn] at h
    injection h with h
    have hk3 : kk = k3 := by
     have := Nat.eq_of_beq_eq_true hkn
     revert this
     cases kk <;> cases k3 <;> simp [kn]
    subst hk3
    have he : eqI n m = (n == m) := by
     cases n <;> cases m <;> simp only [eqI]
     ·rename_i p q
      rw [Bool.eq_iff_iff]; simp; omega
     ·rfl
     ·rfl
     ·rename_i p q
      rw [Bool.eq_iff_iff]; simp
    subst h
    simp only [Instr.sameNow, if_true]
    rw [he]
    exact ⟨rfl, fun e => by rw [eq_of_beq e]⟩
  ·cases h0
 case string s =>
  have hb : notB b = true := hk
  have hb : b = false := by cases b <;> first | rfl | cases hb
  subst hb
  rcases hkd with ⟨h0, _⟩ | ⟨_, rfl⟩
  ·cases h0
  ·cases y <;> try (simp [eqKey, eqS2] at h; done)
   rename_i t
   simp only [eqKey, eqS2, Option.some.injEq] at h
   have he : eqL s.data.toList t.data.toList = (s == t) := by
    rw [Bool.eq_iff_iff, eqL_iff, ba_beq]
    constructor
    ·intro e
     have : s.data = t.data := Array.ext' e
     cases s; cases t; simp_all
    ·rintro rfl; rfl
   subst h
   simp only [Instr.sameNow]
   rw [he]
   exact ⟨rfl, fun e => by rw [(ba_beq _ _).1 e]⟩
theorem findM_now {ρ : Ren} {kd : TypeDesc} {b : Bool} (hkd : (b = true ∧ ∃ kk, kd = .int kk) ∨ (b = false ∧ kd = .string)) {k : Value} (hk : keyish b k = true) {es es' : List MapEntry} (m : ME ρ es es') : ∀ (i : Nat) (r : Option (Nat × Value)), findM k es i = some r →
 (r = none ∧ Instr.findNow kd k es' i = some none) ∨ (∃ j v v', r = some (j, v) ∧ Instr.findNow kd k es' i = some (some (j, v')) ∧ VR ρ v v' ∧ i ≤ j ∧ ∃ e, es'[j - i]? = some e ∧ e.key = k) := by
 induction m with
 | nil => intro i r h; simp only [findM, Option.some.injEq] at h; subst h; exact .inl ⟨rfl, rfl⟩
 | @cons e e' es es' h1 h2 h3 t ih =>
  intro i r h
  simp only [findM] at h
  cases hq : eqKey k e.key with
  | none => rw [hq] at h; cases h
  | some q =>
   rw [hq] at h
   obtain ⟨hs, hy⟩ := eqKey_now hkd hk hq
   rw [← h1] at hs hy
   cases q with
   | true =>
    simp only [Option.some.injEq] at h
    subst h
    refine .inr ⟨i, e.val, e'.val, rfl, ?_, h3, Nat.le_refl _, e', by simp, hy rfl⟩
    simp only [Instr.findNow, hs]
   | false =>
    simp only at h
    have hf : Instr.findNow kd k (e' :: es') i = Instr.findNow kd k es' (i + 1) := by simp only [Instr.findNow, hs]
    rcases ih (i + 1) r h with ⟨q1, q2⟩ | ⟨j, v, v', q1, q2, q3, q4, e2, q5, q6⟩
    ·exact .inl ⟨q1, hf.trans q2⟩
    ·refine .inr ⟨j, v, v', q1, hf.trans q2, q3, by omega, e2, ?_, q6⟩
     rw [show j - i = (j - (i + 1)) + 1 from by omega, List.getElem?_cons_succ]
     exact q5
theorem MK.len {ρ : Ren} {es es' : List MapEntry} (m : MK ρ es es') : es.length = es'.length := by
 induction m with
 | nil => rfl
 | cons _ _ _ ih => simp [ih]
theorem MK.keys {ρ : Ren} {es es' : List MapEntry} (m : MK ρ es es') : es'.map (·.key) = es.map (·.key) := by
 induction m with
 | nil => rfl
 | cons hk _ _ ih => rw [List.map_cons, List.map_cons, hk, ih]
theorem MK.snoc {ρ : Ren} {es es' : List MapEntry} (m : MK ρ es es') {e e' : MapEntry} (hk : e'.key = e.key) (hv : VR ρ e.val e'.val) : MK ρ (es ++ [e]) (es' ++ [e']) := by
 induction m with
 | nil => exact .cons hk hv .nil
 | cons h1 h2 _ ih => exact .cons h1 h2 ih
theorem MK.setVal {ρ : Ren} {es es' : List MapEntry} (m : MK ρ es es') {v v' : Value} (hv : VR ρ v v') : ∀ i, MK ρ (Gev.setVal v i es) (es'.modify i fun e => { e with val := v' }) := by
 induction m with
 | nil => intro i; cases i <;> exact .nil
 | cons h1 h2 t ih =>
  intro i
  cases i with
  | zero => exact .cons h1 hv t
  | succ i => exact .cons h1 h2 (ih i)
theorem MK.dropAt {ρ : Ren} {es es' : List MapEntry} (m : MK ρ es es') : ∀ i, MK ρ (Gev.dropAt i es) (es'.eraseIdx i) := by
 induction m with
 | nil => intro i; cases i <;> exact .nil
 | cons h1 h2 t ih =>
  intro i
  cases i with
  | zero => exact t
  | succ i => exact .cons h1 h2 (ih i)
theorem MK.get {ρ : Ren} {es es' : List MapEntry} (m : MK ρ es es') : ∀ {j : Nat} {e : MapEntry}, es[j]? = some e → ∃ e', es'[j]? = some e' ∧ e'.key = e.key ∧ VR ρ e.val e'.val := by
 induction m with
 | nil => intro j e h; simp at h
 | @cons a a' as as' h1 h2 t ih =>
  intro j e h
  cases j with
  | zero => simp only [List.getElem?_cons_zero, Option.some.injEq] at h; subst h; exact ⟨a', by simp, h1, h2⟩
  | succ j => simp only [List.getElem?_cons_succ] at h ⊢; exact ih h
theorem setVal_mem {v : Value} : ∀ {es : List MapEntry} {i : Nat} {e : MapEntry}, e ∈ Gev.setVal v i es → ∃ e0 ∈ es, e.born = e0.born := by
 intro es
 induction es with
 | nil => intro i e h; cases i <;> cases h
 | cons a t ih =>
  intro i e h
  cases i with
  | zero =>
   rcases List.mem_cons.1 h with rfl | h
   ·exact ⟨a, List.mem_cons_self, rfl⟩
   ·exact ⟨e, List.mem_cons_of_mem _ h, rfl⟩
  | succ i =>
   rcases List.mem_cons.1 h with rfl | h
   ·exact ⟨e, List.mem_cons_self, rfl⟩
   ·obtain ⟨e0, h1, h2⟩ := ih h
    exact ⟨e0, List.mem_cons_of_mem _ h1, h2⟩
theorem dropAt_mem : ∀ {es : List MapEntry} {i : Nat} {e : MapEntry}, e ∈ Gev.dropAt i es → e ∈ es := by
 intro es
 induction es with
 | nil => intro i e h; cases i <;> cases h
 | cons a t ih =>
  intro i e h
  cases i with
  | zero => exact List.mem_cons_of_mem _ h
  | succ i =>
   rcases List.mem_cons.1 h with rfl | h
   ·exact List.mem_cons_self
   ·exact List.mem_cons_of_mem _ (ih h)
theorem ME.setBorn {es : List MapEntry} {v : Value} {i : Nat} {q : Nat → Prop} (h : ∀ e ∈ es, q e.born) : ∀ e ∈ Gev.setVal v i es, q e.born := fun e he => by
 obtain ⟨e0, h1, h2⟩ := setVal_mem he
 rw [h2]; exact h e0 h1
theorem pull_perm {α : Type} : ∀ {l : List α} {j : Nat} {e : α}, l[j]? = some e → l.Perm (e :: l.eraseIdx j) := by
 intro l
 induction l with
 | nil => intro j e h; simp at h
 | cons a t ih =>
  intro j e h
  cases j with
  | zero => simp only [List.getElem?_cons_zero, Option.some.injEq] at h; subst h; exact List.Perm.refl _
  | succ j =>
   simp only [List.getElem?_cons_succ] at h
   exact ((ih h).cons a).trans (List.Perm.swap e a _)
theorem modify_pull {α : Type} {f : α → α} : ∀ {l : List α} {j : Nat} {e : α}, l[j]? = some e → (l.modify j f).Perm (f e :: l.eraseIdx j) := by
 intro l
 induction l with
 | nil => intro j e h; simp at h
 | cons a t ih =>
  intro j e h
  cases j with
  | zero => simp only [List.getElem?_cons_zero, Option.some.injEq] at h; subst h; exact List.Perm.refl _
  | succ j =>
   simp only [List.getElem?_cons_succ] at h
   exact ((ih h).cons a).trans (List.Perm.swap (f e) a _)
theorem map_modify_val {β : Type} {g : MapEntry → β} {v : Value} (hg : ∀ e : MapEntry, g { e with val := v } = g e) : ∀ (l : List MapEntry) (j : Nat), (l.modify j fun e => { e with val := v }).map g = l.map g := by
 intro l
 induction l with
 | nil => intro j; cases j <;> rfl
 | cons a t ih =>
  intro j
  cases j with
  | zero => show g { a with val := v } :: t.map g = _; rw [hg]; rfl
  | succ j => show g a :: (t.modify j _).map g = _; rw [ih]; rfl
theorem mem_of_map {β : Type} {g : MapEntry → β} {l l2 : List MapEntry} (h : l2.map g = l.map g) {e : MapEntry} (he : e ∈ l2) : ∃ e0 ∈ l, g e0 = g e := by
 have : g e ∈ l.map g := by rw [← h]; exact List.mem_map_of_mem he
 obtain ⟨e0, h1, h2⟩ := List.mem_map.1 this
 exact ⟨e0, h1, h2⟩
theorem Nice.setVal {es : List MapEntry} {cl : Nat} (n : Nice es cl) (v : Value) (j : Nat) : Nice (es.modify j fun e => { e with val := v }) cl := by
 have hb := map_modify_val (g := (·.born)) (v := v) (fun _ => rfl) es j
 have hk := map_modify_val (g := (·.key)) (v := v) (fun _ => rfl) es j
 refine ⟨fun e he => ?_, by rw [hb]; exact n.nb, by rw [hk]; exact n.nk, ?_⟩
 ·obtain ⟨e0, h1, h2⟩ := mem_of_map hb he
  have h2 : e0.born = e.born := h2
  rw [← h2]; exact n.lt e0 h1
 ·rcases n.ks with h | h
  ·refine .inl fun e he => ?_
   obtain ⟨e0, h1, h2⟩ := mem_of_map hk he
   have h2 : e0.key = e.key := h2
   rw [← h2]; exact h e0 h1
  ·refine .inr fun e he => ?_
   obtain ⟨e0, h1, h2⟩ := mem_of_map hk he
   have h2 : e0.key = e.key := h2
   rw [← h2]; exact h e0 h1
theorem Nice.sub {es es2 : List MapEntry} {cl : Nat} (n : Nice es cl) (h : es2.Sublist es) : Nice es2 cl :=
 ⟨fun e he => n.lt e (h.subset he), n.nb.sublist (h.map _), n.nk.sublist (h.map _), n.ks.imp (fun q e he => q e (h.subset he)) fun q e he => q e (h.subset he)⟩
theorem nodup_inj {α β : Type} {g : α → β} : ∀ {l : List α}, (l.map g).Nodup → ∀ x ∈ l, ∀ y ∈ l, g x = g y → x = y := by
 intro l
 induction l with
 | nil => intro _ x hx; cases hx
 | cons a t ih =>
  intro h x hx y hy e
  rw [List.map_cons, List.nodup_cons] at h
  rcases List.mem_cons.1 hx with h1 | h1 <;> rcases List.mem_cons.1 hy with h2 | h2
  ·rw [h1, h2]
  ·exact absurd (show g a ∈ t.map g from by rw [← h1, e]; exact List.mem_map_of_mem h2) h.1
  ·exact absurd (show g a ∈ t.map g from by rw [← h2, ← e]; exact List.mem_map_of_mem h1) h.1
  ·exact ih h.2 x h1 y h2 e
theorem eqKey_self {b : Bool} {k : Value} (hk : keyish b k = true) : eqKey k k = some true := by
 cases k <;> try cases hk
 ·rename_i kk n
  have h1 : Nat.beq (kn kk) (kn kk) = true := Nat.beq_refl _
  have h2 : eqI n n = true := by cases n <;> exact Nat.beq_refl _
  simp only [eqKey, eqI2, h1, h2]
 ·rename_i s
  simp only [eqKey, eqS2]
  rw [eqL_iff.2 rfl]
theorem eqKey_all {k : Value} {es : List MapEntry} (hks : (∀ e ∈ es, ∃ n, e.key = .int .i64 n) ∨ (∀ e ∈ es, ∃ s, e.key = .string s)) {e0 : MapEntry} (h0 : e0 ∈ es) {q : Bool} (hq : eqKey k e0.key = some q) : ∀ e ∈ es, ∃ q, eqKey k e.key = some q := by
 intro e he
 rcases hks with h | h
 ·obtain ⟨n0, hn0⟩ := h e0 h0
  obtain ⟨n, hn⟩ := h e he
  rw [hn0] at hq
  rw [hn]
  cases k <;> try cases hq
  rename_i kk m
  simp only [eqKey, eqI2] at hq ⊢
  cases hkn : Nat.beq (kn kk) (kn .i64) with
  | false => rw [hkn] at hq; cases hq
  | true => exact ⟨_, rfl⟩
 ·obtain ⟨n0, hn0⟩ := h e0 h0
  obtain ⟨n, hn⟩ := h e he
  rw [hn0] at hq
  rw [hn]
  cases k <;> try (first | (cases hq; done) | (simp [eqKey] at hq; done))
  exact ⟨_, rfl⟩
theorem findM_tot {k : Value} : ∀ {es : List MapEntry}, (∀ e ∈ es, ∃ q, eqKey k e.key = some q ∧ (q = true ↔ e.key = k)) → ∀ i,
 ((∀ e ∈ es, e.key ≠ k) ∧ findM k es i = some none) ∨ ∃ j e, es[j]? = some e ∧ e.key = k ∧ findM k es i = some (some (i + j, e.val)) := by
 intro es
 induction es with
 | nil => intro _ i; exact .inl ⟨fun e h => (by cases h), rfl⟩
 | cons a t ih =>
  intro h i
  obtain ⟨q, h1, h2⟩ := h a List.mem_cons_self
  cases q with
  | true => exact .inr ⟨0, a, by simp, h2.1 rfl, by simp [findM, h1]⟩
  | false =>
   have hne : a.key ≠ k := fun e => by have := h2.2 e; cases this
   have hf : findM k (a :: t) i = findM k t (i + 1) := by simp [findM, h1]
   rcases ih (fun e he => h e (List.mem_cons_of_mem _ he)) (i + 1) with ⟨q1, q2⟩ | ⟨j, e, q1, q2, q3⟩
   ·refine .inl ⟨fun e he => ?_, hf.trans q2⟩
    rcases List.mem_cons.1 he with rfl | he
    ·exact hne
    ·exact q1 e he
   ·exact .inr ⟨j + 1, e, by simpa using q1, q2, by rw [hf, q3]; congr 3; omega⟩
theorem findNow_tot {kd : TypeDesc} {k : Value} : ∀ {es : List MapEntry}, (∀ e ∈ es, ∃ q, Instr.sameNow kd k e.key = some q ∧ (q = true ↔ e.key = k)) → ∀ i,
 ((∀ e ∈ es, e.key ≠ k) ∧ Instr.findNow kd k es i = some none) ∨ ∃ j e, es[j]? = some e ∧ e.key = k ∧ Instr.findNow kd k es i = some (some (i + j, e.val)) := by
 intro es
 induction es with
 | nil => intro _ i; exact .inl ⟨fun e h => (by cases h), rfl⟩
 | cons a t ih =>
  intro h i
  obtain ⟨q, h1, h2⟩ := h a List.mem_cons_self
  cases q with
  | true => exact .inr ⟨0, a, by simp, h2.1 rfl, by simp [Instr.findNow, h1]⟩
  | false =>
   have hne : a.key ≠ k := fun e => by have := h2.2 e; cases this
   have hf : Instr.findNow kd k (a :: t) i = Instr.findNow kd k t (i + 1) := by simp [Instr.findNow, h1]
   rcases ih (fun e he => h e (List.mem_cons_of_mem _ he)) (i + 1) with ⟨q1, q2⟩ | ⟨j, e, q1, q2, q3⟩
   ·refine .inl ⟨fun e he => ?_, hf.trans q2⟩
    rcases List.mem_cons.1 he with rfl | he
    ·exact hne
    ·exact q1 e he
   ·exact .inr ⟨j + 1, e, by simpa using q1, q2, by rw [hf, q3]; congr 3; omega⟩
theorem MR.len {ρ : Ren} {es es' : List MapEntry} {cl : Nat} (m : MR ρ es es' cl) : es.length = es'.length := by
 rcases m with m | ⟨_, _, es'', c, d⟩
 ·exact m.1.len
 ·rw [d.len, c.length_eq]
theorem MR.find {ρ : Ren} {kd : TypeDesc} {b : Bool} (hkd : (b = true ∧ ∃ kk, kd = .int kk) ∨ (b = false ∧ kd = .string)) {k : Value} (hk : keyish b k = true) {es es' : List MapEntry} {cl : Nat} (m : MR ρ es es' cl) {r : Option (Nat × Value)} (hr : findM k es 0 = some r) :
 (r = none ∧ Instr.findNow kd k es' 0 = some none ∧ ∀ v v', VR ρ v v' → (isBig es = true → MR ρ (es ++ [⟨k, v, 1000000000000⟩]) (es' ++ [⟨k, v', cl⟩]) (cl + 1)) ∧ (isBig es = false → cl < 1000000000000 → MR ρ (es ++ [⟨k, v, cl⟩]) (es' ++ [⟨k, v', cl⟩]) (cl + 1))) ∨
 ∃ j j' v v', r = some (j, v) ∧ Instr.findNow kd k es' 0 = some (some (j', v')) ∧ VR ρ v v' ∧ (∃ e, es'[j']? = some e ∧ e.key = k) ∧
  (∀ v2 v2', VR ρ v2 v2' → MR ρ (Gev.setVal v2 j es) (es'.modify j' fun e => { e with val := v2' }) cl) ∧ MR ρ (Gev.dropAt j es) (es'.eraseIdx j') cl := by
 rcases m with ⟨m, hlt⟩ | ⟨hbig, nice, es'', hp, mk⟩
 ·rcases findM_now hkd hk m 0 r hr with ⟨rfl, q2⟩ | ⟨j, v, v', rfl, q2, q3, _, e, q5, q6⟩
  ·refine .inl ⟨rfl, q2, fun v v' hv => ⟨fun hb => ?_, fun _ hcl => .inl ⟨m.snoc rfl rfl hv, fun e he => ?_⟩⟩⟩
   ·obtain ⟨e, t, rfl, h1⟩ := isBig_true hb
    have := hlt e List.mem_cons_self
    omega
   ·rcases List.mem_append.1 he with he | he
    ·exact hlt e he
    ·rw [List.mem_singleton.1 he]; exact hcl
  ·exact .inr ⟨j, j, v, v', rfl, q2, q3, ⟨e, by simpa using q5, q6⟩, fun v2 v2' hv => .inl ⟨m.setVal hv j, ME.setBorn (q := fun n => n < 1000000000000) hlt⟩, .inl ⟨m.dropAt j, fun e he => hlt e (dropAt_mem he)⟩⟩
 ·cases es with
  | nil =>
   cases mk
   have := List.nil_perm.1 hp
   subst this
   simp only [findM, Option.some.injEq] at hr
   subst hr
   refine .inl ⟨rfl, rfl, fun v v' hv => ⟨fun hb => (by cases hb), fun _ hcl => .inl ⟨.cons rfl rfl hv .nil, fun e he => ?_⟩⟩⟩
   rw [List.mem_singleton.1 he]; exact hcl
  | cons e0 t =>
   obtain ⟨q0, hq0⟩ : ∃ q, eqKey k e0.key = some q := by
    cases hq : eqKey k e0.key with
    | none => simp [findM, hq] at hr
    | some q => exact ⟨q, rfl⟩
   obtain ⟨e0', g1, g2, _⟩ := mk.get (j := 0) (e := e0) (by simp)
   have hm0 : e0' ∈ es' := hp.subset (List.mem_of_getElem? g1)
   have hall := eqKey_all nice.ks hm0 (by rw [g2]; exact hq0)
   have htrue : ∀ {y : Value} {q : Bool}, eqKey k y = some q → (q = true ↔ y = k) := fun {y q} hy => by
    refine ⟨(eqKey_now hkd hk hy).2, fun e => ?_⟩
    subst e
    rw [eqKey_self hk] at hy
    exact (Option.some.inj hy).symm
   have hkeys := mk.keys
   have hesall : ∀ e ∈ e0 :: t, ∃ q, eqKey k e.key = some q ∧ (q = true ↔ e.key = k) := fun e he => by
    obtain ⟨e2, h1, h2⟩ := mem_of_map (g := (·.key)) hkeys.symm he
    have h2 : e2.key = e.key := h2
    obtain ⟨q, hq⟩ := hall e2 (hp.subset h1)
    rw [h2] at hq
    exact ⟨q, hq, htrue hq⟩
   have hnow : ∀ e ∈ es', ∃ q, Instr.sameNow kd k e.key = some q ∧ (q = true ↔ e.key = k) := fun e he => by
    obtain ⟨q, hq⟩ := hall e he
    exact ⟨q, (eqKey_now hkd hk hq).1, htrue hq⟩
   have hB : isBig (e0 :: t) = true := Nat.ble_eq_true_of_le (hbig e0 List.mem_cons_self)
   rcases findM_tot hesall 0 with ⟨q1, q2⟩ | ⟨j, e, q1, q2, q3⟩
   ·rw [q2] at hr
    injection hr with hr
    subst hr
    have hno : ∀ e ∈ es', e.key ≠ k := fun e he => by
     have : e ∈ es'' := hp.symm.subset he
     obtain ⟨e2, h1, h2⟩ := mem_of_map (g := (·.key)) hkeys this
     have h2 : e2.key = e.key := h2
     rw [← h2]; exact q1 e2 h1
    rcases findNow_tot hnow 0 with ⟨_, p2⟩ | ⟨j', e', p1, p2, _⟩
    ·refine .inl ⟨rfl, p2, fun v v' hv => ⟨fun _ => .inr ⟨fun e he => ?_, ⟨fun e he => ?_, ?_, ?_, ?_⟩, es'' ++ [⟨k, v', cl⟩], hp.append_right _, mk.snoc rfl hv⟩, fun hb => (by rw [hB] at hb; cases hb)⟩⟩
     ·rcases List.mem_append.1 he with he | he
      ·exact hbig e he
      ·rw [List.mem_singleton.1 he]; exact Nat.le_refl _
     ·rcases List.mem_append.1 he with he | he
      ·exact Nat.lt_succ_of_lt (nice.lt e he)
      ·rw [List.mem_singleton.1 he]; exact Nat.lt_succ_self _
     ·rw [List.map_append, List.map_singleton, List.nodup_append]
      refine ⟨nice.nb, by simp, fun a ha c hc => ?_⟩
      obtain ⟨e, he, rfl⟩ := List.mem_map.1 ha
      rw [List.mem_singleton.1 hc]
      exact Nat.ne_of_lt (nice.lt e he)
     ·rw [List.map_append, List.map_singleton, List.nodup_append]
      refine ⟨nice.nk, by simp, fun a ha c hc => ?_⟩
      obtain ⟨e, he, rfl⟩ := List.mem_map.1 ha
      rw [List.mem_singleton.1 hc]
      exact hno e he
     ·rcases nice.ks with h | h
      ·refine .inl fun e he => ?_
       rcases List.mem_append.1 he with he | he
       ·exact h e he
       ·rw [List.mem_singleton.1 he]
        obtain ⟨n, hn⟩ := h e0' hm0
        rw [← g2, hn] at hq0
        obtain ⟨kk, a, rfl⟩ : ∃ kk a, k = .int kk a := by
         cases k <;> try (first | (cases hq0; done) | (simp [eqKey] at hq0; done))
         exact ⟨_, _, rfl⟩
        simp only [eqKey, eqI2] at hq0
        cases hkn : Nat.beq (kn kk) (kn .i64) with
        | false => rw [hkn] at hq0; cases hq0
        | true =>
         have hk3 : kk = .i64 := by
          have := Nat.eq_of_beq_eq_true hkn
          revert this
          cases kk <;> simp [kn]
         exact ⟨a, by rw [hk3]⟩
      ·refine .inr fun e he => ?_
       rcases List.mem_append.1 he with he | he
       ·exact h e he
       ·rw [List.mem_singleton.1 he]
        obtain ⟨n, hn⟩ := h e0' hm0
        rw [← g2, hn] at hq0
        cases k <;> try (first | (cases hq0; done) | (simp [eqKey] at hq0; done))
        exact ⟨_, rfl⟩
    ·exact absurd p2 (hno e' (List.mem_of_getElem? p1))
   ·rw [q3] at hr
    injection hr with hr
    subst hr
    obtain ⟨e2, r1, r2, r3⟩ := mk.get q1
    have hm2 : e2 ∈ es' := hp.subset (List.mem_of_getElem? r1)
    rcases findNow_tot hnow 0 with ⟨p1, _⟩ | ⟨j', e3, p1, p2, p3⟩
    ·exact absurd (r2.trans q2) (p1 e2 hm2)
    ·have he : e3 = e2 := nodup_inj nice.nk e3 (List.mem_of_getElem? p1) e2 hm2 (p2.trans (r2.trans q2).symm)
     subst he
     have hpe : (es''.eraseIdx j).Perm (es'.eraseIdx j') := ((pull_perm r1).symm.trans (hp.trans (pull_perm p1))).cons_inv
     rw [Nat.zero_add] at p3
     refine .inr ⟨j, j', e.val, e3.val, by rw [Nat.zero_add], p3, r3, ⟨e3, p1, p2⟩, fun v2 v2' hv => .inr ⟨ME.setBorn (q := fun n => 1000000000000 ≤ n) hbig, nice.setVal _ _, _, ?_, mk.setVal hv j⟩, .inr ⟨fun e he => hbig e (dropAt_mem he), nice.sub (List.eraseIdx_sublist _ _), _, hpe, mk.dropAt j⟩⟩
     exact (modify_pull (f := fun e : MapEntry => { e with val := v2' }) r1).trans ((hpe.cons _).trans (modify_pull (f := fun e : MapEntry => { e with val := v2' }) p1).symm)
theorem step_mset {B : Nat} {ρ : Ren} {h : Hs} {w : World} (R : HR B ρ h w) {id cl cl2 : Nat} {es es2 : List MapEntry} {arr2 : Array MapEntry} (hb : h.hp.get id = some (.mp es cl)) {H : Host} (he : ρ id = some H) (hm : MR ρ es2 arr2.toList cl2) :
 St B ρ h w ρ ⟨h.hp.set id (some (.mp es2 cl2)), h.nx, minN h.lo id⟩ { w with heap := w.heap.setIfInBounds H.blk (.map arr2 cl2) } := by
 obtain ⟨H0, arr, he0, hB, hh, hme⟩ := R.has id _ hb
 rw [he] at he0
 injection he0 with he0
 subst he0
 have hlt : H.blk < w.heap.size := (Array.getElem?_eq_some_iff.1 hh).1
 have hget : ∀ j, (h.hp.set id (some (.mp es2 cl2))).get j = if id = j then some (.mp es2 cl2) else h.hp.get j := fun j => Tr.get_set _ _ _ _
 have hrw : ∀ j b, (h.hp.set id (some (.mp es2 cl2))).get j = some b → ∃ b0, h.hp.get j = some b0 ∧ isRw b0 = isRw b ∧ (j ≠ id → b0 = b) := fun j b hj => by
  rw [hget] at hj
  split at hj
  ·rename_i e'
   subst e'
   injection hj with hj
   subst hj
   exact ⟨_, hb, rfl, fun h => absurd rfl h⟩
  ·exact ⟨b, hj, rfl, fun _ => rfl⟩
 have hfar : ∀ k, k ≠ H.blk → (w.heap.setIfInBounds H.blk (.map arr2 cl2))[k]? = w.heap[k]? := fun k hk => by
  rw [Array.getElem?_setIfInBounds, if_neg (fun e => hk e.symm)]
 refine ⟨⟨by simpa using R.base, R.dom, fun j b hj => ?_, fun j j' b b' K K' hj hj' hne hrb ek ek' => ?_⟩, Nat.le_refl _, Ren.le_refl _, fun _ _ => rfl, ⟨rfl, rfl, rfl, by simp, fun k hk => hfar k (by omega)⟩, by simp, minN_le_left _ _, fun j b hj hl => ?_, fun j b hj hjlt => ?_, fun j b hj hge => (by obtain ⟨b0, hb0, _, _⟩ := hrw j b hj; have := R.lt hb0; omega), fun k hk hno => ?_, fun j K hj e' => ?_⟩
 ·obtain ⟨b0, hb0, hr, hsame⟩ := hrw j b hj
  by_cases hji : j = id
  ·subst hji
   rw [hget, if_pos rfl] at hj
   injection hj with hj
   subst hj
   refine ⟨H, arr2, he, hB, ?_, hm⟩
   show (w.heap.setIfInBounds H.blk (.map arr2 cl2))[H.blk]? = _
   rw [Array.getElem?_setIfInBounds, if_pos rfl, if_pos hlt]
  ·have := hsame hji
   subst this
   refine (R.has j b0 hb0).mono (Ren.le_refl _) (fun K ek => hfar _ (fun e' => ?_))
   exact R.inj id j _ _ H K hb hb0 (fun h => hji h.symm) rfl he ek e'.symm
 ·obtain ⟨b0, hb0, hr, _⟩ := hrw j b hj
  obtain ⟨b0', hb0', _, _⟩ := hrw j' b' hj'
  exact R.inj j j' b0 b0' K K' hb0 hb0' hne (hr.trans hrb) ek ek'
 ·have hji : j ≠ id := fun e' => by subst e'; have := minN_le_right h.lo j; simp only at hl; omega
  show (h.hp.set id _).get j = _
  rw [hget, if_neg (fun e' => hji e'.symm)]
  exact hj
 ·obtain ⟨b0, hb0, hr, hsame⟩ := hrw j b hj
  refine ⟨b0, hb0, hr, fun hl => hsame (fun e' => ?_)⟩
  subst e'
  have := minN_le_right h.lo j
  simp only at hl; omega
 ·refine hfar k (fun e' => ?_)
  exact hno id _ H hb rfl he (minN_le_right _ _) e'.symm
 ·rw [R.dom j hj] at e'; cases e'
theorem step_mnew {B : Nat} {ρ : Ren} {h : Hs} {w : World} (R : HR B ρ h w) :
 St B ρ h w (ρ.add h.nx ⟨w.heap.size, 0, 0, 0, none⟩) ⟨h.hp.set h.nx (some (.mp [] 0)), Nat.succ h.nx, h.lo⟩ (w.alloc (.map #[] 0)) := by
 have hnx : ρ h.nx = none := R.dom _ (Nat.le_refl _)
 have hle := Ren.le_add ⟨w.heap.size, 0, 0, 0, none⟩ hnx
 have hget : ∀ j, (h.hp.set h.nx (some (.mp [] 0))).get j = if h.nx = j then some (.mp [] 0) else h.hp.get j := fun j => Tr.get_set _ _ _ _
 have hold : ∀ j b, (h.hp.set h.nx (some (.mp [] 0))).get j = some b → j ≠ h.nx → h.hp.get j = some b := fun j b hj hne => by
  rw [hget, if_neg (fun e => hne e.symm)] at hj; exact hj
 have hlt : ∀ j b, h.hp.get j = some b → ∀ L, ρ j = some L → L.blk < w.heap.size := fun j b hj L hL => by
  obtain ⟨L', e1, e2⟩ := (R.has j b hj).host_lt
  rw [hL] at e1; injection e1 with e1; subst e1; exact e2
 have hfar : ∀ k, k < w.heap.size → (w.alloc (.map #[] 0)).heap[k]? = w.heap[k]? := fun k hk => by
  show (w.heap.push _)[k]? = _
  rw [Array.getElem?_push, if_neg (by omega)]
 have hsz : (w.alloc (.map #[] 0)).heap.size = w.heap.size + 1 := by show (w.heap.push _).size = _; simp
 refine ⟨⟨by rw [hsz]; have := R.base; omega, fun j hj => ?_, fun j b hj => ?_, fun j j' b b' L L' hj hj' hne hr eL eL' => ?_⟩, Nat.le_succ _, hle, fun j hj => Ren.add_other _ _ (by omega), ⟨rfl, rfl, rfl, by rw [hsz]; omega, fun k hk => hfar k (by have := R.base; omega)⟩, by rw [hsz]; omega, Nat.le_refl _,
  fun j b hj hl => ?_, fun j b hj hjlt => ?_, fun j b hj hge => ?_, fun k hk hno => hfar k hk, fun j L hj eL => ?_⟩
 ·have hj' : h.nx + 1 ≤ j := hj
  rw [Ren.add_other _ _ (by omega)]
  exact R.dom j (by omega)
 ·by_cases hjn : j = h.nx
  ·subst hjn
   rw [hget, if_pos rfl] at hj
   injection hj with hj
   subst hj
   refine ⟨_, #[], Ren.add_same _ _ _, R.base, ?_, .nil⟩
   show (w.heap.push _)[w.heap.size]? = _
   simp
  ·exact (R.has j b (hold j b hj hjn)).mono hle (fun L eL => hfar _ (hlt j b (hold j b hj hjn) L eL))
 ·by_cases e1 : j = h.nx
  ·subst e1
   have h1 := hold j' b' hj' (fun e => hne e.symm)
   rw [Ren.add_same] at eL
   injection eL with eL
   subst eL
   rw [Ren.add_other _ _ (fun e => hne e.symm)] at eL'
   have := hlt j' b' h1 L' eL'
   show w.heap.size ≠ L'.blk
   omega
  ·have h1 := hold j b hj e1
   rw [Ren.add_other _ _ e1] at eL
   by_cases e2 : j' = h.nx
   ·subst e2
    rw [Ren.add_same] at eL'
    injection eL' with eL'
    subst eL'
    have := hlt j b h1 L eL
    show L.blk ≠ w.heap.size
    omega
   ·rw [Ren.add_other _ _ e2] at eL'
    exact R.inj j j' b b' L L' h1 (hold j' b' hj' e2) hne hr eL eL'
 ·show (h.hp.set h.nx _).get j = _
  have := R.lt hj
  rw [hget, if_neg (by omega)]
  exact hj
 ·exact ⟨b, hold j b hj (by omega), rfl, fun _ => rfl⟩
 ·by_cases e1 : j = h.nx
  ·subst e1
   replace hj : (h.hp.set h.nx (some (.mp [] 0))).get h.nx = some b := hj
   rw [hget, if_pos rfl] at hj
   injection hj with hj; subst hj; rfl
  ·have := R.lt (hold j b hj e1); omega
 ·by_cases e1 : j = h.nx
  ·subst e1
   rw [Ren.add_same] at eL
   injection eL with eL
   subst eL
   exact .inl (Nat.le_refl _)
  ·rw [Ren.add_other _ _ e1] at eL
   rw [R.dom j hj] at eL; cases eL
section
variable {P : Program} {cx : Cx} {o : Oper}
theorem keyT_kd {t : TypeId} {b : Bool} (h : keyT P t = some b) : ∃ kd, P.underlying t = some kd ∧ ((b = true ∧ ∃ kk, kd = .int kk) ∨ (b = false ∧ kd = .string)) := by
 unfold keyT at h
 cases hu : P.underlying t with
 | none => rw [hu] at h; cases h
 | some kd =>
  rw [hu] at h
  cases kd <;> simp only at h <;> try cases h
  ·exact ⟨_, rfl, .inl ⟨rfl, _, rfl⟩⟩
  ·exact ⟨_, rfl, .inr ⟨rfl, rfl⟩⟩
theorem checkKey_run {t : TypeId} {b : Bool} (h : keyT P t = some b) (e : Bool) (n : Nat) (v : Value) (w : World) : (Instr.checkKey e (n + 1) t v).run P w = .ok () w := by
 obtain ⟨kd, hu, hk⟩ := keyT_kd h
 rcases hk with ⟨_, kk, rfl⟩ | ⟨_, rfl⟩ <;> (cases v <;> simp [Instr.checkKey, run_underlying hu])
theorem findKey_run {t : TypeId} {kd : TypeDesc} (hu : P.underlying t = some kd) {k : Value} {es : List MapEntry} {r : Option (Nat × Value)} (hf : Instr.findNow kd k es 0 = some r) (w : World) : (Instr.findKey t k es).run P w = .ok r w := by
 simp [Instr.findKey, run_underlying hu, hf]
theorem okVal_VR {ρ : Ren} {t : TypeId} {z : Value} (h : zeroV P t = some z) : VR ρ z z ∧ ∃ i, P.info? t = some i ∧ i.zero = some z := by
 unfold zeroV at h
 cases hi : P.info? t with
 | none => rw [hi] at h; cases h
 | some i =>
  rw [hi] at h
  cases hz : i.zero with
  | none => simp only [hz] at h; cases h
  | some z0 =>
   simp only [hz] at h
   cases ho : okC z0 with
   | false => rw [ho] at h; cases h
   | true =>
    rw [ho] at h
    injection h with h
    subst h
    exact ⟨okC_VR ho, i, rfl, hz⟩
theorem lkV_VR {ρ : Ren} {z : Value} {ok : Bool} {r r' : Option (Nat × Value)} (hz : VR ρ z z) (h : (r = none ∧ r' = none) ∨ ∃ j j' v v', r = some (j, v) ∧ r' = some (j', v') ∧ VR ρ v v') : VR ρ (lkV z ok r) (lkV z ok r') := by
 have two : ∀ x y, VR ρ x y → ∀ b : Bool, VR ρ (.tuple #[x, .bool b]) (.tuple #[y, .bool b]) := fun x y hxy b =>
  VR.tuple_of (xs := [x, .bool b]) (ys := [y, .bool b]) (.cons hxy (.cons (.bool b) .nil))
 rcases h with ⟨rfl, rfl⟩ | ⟨j, j', v, v', rfl, rfl, hv⟩
 ·cases ok
  ·exact hz
  ·exact two _ _ hz _
 ·cases ok
  ·exact hv
  ·exact two _ _ hv _
theorem snd_lookup {t kt et : TypeId} {b ok : Bool} {m k : Operand} {m' k' : GX} {z : Value} (ho : o.op = .lookup t m k ok) (ht : P.underlying t = some (.map kt et)) (hkt : keyT P kt = some b) (hz : zeroV P et = some z) (hm : gx cx m = some m') (hk : gx cx k = some k') : Snd P cx o (oLookup b z ok m' k') :=
 snd_still fun B ρ en h w a v h' E R eg => by
  have hmv := gx_VR E hm
  have hkv := gx_VR E hk
  obtain ⟨e1, rfl⟩ := ret1_some (show ret1 h (lk1 b h z ok (ev en k') (ev en m')) = _ from eg)
  refine ⟨rfl, ?_⟩
  obtain ⟨hzz, iz, hiz, hiz0⟩ := okVal_VR (ρ := ρ) hz
  obtain ⟨kd, hu, hkd⟩ := keyT_kd hkt
  generalize hqm : a.eval m = um at hmv
  generalize hqk : a.eval k = uk at hkv
  generalize ev en m' = vm at hmv e1
  generalize ev en k' = vk at hkv e1
  have hzr : ∀ w : World, (zeroValue et).run P w = .ok z w := fun w => by simp [zeroValue, info_run hiz, hiz0]
  cases hmv with
  | nilmap =>
   simp only [lk1, Option.some.injEq] at e1
   subst e1
   refine ⟨lkV z ok none, ?_, lkV_VR hzz (.inl ⟨rfl, rfl⟩)⟩
   have hfk := findKey_run (P := P) hu (k := uk) (es := []) (r := none) rfl w
   have hck : (Instr.checkKey true 10000 kt uk).run P w = .ok () w := checkKey_run (P := P) hkt true 9999 uk w
   cases ok <;> simp [execOp, ho, hqm, hqk, Instr.lookup, under_run ht, hck, hfk, hzr, lkV]
  | map id H hH =>
   simp only [lk1] at e1
   cases hki : keyish b vk with
   | false => rw [hki] at e1; cases e1
   | true =>
    rw [hki] at e1
    have hvk : uk = vk := by
     cases vk <;> try cases hki
     ·exact hkv.int_inv
     ·exact hkv.string_inv
    subst hvk
    cases hb : h'.hp.get id with
    | none => rw [hb] at e1; cases e1
    | some blk =>
     rw [hb] at e1
     cases blk with
     | row => cases e1
     | it => cases e1
     | lp => cases e1
     | mp es cl =>
      simp only [lk2] at e1
      cases hf : findM uk es 0 with
      | none => rw [hf] at e1; cases e1
      | some r =>
       rw [hf] at e1
       simp only [lkO, Option.some.injEq] at e1
       subst e1
       obtain ⟨H0, es', he0, hB, hh, hme⟩ := R.has id _ hb
       rw [hH] at he0
       injection he0 with he0
       subst he0
       have hgo : (getObj H.blk).run P w = .ok (.map es' cl) w := by
        simp [getObj, Sem.run, hh]
       have hck : (Instr.checkKey es'.isEmpty 10000 kt uk).run P w = .ok () w := checkKey_run (P := P) hkt es'.isEmpty 9999 uk w
       obtain ⟨r', hr', hrr⟩ : ∃ r', Instr.findNow kd uk es'.toList 0 = some r' ∧ ((r = none ∧ r' = none) ∨ ∃ j j' v v', r = some (j, v) ∧ r' = some (j', v') ∧ VR ρ v v') := by
        rcases hme.find hkd hki hf with ⟨q1, q2, _⟩ | ⟨j, j', v, v', q1, q2, q3, _⟩
        ·exact ⟨none, q2, .inl ⟨q1, rfl⟩⟩
        ·exact ⟨some (j', v'), q2, .inr ⟨j, j', v, v', q1, rfl, q3⟩⟩
       have hfk := findKey_run (P := P) hu hr' w
       refine ⟨lkV z ok r', ?_, lkV_VR hzz hrr⟩
       cases r' with
       | none => cases ok <;> simp [execOp, ho, hqm, hqk, Instr.lookup, under_run ht, hgo, hck, hfk, hzr, lkV]
       | some p => cases ok <;> simp [execOp, ho, hqm, hqk, Instr.lookup, under_run ht, hgo, hck, hfk, lkV]
  | _ => cases e1
theorem getMap_run {w : World} {g cl : Nat} {es : Array MapEntry} (hh : w.heap[g]? = some (.map es cl)) : (getObj g).run P w = .ok (.map es cl) w := by
 simp [getObj, Sem.run, hh]
theorem setMap_run {w : World} {g cl : Nat} {es : Array MapEntry} (hh : w.heap[g]? = some (.map es cl)) (ob : Obj) : (setObj g ob).run P w = .ok () { w with heap := w.heap.setIfInBounds g ob } := by
 simp [setObj, Sem.run, hh]
theorem sameBits_key {b : Bool} {k : Value} (hk : keyish b k = true) (n : Nat) : Instr.sameBits (n + 1) k k = true := by
 cases k <;> try cases hk
 ·simp [Instr.sameBits]
 ·show (_ == _) = true
  exact (ba_beq _ _).2 rfl
theorem key_same {ρ : Ren} {b : Bool} {k k' : Value} (hk : keyish b k = true) (h : VR ρ k k') : k' = k := by
 cases k <;> try cases hk
 ·exact h.int_inv
 ·exact h.string_inv
theorem modify_key {es : Array MapEntry} {j : Nat} {k v : Value} {e : MapEntry} (he : es[j]? = some e) (hk : e.key = k) : (es.modify j fun e => { e with key := k, val := v }).toList = es.toList.modify j fun e => { e with val := v } := by
 apply List.ext_getElem?
 intro i
 rw [Array.getElem?_toList, Array.getElem?_modify, List.getElem?_modify]
 by_cases hij : j = i
 ·subst hij
  rw [if_pos rfl, Array.getElem?_toList, he]
  simp [hk]
 ·rw [if_neg hij, Array.getElem?_toList]
  simp [hij]
theorem snd_mapup {t kt et : TypeId} {b : Bool} {m k v : Operand} {m' k' v' : GX} (ho : o.op = .mapUpdate t m k v ∨ o.op = .insert t m k v) (ht : P.underlying t = some (.map kt et)) (hkt : keyT P kt = some b) (hm : gx cx m = some m') (hk : gx cx k = some k') (hv : gx cx v = some v') : Snd P cx o (oMapup b m' k' v') := by
 intro B ρ en h w a r h' E R eg
 have hmv := gx_VR E hm
 have hkv := gx_VR E hk
 have hvv := gx_VR E hv
 simp only [oMapup] at eg
 obtain ⟨kd, hu, hkd⟩ := keyT_kd hkt
 generalize hqm : a.eval m = um at hmv
 generalize hqk : a.eval k = uk at hkv
 generalize hqv : a.eval v = uv at hvv
 generalize ev en m' = vm at hmv eg
 generalize ev en k' = vk at hkv eg
 generalize ev en v' = vv at hvv eg
 have hex : (execOp a.eval o).run P w = ((Instr.mapUpdate t um uk uv).run P w).andThen fun _ w => .ok .skip w := by
  rcases ho with ho | ho <;> simp [execOp, ho, hqm, hqk, hqv]
 cases hmv with
 | map id H hH =>
  simp only [mapup1] at eg
  cases hki : keyish b vk with
  | false => rw [hki] at eg; cases eg
  | true =>
   rw [hki] at eg
   have hvk := key_same hki hkv
   subst hvk
   cases hb : h.hp.get id with
   | none => rw [hb] at eg; cases eg
   | some blk =>
    rw [hb] at eg
    cases blk with
    | row => cases eg
    | it => cases eg
    | lp => cases eg
    | mp es cl =>
     simp only [mapup2] at eg
     cases hf : findM uk es 0 with
     | none => rw [hf] at eg; cases eg
     | some q =>
      rw [hf] at eg
      obtain ⟨H0, es', he0, hB, hh, hme⟩ := R.has id _ hb
      rw [hH] at he0
      injection he0 with he0
      subst he0
      have hgo := getMap_run (P := P) hh
      have hck : (Instr.checkKey false 10000 kt uk).run P w = .ok () w := checkKey_run (P := P) hkt false 9999 uk w
      rcases hme.find hkd hki hf with ⟨rfl, q2, q3⟩ | ⟨j, j', x, x', rfl, q2, _, ⟨e, q5, q6⟩, q7, _⟩
      ·have hfk := findKey_run (P := P) hu q2 w
       simp only [mapup3] at eg
       have hst := setMap_run (P := P) hh (.map (es'.push { key := uk, val := uv, born := cl }) (cl + 1))
       have hrun : (execOp a.eval o).run P w = .ok .skip { w with heap := w.heap.setIfInBounds H.blk (.map (es'.push { key := uk, val := uv, born := cl }) (cl + 1)) } := by
        rw [hex]
        simp [Instr.mapUpdate, under_run ht, hgo, hck, hfk, hst]
       cases hB2 : isBig es with
       | true =>
        rw [hB2] at eg
        simp only [mapnew, setMp, Option.some.injEq, Prod.mk.injEq] at eg
        obtain ⟨rfl, rfl⟩ := eg
        exact ⟨undef, _, ρ, .inr ⟨hrun, rfl⟩, VR.undef_inv, step_mset (arr2 := es'.push { key := uk, val := uv, born := cl }) (cl2 := cl + 1) R hb hH (by rw [Array.toList_push]; exact (q3 vv uv hvv).1 hB2)⟩
       | false =>
        rw [hB2] at eg
        simp only [mapnew] at eg
        cases hcl : Nat.blt cl 1000000000000 with
        | false => rw [hcl] at eg; cases eg
        | true =>
         rw [hcl] at eg
         have hcl2 : cl < 1000000000000 := by
          have : Nat.ble (cl + 1) 1000000000000 = true := hcl
          exact Nat.le_of_ble_eq_true this
         simp only [setMp, Option.some.injEq, Prod.mk.injEq] at eg
         obtain ⟨rfl, rfl⟩ := eg
         exact ⟨undef, _, ρ, .inr ⟨hrun, rfl⟩, VR.undef_inv, step_mset (arr2 := es'.push { key := uk, val := uv, born := cl }) (cl2 := cl + 1) R hb hH (by rw [Array.toList_push]; exact (q3 vv uv hvv).2 hB2 hcl2)⟩
      ·have hfk := findKey_run (P := P) hu q2 w
       simp only [mapup3, setMp, Option.some.injEq, Prod.mk.injEq] at eg
       obtain ⟨rfl, rfl⟩ := eg
       have hej : es'[j']? = some e := by simpa using q5
       have hold : ((es'[j']?).map (·.key)).getD uk = uk := by rw [hej]; simp [q6]
       have hks : (Instr.keyThatStays uk uk).run P w = .ok uk w := by simp [Instr.keyThatStays, sameBits_key hki 9999]
       have hst := setMap_run (P := P) hh (.map (es'.modify j' fun e => { e with key := uk, val := uv }) cl)
       refine ⟨undef, _, ρ, .inr ⟨?_, rfl⟩, VR.undef_inv, step_mset (arr2 := es'.modify j' fun e => { e with key := uk, val := uv }) (cl2 := cl) R hb hH ?_⟩
       ·rw [hex]
        simp only [Instr.mapUpdate, Sem.run_bind, under_run ht, Result.andThen_ok, hgo, hck, hfk, hold, hks, hst]
       ·rw [modify_key hej q6]
        exact q7 vv uv hvv
 | nilmap => cases eg
 | _ => cases eg
theorem snd_mkmap {t kt et : TypeId} {r : Option Operand} {x' : GX} (ho : o.op = .makeMap t r) (ht : P.underlying t = some (.map kt et)) (hx : (r = none ∧ x' = .c (.int .i64 0)) ∨ ∃ x, r = some x ∧ gx cx x = some x') : Snd P cx o (oMkmap x') := by
 intro B ρ en h w a v h' E R eg
 simp only [oMkmap] at eg
 have hi : ∃ k n, ev en x' = .int k n := by
  cases hq : ev en x' <;> rw [hq] at eg <;> try cases eg
  exact ⟨_, _, rfl⟩
 obtain ⟨kk, n, hi⟩ := hi
 rw [hi] at eg
 simp only [mkmap1, Option.some.injEq, Prod.mk.injEq] at eg
 obtain ⟨rfl, rfl⟩ := eg
 refine ⟨.map (some w.heap.size), w.alloc (.map #[] 0), _, .inl ?_, .map h.nx ⟨w.heap.size, 0, 0, 0, none⟩ (Ren.add_same _ _ _), step_mnew R⟩
 rcases hx with ⟨rfl, _⟩ | ⟨x, rfl, hx⟩
 ·simp [execOp, ho, Instr.makeMap]
 ·have hv := gx_VR E hx
  rw [hi] at hv
  have hq := hv.int_inv
  simp [execOp, ho, Instr.makeMap, hq, under_run ht, asInt, asIntOf]
theorem snd_maplen {c : Call} {m : Operand} {m' : GX} {t kt et : TypeId} (ho : o.op = .call c) (hc : c.callee = .builtin .len) (ha : c.args = #[m]) (hat : c.argTypes[0]? = some t) (ht : P.underlying t = some (.map kt et)) (hm : gx cx m = some m') : Snd P cx o (oMaplen m') :=
 snd_still fun B ρ en h w a v h' E R eg => by
  have hmv := gx_VR E hm
  obtain ⟨e1, rfl⟩ := ret1_some (show ret1 h (maplen1 h (ev en m')) = _ from eg)
  refine ⟨rfl, ?_⟩
  generalize hqm : a.eval m = um at hmv
  generalize ev en m' = vm at hmv e1
  cases hmv with
  | nilmap =>
   simp only [maplen1, Option.some.injEq] at e1
   subst e1
   exact ⟨.int .i64 0, by simp [execOp, ho, resolve, hc, ha, invoke, builtin, Builtin.len_, hat, under_run ht, hqm, goInt], .int _ _⟩
  | map id H hH =>
   simp only [maplen1] at e1
   cases hb : h'.hp.get id with
   | none => rw [hb] at e1; cases e1
   | some blk =>
    rw [hb] at e1
    cases blk with
    | row => cases e1
    | it => cases e1
    | lp => cases e1
    | mp es cl =>
     simp only [maplen2, Option.some.injEq] at e1
     subst e1
     obtain ⟨H0, es', he0, hB, hh, hme⟩ := R.has id _ hb
     rw [hH] at he0
     injection he0 with he0
     subst he0
     have hgo := getMap_run (P := P) hh
     have hl : es'.size = es.length := by rw [hme.len]; simp
     refine ⟨.int .i64 (es.length : Int), ?_, .int _ _⟩
     simp [execOp, ho, resolve, hc, ha, invoke, builtin, Builtin.len_, hat, under_run ht, hqm, goInt, hgo, hl]
  | _ => cases e1
theorem snd_mapdel {c : Call} {m k : Operand} {m' k' : GX} {t kt et : TypeId} {b : Bool} (ho : o.op = .call c) (hc : c.callee = .builtin .delete) (ha : c.args = #[m, k]) (hat : c.argTypes[0]? = some t) (ht : P.underlying t = some (.map kt et)) (hkt : keyT P kt = some b) (hm : gx cx m = some m') (hk : gx cx k = some k') : Snd P cx o (oMapdel b m' k') := by
 intro B ρ en h w a r h' E R eg
 have hmv := gx_VR E hm
 have hkv := gx_VR E hk
 simp only [oMapdel] at eg
 obtain ⟨kd, hu, hkd⟩ := keyT_kd hkt
 generalize hqm : a.eval m = um at hmv
 generalize hqk : a.eval k = uk at hkv
 generalize ev en m' = vm at hmv eg
 generalize ev en k' = vk at hkv eg
 have hex : (execOp a.eval o).run P w = ((Builtin.delete_ c.argTypes o.type #[um, uk]).run P w).andThen fun v w => .ok (.value v) w := by
  simp [execOp, ho, resolve, hc, ha, invoke, builtin, hqm, hqk]
 cases hmv with
 | nilmap =>
  simp only [mapdel1, Option.some.injEq, Prod.mk.injEq] at eg
  obtain ⟨rfl, rfl⟩ := eg
  have hck : (Instr.checkKey true 10000 kt uk).run P w = .ok () w := checkKey_run (P := P) hkt true 9999 uk w
  refine ⟨undef, w, ρ, .inl ?_, VR.undef_inv, St.refl R⟩
  rw [hex]
  simp [Builtin.delete_, hat, under_run ht, hck]
  rfl
 | map id H hH =>
  simp only [mapdel1] at eg
  cases hki : keyish b vk with
  | false => rw [hki] at eg; cases eg
  | true =>
   rw [hki] at eg
   have hvk := key_same hki hkv
   subst hvk
   cases hb : h.hp.get id with
   | none => rw [hb] at eg; cases eg
   | some blk =>
    rw [hb] at eg
    cases blk with
    | row => cases eg
    | it => cases eg
    | lp => cases eg
    | mp es cl =>
     simp only [mapdel2] at eg
     cases hf : findM uk es 0 with
     | none => rw [hf] at eg; cases eg
     | some q =>
      rw [hf] at eg
      obtain ⟨H0, es', he0, hB, hh, hme⟩ := R.has id _ hb
      rw [hH] at he0
      injection he0 with he0
      subst he0
      have hgo := getMap_run (P := P) hh
      have hck : (Instr.checkKey es'.isEmpty 10000 kt uk).run P w = .ok () w := checkKey_run (P := P) hkt es'.isEmpty 9999 uk w
      rcases hme.find hkd hki hf with ⟨rfl, q2, _⟩ | ⟨j, j', x, x', rfl, q2, _, _, _, q7⟩
      ·have hfk := findKey_run (P := P) hu q2 w
       simp only [mapdel3, setMp, Option.some.injEq, Prod.mk.injEq] at eg
       obtain ⟨rfl, rfl⟩ := eg
       have hst := setMap_run (P := P) hh (.map es' cl)
       refine ⟨undef, _, ρ, .inl ?_, VR.undef_inv, step_mset (arr2 := es') (cl2 := cl) R hb hH hme⟩
       rw [hex]
       simp [Builtin.delete_, hat, under_run ht, hgo, hck, hfk, hst]
       rfl
      ·have hfk := findKey_run (P := P) hu q2 w
       simp only [mapdel3, setMp, Option.some.injEq, Prod.mk.injEq] at eg
       obtain ⟨rfl, rfl⟩ := eg
       have hst := setMap_run (P := P) hh (.map (es'.eraseIdxIfInBounds j') cl)
       refine ⟨undef, _, ρ, .inl ?_, VR.undef_inv, step_mset (arr2 := es'.eraseIdxIfInBounds j') (cl2 := cl) R hb hH ?_⟩
       ·rw [hex]
        simp [Builtin.delete_, hat, under_run ht, hgo, hck, hfk, hst]
        rfl
       ·have : (es'.eraseIdxIfInBounds j').toList = es'.toList.eraseIdx j' := by simp [Array.eraseIdxIfInBounds]; split <;> simp_all
        rw [this]
        exact q7
 | _ => cases eg
end
end Go.Gev
namespace Go.Gev
open Go.RowKit
theorem step_put {B : Nat} {ρ : Ren} {h : Hs} {w : World} (R : HR B ρ h w) {id : Nat} {b b2 : Blk} (hb : h.hp.get id = some b) (hrw1 : isRw b = true) (hrw2 : isRw b2 = true) {H : Host} (he : ρ id = some H) (hB : B ≤ H.blk) (o : Obj)
 (hbr : BR B ρ { w with heap := w.heap.setIfInBounds H.blk o } id b2) :
 St B ρ h w ρ ⟨h.hp.set id (some b2), h.nx, minN h.lo id⟩ { w with heap := w.heap.setIfInBounds H.blk o } := by
 have hget : ∀ j, (h.hp.set id (some b2)).get j = if id = j then some b2 else h.hp.get j := fun j => Tr.get_set _ _ _ _
 have hrw : ∀ j b', (h.hp.set id (some b2)).get j = some b' → ∃ b0, h.hp.get j = some b0 ∧ isRw b0 = isRw b' ∧ (j ≠ id → b0 = b') := fun j b' hj => by
  rw [hget] at hj
  split at hj
  ·rename_i e'
   subst e'
   injection hj with hj
   subst hj
   exact ⟨_, hb, hrw1.trans hrw2.symm, fun h => absurd rfl h⟩
  ·exact ⟨b', hj, rfl, fun _ => rfl⟩
 have hfar : ∀ k, k ≠ H.blk → (w.heap.setIfInBounds H.blk o)[k]? = w.heap[k]? := fun k hk => by
  rw [Array.getElem?_setIfInBounds, if_neg (fun e => hk e.symm)]
 refine ⟨⟨by simpa using R.base, R.dom, fun j b' hj => ?_, fun j j' b' b'' K K' hj hj' hne hrb ek ek' => ?_⟩, Nat.le_refl _, Ren.le_refl _, fun _ _ => rfl, ⟨rfl, rfl, rfl, by simp, fun k hk => hfar k (by omega)⟩, by simp, minN_le_left _ _, fun j b' hj hl => ?_, fun j b' hj hjlt => ?_, fun j b' hj hge => (by obtain ⟨b0, hb0, _, _⟩ := hrw j b' hj; have := R.lt hb0; omega), fun k hk hno => ?_, fun j K hj e' => ?_⟩
 ·obtain ⟨b0, hb0, hr, hsame⟩ := hrw j b' hj
  by_cases hji : j = id
  ·subst hji
   rw [hget, if_pos rfl] at hj
   injection hj with hj
   subst hj
   exact hbr
  ·have := hsame hji
   subst this
   refine (R.has j b0 hb0).mono (Ren.le_refl _) (fun K ek => hfar _ (fun e' => ?_))
   exact R.inj id j _ _ H K hb hb0 (fun h => hji h.symm) hrw1 he ek e'.symm
 ·obtain ⟨b0, hb0, hr, _⟩ := hrw j b' hj
  obtain ⟨b0', hb0', _, _⟩ := hrw j' b'' hj'
  exact R.inj j j' b0 b0' K K' hb0 hb0' hne (hr.trans hrb) ek ek'
 ·have hji : j ≠ id := fun e' => by subst e'; have := minN_le_right h.lo j; simp only at hl; omega
  show (h.hp.set id _).get j = _
  rw [hget, if_neg (fun e' => hji e'.symm)]
  exact hj
 ·obtain ⟨b0, hb0, hr, hsame⟩ := hrw j b' hj
  refine ⟨b0, hb0, hr, fun hl => hsame (fun e' => ?_)⟩
  subst e'
  have := minN_le_right h.lo j
  simp only at hl; omega
 ·refine hfar k (fun e' => ?_)
  exact hno id _ H hb hrw1 he (minN_le_right _ _) e'.symm
 ·rw [R.dom j hj] at e'; cases e'
theorem step_del {B : Nat} {ρ : Ren} {h : Hs} {w : World} (R : HR B ρ h w) {id : Nat} {b : Blk} (hb : h.hp.get id = some b) (hrw1 : isRw b = true) {H : Host} (he : ρ id = some H) (hB : B ≤ H.blk) (o : Obj) :
 St B ρ h w ρ ⟨h.hp.set id none, h.nx, minN h.lo id⟩ { w with heap := w.heap.setIfInBounds H.blk o } := by
 have hget : ∀ j, (h.hp.set id none).get j = if id = j then none else h.hp.get j := fun j => Tr.get_set _ _ _ _
 have hrw : ∀ j b', (h.hp.set id none).get j = some b' → j ≠ id ∧ h.hp.get j = some b' := fun j b' hj => by
  rw [hget] at hj
  split at hj
  ·cases hj
  ·rename_i e'
   exact ⟨fun q => e' q.symm, hj⟩
 have hfar : ∀ k, k ≠ H.blk → (w.heap.setIfInBounds H.blk o)[k]? = w.heap[k]? := fun k hk => by
  rw [Array.getElem?_setIfInBounds, if_neg (fun e => hk e.symm)]
 refine ⟨⟨by simpa using R.base, R.dom, fun j b' hj => ?_, fun j j' b' b'' K K' hj hj' hne hrb ek ek' => ?_⟩, Nat.le_refl _, Ren.le_refl _, fun _ _ => rfl, ⟨rfl, rfl, rfl, by simp, fun k hk => hfar k (by omega)⟩, by simp, minN_le_left _ _, fun j b' hj hl => ?_, fun j b' hj hjlt => ?_, fun j b' hj hge => (by obtain ⟨_, hb0⟩ := hrw j b' hj; have := R.lt hb0; omega), fun k hk hno => ?_, fun j K hj e' => ?_⟩
 ·obtain ⟨hji, hb0⟩ := hrw j b' hj
  refine (R.has j b' hb0).mono (Ren.le_refl _) (fun K ek => hfar _ (fun e' => ?_))
  exact R.inj id j _ _ H K hb hb0 (fun h => hji h.symm) hrw1 he ek e'.symm
 ·exact R.inj j j' b' b'' K K' (hrw j b' hj).2 (hrw j' b'' hj').2 hne hrb ek ek'
 ·have hji : j ≠ id := fun e' => by subst e'; have := minN_le_right h.lo j; simp only at hl; omega
  show (h.hp.set id _).get j = _
  rw [hget, if_neg (fun e' => hji e'.symm)]
  exact hj
 ·exact ⟨b', (hrw j b' hj).2, rfl, fun _ => rfl⟩
 ·refine hfar k (fun e' => ?_)
  exact hno id _ H hb hrw1 he (minN_le_right _ _) e'.symm
 ·rw [R.dom j hj] at e'; cases e'
theorem step_add {B : Nat} {ρ : Ren} {h : Hs} {w w' : World} (R : HR B ρ h w) {b2 : Blk} (hrw2 : isRw b2 = true) {H : Host} (hH : w.heap.size ≤ H.blk) (hHl : H.blk < w'.heap.size) (hbl : Below w.heap.size w w')
 (hbr : BR B (ρ.add h.nx H) w' h.nx b2) :
 St B ρ h w (ρ.add h.nx H) ⟨h.hp.set h.nx (some b2), Nat.succ h.nx, h.lo⟩ w' := by
 have hnx : ρ h.nx = none := R.dom _ (Nat.le_refl _)
 have hle := Ren.le_add H hnx
 have hget : ∀ j, (h.hp.set h.nx (some b2)).get j = if h.nx = j then some b2 else h.hp.get j := fun j => Tr.get_set _ _ _ _
 have hold : ∀ j b, (h.hp.set h.nx (some b2)).get j = some b → j ≠ h.nx → h.hp.get j = some b := fun j b hj hne => by
  rw [hget, if_neg (fun e => hne e.symm)] at hj; exact hj
 have hlt : ∀ j b, h.hp.get j = some b → ∀ L, ρ j = some L → L.blk < w.heap.size := fun j b hj L hL => by
  obtain ⟨L', e1, e2⟩ := (R.has j b hj).host_lt
  rw [hL] at e1; injection e1 with e1; subst e1; exact e2
 have hfar : ∀ k, k < w.heap.size → w'.heap[k]? = w.heap[k]? := fun k hk => hbl.block k hk
 refine ⟨⟨by have := R.base; omega, fun j hj => ?_, fun j b hj => ?_, fun j j' b b' L L' hj hj' hne hr eL eL' => ?_⟩, Nat.le_succ _, hle, fun j hj => Ren.add_other _ _ (by omega), hbl.mono R.base, by omega, Nat.le_refl _,
  fun j b hj hl => ?_, fun j b hj hjlt => ?_, fun j b hj hge => ?_, fun k hk hno => hfar k hk, fun j L hj eL => ?_⟩
 ·have hj' : h.nx + 1 ≤ j := hj
  rw [Ren.add_other _ _ (by omega)]
  exact R.dom j (by omega)
 ·by_cases hjn : j = h.nx
  ·subst hjn
   rw [hget, if_pos rfl] at hj
   injection hj with hj
   subst hj
   exact hbr
  ·exact (R.has j b (hold j b hj hjn)).mono hle (fun L eL => hfar _ (hlt j b (hold j b hj hjn) L eL))
 ·by_cases e1 : j = h.nx
  ·subst e1
   have h1 := hold j' b' hj' (fun e => hne e.symm)
   rw [Ren.add_same] at eL
   injection eL with eL
   subst eL
   rw [Ren.add_other _ _ (fun e => hne e.symm)] at eL'
   have := hlt j' b' h1 L' eL'
   omega
  ·have h1 := hold j b hj e1
   rw [Ren.add_other _ _ e1] at eL
   by_cases e2 : j' = h.nx
   ·subst e2
    rw [Ren.add_same] at eL'
    injection eL' with eL'
    subst eL'
    have := hlt j b h1 L eL
    omega
   ·rw [Ren.add_other _ _ e2] at eL'
    exact R.inj j j' b b' L L' h1 (hold j' b' hj' e2) hne hr eL eL'
 ·show (h.hp.set h.nx _).get j = _
  have := R.lt hj
  rw [hget, if_neg (by omega)]
  exact hj
 ·exact ⟨b, hold j b hj (by omega), rfl, fun _ => rfl⟩
 ·by_cases e1 : j = h.nx
  ·subst e1
   replace hj : (h.hp.set h.nx (some b2)).get h.nx = some b := hj
   rw [hget, if_pos rfl] at hj
   injection hj with hj; subst hj; exact hrw2
  ·have := R.lt (hold j b hj e1); omega
 ·by_cases e1 : j = h.nx
  ·subst e1
   rw [Ren.add_same] at eL
   injection eL with eL
   subst eL
   exact .inl hH
  ·rw [Ren.add_other _ _ e1] at eL
   rw [R.dom j hj] at eL; cases eL
section
variable {P : Program} {cx : Cx} {o : Oper}
theorem step_inew {B : Nat} {ρ : Ren} {h : Hs} {w : World} (R : HR B ρ h w) {m : Option Nat} {s l : Nat} {m' : Option Nat} (hm : (m = none ∧ m' = none) ∨ ∃ k Hm, m = some k ∧ ρ k = some Hm ∧ m' = some Hm.blk) :
 St B ρ h w (ρ.add h.nx ⟨w.heap.size, 0, 0, 0, none⟩) ⟨h.hp.set h.nx (some (.it m s [] l)), Nat.succ h.nx, h.lo⟩ (w.alloc (.mapIter m' s #[] l)) := by
 have hsz : (w.alloc (.mapIter m' s #[] l)).heap.size = w.heap.size + 1 := by show (w.heap.push _).size = _; simp
 have hat : (w.alloc (.mapIter m' s #[] l)).heap[w.heap.size]? = some (.mapIter m' s #[] l) := heap_alloc_new w _
 refine step_add (b2 := .it m s [] l) R rfl (Nat.le_refl _) (by rw [hsz]; show w.heap.size < _; omega) ((Below.refl _ w).alloc (Nat.le_refl _) _) ?_
 refine ⟨_, Ren.add_same _ _ _, ⟨R.base, rfl⟩, ?_⟩
 rcases hm with ⟨rfl, rfl⟩ | ⟨k, Hm, rfl, hk, rfl⟩
 ·exact .inl ⟨rfl, hat⟩
 ·refine .inr ⟨k, Hm, rfl, ?_, hat⟩
  rw [Ren.add_other _ _ (fun e => by subst e; rw [R.dom _ (Nat.le_refl _)] at hk; cases hk)]
  exact hk
theorem snd_range {t kt et : TypeId} {x : Operand} {x' : GX} (ho : o.op = .range t x) (ht : P.underlying t = some (.map kt et)) (hx : gx cx x = some x') : Snd P cx o (oRange x') := by
 intro B ρ en h w a v h' E R eg
 have hv := gx_VR E hx
 simp only [oRange] at eg
 generalize hq : a.eval x = u at hv
 generalize ev en x' = y at hv eg
 cases hv with
 | nilmap =>
  simp only [range1, Option.some.injEq, Prod.mk.injEq] at eg
  obtain ⟨rfl, rfl⟩ := eg
  refine ⟨.pointer (some ⟨w.heap.size, 0, none⟩), w.alloc (.mapIter none 0 #[] 0), _, .inl ?_, .ptr h.nx 0 ⟨w.heap.size, 0, 0, 0, none⟩ (Ren.add_same _ _ _), step_inew R (.inl ⟨rfl, rfl⟩)⟩
  simp only [execOp, ho, hq, Sem.run_bind, run_range_nilMap w t kt et ht, Result.andThen_ok, Sem.run_pure]
 | map id H hH =>
  simp only [range1] at eg
  cases hb : h.hp.get id with
  | none => rw [hb] at eg; cases eg
  | some blk =>
   rw [hb] at eg
   cases blk with
   | mp es cl =>
    simp only [range2, Option.some.injEq, Prod.mk.injEq] at eg
    obtain ⟨rfl, rfl⟩ := eg
    obtain ⟨H0, es', he0, hB, hh, hme⟩ := R.has id _ hb
    rw [hH] at he0
    injection he0 with he0
    subst he0
    refine ⟨.pointer (some ⟨w.heap.size, 0, none⟩), w.alloc (.mapIter (some H.blk) cl #[] cl), _, .inl ?_, .ptr h.nx 0 ⟨w.heap.size, 0, 0, 0, none⟩ (Ren.add_same _ _ _), step_inew R (.inr ⟨id, H, rfl, hH, rfl⟩)⟩
    simp only [execOp, ho, hq, Sem.run_bind, run_range_map w t kt et H.blk es' cl ht hh, Result.andThen_ok, Sem.run_pure]
   | _ => cases eg
 | _ => cases eg
theorem findE_ME {ρ : Ren} {s : Nat} {e : MapEntry} : ∀ {es es' : List MapEntry}, ME ρ es es' → findE s es = some e → ∃ e', es'.find? (fun x => x.born == s) = some e' ∧ e'.key = e.key ∧ VR ρ e.val e'.val := by
 intro es es' m
 induction m with
 | nil => intro h; cases h
 | @cons a a' as as' hk hb hv _ ih =>
  intro h
  simp only [findE] at h
  cases hq : Nat.beq a.born s with
  | true =>
   rw [hq] at h
   injection h with h
   subst h
   refine ⟨a', ?_, hk, hv⟩
   have : (a'.born == s) = true := by rw [hb, Nat.eq_of_beq_eq_true hq]; simp
   rw [List.find?_cons, this]
  | false =>
   rw [hq] at h
   obtain ⟨e', h1, h2⟩ := ih h
   refine ⟨e', ?_, h2⟩
   have : (a'.born == s) = false := by rw [hb]; simpa using beq_false.1 hq
   rw [List.find?_cons, this]
   exact h1
theorem lastN_back : ∀ {l : List Nat} {s : Nat}, lastN l = some s → l.toArray.back? = some s := by
 intro l s h
 have : l.getLast? = some s := by
  induction l with
  | nil => cases h
  | cons a l ih =>
   cases l with
   | nil => simpa [lastN] using h
   | cons b l => rw [List.getLast?_cons_cons]; exact ih h
 simpa using this
theorem okC_VR' {ρ : Ren} {v : Value} (h : keyC v = true) : VR ρ v v := by
 cases v <;> first | exact .int _ _ | exact .string _ | exact .bool _ | cases h
theorem snd_entry {x : Operand} {x' : GX} (ho : o.op = .entry x) (hx : gx cx x = some x') : Snd P cx o (oEntry x') :=
 snd_still fun B ρ en h w a v h' E R eg => by
  have hv := gx_VR E hx
  obtain ⟨e1, rfl⟩ := ret1_some (show ret1 h (entry1 h (ev en x')) = _ from eg)
  refine ⟨rfl, ?_⟩
  generalize hq : a.eval x = u at hv
  generalize ev en x' = y at hv e1
  cases hv with
  | ptr id off H hH =>
   simp only [entry1] at e1
   cases off with
   | succ n => cases e1
   | zero =>
   cases hb : h'.hp.get id with
   | none => simp only [hb] at e1; cases e1
   | some blk =>
    simp only [hb] at e1
    cases blk with
    | it m si se la =>
     cases m with
     | none => cases e1
     | some k =>
      simp only [entry2] at e1
      cases hbk : h'.hp.get k with
      | none => rw [hbk] at e1; cases e1
      | some blk =>
       rw [hbk] at e1
       cases blk with
       | mp es cl =>
        cases hcl : Nat.beq cl la with
        | false => simp only [entry3, hcl] at e1; cases e1
        | true =>
         simp only [entry3, hcl] at e1
         cases hB2 : isBig es with
         | true => simp only [hB2] at e1; cases e1
         | false =>
         simp only [hB2] at e1
         cases hl : lastN se with
         | none => rw [hl] at e1; cases e1
         | some s =>
          simp only [hl] at e1
          cases hf : findE s es with
          | none => simp only [hf, entry4] at e1; cases e1
          | some e =>
           rw [hf] at e1
           simp only [entry4] at e1
           cases hkc : keyC e.key with
           | false => rw [hkc] at e1; cases e1
           | true =>
            rw [hkc] at e1
            injection e1 with e1
            subst e1
            obtain ⟨H0, he0, hB, hcase⟩ := R.has id _ hb
            rw [hH] at he0
            injection he0 with he0
            subst he0
            obtain ⟨Hm, es', hm0, hBm, hhm, hme⟩ := R.has k _ hbk
            rcases hcase with ⟨hm, _⟩ | ⟨k', Hm', hm, hk', hit⟩
            ·cases hm
            ·injection hm with hm
             subst hm
             rw [hm0] at hk'
             injection hk' with hk'
             subst hk'
             obtain ⟨e', q1, q2, q3⟩ := findE_ME (hme.me hB2) hf
             have hcl := Nat.eq_of_beq_eq_true hcl
             subst hcl
             have hoff : H.off = 0 := hB.2
             refine ⟨.tuple #[e'.key, e'.val], ?_, VR.tuple_of (xs := [e.key, e.val]) (ys := [e'.key, e'.val]) (.cons (by rw [q2]; exact okC_VR' hkc) (.cons q3 .nil))⟩
             have hfa : es'.find? (fun x => x.born == s) = some e' := by rw [← Array.find?_toList]; exact q1
             have hent : (Instr.entry (.pointer (some ⟨H.blk, 0, none⟩))).run P w = .ok (.tuple #[e'.key, e'.val]) w := by
              simp only [Instr.entry, getObj, Sem.run_bind, Sem.run, hit, hhm, Result.andThen, lastN_back hl, bne_self_eq_false, Bool.false_eq_true, if_false, hfa]
              rfl
             simp only [execOp, ho, hq, hoff, Nat.add_zero, Sem.run_bind, hent, Result.andThen_ok, Sem.run_pure]
       | _ => cases e1
    | _ => cases e1
  | _ => cases e1
end
section
variable {P : Program} {cx : Cx} {o : Oper}
theorem snd_slArr {t e : TypeId} {n u : Nat} {x : Operand} {x' : GX} (ho : o.op = .slice t x none none none) (ht : P.underlying t = some (.array n e)) (hu : sizeOfT P e = some u) (hn : ¬ (n = 0 ∨ 1000000 < n)) (hx : gx cx x = some x') : Snd P cx o (oSlArr n x') :=
 snd_still fun B ρ en h w a v h' E R e0 => by
  have hv := gx_VR E hx
  obtain ⟨e1, rfl⟩ := ret1_some (show ret1 h (slArr1 n h (addrOf (ev en x'))) = _ from e0)
  refine ⟨rfl, ?_⟩
  cases hp : addrOf (ev en x') with
  | none => rw [hp] at e1; cases e1
  | some p =>
   rw [hp] at e1
   obtain ⟨H, hH, _, hq⟩ := addrOf_VR hv hp
   have e1 : slArr2 n p.1 p.2 (h'.hp.get p.1) = some v := e1
   cases hb : h'.hp.get p.1 with
   | none => rw [hb] at e1; cases e1
   | some blk =>
    rw [hb] at e1
    cases blk with
    | row c m e2 uu rw_ fl =>
     have e1 : slArr3 n p.1 p.2 uu = some v := e1
     cases uu with
     | succ k => cases e1
     | zero =>
      simp only [slArr3, Option.some.injEq] at e1
      subst e1
      obtain ⟨H', arr, fz, q1, q2, _⟩ := R.has p.1 _ hb
      rw [hH] at q1
      injection q1 with q1
      subst q1
      have hml : n ≤ maxLen := by unfold maxLen; omega
      refine ⟨.slice (some ⟨H.blk, H.off + p.2, none⟩) n n, ?_, .slice p.1 p.2 n n n H hH (Nat.le_refl _) (Nat.le_refl _) hml (.inl q2)⟩
      simp [execOp, ho, hq, Instr.sliceAt, under_run ht, size_run hu, Instr.sliceBounds, Instr.sureAddr, Addr.add]
    | _ => cases e1
end
end Go.Gev
namespace Go.Gev
open Go.RowKit
section
variable {P : Program} {cx : Cx} {o : Oper}
theorem list_one' {α : Type} {xs : Array α} {x : α} (h : xs.toList = [x]) : xs = #[x] := by apply Array.ext'; simpa using h
theorem list_two' {α : Type} {xs : Array α} {x y : α} (h : xs.toList = [x, y]) : xs = #[x, y] := by apply Array.ext'; simpa using h
set_option maxHeartbeats 1000000 in
theorem snd_clear {c : Call} {x : Operand} {x' : GX} {t e : TypeId} {z : List Value} (ho : o.op = .call c) (hc : c.callee = .builtin .clear) (ha : c.args = #[x]) (hat : c.argTypes[0]? = some t)
 (ht : P.underlying t = some (.slice e)) (hz : zeroOf P e = some z) (hx : gx cx x = some x') : Snd P cx o (oClearS z x') := fun B ρ en h w a v h' E R hg => by
 have hvx := gx_VR E hx
 unfold oClearS at hg
 generalize ev en x' = xv at hvx hg
 generalize hqx : a.eval x = xv' at hvx
 cases xv with
 | slice da dn dc =>
  simp only [clr0] at hg
  have hdl : ∃ da' dc', xv' = .slice da' dn dc' := by cases hvx <;> exact ⟨_, _, rfl⟩
  obtain ⟨da', dc', rfl⟩ := hdl
  cases dn with
  | zero =>
   simp only [clr1, Option.some.injEq, Prod.mk.injEq] at hg
   obtain ⟨rfl, rfl⟩ := hg
   refine ⟨.tuple #[], w, ρ, .inl ?_, .tuple _ _ rfl (fun i a => by simp at a), St.refl R⟩
   cases da' <;> simp [execOp, ho, resolve, hc, ha, invoke, builtin, Builtin.clear_, hat, under_run ht, hqx]
  | succ n =>
   simp only [clr1] at hg
   cases da with
   | none => cases hg
   | some da =>
    obtain ⟨did, doff, dsp⟩ := da
    cases dsp with
    | some q => cases hg
    | none =>
     simp only at hg
     cases hst : storeB h did doff (rep z (Nat.succ n)) (h.hp.get did) with
     | none => rw [hst] at hg; cases hg
     | some h2 =>
      rw [hst] at hg
      simp only [clr2, Option.some.injEq, Prod.mk.injEq] at hg
      obtain ⟨rfl, rfl⟩ := hg
      obtain ⟨i, zv, hi, hiz, hzc, hok, hzs⟩ := zeroOf_some hz
      obtain ⟨H2, w2, r1, r2, r3⟩ := step_store P R hst (VL.rep hok (Nat.succ n))
      cases hvx with
      | slice _ _ _ _ c3 H3 f1 f2 f3 f4 f5 =>
       rw [f1] at r1
       injection r1 with r1
       subst r1
       refine ⟨.tuple #[], w2, ρ, .inl ?_, .tuple _ _ rfl (fun i a => by simp at a), r3⟩
       have hzz : (Builtin.zeroCells zv.cells (n + 1)).toList = rep z (Nat.succ n) := by rw [zeroCells_rep, hzc]
       simp [execOp, ho, resolve, hc, ha, invoke, builtin, Builtin.clear_, hat, under_run ht, hqx, zeroValue, info_run hi, hiz, hzz, r2]
 | _ => cases hg
theorem gopX_sound {g : En → Hs → Rs} (h : gopX P cx o = some g) : Snd P cx o g := by
 unfold gopX at h
 split at h
 ·rename_i s d x ho
  split at h
  ·rename_i e hs hd
   split at h
   ·rename_i he
    simp only [Option.bind_eq_bind, Option.bind_eq_some_iff, Option.some.injEq] at h
    obtain ⟨y, hy, rfl⟩ := h
    exact snd_toStr ho hs hd he hy
   ·cases h
  ·rename_i e hs hd
   split at h
   ·rename_i he
    simp only [Option.bind_eq_bind, Option.bind_eq_some_iff, Option.some.injEq] at h
    obtain ⟨y, hy, rfl⟩ := h
    exact snd_toBytes ho hs hd he hy
   ·cases h
  ·rename_i e0 e hs hd
   split at h
   ·rename_i he
    split at h
    ·rename_i hsd
     have hsd := eq_of_beq hsd
     subst hsd
     simp only [Option.bind_eq_bind, Option.bind_eq_some_iff, Option.some.injEq] at h
     obtain ⟨y, hy, rfl⟩ := h
     exact snd_mark ho hd he hy
    ·cases h
   ·cases h
  ·rename_i t hs hd
   simp only [Option.bind_eq_bind, Option.bind_eq_some_iff] at h
   obtain ⟨n, hn, h⟩ := h
   split at h
   ·cases h
   ·rename_i hn0
    simp only [Option.bind_eq_some_iff, Option.some.injEq] at h
    obtain ⟨y, hy, rfl⟩ := h
    exact snd_toUns ho hs hd hn hn0 hy
  ·rename_i t hs hd
   simp only [Option.bind_eq_bind, Option.bind_eq_some_iff] at h
   obtain ⟨n, hn, h⟩ := h
   split at h
   ·cases h
   ·rename_i hn0
    simp only [Option.bind_eq_some_iff, Option.some.injEq] at h
    obtain ⟨n2, hn2, y, hy, rfl⟩ := h
    rw [hn] at hn2
    injection hn2 with hn2
    subst hn2
    exact snd_fromUns ho hs hd hn hn0 hy
  ·cases h
 ·rename_i t r ho
  split at h
  ·rename_i kt et ht
   split at h
   ·injection h with h
    subst h
    exact snd_mkmap ho ht (.inl ⟨rfl, rfl⟩)
   ·rename_i x
    simp only [Option.bind_eq_bind, Option.bind_eq_some_iff, Option.some.injEq] at h
    obtain ⟨y, hy, rfl⟩ := h
    exact snd_mkmap ho ht (.inr ⟨x, rfl, hy⟩)
  ·cases h
 ·rename_i t m k ok ho
  split at h
  ·rename_i kt et ht
   simp only [Option.bind_eq_bind, Option.bind_eq_some_iff, Option.some.injEq] at h
   obtain ⟨b, hb, z, hz, m', hm, k', hk, rfl⟩ := h
   exact snd_lookup ho ht hb hz hm hk
  ·cases h
 ·rename_i t x ho
  split at h
  ·rename_i kt et ht
   simp only [Option.bind_eq_bind, Option.bind_eq_some_iff, Option.some.injEq] at h
   obtain ⟨x', hx, rfl⟩ := h
   exact snd_range ho ht hx
  ·cases h
 ·rename_i x ho
  simp only [Option.bind_eq_bind, Option.bind_eq_some_iff, Option.some.injEq] at h
  obtain ⟨x', hx, rfl⟩ := h
  exact snd_entry ho hx
 ·rename_i t x ho
  split at h
  ·rename_i n e ht
   simp only [Option.bind_eq_bind, Option.bind_eq_some_iff] at h
   obtain ⟨u, hu, h⟩ := h
   split at h
   ·cases h
   ·rename_i hn
    simp only [Option.bind_eq_some_iff, Option.some.injEq] at h
    obtain ⟨y, hy, rfl⟩ := h
    exact snd_slArr ho ht hu hn hy
  ·cases h
 ·rename_i t m k v ho
  split at h
  ·rename_i kt et ht
   simp only [Option.bind_eq_bind, Option.bind_eq_some_iff, Option.some.injEq] at h
   obtain ⟨b, hb, m', hm, k', hk, v', hv, rfl⟩ := h
   exact snd_mapup (.inl ho) ht hb hm hk hv
  ·cases h
 ·rename_i t m k v ho
  split at h
  ·rename_i kt et ht
   simp only [Option.bind_eq_bind, Option.bind_eq_some_iff, Option.some.injEq] at h
   obtain ⟨b, hb, m', hm, k', hk, v', hv, rfl⟩ := h
   exact snd_mapup (.inr ho) ht hb hm hk hv
  ·cases h
 ·rename_i c ho
  split at h
  ·rename_i f x hc ha
   split at h
   ·rename_i hf
    simp only [Option.bind_eq_bind, Option.bind_eq_some_iff, Option.some.injEq] at h
    obtain ⟨y, hy, rfl⟩ := h
    exact snd_noEscape ho hc (list_one' ha) hf hy
   ·split at h
    ·rename_i hf
     simp only [Option.bind_eq_bind, Option.bind_eq_some_iff, Option.some.injEq] at h
     obtain ⟨e, he, y, hy, rfl⟩ := h
     exact snd_mkNZ ho hc (list_one' ha) hf he hy
    ·cases h
  ·rename_i f x y hc ha
   split at h
   ·rename_i hf
    simp only [Option.bind_eq_bind, Option.bind_eq_some_iff, Option.some.injEq] at h
    obtain ⟨x', hx, y', hy, rfl⟩ := h
    exact snd_idxB ho hc (list_two' ha) hf hx hy
   ·split at h
    ·rename_i hf
     simp only [Option.bind_eq_bind, Option.bind_eq_some_iff, Option.some.injEq] at h
     obtain ⟨x', hx, y', hy, rfl⟩ := h
     exact snd_cntB ho hc (list_two' ha) hf hx hy
    ·cases h
  ·rename_i x hc ha
   simp only [Option.bind_eq_bind, Option.bind_eq_some_iff, Option.some.injEq] at h
   obtain ⟨y, hy, rfl⟩ := h
   exact snd_sdata ho hc (list_one' ha) hy
  ·rename_i m k hc ha
   split at h
   ·rename_i kt et ht
    simp only [Option.bind_eq_bind, Option.bind_eq_some_iff, Option.some.injEq] at h
    obtain ⟨b, hb, m', hm, k', hk, rfl⟩ := h
    obtain ⟨t, hat, ht⟩ := Option.bind_eq_some_iff.1 ht
    exact snd_mapdel ho hc (list_two' ha) hat ht hb hm hk
   ·cases h
  ·rename_i m hc ha
   split at h
   ·rename_i kt et ht
    simp only [Option.bind_eq_bind, Option.bind_eq_some_iff, Option.some.injEq] at h
    obtain ⟨m', hm, rfl⟩ := h
    obtain ⟨t, hat, ht⟩ := Option.bind_eq_some_iff.1 ht
    exact snd_maplen ho hc (list_one' ha) hat ht hm
   ·cases h
  ·rename_i x n hc ha
   split at h
   ·rename_i pt it hat
    split at h
    ·rename_i e hp
     simp only [Option.bind_eq_bind, Option.bind_eq_some_iff] at h
     obtain ⟨k, hk, h⟩ := h
     split at h
     ·rename_i hk1
      subst hk1
      simp only [Option.bind_eq_some_iff, Option.some.injEq] at h
      obtain ⟨y, hy, n', hn, rfl⟩ := h
      exact snd_ustr ho hc (list_two' ha) (list_two' hat) hp hk hy hn
     ·cases h
    ·cases h
   ·cases h
  ·rename_i s x hc ha
   split at h
   ·rename_i t ti hat
    split at h
    ·rename_i e ht hti
     simp only [Option.bind_eq_bind, Option.bind_eq_some_iff] at h
     obtain ⟨u, hu, b, hb, z, hz, h⟩ := h
     split at h
     ·rename_i hub
      obtain ⟨rfl, rfl⟩ := hub
      simp only [Option.bind_eq_some_iff, Option.some.injEq] at h
      obtain ⟨s', hs, x', hx, rfl⟩ := h
      exact snd_appendS ho hc (list_two' ha) (list_two' hat) ht hti hu hb hz hs hx
     ·cases h
    ·cases h
   ·cases h
  ·rename_i x hc ha
   split at h
   ·rename_i e ht
    simp only [Option.bind_eq_bind, Option.bind_eq_some_iff, Option.some.injEq] at h ht
    obtain ⟨z, hz, x', hx, rfl⟩ := h
    obtain ⟨t, hat, ht⟩ := ht
    exact snd_clear ho hc (list_one' ha) hat ht hz hx
   ·cases h
  ·cases h
 ·cases h
end
end Go.Gev
