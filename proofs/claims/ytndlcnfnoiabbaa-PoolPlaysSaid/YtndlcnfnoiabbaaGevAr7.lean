/- Acts as arguments: rows of structs of four numbers and a row of pairs of numbers each: frozen rows in the memory that the evaluator begins with. -/
import Derived.Test.YtndlcnfnoiabbaaGevAr3
namespace Go.Gev
open Go.RowKit Go.ChangeShapes
set_option linter.unusedVariables false
theorem add_addA (a : Addr) (i j : Nat) : (a.add i).add j = a.add (i + j) := by
 by_cases h : i = 0
 ·subst h; simp [Addr.add]
 ·by_cases h2 : j = 0
  ·subst h2; simp [Addr.add]
  ·simp [Addr.add, h, h2, Nat.add_assoc]
theorem Rd.growA {h h' : Hs} {v : Value} {u : Nat} {L : List (List Value)} (r : Rd h v u L) (hn : h.nx ≤ h'.nx) (hg : ∀ id, id < h.nx → h'.hp.get id = h.hp.get id) : Rd h' v u L := ⟨r.1.congr fun b hb => hg b (r.2 b hb), fun b hb => Nat.lt_of_lt_of_le (r.2 b hb) hn⟩
theorem mk_list {α : Type} {w : World} {a : Addr} {u : Nat} {C : α → List Value} {P : α → Prop} {len : Nat} (each : ∀ i, i < len → ∃ x : α, P x ∧ ∀ j v, (C x)[j]? = some v → w.cell? (a.add (i * u + j)) = some v) :
 ∃ L : List α, L.length = len ∧ (∀ x ∈ L, P x) ∧ ∀ (i j : Nat) (x : α) (v : Value), L[i]? = some x → (C x)[j]? = some v → w.cell? (a.add (i * u + j)) = some v := by
 have mk : ∀ m, m ≤ len → ∃ L : List α, L.length = m ∧ (∀ x ∈ L, P x) ∧ ∀ (i j : Nat) (x : α) (v : Value), L[i]? = some x → (C x)[j]? = some v → w.cell? (a.add (i * u + j)) = some v := by
  intro m
  induction m with
  | zero => intro _; exact ⟨[], rfl, fun x hx => (by cases hx), fun i j x v hi => by simp at hi⟩
  | succ m ih =>
   intro hm
   obtain ⟨L, hL, hb, hall⟩ := ih (by omega)
   obtain ⟨y, hy, p⟩ := each m (by omega)
   refine ⟨L ++ [y], by rw [List.length_append, hL]; rfl, fun x hx => ?_, fun i j x v hi => ?_⟩
   ·rcases List.mem_append.1 hx with hx | hx
    ·exact hb x hx
    ·rw [List.mem_singleton.1 hx]; exact hy
   ·rcases Nat.lt_or_ge i L.length with q | q
    ·rw [List.getElem?_append_left q] at hi; exact hall i j x v hi
    ·rw [List.getElem?_append_right q] at hi
     have : i = m := by
      rcases Nat.lt_or_ge (i - L.length) 1 with r | r
      ·omega
      ·rw [List.getElem?_eq_none (by simpa using r)] at hi; cases hi
     subst this
     rw [show i - L.length = 0 by omega] at hi
     simp only [List.getElem?_cons_zero, Option.some.injEq] at hi
     subst hi
     exact p j v
 exact mk len (Nat.le_refl _)
def IsRow {α : Type} (w : World) (v : Value) (u : Nat) (C : α → List Value) (P : α → Prop) : Prop := v = .slice none 0 0 ∨ ∃ (a : Addr) (cap : Nat) (L : List α), v = .slice (some a) L.length cap ∧ L.length ≤ cap ∧ cap ≤ maxLen ∧ (∀ x ∈ L, P x) ∧
 ∀ (i j : Nat) (x : α) (v : Value), L[i]? = some x → (C x)[j]? = some v → w.cell? (a.add (i * u + j)) = some v
def rnC (r : Int × Int) : List Value := [.int .i64 r.1, .int .i64 r.2]
def IsRuns (w : World) (v : Value) : Prop := IsRow w v 2 rnC fun r => In64 r.1 ∧ In64 r.2
structure ActV where
 op : Int
 c : Int
 n : Int
 mo : Int
 d : Value
def atC (x : ActV) : List Value := [.int .i64 x.op, .int .i64 x.c, .int .i64 x.n, .int .i64 x.mo, x.d]
def IsActs (w : World) (v : Value) : Prop := IsRow w v 5 atC fun x => IsRuns w x.d ∧ In64 x.c ∧ In64 x.n ∧ In64 x.mo
section
variable {H : Type} {enc : TypeId × Value → H} {P : Program} {w : World} {base : Nat} {spare : Nat → Bool} {held : Bool}
theorem wf_in {z : Int} (hz : (Lit.int .i64 z).wf = true) : In64 z := by
 have : IntKind.i64.min ≤ z ∧ z ≤ IntKind.i64.max := by simpa [Lit.wf] using hz
 exact this
theorem runs_of {t e : TypeId} {f0 f1 : Field} {fuel : Nat} {v : Value} {x : DataW H × List MemPlace} (ht : P.underlying t = some (.slice e)) (he : P.underlying e = some (.struct #[f0, f1])) (u0 : P.underlying f0.type = some (.int .i64)) (u1 : P.underlying f1.type = some (.int .i64)) (ce : P.cellsOf e = 2) (c0 : P.cellsOf f0.type = 1) (c1 : P.cellsOf f1.type = 1) (o0 : f0.offset = 0) (o1 : f1.offset = 1)
 (h : DataW.trod enc P w base spare held fuel t [v] = some x) : IsRuns w v := by
 rcases DataW.trod_slice ht h with hq | ⟨a, len, cap, elems, rest, n, _, hcs, _, _, hl, hm, hlen, hel, _, _⟩
 ·have := hq.1
  injection this with q; exact .inl q
 injection hcs with hcs
 right
 obtain ⟨L, hL, hb, hall⟩ := mk_list (w := w) (a := a) (u := 2) (C := rnC) (P := fun r => In64 r.1 ∧ In64 r.2) (len := len) fun i hi => by
  have hb := hel i hi
  rw [List.getElem?_eq_getElem (by omega), Option.bind_eq_some_iff] at hb
  obtain ⟨cs', hcs, hy⟩ := hb
  obtain ⟨xs, n2, _, _, hcl, hxl, hf⟩ := DataW.trod_struct he hy
  rw [ce] at hcs hcl
  obtain ⟨_, _, hcell⟩ := World.cells?_some hcs
  match xs, hxl with
  | [y0, y1], _ =>
   have p0 := hf 0 f0 rfl
   have p1 := hf 1 f1 rfl
   rw [o0, c0] at p0
   rw [o1, c1] at p1
   obtain ⟨k, q0, _, m0⟩ := DataW.trod_int u0 p0
   obtain ⟨m, q1, _, m1⟩ := DataW.trod_int u1 p1
   match cs', hcl, q0, q1, hcell with
   | [v0, v1], _, q0, q1, hcell =>
    simp at q0 q1
    refine ⟨(k, m), ⟨wf_in m0, wf_in m1⟩, fun j v hj => ?_⟩
    have hj2 : j < 2 := (List.getElem?_eq_some_iff.1 hj).1
    have e : [v0, v1][j]? = some v := by rw [← hj]; subst q0 q1; rfl
    have := hcell j (by omega)
    rw [add_addA] at this
    rw [this, ← e]
 exact ⟨a, cap, L, by rw [hL]; exact hcs, by omega, hm, hb, hall⟩
theorem acts_of {t e be : TypeId} {f0 f1 f2 f3 f4 g0 g1 : Field} {fuel : Nat} {v : Value} {x : DataW H × List MemPlace} (ht : P.underlying t = some (.slice e)) (he : P.underlying e = some (.struct #[f0, f1, f2, f3, f4]))
 (u0 : P.underlying f0.type = some (.int .i64)) (u1 : P.underlying f1.type = some (.int .i64)) (u2 : P.underlying f2.type = some (.int .i64)) (u3 : P.underlying f3.type = some (.int .i64)) (u4 : P.underlying f4.type = some (.slice be)) (ub : P.underlying be = some (.struct #[g0, g1])) (v0_ : P.underlying g0.type = some (.int .i64)) (v1_ : P.underlying g1.type = some (.int .i64))
 (cb : P.cellsOf be = 2) (d0 : P.cellsOf g0.type = 1) (d1 : P.cellsOf g1.type = 1) (s0 : g0.offset = 0) (s1 : g1.offset = 1)
 (ce : P.cellsOf e = 5) (c0 : P.cellsOf f0.type = 1) (c1 : P.cellsOf f1.type = 1) (c2 : P.cellsOf f2.type = 1) (c3 : P.cellsOf f3.type = 1) (c4 : P.cellsOf f4.type = 1)
 (o0 : f0.offset = 0) (o1 : f1.offset = 1) (o2 : f2.offset = 2) (o3 : f3.offset = 3) (o4 : f4.offset = 4)
 (h : DataW.trod enc P w base spare held fuel t [v] = some x) : IsActs w v := by
 rcases DataW.trod_slice ht h with hq | ⟨a, len, cap, elems, rest, n, _, hcs, _, _, hl, hm, hlen, hel, _, _⟩
 ·have := hq.1
  injection this with q; exact .inl q
 injection hcs with hcs
 right
 obtain ⟨L, hL, hb, hall⟩ := mk_list (w := w) (a := a) (u := 5) (C := atC) (P := fun x => IsRuns w x.d ∧ In64 x.c ∧ In64 x.n ∧ In64 x.mo) (len := len) fun i hi => by
  have hb := hel i hi
  rw [List.getElem?_eq_getElem (by omega), Option.bind_eq_some_iff] at hb
  obtain ⟨cs', hcs, hy⟩ := hb
  obtain ⟨xs, n2, _, _, hcl, hxl, hf⟩ := DataW.trod_struct he hy
  rw [ce] at hcs hcl
  obtain ⟨_, _, hcell⟩ := World.cells?_some hcs
  match xs, hxl with
  | [y0, y1, y2, y3, y4], _ =>
   have p0 := hf 0 f0 rfl
   have p1 := hf 1 f1 rfl
   have p2 := hf 2 f2 rfl
   have p3 := hf 3 f3 rfl
   have p4 := hf 4 f4 rfl
   rw [o0, c0] at p0
   rw [o1, c1] at p1
   rw [o2, c2] at p2
   rw [o3, c3] at p3
   rw [o4, c4] at p4
   obtain ⟨k, q0, _, _⟩ := DataW.trod_int u0 p0
   obtain ⟨c, q1, _, m1⟩ := DataW.trod_int u1 p1
   obtain ⟨m, q2, _, m2⟩ := DataW.trod_int u2 p2
   obtain ⟨z, q3, _, m3⟩ := DataW.trod_int u3 p3
   match cs', hcl, q0, q1, q2, q3, p4, hcell with
   | [v0, v1, v2, v3, v4], _, q0, q1, q2, q3, p4, hcell =>
    simp at q0 q1 q2 q3
    have p4 : DataW.trod enc P w base spare held n2 f4.type [v4] = some y4 := p4
    refine ⟨⟨k, c, m, z, v4⟩, ⟨runs_of u4 ub v0_ v1_ cb d0 d1 s0 s1 p4, wf_in m1, wf_in m2, wf_in m3⟩, fun j v hj => ?_⟩
    have hj5 : j < 5 := (List.getElem?_eq_some_iff.1 hj).1
    have e : [v0, v1, v2, v3, v4][j]? = some v := by rw [← hj]; subst q0 q1 q2 q3; rfl
    have := hcell j (by omega)
    rw [add_addA] at this
    rw [this, ← e]
 exact ⟨a, cap, L, by rw [hL]; exact hcs, by omega, hm, hb, hall⟩
end
theorem arg_row {w : World} {B : Nat} {ρ : Ren} {h : Hs} (R : HR B ρ h w) (hf : ∀ id b, h.hp.get id = some b → isRw b = false) {u cap : Nat} {a : Addr} {Ls : List (List Value)} (hu : 0 < u) (lu : ∀ l ∈ Ls, l.length = u) (h0 : Ls ≠ []) (hl : Ls.length ≤ cap) (hm : cap ≤ maxLen)
 (hc : ∀ (i j : Nat) (l : List Value) (v : Value), Ls[i]? = some l → l[j]? = some v → ∃ v', w.cell? (a.add (i * u + j)) = some v' ∧ VR ρ v v') :
 ∃ (v0 : Value) (h' : Hs) (ρ' : Ren), ρ.le ρ' ∧ VR ρ' v0 (.slice (some a) Ls.length cap) ∧ HR B ρ' h' w ∧ (∀ id b, h'.hp.get id = some b → isRw b = false) ∧ Rd h' v0 u Ls ∧ (∃ a c, v0 = .slice a Ls.length c) ∧ (∀ id, id < h.nx → h'.hp.get id = h.hp.get id) ∧ h.nx ≤ h'.nx := by
 obtain ⟨blk, off, spot⟩ := a
 obtain ⟨rfl, arr, et, fz, hh⟩ : spot = none ∧ ∃ arr et fz, w.heap[blk]? = some (.cells arr et fz) := by
  obtain ⟨l, Lt, rfl⟩ : ∃ l Lt, Ls = l :: Lt := by
   cases Ls with
   | nil => exact absurd rfl h0
   | cons l Lt => exact ⟨l, Lt, rfl⟩
  have ll := lu l List.mem_cons_self
  obtain ⟨x, xs, rfl⟩ : ∃ x xs, l = x :: xs := by
   cases l with
   | nil => simp at ll; omega
   | cons x xs => exact ⟨x, xs, rfl⟩
  obtain ⟨v', q1, _⟩ := hc 0 0 _ x rfl rfl
  rw [show Addr.add ⟨blk, off, spot⟩ (0 * u + 0) = ⟨blk, off, spot⟩ by simp [Addr.add]] at q1
  unfold World.cell? at q1
  simp only at q1
  split at q1
  ·rename_i arr et fz hq
   cases spot with
   | none => exact ⟨rfl, arr, et, fz, hq⟩
   | some k => simp at q1
  ·cases q1
 have hcell : ∀ k v, w.cell? (Addr.add ⟨blk, off, none⟩ k) = some v → arr[off + k]? = some v := fun k v hv => by
  have e : Addr.add ⟨blk, off, none⟩ k = ⟨blk, off + k, none⟩ := by
   by_cases h : k = 0
   ·subst h; simp [Addr.add]
   ·simp [Addr.add, h]
  rw [e] at hv
  unfold World.cell? at hv
  simp only [hh] at hv
  simpa using hv
 let cs : List Value := Ls.flatten
 have hcells : ∀ i v, (ofList cs).get i = some v → ∃ v', arr[off + i]? = some v' ∧ VR ρ v v' := fun i v hv => by
  rw [get_ofList] at hv
  have hk : i = i / u * u + i % u := by have := Nat.div_add_mod i u; rw [Nat.mul_comm] at this; exact this.symm
  have hv : Ls.flatten[i]? = some v := hv
  have g := flatten_get lu (i / u) (i % u) (Nat.mod_lt _ hu)
  rw [← hk, hv] at g
  cases hM : Ls[i / u]? with
  | none => rw [hM] at g; cases g
  | some l =>
   rw [hM] at g
   obtain ⟨v', q, r⟩ := hc (i / u) (i % u) l v hM g.symm
   rw [← hk] at q
   exact ⟨v', hcell _ _ q, r⟩
 have hget : ∀ id, (h.hp.set h.nx (some (Blk.row (ofList cs) 0 et 0 false false))).get id = if h.nx = id then some (Blk.row (ofList cs) 0 et 0 false false) else h.hp.get id := fun id => Tr.get_set _ _ _ _
 have rd : RdSl ⟨h.hp.set h.nx (some (.row (ofList cs) 0 et 0 false false)), h.nx + 1, h.nx + 1⟩ (.slice (some ⟨h.nx, 0, none⟩) Ls.length Ls.length) u Ls := by
  refine ⟨lu, .inr ⟨h.nx, 0, _, ofList cs, 0, et, 0, false, false, rfl, Nat.le_refl _, by rw [show (⟨h.hp.set h.nx (some (.row (ofList cs) 0 et 0 false false)), h.nx + 1, h.nx + 1⟩ : Hs).hp.get h.nx = _ from hget h.nx, if_pos rfl], .inl rfl, fun i j l hl hj => ?_⟩⟩
  rw [Nat.zero_add, get_ofList]
  show Ls.flatten[i * u + j]? = _
  rw [flatten_get lu i j hj, hl]
  rfl
 have le2 : ρ.le (ρ.add h.nx ⟨blk, off, arr.size, 0, none⟩) := fun id X e => by
  by_cases hid : id = h.nx
  ·subst hid; rw [R.dom _ (Nat.le_refl _)] at e; cases e
  ·rw [Ren.add_other _ _ hid]; exact e
 have old : ∀ id, id < h.nx → (⟨h.hp.set h.nx (some (.row (ofList cs) 0 et 0 false false)), h.nx + 1, h.nx + 1⟩ : Hs).hp.get id = h.hp.get id := fun id hid => by
  show (h.hp.set h.nx (some (Blk.row (ofList cs) 0 et 0 false false))).get id = _
  rw [hget, if_neg (by omega)]
 refine ⟨.slice (some ⟨h.nx, 0, none⟩) Ls.length Ls.length, ⟨h.hp.set h.nx (some (.row (ofList cs) 0 et 0 false false)), h.nx + 1, h.nx + 1⟩, ρ.add h.nx ⟨blk, off, arr.size, 0, none⟩, le2, ?_, ?_, ?_, ⟨rd, ?_⟩, ⟨_, _, rfl⟩, old, Nat.le_succ _⟩
 ·exact .slice h.nx 0 _ _ cap ⟨blk, off, arr.size, 0, none⟩ (Ren.add_same _ _ _) (Nat.le_refl _) hl hm (.inl rfl)
 ·refine ⟨R.base, fun id hid => ?_, fun id b hb => ?_, fun id id' b b' X X' hb hb' hne hr _ _ => ?_⟩
  ·have hid : h.nx + 1 ≤ id := hid
   rw [Ren.add_other _ _ (by omega)]
   exact R.dom id (by omega)
  ·replace hb : (h.hp.set h.nx (some (Blk.row (ofList cs) 0 et 0 false false))).get id = some b := hb
   rw [hget] at hb
   by_cases e : h.nx = id
   ·rw [if_pos e] at hb
    injection hb with hb
    subst hb; subst e
    exact ⟨⟨blk, off, arr.size, 0, none⟩, arr, fz, Ren.add_same _ _ _, rfl, hh, rfl, fun i v hv => by obtain ⟨v', r1, r2⟩ := hcells i v hv; exact ⟨v', r1, VR.mono le2 r2⟩, (fun e => by cases e), (fun e => by cases e)⟩
   ·rw [if_neg e] at hb
    refine (R.has id b hb).mono le2 fun X e2 => rfl
  ·replace hb : (h.hp.set h.nx (some (Blk.row (ofList cs) 0 et 0 false false))).get id = some b := hb
   rw [hget] at hb
   by_cases e : h.nx = id
   ·rw [if_pos e] at hb
    injection hb with hb
    subst hb; cases hr
   ·rw [if_neg e] at hb
    rw [hf id b hb] at hr; cases hr
 ·intro id b hb
  replace hb : (h.hp.set h.nx (some (Blk.row (ofList cs) 0 et 0 false false))).get id = some b := hb
  rw [hget] at hb
  by_cases e : h.nx = id
  ·rw [if_pos e] at hb; injection hb with hb; subst hb; rfl
  ·rw [if_neg e] at hb; exact hf id b hb
 ·intro b hb
  have : ∀ (Q : List (List Value)), Q ≠ [] → Th.id (.rsl (.slice (some ⟨h.nx, 0, none⟩) Ls.length Ls.length) u Q) = some b → h.nx = b := fun Q q z => by
   cases Q with
   | nil => exact absurd rfl q
   | cons y ys => injection z
  have := this Ls h0 hb
  subst this
  exact Nat.lt_succ_self _
theorem arg_runs {w : World} {v : Value} {B : Nat} {ρ : Ren} {h : Hs} (R : HR B ρ h w) (hf : ∀ id b, h.hp.get id = some b → isRw b = false) (hv : IsRuns w v) :
 ∃ (v0 : Value) (h' : Hs) (ρ' : Ren) (D : List (Int × Int)), ρ.le ρ' ∧ VR ρ' v0 v ∧ HR B ρ' h' w ∧ (∀ id b, h'.hp.get id = some b → isRw b = false) ∧ Rd h' v0 2 (D.map rnC) ∧ (∀ r ∈ D, In64 r.1 ∧ In64 r.2) ∧ (∃ a c, v0 = .slice a D.length c) ∧ (∀ id, id < h.nx → h'.hp.get id = h.hp.get id) ∧ h.nx ≤ h'.nx := by
 rcases hv with rfl | ⟨a, cap, L, rfl, hl, hm, hb, hc⟩
 ·exact ⟨.slice none 0 0, h, ρ, [], Ren.le_refl _, .nilslice, R, hf, ⟨⟨fun l hl => (by cases hl), .inl ⟨none, 0, rfl, rfl⟩⟩, fun b hb => (by cases hb)⟩, fun r hr => (by cases hr), ⟨_, _, rfl⟩, fun _ _ => rfl, Nat.le_refl _⟩
 ·by_cases e : L = []
  ·subst e; exact ⟨.slice (some ⟨0, 0, some 0⟩) 0 0, h, ρ, [], Ren.le_refl _, .empty 0 0 0 a cap hm, R, hf, ⟨⟨fun l hl => (by cases hl), .inl ⟨_, 0, rfl, rfl⟩⟩, fun b hb => (by cases hb)⟩, fun r hr => (by cases hr), ⟨_, _, rfl⟩, fun _ _ => rfl, Nat.le_refl _⟩
  ·have ml : (L.map rnC).length = L.length := List.length_map _
   obtain ⟨v0, h', ρ', a1, a2, a3, a4, a5, a6, a7, a8⟩ := arg_row R hf (u := 2) (cap := cap) (a := a) (Ls := L.map rnC) (by decide) (fun l hl => by obtain ⟨_, _, rfl⟩ := List.mem_map.1 hl; rfl) (fun q => e (List.map_eq_nil_iff.1 q)) (by rw [ml]; exact hl) hm fun i j l v hi hj => by
    rw [List.getElem?_map] at hi
    cases hx : L[i]? with
    | none => rw [hx] at hi; cases hi
    | some r =>
     rw [hx] at hi
     injection hi with hi
     subst hi
     refine ⟨v, hc i j r v hx hj, ?_⟩
     match j, hj with
     | 0, hj => injection hj with hj; subst hj; exact .int _ _
     | 1, hj => injection hj with hj; subst hj; exact .int _ _
     | j + 2, hj => cases hj
   rw [ml] at a2 a6
   exact ⟨v0, h', ρ', L, a1, a2, a3, a4, a5, hb, a6, a7, a8⟩
theorem arg_allA {w : World} : ∀ (L : List ActV) {B : Nat} {ρ : Ren} {h : Hs} (R : HR B ρ h w) (hf : ∀ id b, h.hp.get id = some b → isRw b = false), (∀ x ∈ L, IsRuns w x.d) →
 ∃ (h' : Hs) (ρ' : Ren) (M : List (ActV × List (Int × Int))), ρ.le ρ' ∧ HR B ρ' h' w ∧ (∀ id b, h'.hp.get id = some b → isRw b = false) ∧ M.length = L.length ∧ (∀ e ∈ M, Rd h' e.1.d 2 (e.2.map rnC) ∧ (∀ r ∈ e.2, In64 r.1 ∧ In64 r.2) ∧ ∃ a c, e.1.d = .slice a e.2.length c) ∧
  (∀ (i : Nat) (x : ActV) (e : ActV × List (Int × Int)), L[i]? = some x → M[i]? = some e → VR ρ' e.1.d x.d ∧ e.1 = { x with d := e.1.d }) ∧ (∀ id, id < h.nx → h'.hp.get id = h.hp.get id) ∧ h.nx ≤ h'.nx := by
 intro L
 induction L with
 | nil => intro B ρ h R hf _; exact ⟨h, ρ, [], Ren.le_refl _, R, hf, rfl, fun e he => (by cases he), fun i x e hi => by simp at hi, fun _ _ => rfl, Nat.le_refl _⟩
 | cons x L ih =>
  intro B ρ h R hf hb
  obtain ⟨v0, h1, ρ1, D, l1, r1, R1, f1, d1, i1, s1, g1, n1⟩ := arg_runs R hf (hb x List.mem_cons_self)
  obtain ⟨h2, ρ2, M, l2, R2, f2, m2, d2, p2, g2, n2⟩ := ih R1 f1 fun y hy => hb y (List.mem_cons_of_mem _ hy)
  refine ⟨h2, ρ2, ({ x with d := v0 }, D) :: M, fun id X e => l2 _ _ (l1 _ _ e), R2, f2, by rw [List.length_cons, List.length_cons, m2], fun e he => ?_, fun i y e hi he => ?_, fun id hid => (g2 id (Nat.lt_of_lt_of_le hid n1)).trans (g1 id hid), Nat.le_trans n1 n2⟩
  ·rcases List.mem_cons.1 he with rfl | he
   ·exact ⟨d1.growA n2 g2, i1, s1⟩
   ·exact d2 e he
  ·cases i with
   | zero =>
    injection hi with hi; injection he with he
    subst hi he
    exact ⟨VR.mono l2 r1, rfl⟩
   | succ i => exact p2 i y e hi he
theorem arg_acts {w : World} {v : Value} {B : Nat} {ρ : Ren} {h : Hs} (R : HR B ρ h w) (hf : ∀ id b, h.hp.get id = some b → isRw b = false) (hv : IsActs w v) :
 ∃ (v0 : Value) (h' : Hs) (ρ' : Ren) (M : List (ActV × List (Int × Int))), ρ.le ρ' ∧ VR ρ' v0 v ∧ HR B ρ' h' w ∧ (∀ id b, h'.hp.get id = some b → isRw b = false) ∧
  Rd h' v0 5 (M.map fun e => atC e.1) ∧ (∀ e ∈ M, Rd h' e.1.d 2 (e.2.map rnC) ∧ (∀ r ∈ e.2, In64 r.1 ∧ In64 r.2) ∧ (∃ a c, e.1.d = .slice a e.2.length c) ∧ In64 e.1.c ∧ In64 e.1.n ∧ In64 e.1.mo) ∧ (∀ id, id < h.nx → h'.hp.get id = h.hp.get id) ∧ h.nx ≤ h'.nx := by
 rcases hv with rfl | ⟨a, cap, L, rfl, hl, hm, hb, hc⟩
 ·exact ⟨.slice none 0 0, h, ρ, [], Ren.le_refl _, .nilslice, R, hf, ⟨⟨fun l hl => (by cases hl), .inl ⟨none, 0, rfl, rfl⟩⟩, fun b hb => (by cases hb)⟩, fun x hx => (by cases hx), fun _ _ => rfl, Nat.le_refl _⟩
 ·by_cases e : L = []
  ·subst e; exact ⟨.slice (some ⟨0, 0, some 0⟩) 0 0, h, ρ, [], Ren.le_refl _, .empty 0 0 0 a cap hm, R, hf, ⟨⟨fun l hl => (by cases hl), .inl ⟨_, 0, rfl, rfl⟩⟩, fun b hb => (by cases hb)⟩, fun x hx => (by cases hx), fun _ _ => rfl, Nat.le_refl _⟩
  ·obtain ⟨h1, ρ1, M, l1, R1, f1, m1, d1, p1, g1, n1⟩ := arg_allA L R hf fun x hx => (hb x hx).1
   have ml : (M.map fun e => atC e.1).length = L.length := by rw [List.length_map, m1]
   obtain ⟨v0, h', ρ', a1, a2, a3, a4, a5, a6, a7, a8⟩ := arg_row R1 f1 (u := 5) (cap := cap) (a := a) (Ls := M.map fun e => atC e.1) (by decide) (fun l hl => by obtain ⟨_, _, rfl⟩ := List.mem_map.1 hl; rfl) (fun q => e (List.eq_nil_of_length_eq_zero (by rw [← ml, q]; rfl))) (by rw [ml]; exact hl) hm fun i j l v hi hj => by
    rw [List.getElem?_map] at hi
    cases hM : M[i]? with
    | none => rw [hM] at hi; cases hi
    | some e =>
     rw [hM] at hi
     injection hi with hi
     subst hi
     have il : i < L.length := by rw [← m1]; exact (List.getElem?_eq_some_iff.1 hM).1
     obtain ⟨r1, r2⟩ := p1 i L[i] e (List.getElem?_eq_getElem il) hM
     have cl := fun v' hv' => hc i j _ v' (List.getElem?_eq_getElem il) hv'
     have hj : (atC e.1)[j]? = some v := hj
     rw [r2] at hj
     match j, hj with
     | 0, hj => injection hj with hj; subst hj; exact ⟨_, cl _ rfl, .int _ _⟩
     | 1, hj => injection hj with hj; subst hj; exact ⟨_, cl _ rfl, .int _ _⟩
     | 2, hj => injection hj with hj; subst hj; exact ⟨_, cl _ rfl, .int _ _⟩
     | 3, hj => injection hj with hj; subst hj; exact ⟨_, cl _ rfl, .int _ _⟩
     | 4, hj => injection hj with hj; subst hj; exact ⟨_, cl _ rfl, r1⟩
     | j + 5, hj => cases hj
   rw [ml] at a2
   refine ⟨v0, h', ρ', M, fun id X e => a1 _ _ (l1 _ _ e), a2, a3, a4, a5, fun e he => ?_, fun id hid => (a7 id (Nat.lt_of_lt_of_le hid n1)).trans (g1 id hid), Nat.le_trans n1 a8⟩
   obtain ⟨i, hi⟩ := List.mem_iff_getElem?.1 he
   have il : i < L.length := by rw [← m1]; exact (List.getElem?_eq_some_iff.1 hi).1
   obtain ⟨_, r2⟩ := p1 i L[i] e (List.getElem?_eq_getElem il) hi
   have := hb L[i] (List.getElem_mem il)
   obtain ⟨e1, e2, e3⟩ := d1 e he
   refine ⟨e1.growA a8 a7, e2, e3, ?_, ?_, ?_⟩
   ·rw [r2]; exact this.2.1
   ·rw [r2]; exact this.2.2.1
   ·rw [r2]; exact this.2.2.2
end Go.Gev
