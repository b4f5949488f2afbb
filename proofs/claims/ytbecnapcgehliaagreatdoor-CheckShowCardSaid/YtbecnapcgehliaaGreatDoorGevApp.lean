/- append: its value, and what it comes to in both memories. -/
import Derived.Test.YtbecnapcgehliaaGreatDoorGevMem2
namespace Go.Gev
open Go.RowKit

theorem allOne_mem : ∀ {vs : List Value}, allOne vs = true → ∀ v ∈ vs, oneC v = true := by
  intro vs
  induction vs with
  | nil => intro _ v hv; simp at hv
  | cons u vs ih =>
    intro h v hv
    simp only [allOne] at h
    cases ho : oneC u with
    | false => rw [ho] at h; cases h
    | true =>
      rw [ho] at h
      rcases List.mem_cons.1 hv with rfl | hv
      · exact ho
      · exact ih h v hv
theorem VL.one {ρ : Ren} {vs ys : List Value} (h : VL ρ vs ys) (h1 : ∀ v ∈ vs, oneC v = true) : ∀ y ∈ ys, y.oneCell' = true := fun y hy => by
  obtain ⟨i, hi, rfl⟩ := List.getElem_of_mem hy
  have hi' : i < vs.length := by rw [h.1]; exact hi
  exact (h.2 i _ _ (List.getElem?_eq_getElem hi') (List.getElem?_eq_getElem hi)).oneC (h1 _ (List.getElem_mem hi'))

section
variable {B : Nat} {ρ : Ren} {h : Hs} {w w' : World}

/-- a row is gone, another is new: it lies where the first lay, or in a new block -/
theorem step_move (R : HR B ρ h w) {id n e u e' u' n' : Nat} {fl fl' : Bool} {c c' : Tr Value} (hb : h.hp.get id = some (.row c n e u true fl))
    {H K : Host} {arr' : Array Value} {fz : Nat × Nat} (he : ρ id = some H) (hK : w'.heap[K.blk]? = some (.cells arr' e' fz)) (hfz : fz = (0, 0) ∨ (u' = 0 ∧ arr'.size ≤ fz.1)) (hs : arr'.size = K.sz) (ho : K.off = 0) (hu : K.un = u')
    (hB : B ≤ K.blk) (hwh : K.blk = H.blk ∨ w.heap.size ≤ K.blk) (hfar : ∀ k, k < w.heap.size → k ≠ H.blk → w'.heap[k]? = w.heap[k]?)
    (hbel : Below B w w') (hn : n' ≤ arr'.size)
    (hc : ∀ i v, c'.get i = some v → ∃ v', arr'[i]? = some v' ∧ VR ρ v v') (hd : ∀ i, (c'.get i).isSome = true ↔ i < n') (hf : fl' = true → ∀ i v, c'.get i = some v → flat1 v = true) :
    St B ρ h w (ρ.add h.nx K) ⟨(h.hp.set id none).set h.nx (some (.row c' n' e' u' true fl')), Nat.succ h.nx, minN h.lo id⟩ w' := by
  have hid : id < h.nx := R.lt hb
  have hnx : ρ h.nx = none := R.dom _ (Nat.le_refl _)
  have hle := Ren.le_add K hnx
  have hget : ∀ j, ((h.hp.set id none).set h.nx (some (.row c' n' e' u' true fl'))).get j = if h.nx = j then some (.row c' n' e' u' true fl') else if id = j then none else h.hp.get j := fun j => by
    rw [Tr.get_set, Tr.get_set]
  have hold : ∀ j b, ((h.hp.set id none).set h.nx (some (.row c' n' e' u' true fl'))).get j = some b → j ≠ h.nx → h.hp.get j = some b ∧ j ≠ id := fun j b hj hne => by
    rw [hget, if_neg (fun e => hne e.symm)] at hj
    split at hj
    · cases hj
    · rename_i e; exact ⟨hj, fun e' => e e'.symm⟩
  have hother : ∀ j b, h.hp.get j = some b → j ≠ id → ∀ L, ρ j = some L → L.blk ≠ H.blk := fun j b hj hne L hL =>
    (R.inj id j _ b H L hb hj (fun e => hne e.symm) rfl he hL).symm
  have hlt : ∀ j b, h.hp.get j = some b → ∀ L, ρ j = some L → L.blk < w.heap.size := fun j b hj L hL => by
    obtain ⟨L', e1, e2⟩ := (R.has j b hj).host_lt
    rw [hL] at e1; injection e1 with e1; subst e1; exact e2
  refine ⟨⟨Nat.le_trans R.base hbel.size, fun j hj => ?_, fun j b hj => ?_, fun j j' b b' L L' hj hj' hne hr eL eL' => ?_⟩, Nat.le_succ _, hle, fun j hj => Ren.add_other _ _ (by omega), hbel, hbel.size, minN_le_left _ _,
    fun j b hj hl => ?_, fun j b hj hjlt => ?_, fun j b hj hge => ?_, fun k hk hno => ?_, fun j L hj eL => ?_⟩
  · have hj' : h.nx + 1 ≤ j := hj
    rw [Ren.add_other _ _ (by omega)]
    exact R.dom j (by omega)
  · by_cases hjn : j = h.nx
    · subst hjn
      rw [hget, if_pos rfl] at hj
      injection hj with hj
      subst hj
      refine ⟨K, arr', fz, Ren.add_same _ _ _, hu, hK, hs, fun i v hv => ?_, fun _ => ⟨hfz, ho, hB, hn, hd⟩, hf⟩
      obtain ⟨v', h1, h2⟩ := hc i v hv
      rw [ho, Nat.zero_add]
      exact ⟨v', h1, h2.mono hle⟩
    · obtain ⟨h1, h2⟩ := hold j b hj hjn
      exact (R.has j b h1).mono hle (fun L eL => hfar _ (hlt j b h1 L eL) (hother j b h1 h2 L eL))
  · by_cases e1 : j = h.nx
    · subst e1
      obtain ⟨h1, h2⟩ := hold j' b' hj' (fun e => hne e.symm)
      rw [Ren.add_same] at eL
      injection eL with eL
      subst eL
      rw [Ren.add_other _ _ (fun e => hne e.symm)] at eL'
      have := hother j' b' h1 h2 L' eL'
      have := hlt j' b' h1 L' eL'
      omega
    · obtain ⟨h1, h2⟩ := hold j b hj e1
      rw [Ren.add_other _ _ e1] at eL
      by_cases e2 : j' = h.nx
      · subst e2
        rw [Ren.add_same] at eL'
        injection eL' with eL'
        subst eL'
        have := hother j b h1 h2 L eL
        have := hlt j b h1 L eL
        omega
      · obtain ⟨h3, h4⟩ := hold j' b' hj' e2
        rw [Ren.add_other _ _ e2] at eL'
        exact R.inj j j' b b' L L' h1 h3 hne hr eL eL'
  · show ((h.hp.set id none).set h.nx _).get j = _
    have := minN_le_right h.lo id
    have := R.lt hj
    simp only at hl
    rw [hget, if_neg (by omega), if_neg (by omega)]
    exact hj
  · obtain ⟨h1, _⟩ := hold j b hj (by omega)
    exact ⟨b, h1, rfl, fun _ => rfl⟩
  · by_cases e1 : j = h.nx
    · subst e1
      replace hj : ((h.hp.set id none).set h.nx (some (.row c' n' e' u' true fl'))).get h.nx = some b := hj
      rw [hget, if_pos rfl] at hj
      injection hj with hj; subst hj; rfl
    · obtain ⟨h1, _⟩ := hold j b hj e1
      have := R.lt h1; omega
  · exact hfar k hk (fun e1 => hno id _ H hb rfl he (minN_le_right _ _) e1.symm)
  · by_cases e1 : j = h.nx
    · subst e1
      rw [Ren.add_same] at eL
      injection eL with eL
      subst eL
      rcases hwh with e1 | e1
      · exact .inr ⟨id, _, H, hb, rfl, he, minN_le_right _ _, e1.symm⟩
      · exact .inl e1
    · rw [Ren.add_other _ _ e1, R.dom j hj] at eL; cases eL

/-- what is appended, as the model has it -/
theorem news_of (R : HR B ρ h w) {u m cc : Nat} {xa : Option Addr} {x' : Value} {news : List Value} (hx : VR ρ (.slice xa m cc) x') (hr : rowOf h u m xa = some news) :
    ∃ ys a' c', x' = .slice a' m c' ∧ VL ρ news ys ∧ news.length = m * u ∧ (m = 0 ∨ ∃ a, a' = some a ∧ ∀ j y, ys[j]? = some y → w.cell? (a.add j) = some y) := by
  cases hx with
  | nilslice =>
    simp only [rowOf, Option.some.injEq] at hr
    subst hr
    exact ⟨[], _, _, rfl, VL.nil, by simp, .inl rfl⟩
  | empty b o k a' c' =>
    simp only [rowOf, Option.some.injEq] at hr
    subst hr
    exact ⟨[], _, _, rfl, VL.nil, by simp, .inl rfl⟩
  | slice id off n c c' H e1 e2 e3 e4 e5 =>
    cases m with
    | zero =>
      simp only [rowOf, Option.some.injEq] at hr
      subst hr
      exact ⟨[], _, _, rfl, VL.nil, by simp, .inl rfl⟩
    | succ m =>
      simp only [rowOf] at hr
      obtain ⟨H', ys, g1, g2, g3, g4⟩ := R.cells hr
      rw [e1] at g1
      injection g1 with g1
      subst g1
      exact ⟨ys, _, _, rfl, g2, g3, .inr ⟨_, rfl, g4⟩⟩

theorem andB_true {a b : Bool} (h : andB a b = true) : a = true ∧ b = true := by cases a <;> cases b <;> first | exact ⟨rfl, rfl⟩ | (simp [andB] at h)

/-- what app4 does -/
theorem app4_spec {e u id n m sz : Nat} {c : Tr Value} {fl bq : Bool} {news : List Value} {v : Value} {h' : Hs}
    (hiff : ∀ i, (c.get i).isSome = true ↔ i < sz) (hq : bq = Nat.beq (Nat.mul n u) sz)
    (ha : app4 h e u id n m c sz fl news bq (loadN c (Nat.mul n u) 0 []) = some (v, h')) :
    v = .slice (some ⟨h.nx, 0, none⟩) (n + m) (n + m) ∧ n * u ≤ sz ∧ ∃ c2 fl2, h' = ⟨(h.hp.set id none).set h.nx (some (.row c2 (n * u + news.length) e u true fl2)), Nat.succ h.nx, minN h.lo id⟩ ∧
      (∀ j x, c2.get j = some x → (j < n * u ∧ c.get j = some x) ∨ (n * u ≤ j ∧ news[j - n * u]? = some x)) ∧ (∀ j, (c2.get j).isSome = true ↔ j < n * u + news.length) ∧ (fl2 = true → fl = true ∧ flatL news = true) := by
  cases bq with
  | true =>
    have hs : n * u = sz := Nat.eq_of_beq_eq_true hq.symm
    subst hs
    simp only [app4, Option.some.injEq, Prod.mk.injEq] at ha
    obtain ⟨rfl, rfl⟩ := ha
    refine ⟨rfl, Nat.le_refl _, ofListFrom news (n * u) c, _, rfl, fun j x hj => ?_, fun j => ?_, andB_true⟩
    · rw [get_ofListFrom] at hj
      split at hj
      · rename_i hh; exact .inr ⟨hh.1, hj⟩
      · exact .inl ⟨(hiff j).1 (by rw [hj]; rfl), hj⟩
    · rw [get_ofListFrom]
      by_cases hh : n * u ≤ j ∧ j < n * u + news.length
      · rw [if_pos hh]
        have : j - n * u < news.length := by omega
        simp [List.getElem?_eq_getElem this, hh.2]
      · rw [if_neg hh, hiff]; omega
  | false =>
    cases hl : loadN c (Nat.mul n u) 0 [] with
    | none => rw [hl] at ha; cases ha
    | some old =>
      rw [hl] at ha
      simp only [app4, Option.some.injEq, Prod.mk.injEq] at ha
      obtain ⟨rfl, rfl⟩ := ha
      obtain ⟨g1, g2⟩ := loadN_nil hl
      have g1' : old.length = n * u := g1
      refine ⟨rfl, ?_, ofList (old ++ news), andB fl (flatL news), ?_, fun j x hj => ?_, fun j => ?_, andB_true⟩
      · rcases Nat.eq_zero_or_pos (n * u) with hz | hz
        · omega
        · have hj : n * u - 1 < old.length := by omega
          have := g2 (n * u - 1) old[n * u - 1] (List.getElem?_eq_getElem hj)
          have := (hiff _).1 (show (c.get (0 + (n * u - 1))).isSome = true by rw [this]; rfl)
          omega
      · show (⟨_, _, _⟩ : Hs) = _
        rw [show Nat.add old.length news.length = n * u + news.length from by show old.length + news.length = _; rw [g1']]
      · rw [get_ofList] at hj
        by_cases hlt : j < n * u
        · rw [List.getElem?_append_left (by omega)] at hj
          exact .inl ⟨hlt, by have := g2 j x hj; simpa using this⟩
        · rw [List.getElem?_append_right (by omega), g1'] at hj
          exact .inr ⟨by omega, hj⟩
      · rw [get_ofList]
        simp [g1']

/-- in the model: nothing is appended -/
theorem run_append_nothing {P : Program} (w : World) (t ty e : TypeId) (i : TypeInfo) (ht : P.underlying t = some (.slice e)) (hi : P.info? e = some i)
    (a a' : Option Addr) (n c c' : Nat) (hn : n ≤ c) (ha : a' = none → c' = 0) : (Builtin.append_ #[t, t] ty #[.slice a n c, .slice a' 0 c']).run P w = .ok (.slice a n c) w := by
  have hf : (Builtin.firstCells i.size 0 (.slice a' 0 c')).run P w = .ok #[] w := by
    cases a' <;> simp [Builtin.firstCells, loadCells, loadCellsFrom]
  cases a <;> simp [Builtin.append_, run_underlying ht, sizeOf, typeInfo, hi, Builtin.lenOf, hn, hf, storeCells]

theorem nat_mul (a b : Nat) : Nat.mul a b = a * b := rfl
theorem nat_add (a b : Nat) : Nat.add a b = a + b := rfl
theorem nat_sub (a b : Nat) : Nat.sub a b = a - b := rfl

/-- the model's append of cells that lie somewhere, onto a row of the evaluator's -/
structure AppTo (P : Program) (t ty e : TypeId) (u by_ : Nat) : Prop where
  ht : P.underlying t = some (.slice e)
  info : ∃ i z, P.info? e = some i ∧ i.zero = some z ∧ i.size = u ∧ i.bytes = by_ ∧ z.cells.size = u
  pos : 0 < u
  bpos : 0 < by_

/-- what the model's append runs to: onto whatever row; 'm' elements of the cells 'ys' -/
structure RunApp (P : Program) (w : World) (e : TypeId) (i : TypeInfo) (z : Value) (args : Array TypeId) (ty : TypeId) (x' : Value) (m : Nat) (ys : List Value) : Prop where
  nothing : m = 0 → ∀ (a : Option Addr) (n c : Nat), n ≤ c → (Builtin.append_ args ty #[.slice a n c, x']).run P w = .ok (.slice a n c) w
  nil : 0 < m → (m : Int) ≤ 9223372036854775807 → m * i.bytes ≤ 281474976710656 → (Builtin.append_ args ty #[.slice none 0 0, x']).run P w =
      .ok (.slice (some ⟨w.heap.size, 0, none⟩) m (grownCap w m 0 e)) (w.drew.alloc (.cells (ys.toArray ++ Builtin.zeroCells z.cells (grownCap w m 0 e - m)) e))
  room : ∀ (g n c : Nat) (cur : Array Value), w.heap[g]? = some (.cells cur e (0, 0)) → n + m ≤ c → n * i.size + ys.length ≤ cur.size →
      (Builtin.append_ args ty #[.slice (some ⟨g, 0, none⟩) n c, x']).run P w = .ok (.slice (some ⟨g, 0, none⟩) (n + m) c) (w.setRow g (cur.toList.take (n * i.size) ++ ys ++ cur.toList.drop (n * i.size + ys.length)).toArray)
  grow : ∀ (b : Addr) (n c : Nat) (olds : List Value), olds.length = n * i.size → (∀ j v, olds[j]? = some v → w.cell? (b.add j) = some v) → c < n + m → ((n + m : Nat) : Int) ≤ 9223372036854775807 →
      Builtin.nextslicecap (n + m) c * i.bytes ≤ 281474976710656 → m ≠ 0 → (Builtin.append_ args ty #[.slice (some b) n c, x']).run P w =
      .ok (.slice (some ⟨w.heap.size, 0, none⟩) (n + m) (grownCap w (n + m) c e)) (w.drew.alloc (.cells (olds.toArray ++ ys.toArray ++ Builtin.zeroCells z.cells (grownCap w (n + m) c e - (n + m))) e))

theorem step_app2 {P : Program} (R : HR B ρ h w) {e ty : TypeId} {args : Array TypeId} {m : Nat} {s s' x' v : Value} {h' : Hs} {i : TypeInfo} {z : Value} {news ys : List Value}
    (hzc : z.cells.size = i.size) (hpos : 0 < i.size) (hbpos : 0 < i.bytes) (A : RunApp P w e i z args ty x' m ys) (hs : VR ρ s s') (hys : VL ρ news ys) (hlen : news.length = m * i.size)
    (ha : app2 h e i.size i.bytes m news s = some (v, h')) :
    ∃ v' w' ρ', (Builtin.append_ args ty #[s', x']).run P w = .ok v' w' ∧ VR ρ' v v' ∧ St B ρ h w ρ' h' w' := by
        cases s with
        | slice sa n sc =>
          simp only [app2] at ha
          cases hbd : Nat.ble (Nat.mul (Nat.add n m) i.bytes) 70368744177664 with
          | false => rw [hbd] at ha; cases ha
          | true =>
            rw [hbd] at ha
            have hbd' : (n + m) * i.bytes ≤ 70368744177664 := Nat.le_of_ble_eq_true hbd
            have hylen : ys.length = m * i.size := by rw [← hys.1]; exact hlen
            cases hs with
            | nilslice =>
              cases m with
              | zero =>
                simp only [Option.some.injEq, Prod.mk.injEq] at ha
                obtain ⟨rfl, rfl⟩ := ha
                exact ⟨_, w, ρ, A.nothing rfl none 0 0 (Nat.le_refl _), .nilslice, St.refl R⟩
              | succ m =>
                simp only [Option.some.injEq, Prod.mk.injEq] at ha
                obtain ⟨rfl, rfl⟩ := ha
                · have h64 : ((m + 1 : Nat) : Int) ≤ 9223372036854775807 := by
                    have := Nat.le_mul_of_pos_right (0 + (m + 1)) hbpos
                    omega
                  have hrun := A.nil (by omega) h64 (by simp only [Nat.zero_add] at hbd'; omega)
                  have hge := grownCap_ge w (m + 1) 0 e
                  have hcm : grownCap w (m + 1) 0 e ≤ maxLen := grownCap_le_maxLen w (m + 1) 0 e (by simp only [maxLen]; omega)
                  refine ⟨_, _, _, hrun, ?_, step_new (w := w.drew) R rfl rfl rfl rfl e i.size news _ ys hys ?_⟩
                  · refine .slice h.nx 0 (m + 1) (m + 1) _ _ (Ren.add_same _ _ _) (Nat.le_refl _) hge hcm (.inr ?_)
                    simp only [Array.size_append, List.size_toArray, size_zeroCells, hzc, hylen, Nat.zero_add, ← Nat.add_mul]
                    rw [show m + 1 + (grownCap w (m + 1) 0 e - (m + 1)) = grownCap w (m + 1) 0 e from by omega]
                    exact Nat.le_refl _
                  · simp
            | empty b o k a1 c1 h3 =>
              simp at ha
            | slice id off _ _ c1 H e1 e2 e3 e4 e5 =>
              simp only at ha
              cases hoff : Nat.beq off 0 with
              | false => rw [hoff] at ha; cases ha
              | true =>
                have hoff0 := Nat.eq_of_beq_eq_true hoff
                subst hoff0
                rw [hoff] at ha
                cases hb : h.hp.get id with
                | none => simp only [hb, app3] at ha; cases ha
                | some b =>
                  rw [hb] at ha
                  cases b with
                  | mp => cases ha
                  | it => cases ha
                  | lp => cases ha
                  | row c sz eb ub rw_ fl =>
                    simp only [app3] at ha
                    cases rw_ with
                    | false => cases ha
                    | true =>
                      cases hub : Nat.beq i.size ub with
                      | false => rw [hub] at ha; cases ha
                      | true =>
                        have hub' := Nat.eq_of_beq_eq_true hub
                        subst hub'
                        rw [hub] at ha
                        cases heb : Nat.beq e eb with
                        | false => rw [heb] at ha; cases ha
                        | true =>
                          have heb' := Nat.eq_of_beq_eq_true heb
                          subst heb'
                          rw [heb] at ha
                          obtain ⟨H0, arr, fz, he0, hu, hh, hs0, hcc, hrw, hflat⟩ := R.has id _ hb
                          rw [e1] at he0
                          injection he0 with he0
                          subst he0
                          obtain ⟨hfz, hHoff, hHB, hHn, hiff⟩ := hrw rfl
                          obtain rfl : fz = (0, 0) := by
                            rcases hfz with hfz | ⟨h0, _⟩
                            · exact hfz
                            · omega
                          obtain ⟨rfl, hnsz, c2, fl2, rfl, hc2, hd2, hf2⟩ := app4_spec hiff rfl ha
                          have hf3 : fl2 = true → ∀ i v, c2.get i = some v → flat1 v = true := fun hq i v hv => by
                            obtain ⟨q1, q2⟩ := hf2 hq
                            rcases hc2 i v hv with ⟨_, g2⟩ | ⟨_, g2⟩
                            · exact hflat q1 i v g2
                            · exact flatL_mem q2 _ (List.mem_of_getElem? g2)
                          have hcap : c1 * i.size ≤ arr.size := by
                            rcases e5 with e5 | e5
                            · omega
                            · rw [hHoff, hu] at e5; omega
                          -- the old cells
                          have holds : ∀ j y, (arr.toList.take (n * i.size))[j]? = some y → w.cell? ((⟨H.blk, 0, none⟩ : Addr).add j) = some y := fun j y hj => by
                            rw [add_block, Nat.zero_add, cell_of_row w H.blk j arr e (0, 0) hh]
                            rw [List.getElem?_take] at hj
                            split at hj
                            · simpa using hj
                            · cases hj
                          have hfit : n * i.size ≤ arr.size := by omega
                          have holdl : (arr.toList.take (n * i.size)).length = n * i.size := by simp; omega
                          have hlt : H.blk < w.heap.size := (Array.getElem?_eq_some_iff.1 hh).1
                          rw [hHoff, Nat.zero_add]
                          -- a cell of the new row, in an array that begins with the old cells and the new ones
                          have hnew : ∀ arr' : Array Value, (∀ j, j < n * i.size → arr'[j]? = arr[j]?) → (∀ j y, ys[j]? = some y → arr'[n * i.size + j]? = some y) →
                              ∀ j x, c2.get j = some x → ∃ y, arr'[j]? = some y ∧ VR ρ x y := fun arr' h1 h2 j x hj => by
                            rcases hc2 j x hj with ⟨g1, g2⟩ | ⟨g1, g2⟩
                            · obtain ⟨y, q1, q2⟩ := hcc j x g2
                              rw [hHoff, Nat.zero_add] at q1
                              exact ⟨y, (h1 j g1).trans q1, q2⟩
                            · have hj2 : j - n * i.size < news.length := (List.getElem?_eq_some_iff.1 g2).1
                              have hj3 : j - n * i.size < ys.length := by rw [← hys.1]; exact hj2
                              refine ⟨ys[j - n * i.size], ?_, hys.2 _ x _ g2 (List.getElem?_eq_getElem hj3)⟩
                              have := h2 (j - n * i.size) _ (List.getElem?_eq_getElem hj3)
                              rwa [show n * i.size + (j - n * i.size) = j from by omega] at this
                          by_cases hroom : n + m ≤ c1
                          · -- there is room
                            have hrm : n * i.size + ys.length ≤ arr.size := by
                              rw [hylen, ← Nat.add_mul]
                              exact Nat.le_trans (Nat.mul_le_mul_right _ hroom) hcap
                            have hrun := A.room H.blk n c1 arr hh hroom hrm
                            refine ⟨_, _, ρ.add h.nx ⟨H.blk, 0, arr.size, i.size, none⟩, hrun, ?_, ?_⟩
                            · refine .slice h.nx 0 (n + m) (n + m) c1 _ (Ren.add_same _ _ _) (Nat.le_refl _) hroom e4 (.inr ?_)
                              simp only [Nat.zero_add]
                              exact hcap
                            · have hsz : (arr.toList.take (n * i.size) ++ ys ++ arr.toList.drop (n * i.size + ys.length)).toArray.size = arr.size := by
                                simp; omega
                              refine step_move (K := ⟨H.blk, 0, arr.size, i.size, none⟩) R hb e1 (setRow_heap w H.blk arr _ e (0, 0) hh) (.inl rfl) hsz rfl rfl hHB (.inl rfl) (fun k _ hk => setRow_other w H.blk k _ hk)
                                ⟨rfl, rfl, rfl, by simp, fun k hk => setRow_other w H.blk k _ (by omega)⟩ ?_ (hnew _ ?_ ?_) hd2 hf3
                              · rw [hsz, hys.1]; exact hrm
                              · intro j hj
                                have : (arr.toList.take (n * i.size) ++ ys ++ arr.toList.drop (n * i.size + ys.length))[j]? = arr.toList[j]? := by
                                  rw [List.append_assoc, List.getElem?_append_left (by omega), List.getElem?_take, if_pos hj]
                                simpa using this
                              · intro j y hj
                                have hj2 : j < ys.length := (List.getElem?_eq_some_iff.1 hj).1
                                have : (arr.toList.take (n * i.size) ++ ys ++ arr.toList.drop (n * i.size + ys.length))[n * i.size + j]? = some y := by
                                  rw [List.append_assoc, List.getElem?_append_right (by omega), holdl, Nat.add_sub_cancel_left, List.getElem?_append_left hj2]
                                  exact hj
                                simpa using this
                          · -- it grows
                            have hm0 : m ≠ 0 := by omega
                            · have h64 : ((n + m : Nat) : Int) ≤ 9223372036854775807 := by
                                have := Nat.le_mul_of_pos_right (n + m) hbpos
                                omega
                              have hrun := A.grow ⟨H.blk, 0, none⟩ n c1 _ holdl holds (by omega) h64 (growslice_fits (by omega) (by omega)) hm0
                              have hge := grownCap_ge w (n + m) c1 e
                              have hcm : grownCap w (n + m) c1 e ≤ maxLen := grownCap_le_maxLen w (n + m) c1 e (by simp only [maxLen]; omega)
                              have hasz : ((arr.toList.take (n * i.size)).toArray ++ ys.toArray ++ Builtin.zeroCells z.cells (grownCap w (n + m) c1 e - (n + m))).size = grownCap w (n + m) c1 e * i.size := by
                                simp only [Array.size_append, List.size_toArray, size_zeroCells, hzc, hylen, holdl, ← Nat.add_mul]
                                congr 1
                                omega
                              refine ⟨_, _, ρ.add h.nx ⟨w.heap.size, 0, grownCap w (n + m) c1 e * i.size, i.size, none⟩, hrun, .slice h.nx 0 (n + m) (n + m) _ _ (Ren.add_same _ _ _) (Nat.le_refl _) hge hcm (.inr ?_), ?_⟩
                              · simp only [Nat.zero_add]
                                exact Nat.le_refl _
                              · refine step_move (K := ⟨w.heap.size, 0, grownCap w (n + m) c1 e * i.size, i.size, none⟩) R hb e1 (heap_alloc_new w.drew _) (.inl rfl) hasz rfl rfl R.base (.inr (Nat.le_refl _)) (fun k hk _ => heap_alloc_old w.drew _ k hk)
                                  ⟨rfl, rfl, rfl, by simp, fun k hk => heap_alloc_old w.drew _ k (by have := R.base; simp; omega)⟩ ?_ (hnew _ ?_ ?_) hd2 hf3
                                · rw [hasz, hlen, ← Nat.add_mul]
                                  exact Nat.mul_le_mul_right _ hge
                                · intro j hj
                                  have : (arr.toList.take (n * i.size) ++ ys ++ (Builtin.zeroCells z.cells (grownCap w (n + m) c1 e - (n + m))).toList)[j]? = arr.toList[j]? := by
                                    rw [List.append_assoc, List.getElem?_append_left (by omega), List.getElem?_take, if_pos hj]
                                  simpa [← Array.getElem?_toList] using this
                                · intro j y hj
                                  have hj2 : j < ys.length := (List.getElem?_eq_some_iff.1 hj).1
                                  have : (arr.toList.take (n * i.size) ++ ys ++ (Builtin.zeroCells z.cells (grownCap w (n + m) c1 e - (n + m))).toList)[n * i.size + j]? = some y := by
                                    rw [List.append_assoc, List.getElem?_append_right (by omega), holdl, Nat.add_sub_cancel_left, List.getElem?_append_left hj2]
                                    exact hj
                                  simpa [← Array.getElem?_toList] using this
        | _ => cases ha

theorem runApp_slice {P : Program} {t ty e : TypeId} {i : TypeInfo} {z : Value} (ht : P.underlying t = some (.slice e)) (hi : P.info? e = some i) (hz : i.zero = some z) {x : Value} {xa a' : Option Addr} {m cc c' : Nat} {ys news : List Value}
    (hx : VR ρ (.slice xa m cc) (.slice a' m c')) (hylen : ys.length = m * i.size) (hone : ∀ y ∈ ys, y.oneCell' = true)
    (hcells : m = 0 ∨ ∃ a, a' = some a ∧ ∀ j y, ys[j]? = some y → w.cell? (a.add j) = some y) (_ : x = x) (_ : news = news) : RunApp P w e i z #[t, t] ty (.slice a' m c') m ys := by
  have hnil : a' = none → c' = 0 := fun e9 => by subst e9; cases hx <;> rfl
  refine ⟨fun hm a n c hn => ?_, fun hm h64 h48 => ?_, fun g n c cur hg hroom hfit => ?_, fun b n c olds ho1 ho2 hc h64 hfit hm0 => ?_⟩
  · subst hm; exact run_append_nothing w t ty e i ht hi a a' n c c' hn hnil
  · rcases hcells with hm0 | ⟨a, rfl, hcells⟩
    · omega
    · exact run_append_nil (P := P) w t ty e i z ht hi hz a m c' ys hylen hcells hm h64 h48
  · rcases hcells with hm0 | ⟨a, rfl, hcells⟩
    · subst hm0
      have hy0 : ys = [] := List.eq_nil_of_length_eq_zero (by simpa using hylen)
      subst hy0
      rw [run_append_nothing w t ty e i ht hi (some ⟨g, 0, none⟩) a' n c c' (by omega) hnil]
      have : (cur.toList.take (n * i.size) ++ [] ++ cur.toList.drop (n * i.size + ([] : List Value).length)).toArray = cur := by simp
      rw [this, setRow_self w g cur e (0, 0) hg]
      rfl
    · exact run_append_room (P := P) w t ty e i ht hi g n c cur hg a m c' ys hylen hcells hone hroom hfit
  · rcases hcells with hm | ⟨a, rfl, hcells⟩
    · exact absurd hm hm0
    · exact run_append_grow (P := P) w t ty e i z ht hi hz b n c olds ho1 ho2 a m c' ys hylen hcells hc h64 hfit

theorem step_append {P : Program} (R : HR B ρ h w) {t ty e : TypeId} {u by_ : Nat} (T : AppTo P t ty e u by_) {s x s' x' v : Value} {h' : Hs}
    (hs : VR ρ s s') (hx : VR ρ x x') (ha : app0 e u by_ h s x = some (v, h')) :
    ∃ v' w' ρ', (Builtin.append_ #[t, t] ty #[s', x']).run P w = .ok v' w' ∧ VR ρ' v v' ∧ St B ρ h w ρ' h' w' := by
  obtain ⟨ht, ⟨i, z, hi, hz, hsz, hby, hzc⟩, hpos, hbpos⟩ := T
  subst hsz
  subst hby
  cases x with
  | slice xa m cc =>
    simp only [app0] at ha
    cases hr : rowOf h i.size m xa with
    | none => rw [hr] at ha; cases ha
    | some news =>
      rw [hr] at ha
      simp only [app1] at ha
      cases ho : allOne news with
      | false => rw [ho] at ha; cases ha
      | true =>
        rw [ho] at ha
        obtain ⟨ys, a', c', rfl, hys, hlen, hcells⟩ := news_of R hx hr
        have hone := hys.one (allOne_mem ho)
        have hylen : ys.length = m * i.size := by rw [← hys.1]; exact hlen
        exact step_app2 R hzc hpos hbpos (runApp_slice (x := .nilFunc) (news := news) ht hi hz hx hylen hone hcells rfl rfl) hs hys hlen ha
  | _ => cases ha
end
end Go.Gev
