/- Contracts of functions, by the logic of residual programs. -/
import Derived.Test.YtndlcnfnoiabbaaPtA
namespace Go.Proofs.Ytndlcnfnoiabbaa.poolPlays
open Go Go.Gev
set_option linter.unusedVariables false
set_option linter.unusedSimpArgs false
abbrev gD (L : List (Nat × Nat)) (a : Nat) : Nat × Nat := L.getD a (0, 0)
def swp (L : List (Nat × Nat)) (j : Nat) : List (Nat × Nat) := (L.set (j + 1) (gD L j)).set j (gD L (j + 1))
theorem swp_perm {L : List (Nat × Nat)} {j : Nat} (hj : j + 1 < L.length) : (swp L j).Perm L := by
 have g1 : gD L j = L[j]'(by omega) := by unfold gD; rw [List.getD_eq_getElem?_getD, List.getElem?_eq_getElem (by omega)]; rfl
 have g2 : gD L (j + 1) = L[j + 1] := by unfold gD; rw [List.getD_eq_getElem?_getD, List.getElem?_eq_getElem hj]; rfl
 have e : L = L.take j ++ (L[j]'(by omega) :: L[j + 1] :: L.drop (j + 2)) := by
  rw [← List.drop_eq_getElem_cons (i := j + 1) hj, ← List.drop_eq_getElem_cons (i := j) (by omega), List.take_append_drop]
 have e2 : swp L j = L.take j ++ (L[j + 1] :: (L[j]'(by omega)) :: L.drop (j + 2)) := by
  unfold swp
  rw [g1, g2]
  generalize hx : L[j]'(by omega) = x at *
  generalize hy : L[j + 1] = y at *
  have tl : (L.take j).length = j := by rw [List.length_take]; omega
  generalize L.take j = A at *
  generalize L.drop (j + 2) = B at *
  rw [e]
  rw [List.set_append_right _ _ (by omega), tl, show j + 1 - j = 1 by omega, List.set_append_right _ _ (by omega), tl, Nat.sub_self]
  rfl
 rw [e2]
 conv => rhs; rw [e]
 exact List.Perm.append_left _ (List.Perm.swap ..)
theorem swp_get {L : List (Nat × Nat)} {j : Nat} (hj : j + 1 < L.length) (a : Nat) : gD (swp L j) a = if a = j then gD L (j + 1) else if a = j + 1 then gD L j else gD L a := by
 unfold swp gD
 simp only [List.getD_eq_getElem?_getD, List.getElem?_set, List.length_set]
 by_cases h1 : a = j
 ·subst h1; rw [if_pos rfl, if_pos (by omega), if_pos rfl]; rfl
 ·rw [if_neg (fun q => h1 q.symm), if_neg h1]
  by_cases h2 : a = j + 1
  ·subst h2; rw [if_pos rfl, if_pos hj, if_pos rfl]; rfl
  ·rw [if_neg (fun q => h2 q.symm), if_neg h2]
def srt (k : Nat × Nat → Nat) (L : List (Nat × Nat)) (i : Nat) : Prop := ∀ a b, a < b → b < i → k (gD L a) ≤ k (gD L b)
def srtJ (k : Nat × Nat → Nat) (L : List (Nat × Nat)) (i j : Nat) : Prop := (∀ a b, a < b → b ≤ i → a ≠ j → b ≠ j → k (gD L a) ≤ k (gD L b)) ∧ ∀ b, j < b → b ≤ i → k (gD L j) ≤ k (gD L b)
theorem srtJ_swp {k : Nat × Nat → Nat} {L : List (Nat × Nat)} {i j : Nat} (hj : j + 1 < L.length) (hi : j + 1 ≤ i) (s : srtJ k L i (j + 1)) (lt : k (gD L (j + 1)) < k (gD L j)) : srtJ k (swp L j) i j := by
 obtain ⟨s1, s2⟩ := s
 refine ⟨fun a b hab hb ha hb' => ?_, fun b hb hb' => ?_⟩
 ·rw [swp_get hj, swp_get hj, if_neg ha, if_neg hb']
  by_cases h1 : a = j + 1
  ·rw [if_pos h1, if_neg (by omega)]; exact s1 j b (by omega) hb (by omega) (by omega)
  ·rw [if_neg h1]
   by_cases h2 : b = j + 1
   ·rw [if_pos h2]; exact s1 a j (by omega) (by omega) (by omega) (by omega)
   ·rw [if_neg h2]; exact s1 a b hab hb (by omega) (by omega)
 ·rw [swp_get hj, swp_get hj, if_pos rfl, if_neg (by omega)]
  by_cases h2 : b = j + 1
  ·rw [if_pos h2]; omega
  ·rw [if_neg h2]; exact s2 b (by omega) hb'
theorem srt_of {k : Nat × Nat → Nat} {L : List (Nat × Nat)} {i j : Nat} (hj : j ≤ i) (s : srtJ k L i j) (h : j = 0 ∨ k (gD L (j - 1)) ≤ k (gD L j)) : srt k L (i + 1) := fun a b hab hb => by
 obtain ⟨s1, s2⟩ := s
 by_cases h1 : a = j
 ·subst h1; exact s2 b hab (by omega)
 ·by_cases h2 : b = j
  ·subst h2
   rcases h with h | h
   ·omega
   ·by_cases h3 : a = b - 1
    ·rw [h3]; exact h
    ·exact Nat.le_trans (s1 a (b - 1) (by omega) (by omega) (by omega) (by omega)) h
  ·exact s1 a b hab (by omega) h1 h2
theorem srtJ_of {k : Nat × Nat → Nat} {L : List (Nat × Nat)} {i : Nat} (s : srt k L i) : srtJ k L i i := ⟨fun a b hab hb ha hb' => s a b hab (by omega), fun b h1 h2 => by omega⟩
theorem w_loadsO {Q : Value → Hs → Prop} {h0 h : Hs} {S : List Nat} {m : List Th} (k : Nat) {hh : Hs} {id o q n c e u : Nat} {fl : Bool} {L l : List Value} {K : Value → An} (H : Sto h0 S h m) (hk : m[k]? = some (.osl (.slice (some ⟨id, 0, none⟩) n c) e u fl n L)) (hp : hh.hp.get id = h.hp.get id) (hl : (L.drop o).take q = l) (hn : l.length = q) (ho : o + q ≤ L.length) (w : WP (K (.agg l.toArray)) Q) : WP (kLoads q (.pointer (some ⟨id, o, none⟩)) hh K) Q := by
 obtain ⟨_, z⟩ := H.ok _ (List.mem_of_getElem? hk)
 rcases z with ⟨z, _⟩ | ⟨id', c', cs, sz, f, z, hc, hb, hf, hsz, hg⟩
 ·cases z
 ·injection z with z1 z2 z3
  injection z1 with z1
  injection z1 with z1
  subst z1
  rw [kLoads_get (by rw [hp]; exact hb) hn (fun j hj => by rw [hg _ (by omega), ← hl, List.getElem?_take_of_lt hj, List.getElem?_drop])]
  exact w
theorem Sto.updO {h0 h h' : Hs} {S : List Nat} {m : List Th} (k : Nat) {id n c e u : Nat} {fl fl' : Bool} {L L' : List Value} (H : Sto h0 S h m) (hk : m[k]? = some (.osl (.slice (some ⟨id, 0, none⟩) n c) e u fl n L)) (mu : Mut h h' id) (ho : OwnSl h' (.slice (some ⟨id, 0, none⟩) n c) e u fl' n L') : Sto h0 S h' (m.set k (.osl (.slice (some ⟨id, 0, none⟩) n c) e u fl' n L')) := by
 refine H.upd hk rfl mu.1 (fun b' hb' hn => mu.2.1 b' hb' fun e => hn (by rw [e]; rfl)) (fun x h1 _ h2 => mu.2.2.1 x h1 (h2 id rfl)) mu.2.2.2.1 (fun b' hb' => ?_) ho (fun b' hb' => ⟨Nat.lt_of_lt_of_le (H.ids _ (List.mem_of_getElem? hk) b' hb').1 mu.1, .inl hb'⟩)
 have : id = b' := by injection hb'
 subst this
 exact mu.2.2.2.2
theorem w_store2O {Q : Value → Hs → Prop} {h0 h : Hs} {S : List Nat} {m : List Th} (k : Nat) {id o n c e u : Nat} {L : List Value} {x y : Value} {K : KV} (H : Sto h0 S h m) (hk : m[k]? = some (.osl (.slice (some ⟨id, 0, none⟩) n c) e u true n L)) (hx : oneC x = true) (hy : oneC y = true) (hf1 : flatL [x, y] = true) (ho : o + 2 ≤ L.length)
 (kk : ∀ h', Sto h0 S h' (m.set k (.osl (.slice (some ⟨id, 0, none⟩) n c) e u true n (setL L o [x, y]))) → h'.nx = h.nx → WP (K undef' h') Q) : WP (after K (store1 2 h [x, y] (addrOf (.pointer (some ⟨id, o, none⟩))))) Q := by
 obtain ⟨hl, z⟩ := H.ok _ (List.mem_of_getElem? hk)
 rcases z with ⟨z, _⟩ | ⟨id', c', cs, sz, f, z, hc, hb, hf, hsz, hg⟩
 ·cases z
 ·injection z with z1 z2 z3
  injection z1 with z1
  injection z1 with z1
  subst z1
  subst z3
  have f1 : f = true := hf rfl
  subst f1
  have e1 : store1 2 h [x, y] (addrOf (.pointer (some ⟨id, o, none⟩))) = some (undef', ⟨h.hp.set id (some (.row ((cs.set o (some x)).set (o + 1) (some y)) sz e u true true)), h.nx, minN h.lo id⟩) := by
   show unit1 (storeB h id o [x, y] (h.hp.get id)) = _
   rw [hb]
   show unit1 (setRow h id sz e u (andB true (flatL [x, y])) (storeN [x, y] o cs)) = _
   have s1 : storeN [x, y] o cs = some ((cs.set o (some x)).set (o + 1) (some y)) := by
    rw [storeN, hx]
    show (match cs.get o with | some _ => storeN [y] (Nat.succ o) (cs.set o (some x)) | none => none) = _
    rw [hg o (by omega), List.getElem?_eq_getElem (by omega)]
    show storeN [y] (Nat.succ o) (cs.set o (some x)) = _
    rw [storeN, hy]
    show (match (cs.set o (some x)).get (Nat.succ o) with | some _ => storeN [] (Nat.succ (Nat.succ o)) ((cs.set o (some x)).set (Nat.succ o) (some y)) | none => none) = _
    rw [Tr.get_set, if_neg (by omega), hg _ (by show o + 1 < _; omega), List.getElem?_eq_getElem (by show o + 1 < _; omega)]
    rfl
   rw [s1, hf1]; rfl
  rw [e1]
  have i1 := (H.ids _ (List.mem_of_getElem? hk) id rfl).1
  refine kk _ (Sto.updO k H hk ⟨Nat.le_refl _, fun b' _ hb' => ?_, fun x h1 h2 => ?_, minN_le_left _ _, .inl (minN_le_right _ _)⟩ ⟨?_, .inr ⟨id, c, (cs.set o (some x)).set (o + 1) (some y), sz, true, rfl, hc, ?_, fun q => q, ?_, fun j hj => ?_⟩⟩) rfl
  ·show (h.hp.set id _).get b' = _
   rw [Tr.get_set, if_neg (fun e => hb' e.symm)]
  ·show _ ≤ minN h.lo id
   rw [minN_eq]; omega
  ·rw [setL_len (by show o + 2 ≤ _; exact ho)]; exact hl
  ·show (h.hp.set id _).get id = _
   rw [Tr.get_set, if_pos rfl]
  ·rw [setL_len (by show o + 2 ≤ _; exact ho)]; exact hsz
  ·rw [setL_len (by show o + 2 ≤ _; exact ho)] at hj
   rw [setL_get (by show o + 2 ≤ _; exact ho), Tr.get_set, Tr.get_set]
   show _ = if o ≤ j ∧ j < o + 2 then [x, y][j - o]? else L[j]?
   by_cases a : o + 1 = j
   ·subst a
    rw [if_pos rfl, if_pos (by omega), show o + 1 - o = 1 by omega]; rfl
   ·rw [if_neg a]
    by_cases a2 : o = j
    ·subst a2
     rw [if_pos rfl, if_pos (by omega), Nat.sub_self]; rfl
    ·rw [if_neg a2, if_neg (by omega)]; exact hg j hj
abbrev rnT (b n c : Nat) (l : List (Nat × Nat)) : Th := .osl (.slice (some ⟨b, 0, none⟩) n c) 52 2 true n (Rc l)
theorem enterO {h : Hs} {b n c : Nat} {l : List (Nat × Nat)} (ho : (rnT b n c l).body h) (hb : b < h.nx) : Sto h [b] ⟨h.hp, h.nx, h.nx⟩ [rnT b n c l] := Sto.enterS [b] _ (fun t ht => by
 rw [List.mem_singleton.1 ht]
 exact ⟨ho, fun b' hb' => by injection hb' with e; subst e; exact ⟨hb, fun _ => by simp⟩⟩) fun i j s t hi hj hij => by
  match i, j, hi, hj with
  | 0, 0, _, _ => exact absurd rfl hij
  | 0, j + 1, _, hj => simp at hj
  | i + 1, _, hi, _ => simp at hi
def SrtQ (h h' : Hs) (b c : Nat) (k : Nat × Nat → Nat) (l : List (Nat × Nat)) : Prop := Mut h h' b ∧ ∃ l', l'.Perm l ∧ srt k l' l'.length ∧ (rnT b l.length c l').body h'
def CmpAt (R : RnK) (h : Hs) (b : Nat) (f : FuncId) (caps : List Value) (k : Nat × Nat → Nat) (l : List (Nat × Nat)) : Prop := ∀ u : Hs, h.nx ≤ u.nx → (∀ id, id < h.nx → id ≠ b → u.hp.get id = h.hp.get id) → ∀ r q, r ∈ l → q ∈ l → ∃ x : Int, R f ([.agg (rv r).toArray, .agg (rv q).toArray] ++ caps) u = some (.val (.int .i64 x) u) ∧ (x < 0 ↔ k r < k q)
def CIns (R R0 : RnK) : Prop := ∀ (l : List (Nat × Nat)) (b c : Nat) (f : FuncId) (caps : List Value) (k : Nat × Nat → Nat) (h : Hs), l.length < 20 → l.length ≤ c → b < h.nx → (rnT b l.length c l).body h → CmpAt R0 h b f caps k l →
 WP (R 47 [.slice (some ⟨b, 0, none⟩) l.length c, kI 0, kI l.length, .func (.func f) #[] caps.toArray] h) fun r h' => r = .tuple #[] ∧ SrtQ h h' b c k l
theorem Rc_app (A B : List (Nat × Nat)) : Rc (A ++ B) = Rc A ++ Rc B := by unfold Rc Rl; rw [List.map_append, List.flatten_append]
theorem Rc_cons (r : Nat × Nat) (l : List (Nat × Nat)) : Rc (r :: l) = rv r ++ Rc l := rfl
theorem split_at {l : List (Nat × Nat)} {i : Nat} (hi : i < l.length) : l = l.take i ++ gD l i :: l.drop (i + 1) := by
 have e : gD l i = l[i] := by unfold gD; rw [List.getD_eq_getElem?_getD, List.getElem?_eq_getElem hi]; rfl
 rw [e, ← List.drop_eq_getElem_cons hi, List.take_append_drop]
theorem Rc_cut {l : List (Nat × Nat)} {i : Nat} (hi : i < l.length) : ((Rc l).drop (0 + i * 2)).take 2 = rv (gD l i) := by
 have tl : (l.take i).length = i := by rw [List.length_take]; omega
 conv => lhs; rw [split_at hi]
 rw [Rc_app, Rc_cons, Nat.zero_add, List.drop_left' (by rw [Rc_len, tl])]
 exact List.take_left' rfl
theorem Rc_set {l : List (Nat × Nat)} {i : Nat} {r : Nat × Nat} (hi : i < l.length) : setL (Rc l) (0 + i * 2) (rv r) = Rc (l.set i r) := by
 have tl : (l.take i).length = i := by rw [List.length_take]; omega
 have e : l.set i r = l.take i ++ r :: l.drop (i + 1) := by
  conv => lhs; rw [split_at hi]
  rw [List.set_append_right _ _ (by omega), tl, Nat.sub_self]; rfl
 rw [e]
 conv => lhs; rw [split_at hi]
 rw [Rc_app, Rc_cons, Rc_app, Rc_cons, Nat.zero_add]
 show List.take (i * 2) (Rc (l.take i) ++ (rv (gD l i) ++ Rc (l.drop (i + 1)))) ++ rv r ++ List.drop (i * 2 + 2) (Rc (l.take i) ++ (rv (gD l i) ++ Rc (l.drop (i + 1)))) = _
 rw [List.take_left' (by rw [Rc_len, tl]), ← List.append_assoc (Rc (l.take i)) (rv _), List.drop_left' (by rw [List.length_append, Rc_len, tl]; rfl), List.append_assoc]
theorem ins_ok {R : RnK} {N : Nat} {l : List (Nat × Nat)} {b c : Nat} {f : FuncId} {caps : List Value} {k : Nat × Nat → Nat} {h : Hs} (hN : 1000000 ≤ N) (hl : l.length < 20) (hc : l.length ≤ c) (hb : b < h.nx) (ho : (rnT b l.length c l).body h) (cm : CmpAt R h b f caps k l) :
 WP (r47 R N [.slice (some ⟨b, 0, none⟩) l.length c, kI 0, kI l.length, .func (.func f) #[] caps.toArray] h) fun r h' => r = .tuple #[] ∧ SrtQ h h' b c k l := by
 unfold r47
 have H := enterO ho hb
 repeat' (first | (with_reducible first | refine w_jn ?_ | refine w_unC ?_ | refine w_enK ?_) | ((with_reducible refine w_add_NN ?_ ?_) ; omega))
 refine lp_ind (Good := fun n (self : L4) => ∀ (i : Nat) (y1 y2 y3 : Value) (w : Hs) (L : List (Nat × Nat)), 1 ≤ i → l.length ≤ i + n → L.Perm l → srt k L i → Sto h [b] w [rnT b l.length c L] → WP (self (kI i) y1 y2 y3 w) (fun r h' => r = .tuple #[] ∧ SrtQ h h' b c k l)) (fun n self ih i y1 y2 y3 w L h1 hi hp hs H1 => ?_) N l.length (by omega) 1 _ _ _ _ l (by omega) (by omega) (List.Perm.refl _) (fun a b h1 h2 => by omega) H
 clear H
 have H := H1
 clear H1
 have pl := hp.length_eq
 repeat' (first | (with_reducible first | refine w_jn ?_ | refine w_cndT ?_ | refine w_cndF ?_) | ((with_reducible refine w_lss_NN (fun _ => ?_) (fun _ => ?_)) <;> first | (exfalso; omega) | skip))
 ·have ii : i < l.length := by omega
  refine lp_ind (Good := fun n2 (self2 : L2) => ∀ (j : Nat) (z1 : Value) (w2 : Hs) (M : List (Nat × Nat)), j = n2 → j ≤ i → M.Perm l → srtJ k M i j → Sto h [b] w2 [rnT b l.length c M] → WP (self2 (kI j) z1 w2) (fun r h' => r = .tuple #[] ∧ SrtQ h h' b c k l)) (fun n2 self2 ih2 j z1 w2 M hj hji hM hsM H2 => ?_) N i (by omega) i _ _ L rfl (Nat.le_refl _) hp (srtJ_of hs) H
  clear H
  have H := H2
  clear H2
  have ml := hM.length_eq
  repeat' (first | (with_reducible first | refine w_jn ?_ | refine w_cndF ?_ | refine w_gTt ?_ | refine w_gTf ?_ | refine w_pickF ?_ | refine w_blind ?_) | ((with_reducible refine w_gtr_NN (fun _ => ?_) (fun _ => ?_)) <;> first | (exfalso; omega) | skip) | ((with_reducible refine w_add_NN ?_ ?_) ; omega))
  ·repeat' (first | (with_reducible refine w_idx (by omega) ?_) | (refine w_loadsO 0 H rfl rfl (Rc_cut (by omega)) rfl (by rw [Rc_len]; omega) ?_) | (with_reducible refine w_gTt ?_) | ((with_reducible refine w_sub_NN ?_ ?_ ?_) ; omega; omega))
   refine w_isVal ?_
   have mm : ∀ a, a < M.length → gD M a ∈ l := fun a ha => by
    have e : gD M a = M[a] := by unfold gD; rw [List.getD_eq_getElem?_getD, List.getElem?_eq_getElem ha]; rfl
    rw [e]; exact hM.mem_iff.1 (List.getElem_mem ha)
   obtain ⟨x, ex, hx⟩ := cm w2 H.nx (fun id hid hne => H.fr id hid (by simpa using hne)) (gD M j) (gD M (j - 1)) (mm _ (by omega)) (mm _ (by omega))
   refine w_callE ex ?_
   repeat' (first | (with_reducible first | refine w_jn ?_ | refine w_cndT ?_ | refine w_cndF ?_ | refine w_gTt ?_ | refine w_pickT ?_ | refine w_blind ?_) | ((with_reducible first | refine w_bar ?_ ?_ | refine w_add_NN ?_ ?_) ; omega) | ((with_reducible refine w_lss_IN (fun _ => ?_) (fun _ => ?_)) <;> first | (exfalso; omega) | skip) | ((with_reducible refine w_sub_NN ?_ ?_ ?_) ; omega; omega))
   ·obtain ⟨q, rfl⟩ : ∃ q, j = q + 1 := ⟨j - 1, by omega⟩
    repeat' (first | (with_reducible refine w_idx (by omega) ?_) | (refine w_loadsO 0 H rfl rfl (Rc_cut (by omega)) rfl (by rw [Rc_len]; omega) ?_))
    refine w_store2O 0 H rfl rfl rfl rfl (by rw [Rc_len]; omega) fun u3 H3 hu3 => ?_
    have H4 : Sto h [b] u3 [rnT b l.length c (M.set (q + 1) (gD M q))] := by
     unfold rnT; rw [← Rc_set (l := M) (r := gD M q) (by omega)]; exact H3
    clear H H3
    have H := H4
    clear H4
    repeat' (first | (with_reducible refine w_idx (by omega) ?_) | ((with_reducible refine w_bar ?_ ?_) ; omega))
    refine w_store2O 0 H rfl rfl rfl rfl (by rw [Rc_len, List.length_set]; omega) fun u5 H5 hu5 => ?_
    have H6 : Sto h [b] u5 [rnT b l.length c (swp M q)] := by
     unfold rnT swp; rw [← Rc_set (r := gD M (q + 1)) (by rw [List.length_set]; omega)]; exact H5
    clear H H5
    have H := H6
    clear H6
    repeat' (first | ((with_reducible refine w_bar ?_ ?_) ; omega) | ((with_reducible refine w_sub_NN ?_ ?_ ?_) ; omega; omega))
    exact ih2 q (by omega) q _ _ (swp M q) rfl (by omega) ((swp_perm (by omega)).trans hM) (srtJ_swp (by omega) hji hsM (hx.1 (by omega))) H
   ·exact ih (n - 1) (by omega) (i + 1) _ _ _ _ M (by omega) (by omega) hM (srt_of hji hsM (.inr (by have := mt hx.2 (by omega); omega))) H
  ·exact ih (n - 1) (by omega) (i + 1) _ _ _ _ M (by omega) (by omega) hM (srt_of hji hsM (.inl (by omega))) H
 ·refine w_clrS H (fun s hs => by rw [List.mem_singleton.1 hs]; exact hb) rfl (fun h'' M e1 e2 => ⟨rfl, mut_of M, L, hp, fun a b h1 h2 => hs a b h1 (by omega), Th.congr (H.ok _ (List.mem_of_getElem? (i := 0) rfl)) fun b' _ => by rw [e1]⟩) (fun q => ⟨rfl, mut_refl h b, L, hp, fun a b h1 h2 => hs a b h1 (by omega), Th.congr (H.ok _ (List.mem_of_getElem? (i := 0) rfl)) fun b' hb' => by injection hb' with e; subst e; exact (q b hb).symm⟩)
def CInsN (R : RnK) : Prop := ∀ (fn : Value) (h : Hs), R 47 [.slice none 0 0, kI 0, kI 0, fn] h = some (.val (.tuple #[]) h)
theorem insN_ok {R : RnK} {N : Nat} {fn : Value} {h : Hs} (hN : 1000000 ≤ N) : r47 R N [.slice none 0 0, kI 0, kI 0, fn] h = some (.val (.tuple #[]) h) := by
 refine WP.eqn ?_
 unfold r47
 have H := Sto.enter h
 obtain ⟨N, rfl⟩ : ∃ q, N = q + 1 := ⟨N - 1, by omega⟩
 repeat' (first | (with_reducible first | refine w_jn ?_ | refine w_unC ?_ | refine w_enK ?_) | ((with_reducible refine w_add_NN ?_ ?_) ; omega))
 rw [lpT_succ]
 repeat' (first | (with_reducible first | refine w_jn ?_ | refine w_cndF ?_) | ((with_reducible refine w_lss_NN (fun _ => ?_) (fun _ => ?_)) <;> first | (exfalso; omega) | skip))
 exact w_clr H rfl ⟨rfl, rfl⟩
set_option linter.unusedSimpArgs false
theorem w_idxSt {Q : Value → Hs → Prop} {D : List UInt8} {j : Nat} {en : En} {h : Hs} {K : KV} (hj : j < D.length) (w : WP (K (.int .u8 (.ofNat D[j].toNat)) h) Q) : WP (after K (oIdxS (.c (.string ⟨D.toArray⟩)) (.c (.int .i64 (.ofNat j))) en h)) Q := by
 refine w_ret1 ?_ w
 show nthB D.toArray.toList j = _
 have : ∀ (D : List UInt8) (j : Nat) (hj : j < D.length), nthB D j = some (.int .u8 (.ofNat D[j].toNat)) := by
  intro D
  induction D with
  | nil => intro j hj; simp at hj
  | cons x D ih => intro j hj; cases j with
   | zero => rfl
   | succ j => exact ih j (by simpa using hj)
 exact this D j hj
theorem w_to8 {Q : Value → Hs → Prop} {a : Nat} {k : IntKind} {K : Value → An} (w : WP (K (.int .u8 (.ofNat (a % 256)))) Q) : WP (kTo8 (.int k (.ofNat a)) K) Q := by
 show WP (ifB (Nat.ble a 255) (K (.int .u8 (.ofNat a))) (obK K (convI1 .u8 (.int k (.ofNat a))))) Q
 cases h : Nat.ble a 255 with
 | true =>
  have := Nat.le_of_ble_eq_true h
  rw [Nat.mod_eq_of_lt (by omega)] at w
  exact w
 | false =>
  show WP (obK K (convI1 .u8 (.int k (.ofNat a)))) Q
  refine w_ob (v := .int .u8 (.ofNat (a % 256))) ?_ w
  show some (Value.int .u8 (wrapF .u8 (.ofNat a))) = _
  rw [wrapF_eq]
  simp [IntKind.wrap, IntKind.bits, IntKind.signed]
def lenT : List UInt8 := [0, 1, 2, 2, 3, 3, 3, 3, 4, 4, 4, 4, 4, 4, 4, 4, 5, 5, 5, 5, 5, 5, 5, 5, 5, 5, 5, 5, 5, 5, 5, 5, 6, 6, 6, 6, 6, 6, 6, 6, 6, 6, 6, 6, 6, 6, 6, 6, 6, 6, 6, 6, 6, 6, 6, 6, 6, 6, 6, 6, 6, 6, 6, 6] ++ List.replicate 64 7 ++ List.replicate 128 8
theorem lenT_pos : ∀ n, n < 256 → 1 ≤ n → 1 ≤ (lenT.getD n 0).toNat := by decide +kernel
theorem lenT_le : ∀ n, n < 256 → (lenT.getD n 0).toNat ≤ 8 := by decide +kernel
theorem w_idxLen {Q : Value → Hs → Prop} {s : ByteArray} {k : Nat} {en : En} {h : Hs} {K : KV} (hs : s = ⟨lenT.toArray⟩) (hk : k < 256) (w : WP (K (.int .u8 (.ofNat (lenT.getD k 0).toNat)) h) Q) : WP (after K (oIdxS (.c (.string s)) (.c (.int .u8 (.ofNat k))) en h)) Q := by
 subst hs
 have lt : lenT.length = 256 := by decide +kernel
 have e : lenT[k]'(by omega) = lenT.getD k 0 := by rw [List.getD_eq_getElem?_getD, List.getElem?_eq_getElem (by omega)]; rfl
 rw [← e] at w
 exact w_idxSt (D := lenT) (j := k) (by omega) w
def CLen64 (R : RnK) : Prop := ∀ (n : Nat) (h : Hs), n < 1000000 → WP (R 60 [.int .u64 (.ofNat n)] h) fun r u => u = h ∧ ∃ k, r = kI k ∧ (1 ≤ n → 1 ≤ k) ∧ k ≤ 100
theorem len64_ok {R : RnK} {N : Nat} {n : Nat} {h : Hs} (h2 : n < 1000000) : WP (r60 R N [.int .u64 (.ofNat n)] h) fun r u => u = h ∧ ∃ k, r = kI k ∧ (1 ≤ n → 1 ≤ k) ∧ k ≤ 100 := by
 unfold r60
 have H := Sto.enter h
 have lt : lenT.length = 256 := by decide +kernel
 have tb : ∀ (k c : Nat) (s : ByteArray), s = ⟨lenT.toArray⟩ → k < 256 → c ≤ 50 → ∀ Q : Value → Hs → Prop, (∀ d, (1 ≤ k ∨ 1 ≤ c → 1 ≤ d) → d ≤ 100 → Q (kI d) h) → WP (kTo8 (.int .u64 (.ofNat k)) fun x15 => after (fun x16 h17 => kTo64 x16 fun x18 => kI64 BinOp.add (kI c) x18 fun x19 => clrK h x19 h17) (oIdxS (.c (.string s)) (.c x15) enE ⟨h.hp, h.nx, h.nx⟩)) Q := fun k c s hs hk h2 Q hq => by
  refine w_to8 ?_
  rw [Nat.mod_eq_of_lt hk]
  refine w_idxLen hs hk ?_
  have p1 := lenT_pos k hk
  have p2 := lenT_le k hk
  generalize (lenT.getD k 0).toNat = t at *
  repeat' (first | ((with_reducible first | refine w_add_NN ?_ ?_ | refine w_to64 ?_ ?_) ; omega))
  exact w_clr H rfl (hq _ (by omega) (by omega))
 repeat' (first | (with_reducible first | refine w_jn ?_ | refine w_cndT ?_ | refine w_cndF ?_ | refine w_unC ?_ | refine w_enK ?_) | ((with_reducible refine w_ugeq (fun _ => ?_) (fun _ => ?_)) <;> first | (exfalso; omega) | skip) | ((with_reducible first | refine w_add_NN ?_ ?_ | refine w_shr ?_ ?_) ; omega))
 all_goals (refine tb _ _ _ ?_ (by omega) (by omega) _ (fun d h1 h2 => ⟨rfl, d, rfl, fun _ => h1 (by omega), h2⟩))
 all_goals kernel_rfl
def CLen (R : RnK) : Prop := ∀ (n : Nat) (h : Hs), n < 1000000 → WP (R 50 [.int .u64 (.ofNat n)] h) fun r u => u = h ∧ ∃ k, r = kI k ∧ (1 ≤ n → 1 ≤ k) ∧ k ≤ 100
theorem len_ok {R : RnK} {N : Nat} (c : CLen64 R) {n : Nat} {h : Hs} (h2 : n < 1000000) : WP (r50 R N [.int .u64 (.ofNat n)] h) fun r u => u = h ∧ ∃ k, r = kI k ∧ (1 ≤ n → 1 ≤ k) ∧ k ≤ 100 := by
 unfold r50
 have H := Sto.enter h
 repeat' (first | (with_reducible first | refine w_jn ?_ | refine w_cndF ?_ | refine w_unC ?_ | refine w_enK ?_))
 refine w_call (c n _ h2) fun v u hv => ?_
 obtain ⟨rfl, k, rfl, a, b⟩ := hv
 exact w_clr H rfl ⟨rfl, k, rfl, a, b⟩
theorem CmpAt.sub {R : RnK} {h u : Hs} {b : Nat} {f : FuncId} {caps : List Value} {k : Nat × Nat → Nat} {l : List (Nat × Nat)} (c : CmpAt R h b f caps k l) (e1 : h.nx = u.nx) (e2 : u.hp = h.hp) : CmpAt R u b f caps k l := fun w h1 h2 => c w (by omega) fun id hid hne => by rw [h2 id (by omega) hne, e2]
theorem srt_end {h w : Hs} {b c : Nat} {k : Nat × Nat → Nat} {l : List (Nat × Nat)} {m : List Th} {v : Value} (H : Sto h [b] w m) {L : List (Nat × Nat)} (h0 : m[0]? = some (rnT b l.length c L)) (hb : b < h.nx) (hv : flatV v = true) (hp : L.Perm l) (hs : srt k L L.length) : WP (clrK h v w) fun r h' => r = v ∧ SrtQ h h' b c k l :=
 w_clrS H (fun s hs => by rw [List.mem_singleton.1 hs]; exact hb) hv (fun h'' M e1 e2 => ⟨rfl, mut_of M, L, hp, hs, Th.congr (H.ok _ (List.mem_of_getElem? h0)) fun b' _ => by rw [e1]⟩) (fun q => ⟨rfl, mut_refl h b, L, hp, hs, Th.congr (H.ok _ (List.mem_of_getElem? h0)) fun b' hb' => by injection hb' with e; subst e; exact (q b hb).symm⟩)
def CStab (R R0 : RnK) : Prop := ∀ (l : List (Nat × Nat)) (b c : Nat) (f : FuncId) (caps : List Value) (k : Nat × Nat → Nat) (h : Hs), l.length < 20 → l.length ≤ c → b < h.nx → (rnT b l.length c l).body h → CmpAt R0 h b f caps k l →
 WP (R 42 [.slice (some ⟨b, 0, none⟩) l.length c, kI l.length, .func (.func f) #[] caps.toArray] h) fun r h' => r = .tuple #[] ∧ SrtQ h h' b c k l
theorem stab_ok {R R0 : RnK} {N : Nat} (ci : CIns R R0) {l : List (Nat × Nat)} {b c : Nat} {f : FuncId} {caps : List Value} {k : Nat × Nat → Nat} {h : Hs} (hN : 1000000 ≤ N) (hl : l.length < 20) (hc : l.length ≤ c) (hb : b < h.nx) (ho : (rnT b l.length c l).body h) (cm : CmpAt R0 h b f caps k l) :
 WP (r42 R N [.slice (some ⟨b, 0, none⟩) l.length c, kI l.length, .func (.func f) #[] caps.toArray] h) fun r h' => r = .tuple #[] ∧ SrtQ h h' b c k l := by
 unfold r42
 have H := enterO ho hb
 obtain ⟨N, rfl⟩ : ∃ q, N = q + 1 := ⟨N - 1, by omega⟩
 repeat' (first | (with_reducible first | refine w_jn ?_ | refine w_unC ?_ | refine w_enK ?_))
 rw [lpT_succ]
 repeat' (first | (with_reducible first | refine w_jn ?_ | refine w_cndF ?_) | ((with_reducible refine w_leq_NN (fun _ => ?_) (fun _ => ?_)) <;> first | (exfalso; omega) | skip))
 refine w_call (ci l b c f caps k _ hl hc hb ho (cm.sub rfl rfl)) fun v u q => ?_
 obtain ⟨rfl, mu, L, hp, hs, hL⟩ := q
 replace H := Sto.updO 0 H rfl mu hL
 dsimp only [List.set_cons_zero] at H
 repeat' (first | (with_reducible refine w_jn ?_))
 rw [lpT_succ]
 repeat' (first | (with_reducible first | refine w_jn ?_ | refine w_cndF ?_) | ((with_reducible refine w_lss_NN (fun _ => ?_) (fun _ => ?_)) <;> first | (exfalso; omega) | skip))
 exact srt_end H rfl hb rfl hp hs
def CSortS (R R0 : RnK) : Prop := ∀ (l : List (Nat × Nat)) (b c : Nat) (f : FuncId) (caps : List Value) (k : Nat × Nat → Nat) (h : Hs), l.length < 20 → l.length ≤ c → b < h.nx → (rnT b l.length c l).body h → CmpAt R0 h b f caps k l →
 WP (R 29 [.slice (some ⟨b, 0, none⟩) l.length c, .func (.func f) #[] caps.toArray] h) fun r h' => r = .tuple #[] ∧ SrtQ h h' b c k l
theorem sortS_ok {R R0 : RnK} {N : Nat} (ci : CStab R R0) {l : List (Nat × Nat)} {b c : Nat} {f : FuncId} {caps : List Value} {k : Nat × Nat → Nat} {h : Hs} (hl : l.length < 20) (hc : l.length ≤ c) (hb : b < h.nx) (ho : (rnT b l.length c l).body h) (cm : CmpAt R0 h b f caps k l) :
 WP (r29 R N [.slice (some ⟨b, 0, none⟩) l.length c, .func (.func f) #[] caps.toArray] h) fun r h' => r = .tuple #[] ∧ SrtQ h h' b c k l := by
 unfold r29
 have H := enterO ho hb
 repeat' (first | (with_reducible first | refine w_unC ?_ | refine w_enK ?_ | refine w_lenV ?_))
 refine w_call (ci l b c f caps k _ hl hc hb ho (cm.sub rfl rfl)) fun v u q => ?_
 obtain ⟨rfl, mu, L, hp, hs, hL⟩ := q
 replace H := Sto.updO 0 H rfl mu hL
 dsimp only [List.set_cons_zero] at H
 exact srt_end H rfl hb rfl hp hs
def CPdq (R R0 : RnK) : Prop := ∀ (l : List (Nat × Nat)) (b c n : Nat) (f : FuncId) (caps : List Value) (k : Nat × Nat → Nat) (h : Hs), l.length ≤ 12 → l.length ≤ c → b < h.nx → (rnT b l.length c l).body h → CmpAt R0 h b f caps k l →
 WP (R 49 [.slice (some ⟨b, 0, none⟩) l.length c, kI 0, kI l.length, kI n, .func (.func f) #[] caps.toArray] h) fun r h' => r = .tuple #[] ∧ SrtQ h h' b c k l
theorem pdq_ok {R R0 : RnK} {N : Nat} (ci : CIns R R0) {l : List (Nat × Nat)} {b c n : Nat} {f : FuncId} {caps : List Value} {k : Nat × Nat → Nat} {h : Hs} (hN : 1000000 ≤ N) (hl : l.length ≤ 12) (hc : l.length ≤ c) (hb : b < h.nx) (ho : (rnT b l.length c l).body h) (cm : CmpAt R0 h b f caps k l) :
 WP (r49 R N [.slice (some ⟨b, 0, none⟩) l.length c, kI 0, kI l.length, kI n, .func (.func f) #[] caps.toArray] h) fun r h' => r = .tuple #[] ∧ SrtQ h h' b c k l := by
 unfold r49
 have H := enterO ho hb
 obtain ⟨N, rfl⟩ : ∃ q, N = q + 1 := ⟨N - 1, by omega⟩
 refine w_unC ?_
 refine w_unC ?_
 refine w_unC ?_
 refine w_unC ?_
 refine w_unC ?_
 refine w_enK ?_
 refine w_jn ?_
 rw [lpT_succ]
 refine w_jn ?_
 repeat' (first | (with_reducible first | refine w_jn ?_ | refine w_cndT ?_) | ((with_reducible refine w_leq_NN (fun _ => ?_) (fun _ => ?_)) <;> first | (exfalso; omega) | skip) | ((with_reducible refine w_sub_NN ?_ ?_ ?_) ; omega; omega))
 refine w_call (ci l b c f caps k _ (by omega) hc hb ho (cm.sub rfl rfl)) fun v u q => ?_
 obtain ⟨rfl, mu, L, hp, hs, hL⟩ := q
 replace H := Sto.updO 0 H rfl mu hL
 dsimp only [List.set_cons_zero] at H
 skip
 exact srt_end H rfl hb rfl hp hs
def CStabN (R : RnK) : Prop := ∀ (fn : Value) (h : Hs), R 42 [.slice none 0 0, kI 0, fn] h = some (.val (.tuple #[]) h)
theorem stabN_ok {R : RnK} {N : Nat} (ci : CInsN R) {fn : Value} {h : Hs} (hN : 1000000 ≤ N) : r42 R N [.slice none 0 0, kI 0, fn] h = some (.val (.tuple #[]) h) := by
 refine WP.eqn ?_
 unfold r42
 have H := Sto.enter h
 obtain ⟨N, rfl⟩ : ∃ q, N = q + 1 := ⟨N - 1, by omega⟩
 repeat' (first | (with_reducible first | refine w_jn ?_ | refine w_unC ?_ | refine w_enK ?_))
 rw [lpT_succ]
 repeat' (first | (with_reducible first | refine w_jn ?_ | refine w_cndF ?_) | ((with_reducible refine w_leq_NN (fun _ => ?_) (fun _ => ?_)) <;> first | (exfalso; omega) | skip))
 refine w_callE (ci fn _) ?_
 repeat' (first | (with_reducible refine w_jn ?_))
 rw [lpT_succ]
 repeat' (first | (with_reducible first | refine w_jn ?_ | refine w_cndF ?_) | ((with_reducible refine w_lss_NN (fun _ => ?_) (fun _ => ?_)) <;> first | (exfalso; omega) | skip))
 exact w_clr H rfl ⟨rfl, rfl⟩
def CSortSN (R : RnK) : Prop := ∀ (fn : Value) (h : Hs), R 29 [.slice none 0 0, fn] h = some (.val (.tuple #[]) h)
theorem sortSN_ok {R : RnK} {N : Nat} (ci : CStabN R) {fn : Value} {h : Hs} : r29 R N [.slice none 0 0, fn] h = some (.val (.tuple #[]) h) := by
 refine WP.eqn ?_
 unfold r29
 have H := Sto.enter h
 repeat' (first | (refine w_callE (ci fn _) ?_))
 exact w_clr H rfl ⟨rfl, rfl⟩
def CPdqN (R : RnK) : Prop := ∀ (n : Nat) (fn : Value) (h : Hs), R 49 [.slice none 0 0, kI 0, kI 0, kI n, fn] h = some (.val (.tuple #[]) h)
theorem pdqN_ok {R : RnK} {N : Nat} (ci : CInsN R) {n : Nat} {fn : Value} {h : Hs} (hN : 1000000 ≤ N) : r49 R N [.slice none 0 0, kI 0, kI 0, kI n, fn] h = some (.val (.tuple #[]) h) := by
 refine WP.eqn ?_
 unfold r49
 have H := Sto.enter h
 obtain ⟨N, rfl⟩ : ∃ q, N = q + 1 := ⟨N - 1, by omega⟩
 refine w_unC ?_
 refine w_unC ?_
 refine w_unC ?_
 refine w_unC ?_
 refine w_unC ?_
 refine w_enK ?_
 refine w_jn ?_
 rw [lpT_succ]
 refine w_jn ?_
 repeat' (first | (refine w_callE (ci fn _) ?_))
 exact w_clr H rfl ⟨rfl, rfl⟩
set_option linter.unusedSimpArgs false
def CSortF (R R0 : RnK) : Prop := ∀ (l : List (Nat × Nat)) (b c : Nat) (f : FuncId) (caps : List Value) (k : Nat × Nat → Nat) (h : Hs), l.length ≤ 12 → l.length ≤ c → b < h.nx → (rnT b l.length c l).body h → CmpAt R0 h b f caps k l →
 WP (R 45 [.slice (some ⟨b, 0, none⟩) l.length c, .func (.func f) #[] caps.toArray] h) fun r h' => r = .tuple #[] ∧ SrtQ h h' b c k l
theorem sortF_ok {R R0 : RnK} {N : Nat} (cl : CLen R) (ci : CPdq R R0) {l : List (Nat × Nat)} {b c : Nat} {f : FuncId} {caps : List Value} {k : Nat × Nat → Nat} {h : Hs} (hl : l.length ≤ 12) (hc : l.length ≤ c) (hb : b < h.nx) (ho : (rnT b l.length c l).body h) (cm : CmpAt R0 h b f caps k l) :
 WP (r45 R N [.slice (some ⟨b, 0, none⟩) l.length c, .func (.func f) #[] caps.toArray] h) fun r h' => r = .tuple #[] ∧ SrtQ h h' b c k l := by
 unfold r45
 have H := enterO ho hb
 repeat' (first | (with_reducible first | refine w_unC ?_ | refine w_enK ?_ | refine w_lenV ?_) | ((with_reducible refine w_toU ?_ ?_) ; omega))
 refine w_call (cl l.length _ (by omega)) fun v u q => ?_
 obtain ⟨rfl, n, rfl, _, _⟩ := q
 refine w_call (ci l b c n f caps k _ hl hc hb ho (cm.sub rfl rfl)) fun v u q => ?_
 obtain ⟨rfl, mu, L, hp, hs, hL⟩ := q
 replace H := Sto.updO 0 H rfl mu hL
 dsimp only [List.set_cons_zero] at H
 exact srt_end H rfl hb rfl hp hs
def CSortFN (R : RnK) : Prop := ∀ (fn : Value) (h : Hs), R 45 [.slice none 0 0, fn] h = some (.val (.tuple #[]) h)
theorem sortFN_ok {R : RnK} {N : Nat} (cl : CLen R) (ci : CPdqN R) {fn : Value} {h : Hs} : r45 R N [.slice none 0 0, fn] h = some (.val (.tuple #[]) h) := by
 refine WP.eqn ?_
 unfold r45
 have H := Sto.enter h
 repeat' (first | (with_reducible first | refine w_unC ?_ | refine w_enK ?_ | refine w_lenV ?_) | ((with_reducible refine w_toU ?_ ?_) ; omega))
 refine w_call (cl 0 _ (by omega)) fun v u q => ?_
 obtain ⟨rfl, n, rfl, _, _⟩ := q
 refine w_callE (ci n fn _) ?_
 exact w_clr H rfl ⟨rfl, rfl⟩
def ctP (r : Int × Int) : Prop := 1 ≤ r.2 ∧ r.2 ≤ 1073741824 ∧ 0 ≤ r.1 ∧ r.1 ≤ 1073741824
instance (r : Int × Int) : Decidable (ctP r) := inferInstanceAs (Decidable (_ ∧ _ ∧ _ ∧ _))
def cR (l : List (Int × Int)) : List (Nat × Nat) := l.filterMap fun r => if ctP r then some (r.1.toNat, r.2.toNat) else none
theorem cR_snoc (l : List (Int × Int)) (r : Int × Int) : cR (l ++ [r]) = cR l ++ if ctP r then [(r.1.toNat, r.2.toNat)] else [] := by
 unfold cR
 rw [List.filterMap_append]
 congr 1
 split
 ·rename_i q; rw [List.filterMap_cons, if_pos q]; rfl
 ·rename_i q; rw [List.filterMap_cons, if_neg q]; rfl
theorem cR_len (l : List (Int × Int)) : (cR l).length ≤ l.length := List.length_filterMap_le _ _
theorem cR_cnt (l : List (Int × Int)) : Cnt (cR l) := fun r hr => by
 unfold cR at hr
 obtain ⟨q, _, hq⟩ := List.mem_filterMap.1 hr
 split at hq
 ·rename_i z
  injection hq with hq
  subst hq
  unfold ctP at z
  dsimp only
  omega
 ·cases hq
def CCountsI (R : RnK) : Prop := ∀ (l : List (Int × Int)) (v : Value) (h : Hs), l.length ≤ 1000 → Rd h v 2 (Ril l) → WP (R 44 [v] h) fun v' h' => New h h' (OR v' (cR l))
theorem countsI_ok {R : RnK} {N : Nat} {l : List (Int × Int)} {v : Value} {h : Hs} (hN : 100000 < N) (hb : l.length ≤ 1000) (r : Rd h v 2 (Ril l)) : WP (r44 R N [v] h) fun v' h' => New h h' (OR v' (cR l)) := by
 unfold r44
 obtain ⟨a, c, rfl⟩ := r.1.formN (Ril_len l)
 have H := Sto.enter1 r
 have l1 := Ril_len l
 repeat' (first | (with_reducible first | refine w_jn ?_ | refine w_unC ?_ | refine w_enK ?_ | refine w_lenV ?_))
 replace H := H.nilS 52 2
 refine lp_ind (Good := fun n (self : L5) => ∀ (i : Nat) (y1 y2 y3 cur : Value) (w : Hs), i + n = l.length → Sto h [] w [OR cur (cR (l.take i)), .rsl (.slice a l.length c) 2 (Ril l)] → WP (self (.int .i64 (.ofNat i)) y1 y2 y3 cur w) (fun v' h' => New h h' (OR v' (cR l)))) (fun n self ih i y1 y2 y3 cur w hi H1 => ?_) N l.length (by omega) 0 _ _ _ _ _ (by omega) H
 clear H
 have H := H1
 clear H1
 obtain ⟨ac, cc, rfl⟩ := (show OwnSl w cur 52 2 _ _ _ from H.ok _ (List.mem_of_getElem? (i := 0) rfl)).form
 have cl := cR_len (l.take i)
 rw [List.length_take] at cl
 repeat' (first | (with_reducible first | refine w_jn ?_ | refine w_cndT ?_ | refine w_cndF ?_) | ((with_reducible refine w_lss_NN (fun _ => ?_) (fun _ => ?_)) <;> first | (exfalso; omega) | skip))
 ·have ii : i < l.length := by omega
  refine w_at 1 H rfl (Ril_get ii) rfl rfl ?_
  have tk : cR (l.take (i + 1)) = cR (l.take i) ++ if ctP l[i] then [(l[i].1.toNat, l[i].2.toNat)] else [] := by
   rw [List.take_add_one, List.getElem?_eq_getElem ii]; exact cR_snoc _ _
  repeat' (first | (with_reducible first | refine w_jn ?_ | refine w_cndT ?_ | refine w_cndF ?_ | refine w_gTt ?_ | refine w_gTf ?_ | refine w_pickT ?_ | refine w_pickF ?_ | refine w_fieldA ?_) | ((with_reducible refine w_alloc H ?_) ; (clear H; intro u H hu)) | ((with_reducible apply w_mkrow H) ; rfl; (clear H; intro u H hu; (try dsimp only [List.set_cons_zero, List.set_cons_succ, cellsL, List.toList_toArray, splice, ev, rep, List.cons_append, List.nil_append] at H))) | ((with_reducible first | refine w_leq_IN (fun _ => ?_) (fun _ => ?_) | refine w_geq_IN (fun _ => ?_) (fun _ => ?_)) <;> first | (exfalso; omega) | skip) | ((with_reducible refine w_add_NN ?_ ?_) ; omega) | ((with_reducible apply w_load 0 H) ; rfl; rfl; rfl) | ((with_reducible apply w_storeV 0 H) ; rfl; rfl; rfl; omega; rfl; (clear H; intro u H hu; (try dsimp only [List.set_cons_zero, List.set_cons_succ, cellsL, List.toList_toArray, splice, ev, rep, List.cons_append, List.nil_append] at H))) | ((with_reducible apply w_loadsF 0 H) ; rfl; rfl; rfl))
  all_goals first
   | exact ih (n - 1) (by omega) (i + 1) _ _ _ _ _ (by omega) (by
    rw [tk, if_neg (fun q => by have := q.1; have := q.2.1; have := q.2.2.1; have := q.2.2.2; omega), List.append_nil]; exact H.tail)
   | skip
  have q : ctP l[i] := ⟨by omega, by omega, by omega, by omega⟩
  rw [if_pos q] at tk
  obtain ⟨x, hx⟩ := Int.eq_ofNat_of_zero_le (show 0 ≤ l[i].1 by omega)
  obtain ⟨y, hy⟩ := Int.eq_ofNat_of_zero_le (show 0 ≤ l[i].2 by omega)
  rw [hx, hy, show ((x : Int)).toNat = x from rfl, show ((y : Int)).toNat = y from rfl] at tk
  rw [hx, hy] at H
  refine w_appendB 2 0 H rfl rfl rfl rfl (by omega) (by omega) fun v3 u4 H4 hn4 => ?_
  clear H
  have rc : Rc (cR (l.take (i + 1))) = Rc (cR (l.take i)) ++ [kI x, kI y] := by rw [tk]; exact Rc_snoc _ _
  have nfl : Th.osl v3 52 2 true ((cR (l.take i)).length + 1) (Rc (cR (l.take i)) ++ [kI x, kI y]) = OR v3 (cR (l.take (i + 1))) := by
   rw [← rc]; show _ = Th.osl v3 _ 2 true (cR (l.take (i + 1))).length _; rw [tk, List.length_append]; rfl
  have H : Sto h [] u4 [OR v3 (cR (l.take (i + 1))), .rsl (.slice a l.length c) 2 (Ril l)] := by rw [← nfl]; exact H4.tail.tail
  repeat' (first | ((with_reducible refine w_add_NN ?_ ?_) ; omega))
  exact ih (n - 1) (by omega) (i + 1) _ _ _ _ _ (by omega) H
 ·obtain rfl : i = l.length := by omega
  have H2 : Sto h [] w [OR (.slice ac (cR (l.take l.length)).length cc) (cR l), .rsl (.slice a l.length c) 2 (Ril l)] := by
   have e : cR (l.take l.length) = cR l := by rw [List.take_length]
   conv at H => rw [e]
   rw [e]; exact H
  exact w_clrO 0 H2 rfl fun v' h' n => n
set_option linter.unusedSimpArgs false
theorem w_idxF {Q : Value → Hs → Prop} (f k : Nat) {h0 : Hs} {S : List Nat} {h hh : Hs} {m : List Th} {v : Value} {u i : Nat} {L : List (List Value)} {l : List Value} {x : Value} {K : Value → An} (H : Sto h0 S h m) (hk : m[k]? = some (.rsl v u L)) (hi : L[i]? = some l) (hp : hh.hp = h.hp) (hv : l[f]? = some x) (w : WP (K x) Q) :
 WP (kIdxA u v (.int .i64 (.ofNat i)) (fun p => kFieldA f p (fun q => kLoad q hh K))) Q := w_idxR k H hk hi fun _ _ H' => w_fieldA (w_loadE (j := f) 0 H' rfl (by rw [hp]) hv w)
def dj (r q : Nat × Nat) : Prop := r.1 + r.2 ≤ q.1 ∨ q.1 + q.2 ≤ r.1
abbrev djL (l : List (Nat × Nat)) : Prop := l.Pairwise dj
theorem dj_symm {r q : Nat × Nat} (h : dj r q) : dj q r := Or.symm h
def steps (l : List (Nat × Nat)) : Prop := ∀ i, i + 1 < l.length → (gD l i).1 + (gD l i).2 ≤ (gD l (i + 1)).1
theorem gD_get {l : List (Nat × Nat)} {i : Nat} (hi : i < l.length) : gD l i = l[i] := by unfold gD; rw [List.getD_eq_getElem?_getD, List.getElem?_eq_getElem hi]; rfl
theorem gD_mem {l : List (Nat × Nat)} {i : Nat} (hi : i < l.length) : gD l i ∈ l := by rw [gD_get hi]; exact List.getElem_mem hi
theorem djL_iff {l l' : List (Nat × Nat)} (h1 : ∀ r ∈ l, 1 ≤ r.2) (p : l'.Perm l) (s : srt (fun r => r.1) l' l'.length) : djL l ↔ steps l' := by
 have pw : djL l ↔ djL l' := (List.Perm.pairwise_iff (fun h => dj_symm h) p).symm
 rw [pw]
 have h2 : ∀ i, i < l'.length → 1 ≤ (gD l' i).2 := fun i hi => h1 _ (p.mem_iff.1 (gD_mem hi))
 constructor
 ·intro d i hi
  have := List.pairwise_iff_getElem.1 d i (i + 1) (by omega) hi (by omega)
  rw [← gD_get (by omega), ← gD_get hi] at this
  have h3 : (gD l' i).1 ≤ (gD l' (i + 1)).1 := s i (i + 1) (by omega) hi
  have h4 := h2 (i + 1) hi
  unfold dj at this
  omega
 ·intro d
  refine List.pairwise_iff_getElem.2 fun i j hi hj hij => ?_
  rw [← gD_get hi, ← gD_get hj]
  have h3 := d i (by omega)
  have h4 : (gD l' (i + 1)).1 ≤ (gD l' j).1 := by
   by_cases e : j = i + 1
   ·rw [e]; exact Nat.le_refl _
   ·exact s (i + 1) j (by omega) hj
  exact .inl (by omega)
def CAp1 (R : RnK) : Prop := ∀ (r q : Nat × Nat) (h : Hs), r.1 ≤ 1073741824 → q.1 ≤ 1073741824 → R 46 [.agg (rv r).toArray, .agg (rv q).toArray] h = some (.val (.int .i64 ((r.1 : Int) - q.1)) h)
theorem ap1_ok {R : RnK} {N : Nat} {r q : Nat × Nat} {h : Hs} (hr : r.1 ≤ 1073741824) (hq : q.1 ≤ 1073741824) : r46 R N [.agg (rv r).toArray, .agg (rv q).toArray] h = some (.val (.int .i64 ((r.1 : Int) - q.1)) h) := by
 refine WP.eqn ?_
 unfold r46 rv
 have H := Sto.enter h
 have subst_ : ∀ {Q : Value → Hs → Prop} {a b : Nat} {K : Value → An} (_ : a ≤ 1073741824) (_ : b ≤ 1073741824) (_ : WP (K (.int .i64 ((a : Int) - (b : Int)))) Q), WP (kI64 .sub (.int .i64 (.ofNat a)) (.int .i64 (.ofNat b)) K) Q := fun h1 h2 w => w_sub_NNI (by omega) (by omega) w
 repeat' (first | ((with_reducible refine subst_ ?_ ?_ ?_); omega; omega) | (with_reducible first | refine w_unC ?_ | refine w_enK ?_ | refine w_fieldA ?_) | ((with_reducible refine w_boxA H ?_) ; (clear H; intro u H hu)) | ((with_reducible apply w_load 0 H) ; rfl; rfl; rfl) | ((with_reducible apply w_load 1 H) ; rfl; rfl; rfl))
 exact w_clr H rfl ⟨rfl, rfl⟩
def CApart (R : RnK) : Prop := ∀ (l : List (Int × Int)) (v : Value) (h : Hs), l.length ≤ 12 → Rd h v 2 (Ril l) → WP (R 39 [v] h) fun r h' => h' = h ∧ ∃ b, r = .bool b ∧ (b = true ↔ djL (cR l))
theorem apart_ok {R R0 : RnK} {N : Nat} (cc : CCountsI R) (cs : CSortF R R0) (csN : CSortFN R) (c1 : CAp1 R0) {l : List (Int × Int)} {v : Value} {h : Hs} (hN : 1000000 ≤ N) (hl : l.length ≤ 12) (r : Rd h v 2 (Ril l)) : WP (r39 R N [v] h) fun r h' => h' = h ∧ ∃ b, r = .bool b ∧ (b = true ↔ djL (cR l)) := by
 unfold r39
 have H := Sto.enter1 r
 refine w_unC ?_
 refine w_enK ?_
 refine w_call (cc l v _ (by omega) (H.rd 0 rfl)) fun v1 u1 n1 => ?_
 replace H := H.call n1
 have cl := cR_len l
 have cn := cR_cnt l
 generalize cR l = L at *
 have n2 := n1.2.1
 have nid := n1.2.2
 rcases n2.2 with ⟨rfl, z⟩ | ⟨id, c, cs', sz, f, rfl, hc, hb, hf, hsz, hg⟩
 ·obtain rfl : L = [] := List.eq_nil_of_length_eq_zero z
  have H2 := H.tail
  clear H
  have H := H2
  clear H2
  refine w_callE (csN _ _) ?_
  obtain ⟨N, rfl⟩ : ∃ q, N = q + 1 := ⟨N - 1, by omega⟩
  refine w_jn ?_
  rw [lpT_succ]
  repeat' (first | (with_reducible first | refine w_jn ?_ | refine w_cndF ?_ | refine w_lenV ?_) | ((with_reducible refine w_lss_NN (fun _ => ?_) (fun _ => ?_)) <;> first | (exfalso; omega) | skip))
  exact w_clr H rfl ⟨rfl, true, rfl, fun _ => List.Pairwise.nil, fun _ => rfl⟩
 ·have h0 : ∀ r ∈ L, r.1 ≤ 1073741824 := fun r hr => (cn r hr).2.2
  refine w_call (cs L id c 46 [] (fun r => r.1) u1 (by omega) hc (nid id rfl).2 (H.ok _ (List.mem_of_getElem? (i := 0) rfl)) fun u _ _ r q hr hq => ⟨_, c1 r q u (h0 r hr) (h0 q hq), by show (_ : Int) - _ < 0 ↔ r.1 < q.1; omega⟩) fun v2 u2 q => ?_
  obtain ⟨rfl, mu, L', hp, hs, hL⟩ := q
  replace H := Sto.updO 0 H rfl mu hL
  dsimp only [List.set_cons_zero] at H
  have pl := hp.length_eq
  have rd : Rd u2 (.slice (some ⟨id, 0, none⟩) L.length c) 2 (Rl L') := H.rdOU 0 rfl rfl (Rl_two L') ((Rl_len L').trans pl)
  have H2 : Sto h [] u2 [.rsl (.slice (some ⟨id, 0, none⟩) L.length c) 2 (Rl L'), .rsl v 2 (Ril l)] := H.tail.cons _ rd.1 (fun b hb => ⟨rd.2 b hb, fun e => by cases e⟩) (fun s hs hx => by
   rw [List.mem_singleton.1 hs] at hx
   rcases hx with e | e <;> cases e)
  clear H
  have H := H2
  clear H2
  have dl := djL_iff (fun r hr => (cn r hr).1) hp hs
  have bd : ∀ i, (hi : i < L'.length) → L'[i].1 ≤ 1073741824 ∧ L'[i].2 ≤ 1073741824 := fun i hi => by
   have := cn _ (hp.mem_iff.1 (List.getElem_mem hi))
   omega
  refine w_jn ?_
  refine lp_ind (Good := fun n (self : L4) => ∀ (i : Nat) (y1 y2 y3 : Value) (w : Hs), 1 ≤ i → L.length ≤ i + n → (∀ k, k + 1 < i → k + 1 < L.length → (gD L' k).1 + (gD L' k).2 ≤ (gD L' (k + 1)).1) → Sto h [] w [.rsl (.slice (some ⟨id, 0, none⟩) L.length c) 2 (Rl L'), .rsl v 2 (Ril l)] → WP (self (kI i) y1 y2 y3 w) (fun r h' => h' = h ∧ ∃ b, r = .bool b ∧ (b = true ↔ djL L))) (fun n self ih i y1 y2 y3 w h1 hi hq H1 => ?_) N L.length (by omega) 1 _ _ _ _ (by omega) (by omega) (fun k h1 => by omega) H
  clear H
  have H := H1
  clear H1
  repeat' (first | (with_reducible first | refine w_jn ?_ | refine w_cndT ?_ | refine w_cndF ?_ | refine w_lenV ?_) | ((with_reducible refine w_lss_NN (fun _ => ?_) (fun _ => ?_)) <;> first | (exfalso; omega) | skip) | ((with_reducible refine w_sub_NN ?_ ?_ ?_) ; omega; omega))
  ·have i1 : i < L'.length := by omega
   have i2 : i - 1 < L'.length := by omega
   have b1 := bd i i1
   have b2 := bd (i - 1) i2
   refine w_idxF 0 0 H rfl (Rl_get i2) rfl rfl ?_
   repeat' (first | ((with_reducible refine w_sub_NN ?_ ?_ ?_) ; omega; omega))
   refine w_idxF 1 0 H rfl (Rl_get i2) rfl rfl ?_
   repeat' (first | ((with_reducible refine w_add_NN ?_ ?_) ; omega))
   refine w_idxF 0 0 H rfl (Rl_get i1) rfl rfl ?_
   have g1 : gD L' (i - 1) = L'[i - 1] := gD_get i2
   have g2 : gD L' (i - 1 + 1) = L'[i] := by rw [show i - 1 + 1 = i by omega]; exact gD_get i1
   repeat' (first | (with_reducible first | refine w_jn ?_ | refine w_cndT ?_ | refine w_cndF ?_) | ((with_reducible refine w_gtr_NN (fun _ => ?_) (fun _ => ?_)) <;> first | (exfalso; omega) | skip) | ((with_reducible refine w_add_NN ?_ ?_) ; omega))
   ·refine w_clr H rfl ⟨rfl, false, rfl, fun z => (by cases z), fun z => ?_⟩
    have := (dl.1 z) (i - 1) (by omega)
    rw [g1, g2] at this
    omega
   ·refine ih (n - 1) (by omega) (i + 1) _ _ _ _ (by omega) (by omega) (fun k h3 h4 => ?_) H
    by_cases e : k = i - 1
    ·rw [e, g1, g2]; omega
    ·exact hq k (by omega) h4
  ·refine w_clr H rfl ⟨rfl, true, rfl, fun _ => dl.2 fun k hk => hq k (by omega) (by omega), fun _ => rfl⟩
set_option linter.unusedSimpArgs false
def CNaN (R : RnK) : Prop := ∀ (a : Nat) (h : Hs), R 43 [kI a] h = some (.val (.bool false) h)
theorem nan_ok {R : RnK} {N : Nat} {a : Nat} {h : Hs} : r43 R N [kI a] h = some (.val (.bool false) h) := by
 refine WP.eqn ?_
 unfold r43
 have H := Sto.enter h
 repeat' (first | (with_reducible first | refine w_unC ?_ | refine w_enK ?_) | ((with_reducible refine w_neq_NN (fun _ => ?_) (fun _ => ?_)) <;> first | (exfalso; omega) | skip))
 exact w_clr H rfl ⟨rfl, rfl⟩
def cmp3 (a b : Nat) : Int := if a < b then -1 else if b < a then 1 else 0
def CCompare (R : RnK) : Prop := ∀ (a b : Nat) (h : Hs), R 31 [kI a, kI b] h = some (.val (.int .i64 (cmp3 a b)) h)
theorem compare_ok {R : RnK} {N : Nat} (cn : CNaN R) {a b : Nat} {h : Hs} : r31 R N [kI a, kI b] h = some (.val (.int .i64 (cmp3 a b)) h) := by
 refine WP.eqn ?_
 unfold r31 cmp3
 have H := Sto.enter h
 repeat' (first | (refine w_callE (cn _ _) ?_) | (with_reducible first | refine w_jn ?_ | refine w_cndT ?_ | refine w_cndF ?_) | ((with_reducible first | refine w_lss_NN (fun _ => ?_) (fun _ => ?_) | refine w_gtr_NN (fun _ => ?_) (fun _ => ?_)) <;> first | (exfalso; omega) | skip))
 ·rw [if_pos (by omega)]; exact w_clr H rfl ⟨rfl, rfl⟩
 ·rw [if_neg (by omega), if_pos (by omega)]; exact w_clr H rfl ⟨rfl, rfl⟩
 ·rw [if_neg (by omega), if_neg (by omega)]; exact w_clr H rfl ⟨rfl, rfl⟩
abbrev bxO (x : Value) (fl : Bool) (e : Nat) : Gev.Obj := .row e 0 true fl [x]
def nearB (f o : Nat) (r : Nat × Nat) : Bool := decide (f ≤ r.1 ∧ r.1 < f + o)
def CNear (R : RnK) : Prop := ∀ (r : Nat × Nat) (f o a b : Nat) (fa fb : Bool) (h : Hs), f ≤ 10000 → o ≤ 10000 → a < h.nx → b < h.nx → Holds (h.hp.get a) (bxO (kI f) fa 3) → Holds (h.hp.get b) (bxO (kI o) fb 3) →
 R 28 [.agg (rv r).toArray, pV a, pV b] h = some (.val (.bool (nearB f o r)) h)
theorem near_ok {R : RnK} {N : Nat} {r : Nat × Nat} {f o a b : Nat} {fa fb : Bool} {h : Hs} (hf : f ≤ 10000) (ho : o ≤ 10000) (ha : a < h.nx) (hb : b < h.nx) (Ha : Holds (h.hp.get a) (bxO (kI f) fa 3)) (Hb : Holds (h.hp.get b) (bxO (kI o) fb 3)) :
 r28 R N [.agg (rv r).toArray, pV a, pV b] h = some (.val (.bool (nearB f o r)) h) := by
 refine WP.eqn ?_
 unfold r28 rv nearB
 have H := Sto.enterR h [.rob a (bxO (kI f) fa 3), .rob b (bxO (kI o) fb 3)] fun t ht => by
  simp only [List.mem_cons, List.not_mem_nil, or_false] at ht
  rcases ht with rfl | rfl
  ·exact ⟨rfl, Ha, fun b' hb' => by injection hb' with e; subst e; exact ha⟩
  ·exact ⟨rfl, Hb, fun b' hb' => by injection hb' with e; subst e; exact hb⟩
 repeat' (first | (with_reducible first | refine w_gTt ?_ | refine w_gTf ?_ | refine w_pickT ?_ | refine w_pickF ?_ | refine w_unC ?_ | refine w_enK ?_ | refine w_fieldA ?_) | ((with_reducible refine w_boxA H ?_) ; (clear H; intro u H hu)) | ((with_reducible first | refine w_lss_NN (fun _ => ?_) (fun _ => ?_) | refine w_geq_NN (fun _ => ?_) (fun _ => ?_)) <;> first | (exfalso; omega) | skip) | ((with_reducible refine w_add_NN ?_ ?_) ; omega) | ((with_reducible apply w_load 0 H) ; rfl; rfl; rfl) | ((with_reducible apply w_loadR 1 H) ; rfl; rfl; rfl) | ((with_reducible apply w_loadR 2 H) ; rfl; rfl; rfl))
 all_goals exact w_clrB H (by simp; omega)
def keyT (f o n : Nat) (r : Nat × Nat) : Nat := 2 * (n - min r.2 n) + if n ≤ r.2 ∧ nearB f o r = false then 1 else 0
def CCmpT (R R0 : RnK) : Prop := ∀ (r q : Nat × Nat) (f o n a b c d : Nat) (fa fb fc fd : Bool) (h : Hs), f ≤ 10000 → o ≤ 10000 → a < h.nx → b < h.nx → c < h.nx → d < h.nx → Holds (h.hp.get a) (bxO (kI f) fa 3) → Holds (h.hp.get b) (bxO (kI o) fb 3) → Holds (h.hp.get c) (bxO (kI n) fc 3) → Holds (h.hp.get d) (bxO (.func (.func 28) #[] #[pV a, pV b]) fd 69) →
 WP (R 30 [.agg (rv r).toArray, .agg (rv q).toArray, pV c, pV d] h) fun x h' => h' = h ∧ ∃ y : Int, x = .int .i64 y ∧ (y < 0 ↔ keyT f o n r < keyT f o n q)
theorem cmpT_ok {R : RnK} {N : Nat} (cn : CNear R) (cc : CCompare R) {r q : Nat × Nat} {f o n a b c d : Nat} {fa fb fc fd : Bool} {h : Hs} (hf : f ≤ 10000) (ho : o ≤ 10000) (ha : a < h.nx) (hb : b < h.nx) (hc : c < h.nx) (hd : d < h.nx) (Ha : Holds (h.hp.get a) (bxO (kI f) fa 3)) (Hb : Holds (h.hp.get b) (bxO (kI o) fb 3)) (Hc : Holds (h.hp.get c) (bxO (kI n) fc 3)) (Hd : Holds (h.hp.get d) (bxO (.func (.func 28) #[] #[pV a, pV b]) fd 69)) :
 WP (r30 R N [.agg (rv r).toArray, .agg (rv q).toArray, pV c, pV d] h) fun x h' => h' = h ∧ ∃ y : Int, x = .int .i64 y ∧ (y < 0 ↔ keyT f o n r < keyT f o n q) := by
 unfold r30 rv
 have H := Sto.enterR h [.rob a (bxO (kI f) fa 3), .rob b (bxO (kI o) fb 3), .rob c (bxO (kI n) fc 3), .rob d (bxO (.func (.func 28) #[] #[pV a, pV b]) fd 69)] fun t ht => by
  simp only [List.mem_cons, List.not_mem_nil, or_false] at ht
  rcases ht with rfl | rfl | rfl | rfl
  ·exact ⟨rfl, Ha, fun b' hb' => by injection hb' with e; subst e; exact ha⟩
  ·exact ⟨rfl, Hb, fun b' hb' => by injection hb' with e; subst e; exact hb⟩
  ·exact ⟨rfl, Hc, fun b' hb' => by injection hb' with e; subst e; exact hc⟩
  ·exact ⟨rfl, Hd, fun b' hb' => by injection hb' with e; subst e; exact hd⟩
 have ge : ∀ (lm : List Bool) (hist : List (Option (Nat × Nat))) (w : Hs) (z : Nat) (B : Option Blk), HidOk z hist → w.hp.get z = B → (dHidS .light lm hist w).hp.get z = B := fun lm hist w z B hz e => (hideS_get _ _ _ _ hz).trans e
 have lst : ∀ {w : Hs} {m : List Th}, Sto h [] w m → (nearB f o r = nearB f o q ∨ r.2 < n ∨ q.2 < n) → WP (kCall R 31 [kI (min q.2 n), kI (min r.2 n)] w fun x72 h73 => clrK h x72 h73) fun x h' => h' = h ∧ ∃ y, x = .int .i64 y ∧ (y < 0 ↔ keyT f o n r < keyT f o n q) := fun {w m} H1 hq => by
  refine w_callE (cc _ _ _) ?_
  refine w_clr H1 rfl ⟨rfl, _, rfl, ?_⟩
  unfold cmp3 keyT
  by_cases h1 : n ≤ r.2 <;> by_cases h2 : n ≤ q.2 <;> simp only [h1, h2, true_and, false_and, if_false] <;> (repeat' split) <;> simp_all <;> omega
 repeat' (first | (with_reducible first | refine w_jn ?_ | refine w_cndF ?_ | refine w_gTt ?_ | refine w_gTf ?_ | refine w_pickT ?_ | refine w_pickF ?_ | refine w_unC ?_ | refine w_enK ?_ | refine w_fieldA ?_ | refine w_blind ?_ | refine w_min_NN ?_) | ((with_reducible refine w_boxA H ?_) ; (clear H; intro u H hu)) | ((with_reducible refine w_geq_NN (fun _ => ?_) (fun _ => ?_)) <;> first | (exfalso; omega) | skip) | ((with_reducible apply w_load 0 H) ; rfl; rfl; rfl) | ((with_reducible apply w_load 1 H) ; rfl; rfl; rfl) | ((with_reducible apply w_loadsF 1 H) ; rfl; rfl; rfl) | ((with_reducible apply w_loadR 4 H) ; rfl; rfl; rfl) | ((with_reducible apply w_loadR 5 H) ; rfl; rfl; rfl))
 ·have hu := H.nx
  refine w_isVal (cap := [pV a, pV b]) ?_
  refine w_callE (cn r f o a b fa fb _ hf ho (by show a < u.nx; omega) (by show b < u.nx; omega) ?_ ?_) ?_
  ·exact Eq.mpr (congrArg (fun B => Holds B _) (hideS_get _ _ _ _ (by simp only [HidOk, and_true]; omega))) (H.ok _ (List.mem_of_getElem? (i := 2) rfl))
  ·exact Eq.mpr (congrArg (fun B => Holds B _) (hideS_get _ _ _ _ (by simp only [HidOk, and_true]; omega))) (H.ok _ (List.mem_of_getElem? (i := 3) rfl))
  refine w_lightH ?_
  repeat' (first | ((with_reducible apply w_loadDR 5 H) ; rfl; rfl; (intro _; simp only [HidOk, and_true]; omega)) | (with_reducible refine w_gTt ?_) | ((with_reducible apply w_loadsD 0 H) ; rfl; rfl; (intro _; simp only [HidOk, and_true]; omega)))
  refine w_isVal (cap := [pV a, pV b]) ?_
  refine w_callE (cn q f o a b fa fb _ hf ho (by omega) (by omega) (H.ok _ (List.mem_of_getElem? (i := 2) rfl)) (H.ok _ (List.mem_of_getElem? (i := 3) rfl))) ?_
  cases e1 : nearB f o r <;> cases e2 : nearB f o q
  ·refine w_bar (Nat.le_refl _) ?_
   refine w_gTt ?_
   refine w_ob (v := .bool false) rfl ?_
   repeat' (first | (with_reducible first | refine w_jn ?_ | refine w_cndF ?_ | refine w_pickT ?_ | refine w_fieldA ?_ | refine w_blind ?_ | refine w_min_NN ?_) | ((with_reducible apply w_load 0 H) ; rfl; rfl; rfl) | ((with_reducible apply w_load 1 H) ; rfl; rfl; rfl) | ((with_reducible apply w_loadR 4 H) ; rfl; rfl; rfl))
   exact lst H (.inl (by rw [e1, e2]))
  ·refine w_bar (Nat.le_refl _) ?_
   refine w_gTt ?_
   refine w_ob (v := .bool true) rfl ?_
   repeat' (first | (with_reducible first | refine w_jn ?_ | refine w_cndT ?_ | refine w_pickT ?_ | refine w_blind ?_) | ((with_reducible apply w_loadsF 1 H) ; rfl; rfl; rfl) | ((with_reducible apply w_loadR 5 H) ; rfl; rfl; rfl))
   refine w_callV (cap := [pV a, pV b]) ?_
   refine w_callE (cn r f o a b fa fb _ hf ho (by omega) (by omega) (H.ok _ (List.mem_of_getElem? (i := 2) rfl)) (H.ok _ (List.mem_of_getElem? (i := 3) rfl))) ?_
   rw [e1]
   repeat' (first | (with_reducible first | refine w_jn ?_ | refine w_cndF ?_))
   refine w_clr H rfl ⟨rfl, _, rfl, ?_⟩
   have r1 : n ≤ r.2 := by omega
   have r2 : n ≤ q.2 := by omega
   unfold keyT
   rw [Nat.min_eq_right r1, Nat.min_eq_right r2, e1, e2]
   simp [r1, r2]
  ·refine w_bar (Nat.le_refl _) ?_
   refine w_gTt ?_
   refine w_ob (v := .bool true) rfl ?_
   repeat' (first | (with_reducible first | refine w_jn ?_ | refine w_cndT ?_ | refine w_pickT ?_ | refine w_blind ?_) | ((with_reducible apply w_loadsF 1 H) ; rfl; rfl; rfl) | ((with_reducible apply w_loadR 5 H) ; rfl; rfl; rfl))
   refine w_callV (cap := [pV a, pV b]) ?_
   refine w_callE (cn r f o a b fa fb _ hf ho (by omega) (by omega) (H.ok _ (List.mem_of_getElem? (i := 2) rfl)) (H.ok _ (List.mem_of_getElem? (i := 3) rfl))) ?_
   rw [e1]
   repeat' (first | (with_reducible first | refine w_jn ?_ | refine w_cndT ?_))
   refine w_clr H rfl ⟨rfl, _, rfl, ?_⟩
   have r1 : n ≤ r.2 := by omega
   have r2 : n ≤ q.2 := by omega
   unfold keyT
   rw [Nat.min_eq_right r1, Nat.min_eq_right r2, e1, e2]
   simp [r1, r2]
  ·refine w_bar (Nat.le_refl _) ?_
   refine w_gTt ?_
   refine w_ob (v := .bool false) rfl ?_
   repeat' (first | (with_reducible first | refine w_jn ?_ | refine w_cndF ?_ | refine w_pickT ?_ | refine w_fieldA ?_ | refine w_blind ?_ | refine w_min_NN ?_) | ((with_reducible apply w_load 0 H) ; rfl; rfl; rfl) | ((with_reducible apply w_load 1 H) ; rfl; rfl; rfl) | ((with_reducible apply w_loadR 4 H) ; rfl; rfl; rfl))
   exact lst H (.inl (by rw [e1, e2]))
 ·exact lst H (.inr (.inr (by omega)))
 ·exact lst H (.inr (.inl (by omega)))
end Go.Proofs.Ytndlcnfnoiabbaa.poolPlays
