/- Contracts of functions, by the logic of residual programs. -/
import Derived.Test.YtndlcnfnoiabbaaPtC
namespace Go.Proofs.Ytndlcnfnoiabbaa.poolPlays
open Go Go.Gev
set_option linter.unusedVariables false
set_option linter.unusedSimpArgs false
theorem falls_ins (x : Nat) : ∀ {S : List Nat}, falls S → ∃ T, falls T ∧ T.Perm (x :: S) := by
 intro S
 induction S with
 | nil => intro _; exact ⟨[x], List.pairwise_singleton _ _, List.Perm.refl _⟩
 | cons y S ih =>
  intro h
  have q := List.pairwise_cons.1 h
  by_cases e : y ≤ x
  ·exact ⟨x :: y :: S, List.pairwise_cons.2 ⟨fun z hz => by
    rcases List.mem_cons.1 hz with rfl | hz
    ·exact e
    ·exact Nat.le_trans (q.1 z hz) e, h⟩, List.Perm.refl _⟩
  ·obtain ⟨T, hT, hp⟩ := ih q.2
   refine ⟨y :: T, List.pairwise_cons.2 ⟨fun z hz => ?_, hT⟩, (List.Perm.cons y hp).trans (List.Perm.swap ..)⟩
   rcases List.mem_cons.1 (hp.mem_iff.1 hz) with rfl | hz
   ·omega
   ·exact q.1 z hz
theorem falls_some (l : List Nat) : ∃ S, falls S ∧ S.Perm l := by
 induction l with
 | nil => exact ⟨[], List.Pairwise.nil, List.Perm.refl _⟩
 | cons x l ih =>
  obtain ⟨S, hS, hp⟩ := ih
  obtain ⟨T, hT, hq⟩ := falls_ins x hS
  exact ⟨T, hT, hq.trans (List.Perm.cons x hp)⟩
theorem enoughL_cons (r : Nat × Nat) (l : List (Nat × Nat)) (n : Nat) : enoughL (r :: l) n = if n = 0 then [] else (r.1, min r.2 n) :: enoughL l (n - min r.2 n) := rfl
theorem enoughL_zero (l : List (Nat × Nat)) : enoughL l 0 = [] := by cases l <;> rfl
theorem gr_enough : ∀ {L : List (Nat × Nat)} {n k most : Nat}, 0 < n → k ≤ most → gr (L.map fun r => r.2) n k most = if sumR (enoughL L n) < n ∨ most < k + (enoughL L n).length then none else some (k + (enoughL L n).length) := by
 intro L
 induction L with
 | nil => intro n k most hn hk; rw [if_pos (.inl hn)]; rfl
 | cons r L ih =>
  intro n k most hn hk
  rw [enoughL_cons, if_neg (show ¬ n = 0 by omega), List.map_cons, sumR_cons, List.length_cons]
  show (if k = most then none else if n ≤ r.2 then some (k + 1) else gr _ (n - r.2) (k + 1) most) = _
  dsimp only
  by_cases h1 : k = most
  ·rw [if_pos h1, if_pos (.inr (by omega))]
  ·rw [if_neg h1]
   by_cases h2 : n ≤ r.2
   ·rw [if_pos h2, Nat.min_eq_right h2, Nat.sub_self, enoughL_zero, if_neg (by
     have : sumR [] = 0 := rfl
     simp only [List.length_nil]; omega)]
    rfl
   ·rw [if_neg h2, Nat.min_eq_left (by omega), ih (by omega) (by omega)]
    by_cases h3 : sumR (enoughL L (n - r.2)) < n - r.2 ∨ most < k + 1 + (enoughL L (n - r.2)).length
    ·rw [if_pos h3, if_pos (by omega)]
    ·rw [if_neg h3, if_neg (by omega)]; congr 1; omega
theorem take_gr {f o n most : Nat} {L rows : List (Nat × Nat)} (hn : 0 < n) (hm : 1 ≤ most) (hp : L.Perm rows) (hs : srt (keyT f o n) L L.length) :
 ∃ S, falls S ∧ S.Perm (rows.map fun r => r.2) ∧ gr S n 0 most = if sumR (enoughL L n) < n ∨ most < (enoughL L n).length then none else some (enoughL L n).length := by
 by_cases h : ∃ i, i < L.length ∧ n ≤ (gD L i).2
 ·obtain ⟨i, hi, h2⟩ := h
  obtain ⟨S, hS, hq⟩ := falls_some (rows.map fun r => r.2)
  refine ⟨S, hS, hq, ?_⟩
  cases L with
  | nil => exact absurd hi (Nat.not_lt_zero i)
  | cons r L =>
   have hr : n ≤ r.2 := by
    by_cases e : i = 0
    ·subst e; exact h2
    ·have := hs 0 i (by omega) hi
     have k1 : keyT f o n (gD (r :: L) i) ≤ 1 := by
      unfold keyT
      rw [Nat.min_eq_right h2, Nat.sub_self]
      split <;> omega
     have k2 : 2 * (n - min r.2 n) ≤ keyT f o n (gD (r :: L) 0) := by
      unfold keyT
      exact Nat.le_add_right _ _
     omega
   rw [enoughL_cons, if_neg (show ¬ n = 0 by omega), Nat.min_eq_right hr, Nat.sub_self, enoughL_zero]
   have s1 : sumR [(r.1, n)] = n := by rw [sumR_cons]; show n + 0 = n; rfl
   rw [s1, if_neg (by simp only [List.length_cons, List.length_nil]; omega)]
   have mem : (gD (r :: L) i).2 ∈ S := hq.mem_iff.2 (List.mem_map.2 ⟨_, hp.mem_iff.1 (gD_mem hi), rfl⟩)
   cases S with
   | nil => cases mem
   | cons x S' =>
    have hx : n ≤ x := by
     rcases List.mem_cons.1 mem with z | z
     ·omega
     ·have := (List.pairwise_cons.1 hS).1 _ z; omega
    show (if 0 = most then none else if n ≤ x then some (0 + 1) else _) = _
    rw [if_neg (by omega), if_pos hx]; rfl
 ·have lt : ∀ i, i < L.length → (gD L i).2 < n := fun i hi => by
   rcases Nat.lt_or_ge (gD L i).2 n with z | z
   ·exact z
   ·exact absurd ⟨i, hi, z⟩ h
  refine ⟨L.map fun r => r.2, ?_, hp.map _, ?_⟩
  ·refine List.pairwise_iff_getElem.2 fun i j hi hj hij => ?_
   rw [List.length_map] at hi hj
   rw [List.getElem_map, List.getElem_map, ← gD_get hi, ← gD_get hj]
   have := hs i j hij hj
   have a := lt i hi
   have b := lt j hj
   unfold keyT at this
   rw [Nat.min_eq_left (by omega), Nat.min_eq_left (by omega), if_neg (by omega), if_neg (by omega)] at this
   omega
  ·have := gr_enough (L := L) (k := 0) hn (show 0 ≤ most by omega)
   rw [Nat.zero_add] at this
   exact this
theorem enoughL_sum : ∀ {L : List (Nat × Nat)} {n : Nat}, sumR (enoughL L n) ≤ n := by
 intro L
 induction L with
 | nil => intro n; exact Nat.zero_le _
 | cons r L ih =>
  intro n
  rw [enoughL_cons]
  split
  ·exact Nat.zero_le _
  ·rw [sumR_cons]; have := ih (n := n - min r.2 n); dsimp only; omega
theorem enoughL_form : ∀ {L : List (Nat × Nat)} {n : Nat}, (∀ r ∈ L, 1 ≤ r.2) → enoughL L n = [] ∨ ∃ A q B m, L = A ++ q :: B ∧ enoughL L n = A ++ [(q.1, m)] ∧ 1 ≤ m ∧ m ≤ q.2 := by
 intro L
 induction L with
 | nil => intro n _; exact .inl rfl
 | cons r L ih =>
  intro n h
  have h1 := h r (List.mem_cons_self ..)
  rw [enoughL_cons]
  by_cases n0 : n = 0
  ·rw [if_pos n0]; exact .inl rfl
  ·rw [if_neg n0]
   right
   by_cases h2 : n ≤ r.2
   ·rw [Nat.min_eq_right h2, Nat.sub_self, enoughL_zero]
    exact ⟨[], r, L, n, rfl, rfl, by omega, h2⟩
   ·rw [Nat.min_eq_left (by omega)]
    rcases ih (n := n - r.2) fun q hq => h q (List.mem_cons_of_mem _ hq) with e | ⟨A, q, B, m, e1, e2, e3, e4⟩
    ·rw [e]; exact ⟨[], r, L, r.2, rfl, rfl, h1, Nat.le_refl _⟩
    ·rw [e2, e1]; exact ⟨r :: A, q, B, m, rfl, rfl, e3, e4⟩
theorem enoughL_dj : ∀ {L : List (Nat × Nat)} {n : Nat}, (∀ r ∈ L, 1 ≤ r.2) → djL L → djL (enoughL L n) := by
 intro L
 induction L with
 | nil => intro n _ _; exact List.Pairwise.nil
 | cons r L ih =>
  intro n h d
  have q := List.pairwise_cons.1 d
  rw [enoughL_cons]
  split
  ·exact List.Pairwise.nil
  ·refine List.pairwise_cons.2 ⟨fun x hx => ?_, ih (fun q hq => h q (List.mem_cons_of_mem _ hq)) q.2⟩
   obtain ⟨y, hy, e1, e2, e3⟩ := enoughL_mem (fun q hq => h q (List.mem_cons_of_mem _ hq)) x hx
   have := q.1 y hy
   unfold dj at this ⊢
   dsimp only
   omega
theorem rise_dj {l : List (Nat × Nat)} (h : Rise l) : djL l := h.imp fun hr => .inl (Nat.le_of_lt hr)
theorem rows_djL {f : Nat → Bool} {a e : Nat} {L : List (Nat × Nat)} (hp : L.Perm (rowsF f a e)) : djL L := (List.Perm.pairwise_iff (fun h => dj_symm h) hp).2 (rise_dj rowsF_rise)
theorem enough_noTouch {f : Nat → Bool} {a e n : Nat} {L : List (Nat × Nat)} (ae : a ≤ e) (hp : L.Perm (rowsF f a e)) : noTouch (enoughL L n) := by
 have row : ∀ r ∈ L, IsRow f a e r := fun r hr => rowsF_row1 ae r (hp.mem_iff.1 hr)
 rcases enoughL_form (L := L) (n := n) fun r hr => (row r hr).ln with h | ⟨A, q, B, m, e1, e2, e3, e4⟩
 ·rw [h]; intro i hi; exact absurd hi (Nat.not_lt_zero _)
 ·rw [e2]
  intro i hi
  rw [List.length_append, List.length_singleton] at hi
  have st : ∀ j, j < (A ++ [(q.1, m)]).length → ∃ r ∈ L, (gD (A ++ [(q.1, m)]) j).1 = r.1 := fun j hj => by
   have := gD_mem hj
   rcases List.mem_append.1 this with z | z
   ·exact ⟨_, by rw [e1]; exact List.mem_append_left _ z, rfl⟩
   ·rw [List.mem_singleton] at z
    exact ⟨q, by rw [e1]; simp, by rw [z]⟩
  obtain ⟨r, hr, er⟩ := st (i + 1) (by rw [List.length_append, List.length_singleton]; omega)
  have gA : gD (A ++ [(q.1, m)]) i ∈ L := by
   have : gD (A ++ [(q.1, m)]) i = gD A i := by unfold gD; rw [List.getD_eq_getElem?_getD, List.getD_eq_getElem?_getD, List.getElem?_append_left (by omega)]
   rw [this, e1]
   exact List.mem_append_left _ (gD_mem (by omega))
  have h1 := row _ gA
  have h2 := row _ hr
  have h3 := h2.fr r.1 (Nat.le_refl _) (by have := h2.ln; omega)
  have h4 := h2.hi
  have h5 := h2.ln
  rw [er]
  intro z
  rcases h1.en with w | w
  ·omega
  ·rw [z, h3] at w; cases w
set_option linter.unusedSimpArgs false
theorem pigeon : ∀ {l m : List Nat}, l.Nodup → (∀ x ∈ l, x ∈ m) → l.length ≤ m.length := by
 intro l
 induction l with
 | nil => intro m _ _; exact Nat.zero_le _
 | cons x l ih =>
  intro m h1 h2
  have q := List.nodup_cons.1 h1
  have hx := h2 x (List.mem_cons_self ..)
  have := ih (m := m.erase x) q.2 fun y hy => (List.mem_erase_of_ne (fun e => q.1 (by rw [← e]; exact hy))).2 (h2 y (List.mem_cons_of_mem _ hy))
  rw [List.length_erase_of_mem hx] at this
  have := List.length_pos_of_mem hx
  rw [List.length_cons]
  omega
abbrev sts (l : List (Nat × Nat)) : List Nat := l.map fun r => r.1
theorem sts_nodup {l : List (Nat × Nat)} (h1 : ∀ r ∈ l, 1 ≤ r.2) (d : djL l) : (sts l).Nodup := by
 refine List.pairwise_map.2 ?_
 have : l.Pairwise fun r q => dj r q ∧ 1 ≤ r.2 ∧ 1 ≤ q.2 := by
  refine List.pairwise_iff_getElem.2 fun i j hi hj hij => ⟨List.pairwise_iff_getElem.1 d i j hi hj hij, h1 _ (List.getElem_mem _), h1 _ (List.getElem_mem _)⟩
 exact this.imp fun ⟨a, b, c⟩ e => by unfold dj at a; omega
structure IsSt (f : Nat → Bool) (a e x : Nat) : Prop where
 lo : a ≤ x
 hi : x < e
 fr : f x = false
 pr : x = a ∨ f (x - 1) = true
theorem sts_mem {f : Nat → Bool} {a e x : Nat} (ae : a ≤ e) : x ∈ sts (rowsF f a e) ↔ IsSt f a e x := by
 constructor
 ·intro h
  obtain ⟨r, hr, rfl⟩ := List.mem_map.1 h
  have q := rowsF_row1 ae r hr
  have := q.ln
  have := q.hi
  exact ⟨q.lo, by omega, q.fr _ (Nat.le_refl _) (by omega), q.st⟩
 ·intro h
  obtain ⟨r, hr, h1, h2⟩ := rowsF_all ae h.lo h.hi h.fr
  have q := rowsF_row1 ae r hr
  refine List.mem_map.2 ⟨r, hr, ?_⟩
  rcases h.pr with z | z
  ·have := q.lo; omega
  ·have := q.fr (x - 1)
   rcases Nat.lt_or_ge r.1 x with w | w
   ·rw [this (by omega) (by omega)] at z; cases z
   ·omega
theorem rows_nodup {f : Nat → Bool} {a e : Nat} (ae : a ≤ e) : (sts (rowsF f a e)).Nodup := sts_nodup (fun r hr => (rowsF_row1 ae r hr).ln) (rise_dj rowsF_rise)
theorem sts_len (l : List (Nat × Nat)) : (sts l).length = l.length := List.length_map _
theorem rows_take {f f' : Nat → Bool} {a e n : Nat} {L : List (Nat × Nat)} (ae : a ≤ e) (hp : L.Perm (rowsF f a e)) (hin : ∀ x, inR (enoughL L n) x → f' x = true) (hout : ∀ x, ¬ inR (enoughL L n) x → f' x = f x) : (rowsF f' a e).length + (enoughL L n).length ≤ (rowsF f a e).length + 1 := by
 have row : ∀ r ∈ L, IsRow f a e r := fun r hr => rowsF_row1 ae r (hp.mem_iff.1 hr)
 have ln1 : ∀ r ∈ L, 1 ≤ r.2 := fun r hr => (row r hr).ln
 have em := enoughL_mem (n := n) ln1
 obtain ⟨cut, hc⟩ : ∃ cut, ∀ r ∈ enoughL L n, r ∈ L ∨ r.1 + r.2 = cut := by
  rcases enoughL_form (n := n) ln1 with h | ⟨A, q, B, m, e1, e2, e3, e4⟩
  ·rw [h]; exact ⟨0, fun r hr => by cases hr⟩
  ·refine ⟨q.1 + m, fun r hr => ?_⟩
   rw [e2] at hr
   rcases List.mem_append.1 hr with z | z
   ·left; rw [e1]; exact List.mem_append_left _ z
   ·right; rw [List.mem_singleton] at z; rw [z]
 have od : djL (enoughL L n) := enoughL_dj ln1 (rows_djL hp)
 have ol : ∀ r ∈ enoughL L n, 1 ≤ r.2 := fun r hr => by obtain ⟨q, _, _, h, _⟩ := em r hr; exact h
 have nd : (sts (rowsF f' a e) ++ sts (enoughL L n)).Nodup := by
  refine List.nodup_append.2 ⟨rows_nodup ae, sts_nodup ol od, fun x hx y hy e => ?_⟩
  subst e
  have h1 := ((sts_mem ae).1 hx).fr
  obtain ⟨r, hr, rfl⟩ := List.mem_map.1 hy
  rw [hin r.1 ⟨r, hr, Nat.le_refl _, by have := ol r hr; omega⟩] at h1
  cases h1
 have sub : ∀ x ∈ sts (rowsF f' a e) ++ sts (enoughL L n), x ∈ cut :: sts (rowsF f a e) := fun x hx => by
  rcases List.mem_append.1 hx with hx | hx
  ·have s := (sts_mem ae).1 hx
   have fx : f x = false := by
    have := s.fr
    by_cases q : inR (enoughL L n) x
    ·rw [hin x q] at this; cases this
    ·rw [hout x q] at this; exact this
   rcases s.pr with z | z
   ·exact List.mem_cons_of_mem _ ((sts_mem ae).2 ⟨s.lo, s.hi, fx, .inl z⟩)
   ·by_cases q : inR (enoughL L n) (x - 1)
    ·obtain ⟨r, hr, h1, h2⟩ := q
     have nx : ¬ inR (enoughL L n) x := fun w => by have := s.fr; rw [hin x w] at this; cases this
     have ex : x = r.1 + r.2 ∨ x = a := by
      by_cases w : x - 1 + 1 = x
      ·left
       rcases Nat.lt_or_ge x (r.1 + r.2) with w2 | w2
       ·exact absurd ⟨r, hr, by omega, w2⟩ nx
       ·omega
      ·right; have := s.lo; omega
     rcases ex with ex | ex
     ·rcases hc r hr with w | w
      ·have := (row r w).en
       rcases this with v | v
       ·have := s.hi; omega
       ·rw [← ex, fx] at v; cases v
      ·rw [ex, w]; exact List.mem_cons_self ..
     ·exact List.mem_cons_of_mem _ ((sts_mem ae).2 ⟨s.lo, s.hi, fx, .inl ex⟩)
    ·rw [hout _ q] at z
     exact List.mem_cons_of_mem _ ((sts_mem ae).2 ⟨s.lo, s.hi, fx, .inr z⟩)
  ·obtain ⟨r, hr, rfl⟩ := List.mem_map.1 hx
   obtain ⟨q, hq, e1, _, _⟩ := em r hr
   refine List.mem_cons_of_mem _ (List.mem_map.2 ⟨q, hp.mem_iff.1 hq, e1.symm⟩)
 have := pigeon nd sub
 rw [List.length_append, List.length_cons, sts_len, sts_len, sts_len] at this
 omega
theorem rows_give {f f' : Nat → Bool} {a e : Nat} {u : List (Nat × Nat)} (ae : a ≤ e) (lo : ∀ r ∈ u, a ≤ r.1) (hin : ∀ x, inR u x → f' x = false) (hout : ∀ x, ¬ inR u x → f' x = f x) : (rowsF f' a e).length ≤ (rowsF f a e).length + u.length := by
 have sub : ∀ x ∈ sts (rowsF f' a e), x ∈ sts (rowsF f a e) ++ sts u := fun x hx => by
  have s := (sts_mem ae).1 hx
  by_cases q : inR u x
  ·obtain ⟨r, hr, h1, h2⟩ := q
   have : x = r.1 := by
    rcases Nat.lt_or_ge r.1 x with w | w
    ·have z := hin (x - 1) ⟨r, hr, by omega, by omega⟩
     rcases s.pr with v | v
     ·have := lo r hr; omega
     ·rw [z] at v; cases v
    ·omega
   exact List.mem_append_right _ (List.mem_map.2 ⟨r, hr, this.symm⟩)
  ·have fx : f x = false := by rw [← hout x q]; exact s.fr
   refine List.mem_append_left _ ((sts_mem ae).2 ⟨s.lo, s.hi, fx, ?_⟩)
   rcases s.pr with z | z
   ·exact .inl z
   ·by_cases w : inR u (x - 1)
    ·rw [hin _ w] at z; cases z
    ·rw [hout _ w] at z; exact .inr z
 have := pigeon (rows_nodup ae) sub
 rw [List.length_append, sts_len, sts_len, sts_len] at this
 exact this
theorem rows_flat {f : Nat → Bool} {a e : Nat} {l : List (Nat × Nat)} (ae : a ≤ e) (hin : ∀ x, inR l x → f x = true) (cov : ∀ x, a ≤ x → x < e → f x = true → inR l x) : (rowsF f a e).length ≤ l.length + 1 := by
 have sub : ∀ x ∈ sts (rowsF f a e), x ∈ a :: l.map fun r => r.1 + r.2 := fun x hx => by
  have s := (sts_mem ae).1 hx
  rcases s.pr with z | z
  ·rw [z]; exact List.mem_cons_self ..
  ·by_cases w : x = a
   ·rw [w]; exact List.mem_cons_self ..
   ·have lo := s.lo
    have hi := s.hi
    obtain ⟨r, hr, h1, h2⟩ := cov (x - 1) (by omega) (by omega) z
    refine List.mem_cons_of_mem _ (List.mem_map.2 ⟨r, hr, ?_⟩)
    rcases Nat.lt_or_ge x (r.1 + r.2) with v | v
    ·have := hin x ⟨r, hr, by omega, v⟩
     rw [s.fr] at this; cases this
    ·omega
 have := pigeon (rows_nodup ae) sub
 rw [List.length_cons, sts_len, List.length_map] at this
 exact this
structure Inv (g : Geo) (W : List Nat) (T : List (List (Nat × Nat))) (t ga : Nat) : Prop where
 len : W.length = (g.b + 63) / 64
 sm : Small W
 out : ∀ x, ¬ (g.dataAt ≤ x ∧ x < g.dataAt + g.dataN) → hasBit W x = decide (x < g.b)
 runs : ∀ r ∈ T.flatten, 1 ≤ r.2 ∧ g.dataAt ≤ r.1 ∧ r.1 + r.2 ≤ g.dataAt + g.dataN ∧ ∀ y, r.1 ≤ y → y < r.1 + r.2 → hasBit W y = true
 ap : djL T.flatten
 cov : ∀ x, g.dataAt ≤ x → x < g.dataAt + g.dataN → hasBit W x = true → inR T.flatten x
 c1 : (rowsP g W).length + T.flatten.length ≤ 1 + t
 c2 : (rowsP g W).length + (T.map fun u => u.length - 1).sum ≤ 1 + ga
theorem Inv.few {g : Geo} {W : List Nat} {T : List (List (Nat × Nat))} {t ga : Nat} (I : Inv g W T t ga) (h : t + ga ≤ 29) : (rowsP g W).length ≤ 10 := by
 have := rows_flat (f := hasBit W) (Nat.le_add_right g.dataAt g.dataN) (l := T.flatten) (fun x hx => by
  obtain ⟨r, hr, h1, h2⟩ := hx
  exact (I.runs r hr).2.2.2 x h1 h2) I.cov
 have a := I.c1
 have b := I.c2
 have e : (rowsP g W).length = (rowsF (hasBit W) g.dataAt (g.dataAt + g.dataN)).length := rfl
 omega
theorem Inv.init {g : Geo} (x : g.Ok) : Inv g (bitsInit g g.b) [] 0 0 := by
 obtain ⟨x1, x2, x3, x4, x5⟩ := x.dt
 have hb : ∀ k, hasBit (bitsInit g g.b) k = decide (k < g.b ∧ (k < g.dataAt ∨ g.dataAt + g.dataN ≤ k)) := fun k => by
  rw [hb_test, bitsInit_bit (Nat.le_refl _), bitsInit_len2]
  by_cases q : k / 64 < (g.b + 63) / 64
  ·rw [decide_eq_true q, Bool.true_and]
  ·rw [decide_eq_false q, Bool.false_and]
   symm
   rw [decide_eq_false_iff_not]
   omega
 have r1 := rows_flat (f := hasBit (bitsInit g g.b)) (Nat.le_add_right g.dataAt g.dataN) (l := []) (fun x hx => hx.elim fun _ q => (List.not_mem_nil q.1).elim) (fun y h1 h2 h3 => by
  rw [hb, decide_eq_true_iff] at h3; omega)
 refine ⟨bitsInit_len2 g g.b, bitsInit_small, fun y hy => ?_, fun r hr => (List.not_mem_nil hr).elim, List.Pairwise.nil, fun y h1 h2 h3 => ?_, ?_, ?_⟩
 ·rw [hb, decide_eq_decide]; omega
 ·rw [hb, decide_eq_true_iff] at h3; omega
 ·exact r1
 ·exact r1
set_option linter.unusedSimpArgs false
theorem Inv.room {g : Geo} (x : g.Ok) {W : List Nat} (h : W.length = (g.b + 63) / 64) : g.dataAt + g.dataN ≤ 64 * W.length := by
 obtain ⟨x1, x2, x3, x4, x5⟩ := x.dt
 omega
theorem Inv.take {g : Geo} {W : List Nat} {T : List (List (Nat × Nat))} {t ga n : Nat} {L : List (Nat × Nat)} (x : g.Ok) (I : Inv g W T t ga) (hp : L.Perm (rowsP g W)) : Inv g (setRuns W true (enoughL L n)) (T ++ [enoughL L n]) (t + 1) ga := by
 have row : ∀ r ∈ L, IsRow (hasBit W) g.dataAt (g.dataAt + g.dataN) r := fun r hr => rowsF_row1 (Nat.le_add_right _ _) r (hp.mem_iff.1 hr)
 have ln1 : ∀ r ∈ L, 1 ≤ r.2 := fun r hr => (row r hr).ln
 have em := enoughL_mem (n := n) ln1
 have ob : ∀ r ∈ enoughL L n, 1 ≤ r.2 ∧ g.dataAt ≤ r.1 ∧ r.1 + r.2 ≤ g.dataAt + g.dataN ∧ ∀ y, r.1 ≤ y → y < r.1 + r.2 → hasBit W y = false := fun r hr => by
  obtain ⟨q, hq, e1, e2, e3⟩ := em r hr
  have h := row q hq
  have h1 := h.lo
  have h2 := h.hi
  exact ⟨e2, by omega, by omega, fun y h3 h4 => h.fr y (by omega) (by omega)⟩
 have rm := Inv.room x I.len
 have hbr := hb_runs (B := W) (yes := true) (l := enoughL L n) fun r hr => by have := (ob r hr).2.2.1; omega
 have dO : djL (enoughL L n) := enoughL_dj ln1 (rows_djL hp)
 have fl : (T ++ [enoughL L n]).flatten = T.flatten ++ enoughL L n := by rw [List.flatten_append]; simp
 have rt := rows_take (f := hasBit W) (f' := hasBit (setRuns W true (enoughL L n))) (n := n) (Nat.le_add_right g.dataAt g.dataN) hp (fun y hy => (hbr y).1 hy) (fun y hy => (hbr y).2 hy)
 have eq1 : (rowsP g (setRuns W true (enoughL L n))).length = (rowsF (hasBit (setRuns W true (enoughL L n))) g.dataAt (g.dataAt + g.dataN)).length := rfl
 have eq2 : (rowsP g W).length = (rowsF (hasBit W) g.dataAt (g.dataAt + g.dataN)).length := rfl
 have c1 := I.c1
 have c2 := I.c2
 refine ⟨by rw [setRuns_len]; exact I.len, setRuns_small _ _ I.sm, fun y hy => ?_, fun r hr => ?_, ?_, fun y h1 h2 h3 => ?_, ?_, ?_⟩
 ·rw [(hbr y).2 fun ⟨r, hr, h1, h2⟩ => hy (by have := ob r hr; omega)]
  exact I.out y hy
 ·rw [fl] at hr
  rcases List.mem_append.1 hr with hr | hr
  ·have h := I.runs r hr
   refine ⟨h.1, h.2.1, h.2.2.1, fun y h1 h2 => ?_⟩
   by_cases q : inR (enoughL L n) y
   ·exact (hbr y).1 q
   ·rw [(hbr y).2 q]; exact h.2.2.2 y h1 h2
  ·have h := ob r hr
   exact ⟨h.1, h.2.1, h.2.2.1, fun y h1 h2 => (hbr y).1 ⟨r, hr, h1, h2⟩⟩
 ·rw [fl]
  refine List.pairwise_append.2 ⟨I.ap, dO, fun r hr q hq => ?_⟩
  have h1 := I.runs r hr
  have h2 := ob q hq
  unfold dj
  refine Classical.byContradiction fun z => ?_
  have z1 : r.1 < q.1 + q.2 ∧ q.1 < r.1 + r.2 := by omega
  have w1 := h1.2.2.2 (max r.1 q.1) (by omega) (by omega)
  have w2 := h2.2.2.2 (max r.1 q.1) (by omega) (by omega)
  rw [w1] at w2; cases w2
 ·rw [fl]
  by_cases q : inR (enoughL L n) y
  ·obtain ⟨r, hr, h⟩ := q
   exact ⟨r, List.mem_append_right _ hr, h⟩
  ·rw [(hbr y).2 q] at h3
   obtain ⟨r, hr, h⟩ := I.cov y h1 h2 h3
   exact ⟨r, List.mem_append_left _ hr, h⟩
 ·rw [fl, List.length_append]; omega
 ·rw [List.map_append, List.sum_append]
  have e : (List.map (fun u : List (Nat × Nat) => u.length - 1) [enoughL L n]).sum = (enoughL L n).length - 1 := by simp
  rw [e]
  by_cases q : enoughL L n = []
  ·rw [q]
   show (rowsP g W).length + _ ≤ _
   show (rowsP g W).length + (_ + 0) ≤ _
   omega
  ·have := List.length_pos_iff.2 q
   omega
theorem set_free {W : List Nat} {out : List (Nat × Nat)} {k q : Nat} (d : djL out) (h : ∀ r ∈ out, r.1 + r.2 ≤ 64 * W.length ∧ ∀ y, r.1 ≤ y → y < r.1 + r.2 → hasBit W y = false) (hk : k < out.length) (hq : q < out[k].2) : hasBit (setRun (setRuns W true (out.take k)) true out[k].1 q) (out[k].1 + q) = false := by
 have hr := h _ (List.getElem_mem hk)
 rw [hb_run (by rw [setRuns_len]; omega), if_neg (by omega)]
 have nin : ¬ inR (out.take k) (out[k].1 + q) := fun ⟨r, hm, h1, h2⟩ => by
  obtain ⟨i, hi, e⟩ := List.getElem_of_mem hm
  rw [List.length_take] at hi
  rw [List.getElem_take] at e
  have := List.pairwise_iff_getElem.1 d i k (by omega) hk (by omega)
  rw [e] at this
  unfold dj at this
  omega
 rw [(hb_runs (fun r hr => (h r (List.mem_of_mem_take hr)).1) _).2 nin]
 exact hr.2 _ (by omega) (by omega)
theorem split_set {T : List (List (Nat × Nat))} {i : Nat} {u : List (Nat × Nat)} (h : T[i]? = some u) : ∃ A B, T = A ++ u :: B ∧ T.set i [] = A ++ [] :: B := by
 obtain ⟨hl, e⟩ := List.getElem?_eq_some_iff.1 h
 have tl : (T.take i).length = i := by rw [List.length_take]; omega
 have s : T = T.take i ++ u :: T.drop (i + 1) := by rw [← e, ← List.drop_eq_getElem_cons hl, List.take_append_drop]
 refine ⟨T.take i, T.drop (i + 1), s, ?_⟩
 conv => lhs; rw [s]
 rw [List.set_append_right _ _ (by omega), tl, Nat.sub_self]; rfl
theorem Inv.give {g : Geo} {W : List Nat} {T : List (List (Nat × Nat))} {t ga i : Nat} {u : List (Nat × Nat)} (x : g.Ok) (I : Inv g W T t ga) (hu : T[i]? = some u) : Inv g (setRuns W false u) (T.set i []) t (ga + 1) := by
 obtain ⟨A, B, e1, e2⟩ := split_set hu
 have fl : T.flatten = A.flatten ++ (u ++ B.flatten) := by rw [e1, List.flatten_append, List.flatten_cons]
 have fl2 : (T.set i []).flatten = A.flatten ++ B.flatten := by rw [e2, List.flatten_append, List.flatten_cons, List.nil_append]
 have mu : ∀ r ∈ u, r ∈ T.flatten := fun r hr => by rw [fl]; exact List.mem_append_right _ (List.mem_append_left _ hr)
 have ms : ∀ r ∈ (T.set i []).flatten, r ∈ T.flatten := fun r hr => by
  rw [fl2] at hr
  rw [fl]
  rcases List.mem_append.1 hr with h | h
  ·exact List.mem_append_left _ h
  ·exact List.mem_append_right _ (List.mem_append_right _ h)
 have dd := I.ap
 rw [show djL T.flatten = djL (A.flatten ++ (u ++ B.flatten)) by rw [fl]] at dd
 have d1 := List.pairwise_append.1 dd
 have d2 := List.pairwise_append.1 d1.2.1
 have du : ∀ r ∈ (T.set i []).flatten, ∀ q ∈ u, dj r q := fun r hr q hq => by
  rw [fl2] at hr
  rcases List.mem_append.1 hr with h | h
  ·exact d1.2.2 r h q (List.mem_append_left _ hq)
  ·exact dj_symm (d2.2.2 q hq r h)
 have rm := Inv.room x I.len
 have hbr := hb_runs (B := W) (yes := false) (l := u) fun r hr => by have := (I.runs r (mu r hr)).2.2.1; omega
 have rg := rows_give (f := hasBit W) (f' := hasBit (setRuns W false u)) (u := u) (Nat.le_add_right g.dataAt g.dataN) (fun r hr => (I.runs r (mu r hr)).2.1) (fun y hy => (hbr y).1 hy) (fun y hy => (hbr y).2 hy)
 have eq1 : (rowsP g (setRuns W false u)).length = (rowsF (hasBit (setRuns W false u)) g.dataAt (g.dataAt + g.dataN)).length := rfl
 have eq2 : (rowsP g W).length = (rowsF (hasBit W) g.dataAt (g.dataAt + g.dataN)).length := rfl
 have c1 := I.c1
 have c2 := I.c2
 refine ⟨by rw [setRuns_len]; exact I.len, setRuns_small _ _ I.sm, fun y hy => ?_, fun r hr => ?_, ?_, fun y h1 h2 h3 => ?_, ?_, ?_⟩
 ·rw [(hbr y).2 fun ⟨r, hr, h1, h2⟩ => hy (by have := I.runs r (mu r hr); omega)]
  exact I.out y hy
 ·have h := I.runs r (ms r hr)
  refine ⟨h.1, h.2.1, h.2.2.1, fun y h1 h2 => ?_⟩
  rw [(hbr y).2 fun ⟨q, hq, h3, h4⟩ => by have := du r hr q hq; unfold dj at this; omega]
  exact h.2.2.2 y h1 h2
 ·rw [fl2]
  exact List.pairwise_append.2 ⟨d1.1, d2.2.1, fun r hr q hq => d1.2.2 r hr q (List.mem_append_right _ hq)⟩
 ·have nq : ¬ inR u y := fun q => by rw [(hbr y).1 q] at h3; cases h3
  rw [(hbr y).2 nq] at h3
  obtain ⟨r, hr, h⟩ := I.cov y h1 h2 h3
  rw [fl] at hr
  rw [fl2]
  rcases List.mem_append.1 hr with z | z
  ·exact ⟨r, List.mem_append_left _ z, h⟩
  ·rcases List.mem_append.1 z with z | z
   ·exact absurd ⟨r, z, h⟩ nq
   ·exact ⟨r, List.mem_append_right _ z, h⟩
 ·rw [fl2, List.length_append]
  rw [fl, List.length_append, List.length_append] at c1
  omega
 ·rw [e2, List.map_append, List.map_cons, List.sum_append, List.sum_cons]
  rw [e1, List.map_append, List.map_cons, List.sum_append, List.sum_cons] at c2
  have : ([] : List (Nat × Nat)).length - 1 = 0 := rfl
  omega
theorem Inv.giveOk {g : Geo} {W : List Nat} {T : List (List (Nat × Nat))} {t ga i : Nat} {u : List (Nat × Nat)} (x : g.Ok) (I : Inv g W T t ga) (hu : T[i]? = some u) : GiveOk g W (iR u) ∧ (∀ r ∈ u, 1 ≤ r.2) ∧ Cnt u := by
 obtain ⟨A, B, e1, e2⟩ := split_set hu
 have fl : T.flatten = A.flatten ++ (u ++ B.flatten) := by rw [e1, List.flatten_append, List.flatten_cons]
 have mu : ∀ r ∈ u, r ∈ T.flatten := fun r hr => by rw [fl]; exact List.mem_append_right _ (List.mem_append_left _ hr)
 have dd := I.ap
 rw [show djL T.flatten = djL (A.flatten ++ (u ++ B.flatten)) by rw [fl]] at dd
 have du : djL u := (List.pairwise_append.1 (List.pairwise_append.1 dd).2.1).1
 obtain ⟨x1, x2, x3, x4, x5⟩ := x.dt
 have cn : Cnt u := fun r hr => by
  have h := I.runs r (mu r hr)
  exact ⟨h.1, by omega, by omega⟩
 refine ⟨fun j hj r hr h1 => ?_, fun r hr => (I.runs r (mu r hr)).1, cn⟩
 rw [iR_len] at hj
 unfold iR at hr
 rw [List.getElem?_map, List.getElem?_eq_getElem hj] at hr
 injection hr with hr
 subst hr
 have h := I.runs _ (mu _ (List.getElem_mem hj))
 dsimp only
 refine ⟨by omega, by omega, ?_, fun y h2 h3 => h.2.2.2 y (by omega) (by omega)⟩
 rw [show (iR u).take (j + 1) = iR (u.take (j + 1)) from by unfold iR; rw [List.map_take], cR_iR fun r hr => cn r (List.mem_of_mem_take hr)]
 exact du.sublist (List.take_sublist _ _)
theorem Inv.count {g : Geo} {W : List Nat} {T : List (List (Nat × Nat))} {t ga : Nat} (x : g.Ok) (I : Inv g W T t ga) : cntF (hasBit W) (64 * W.length) + sumR (rowsP g W) = g.b := by
 obtain ⟨x1, x2, x3, x4, x5⟩ := x.dt
 have s := rowsF_sum (f := hasBit W) (Nat.le_add_right g.dataAt g.dataN)
 have a : ∀ n, n ≤ g.dataAt → cntF (hasBit W) n = n := fun n => by
  induction n with
  | zero => intro _; rfl
  | succ n ih =>
   intro h
   show cntF (hasBit W) n + (if hasBit W n then 1 else 0) = _
   rw [ih (by omega), I.out n (by omega), decide_eq_true (show n < g.b by omega), if_pos rfl]
 have b : cntF (hasBit W) g.b = cntF (hasBit W) (g.dataAt + g.dataN) + 1 := by
  rw [← x1]
  show cntF (hasBit W) _ + (if hasBit W (g.dataAt + g.dataN) then 1 else 0) = _
  rw [I.out _ (by omega), decide_eq_true (show g.dataAt + g.dataN < g.b by omega), if_pos rfl]
 have c : ∀ d, cntF (hasBit W) (g.b + d) = cntF (hasBit W) g.b := fun d => by
  induction d with
  | zero => rfl
  | succ d ih =>
   show cntF (hasBit W) (g.b + d) + (if hasBit W (g.b + d) then 1 else 0) = _
   rw [ih, I.out _ (by omega), decide_eq_false (show ¬ g.b + d < g.b by omega), if_neg (by decide)]
   rfl
 have d := c (64 * W.length - g.b)
 have ln := I.len
 rw [show g.b + (64 * W.length - g.b) = 64 * W.length by omega] at d
 have e := a g.dataAt (Nat.le_refl _)
 have f : sumR (rowsP g W) = sumR (rowsF (hasBit W) g.dataAt (g.dataAt + g.dataN)) := rfl
 omega
theorem cnt_bit {f f' : Nat → Bool} {x e : Nat} (hx : x < e) (h1 : f x = true) (h2 : ∀ y, f' y = if y = x then false else f y) : cntF f' e + 1 = cntF f e := by
 have lo : ∀ n, n ≤ x → cntF f' n = cntF f n := fun n => by
  induction n with
  | zero => intro _; rfl
  | succ n ih =>
   intro h
   show cntF f' n + (if f' n then 1 else 0) = cntF f n + (if f n then 1 else 0)
   have e : f' n = f n := by rw [h2 n, if_neg (by omega)]
   rw [ih (by omega), e]
 have hi : ∀ d, cntF f' (x + 1 + d) + 1 = cntF f (x + 1 + d) := fun d => by
  induction d with
  | zero =>
   show cntF f' x + (if f' x then 1 else 0) + 1 = cntF f x + (if f x then 1 else 0)
   rw [lo x (Nat.le_refl _), h2 x, if_pos rfl, h1, if_pos rfl, if_neg (by decide)]
  | succ d ih =>
   show cntF f' (x + 1 + d) + (if f' (x + 1 + d) then 1 else 0) + 1 = cntF f (x + 1 + d) + (if f (x + 1 + d) then 1 else 0)
   have e : f' (x + 1 + d) = f (x + 1 + d) := by rw [h2 (x + 1 + d), if_neg (by omega)]
   rw [e]
   omega
 have := hi (e - (x + 1))
 rwa [show x + 1 + (e - (x + 1)) = e by omega] at this
theorem cnt_run {B : List Nat} {r e : Nat} : ∀ {j : Nat}, r + j ≤ 64 * B.length → r + j ≤ e → (∀ y, r ≤ y → y < r + j → hasBit B y = true) → cntF (hasBit (setRun B false r j)) e + j = cntF (hasBit B) e := by
 intro j
 induction j with
 | zero => intro _ _ _; rfl
 | succ j ih =>
  intro h1 h2 h3
  have a := ih (by omega) (by omega) fun y h4 h5 => h3 y h4 (by omega)
  have b := cnt_bit (f := hasBit (setRun B false r j)) (f' := hasBit (setRun B false r (j + 1))) (x := r + j) (e := e) (by omega) (by
   rw [hb_run (by omega), if_neg (by omega)]; exact h3 _ (by omega) (by omega)) fun y => by
   rw [setRun_succ, hb_set (by rw [setRun_len]; omega)]
  omega
theorem cnt_runs {e : Nat} : ∀ {l : List (Nat × Nat)} {B : List Nat}, djL l → (∀ r ∈ l, r.1 + r.2 ≤ 64 * B.length ∧ r.1 + r.2 ≤ e ∧ ∀ y, r.1 ≤ y → y < r.1 + r.2 → hasBit B y = true) → cntF (hasBit (setRuns B false l)) e + sumR l = cntF (hasBit B) e := by
 intro l
 induction l with
 | nil => intro B _ _; rfl
 | cons r l ih =>
  intro B d h
  have q := List.pairwise_cons.1 d
  have h0 := h r (List.mem_cons_self ..)
  have a := cnt_run h0.1 h0.2.1 h0.2.2
  have b := ih (B := setRun B false r.1 r.2) q.2 fun x hx => by
   have h1 := h x (List.mem_cons_of_mem _ hx)
   refine ⟨by rw [setRun_len]; exact h1.1, h1.2.1, fun y h2 h3 => ?_⟩
   have h4 := q.1 x hx
   unfold dj at h4
   rw [hb_run h0.1, if_neg (by omega)]
   exact h1.2.2 y h2 h3
  rw [sumR_cons]
  show cntF (hasBit (setRuns (setRun B false r.1 r.2) false l)) e + _ = _
  omega
theorem Inv.giveFree {g : Geo} {W : List Nat} {T : List (List (Nat × Nat))} {t ga : Nat} {l : List (Int × Int)} (x : g.Ok) (I : Inv g W T t ga) (hg : GiveOk g W l) : sumR (rowsP g (setRuns W false (nR l))) = sumR (rowsP g W) + sumR (cR l) := by
 obtain ⟨x1, x2, x3, x4, x5⟩ := x.dt
 have rm := Inv.room x I.len
 have each : ∀ r ∈ l, 1 ≤ r.2 → (g.dataAt : Int) ≤ r.1 ∧ r.1 + r.2 ≤ (g.dataAt : Int) + g.dataN ∧ ∀ y : Nat, r.1 ≤ y → (y : Int) < r.1 + r.2 → hasBit W y = true := fun r hr h1 => by
  obtain ⟨i, hi, rfl⟩ := List.getElem_of_mem hr
  have := hg i hi _ (List.getElem?_eq_getElem hi) h1
  exact ⟨this.1, this.2.1, this.2.2.2⟩
 have cnA : ∀ l' : List (Int × Int), (∀ r ∈ l', r ∈ l) → cR l' = nR l' := fun l' => by
  induction l' with
  | nil => intro _; rfl
  | cons r l' ih =>
   intro h
   have ih := ih fun q hq => h q (List.mem_cons_of_mem _ hq)
   unfold cR nR at ih ⊢
   rw [List.filterMap_cons, List.filterMap_cons, ih]
   by_cases h1 : 1 ≤ r.2
   ·have := each r (h r (List.mem_cons_self ..)) h1
    rw [if_pos h1, if_pos (show ctP r from ⟨h1, by omega, by omega, by omega⟩)]
   ·rw [if_neg h1, if_neg fun q => h1 q.1]
 have cn : cR l = nR l := cnA l fun _ h => h
 have nm : ∀ r ∈ nR l, g.dataAt ≤ r.1 ∧ r.1 + r.2 ≤ g.dataAt + g.dataN ∧ ∀ y, r.1 ≤ y → y < r.1 + r.2 → hasBit W y = true := fun r hr => by
  unfold nR at hr
  obtain ⟨q, hq, e⟩ := List.mem_filterMap.1 hr
  split at e
  ·rename_i h1
   have h2 := each q hq h1
   injection e with e
   subst e
   dsimp only
   refine ⟨by omega, by omega, fun y h3 h4 => h2.2.2 y (by omega) (by omega)⟩
  ·cases e
 have dA : ∀ k, k ≤ l.length → djL (nR (l.take k)) := fun k => by
  induction k with
  | zero => intro _; exact List.Pairwise.nil
  | succ k ih =>
   intro hk
   by_cases hl : 1 ≤ (l[k]'(by omega)).2
   ·have := (hg k (by omega) _ (List.getElem?_eq_getElem (by omega)) hl).2.2.1
    rwa [cnA _ fun _ h => List.mem_of_mem_take h] at this
   ·rw [List.take_add_one, List.getElem?_eq_getElem (by omega), Option.toList_some, nR_snoc, if_neg hl, List.append_nil]
    exact ih (by omega)
 have dn : djL (nR l) := by have := dA l.length (Nat.le_refl _); rwa [List.take_length] at this
 have cr := cnt_runs (e := g.dataAt + g.dataN) dn fun r hr => by
  have := nm r hr
  exact ⟨by omega, this.2.1, this.2.2⟩
 have s1 := rowsF_sum (f := hasBit W) (Nat.le_add_right g.dataAt g.dataN)
 have s2 := rowsF_sum (f := hasBit (setRuns W false (nR l))) (Nat.le_add_right g.dataAt g.dataN)
 have hbr := hb_runs (B := W) (yes := false) (l := nR l) fun r hr => by have := (nm r hr).2.1; omega
 have lo : ∀ n, n ≤ g.dataAt → cntF (hasBit (setRuns W false (nR l))) n = cntF (hasBit W) n := fun n => by
  induction n with
  | zero => intro _; rfl
  | succ n ih =>
   intro h
   show cntF _ n + (if _ then 1 else 0) = cntF _ n + (if _ then 1 else 0)
   rw [ih (by omega), (hbr n).2 fun ⟨r, hr, h1, h2⟩ => by have := (nm r hr).1; omega]
 have e := lo g.dataAt (Nat.le_refl _)
 rw [cn]
 have f1 : sumR (rowsP g W) = sumR (rowsF (hasBit W) g.dataAt (g.dataAt + g.dataN)) := rfl
 have f2 : sumR (rowsP g (setRuns W false (nR l))) = sumR (rowsF (hasBit (setRuns W false (nR l))) g.dataAt (g.dataAt + g.dataN)) := rfl
 omega
set_option linter.unusedSimpArgs false
set_option maxRecDepth 4000
abbrev L38 := Value → Value → Value → Value → Value → Value → Value → Value → Value → Value → Value → Value → Value → Value → Value → Value → Value → Value → Value → Value → Value → Value → Value → Value → Value → Value → Value → Value → Value → Value → Value → Value → Value → Value → Value → Value → Value → Value → Hs → An
structure ActW where
 op : Int
 c : Int
 n : Int
 mo : Int
 v : Value
 l : List (Int × Int)
def actC (x : ActW) : List Value := [.int .i64 x.op, .int .i64 x.c, .int .i64 x.n, .int .i64 x.mo, x.v]
structure ActsAt (h : Hs) (v : Value) (L : List ActW) : Prop where
 rd : Rd h v 5 (L.map actC)
 op : ∀ x ∈ L, (∃ a c, x.v = .slice a x.l.length c) ∧ Rd h x.v 2 (Ril x.l) ∧ In64 x.c ∧ In64 x.n ∧ In64 x.mo ∧ ∀ r ∈ x.l, In64 r.1 ∧ In64 r.2
def TH (Z : List (Value × List (Nat × Nat))) : List Th := Z.map fun e => .rsl e.1 2 (Rl e.2)
theorem Sto.sub {h0 h : Hs} {S : List Nat} : ∀ {m m' : List Th}, m'.Sublist m → Sto h0 S h m → Sto h0 S h m' := by
 intro m m' s
 induction s with
 | slnil => exact id
 | cons t s ih => exact fun H => ih H.tail
 | cons_cons t s ih =>
  intro H
  refine (ih H.tail).cons t (H.ok _ (List.mem_cons_self ..)) (H.ids _ (List.mem_cons_self ..)) fun x hx he b hb => ?_
  obtain ⟨j, hj⟩ := List.getElem?_of_mem (s.subset hx)
  rcases he with he | he
  ·exact H.dj 0 (j + 1) _ _ rfl hj (by omega) he b hb
  ·exact fun e => H.dj (j + 1) 0 _ _ hj rfl (by omega) he b e hb
theorem Sto.drp {h0 h : Hs} {S : List Nat} {m : List Th} (k : Nat) (H : Sto h0 S h m) : Sto h0 S h (m.eraseIdx k) := Sto.sub (List.eraseIdx_sublist ..) H
theorem Sto.perm {h0 h : Hs} {S : List Nat} {m m' : List Th} (p : m.Perm m') : Sto h0 S h m → Sto h0 S h m' := by
 induction p with
 | nil => exact id
 | cons t p ih =>
  intro H
  refine (ih H.tail).cons t (H.ok _ (List.mem_cons_self ..)) (H.ids _ (List.mem_cons_self ..)) fun x hx he b hb => ?_
  obtain ⟨j, hj⟩ := List.getElem?_of_mem (p.mem_iff.2 hx)
  rcases he with he | he
  ·exact H.dj 0 (j + 1) _ _ rfl hj (by omega) he b hb
  ·exact fun e => H.dj (j + 1) 0 _ _ hj rfl (by omega) he b e hb
 | swap a b l =>
  intro H
  have ha : a ∈ b :: a :: l := List.mem_cons_of_mem _ (List.mem_cons_self ..)
  refine (Sto.sub (.cons_cons b (.cons a (.refl l))) H).cons a (H.ok _ ha) (H.ids _ ha) fun x hx he c hc => ?_
  obtain ⟨j, hj, j1⟩ : ∃ j, (b :: a :: l)[j]? = some x ∧ j ≠ 1 := by
   rcases List.mem_cons.1 hx with z | z
   ·exact ⟨0, by rw [z]; rfl, by decide⟩
   ·obtain ⟨j, hj⟩ := List.getElem?_of_mem z
    exact ⟨j + 2, hj, by omega⟩
  rcases he with he | he
  ·exact H.dj 1 j _ _ rfl hj (by omega) he c hc
  ·exact fun e => H.dj j 1 _ _ hj rfl j1 he c e hc
 | trans _ _ ih1 ih2 => exact fun H => ih2 (ih1 H)
theorem Sto.dup {h0 h : Hs} {S : List Nat} {m : List Th} {t : Th} (k : Nat) (H : Sto h0 S h m) (hk : m[k]? = some t) (he : t.ex = false) : Sto h0 S h (t :: m) := by
 have ht := List.mem_of_getElem? hk
 refine H.cons t (H.ok _ ht) (H.ids _ ht) fun x hx hq b hb => ?_
 obtain ⟨j, hj⟩ := List.getElem?_of_mem hx
 rcases hq with hq | hq
 ·rw [he] at hq; cases hq
 ·by_cases e : j = k
  ·subst e
   rw [hk] at hj
   injection hj with hj
   subst hj
   rw [he] at hq; cases hq
  ·exact fun z => H.dj j k _ _ hj hk e hq b z hb
theorem Sto.consN {h0 h : Hs} {m : List Th} {t : Th} {n : Nat} (H : Sto h0 [] h m) (hb : t.body h) (hn : ∀ b, t.id = some b → n ≤ b ∧ b < h.nx) (h0n : h0.nx ≤ n) (ho : ∀ s ∈ m, ∀ b, s.id = some b → b < n) : Sto h0 [] h (t :: m) :=
 H.cons t hb (fun b e => ⟨(hn b e).2, fun _ => .inl (Nat.le_trans h0n (hn b e).1)⟩) fun s hs _ b e z => by
  have := (hn b e).1
  have := ho s hs b z
  omega
theorem Sto.plq {h0 h h' : Hs} {m : List Th} {g : Geo} {p : Nat} {v v' : Value} {W W' : List Nat} (k j : Nat) (H : Sto h0 [] h m) (hk : m[k]? = some (.blk p (plO g v))) (hj : m[j]? = some (.rsl v 1 (Wl W))) (hkj : k ≠ j) (q : PlQ h h' g p v W v' W') : Sto h0 [] h' (.rsl v' 1 (Wl W') :: m.set k (.blk p (plO g v'))) ∧ ∀ s ∈ m, ∀ b, s.id = some b → b < h.nx := by
 obtain ⟨mu, A, hv⟩ := q
 have H1 := H.mut k hk mu A.row
 have lt : ∀ s ∈ m, ∀ b, s.id = some b → b < h.nx := fun s hs b e => (H.ids s hs b e).1
 refine ⟨?_, lt⟩
 rcases hv with ⟨rfl, rfl⟩ | hv
 ·exact Sto.dup j H1 (by rw [List.getElem?_set_ne hkj]; exact hj) rfl
 ·refine Sto.consN (n := h.nx) H1 A.rd.1 (fun b e => ⟨hv b e, A.rd.2 b e⟩) H.nx fun s hs b e => ?_
  rcases List.mem_or_eq_of_mem_set hs with z | z
  ·exact lt s z b e
  ·subst z
   injection e with e
   subst e
   exact lt _ (List.mem_of_getElem? hk) p rfl
theorem Sto.setE {h0 h : Hs} {S : List Nat} {m : List Th} (k : Nat) {t : Th} (H : Sto h0 S h m) (hk : m[k]? = some t) : Sto h0 S h (m.set k (.rsl (.slice none 0 0) 2 [])) := by
 refine ⟨H.nx, H.fr, H.lo, fun s hs => ?_, fun s hs b e => ?_, H.chg, fun i j s t' hi hj hij he b e => ?_⟩
 ·rcases List.mem_or_eq_of_mem_set hs with z | z
  ·exact H.ok s z
  ·subst z; exact (Rd.none h 2).1
 ·rcases List.mem_or_eq_of_mem_set hs with z | z
  ·exact H.ids s z b e
  ·subst z; cases e
 ·rw [List.getElem?_set] at hi hj
  split at hi
  ·split at hi
   ·injection hi with hi; subst hi; cases he
   ·cases hi
  ·split at hj
   ·split at hj
    ·injection hj with hj; subst hj; exact fun z => by cases z
    ·cases hj
   ·exact H.dj i j s t' hi hj hij he b e
theorem Sto.nilF {h0 h : Hs} {S : List Nat} {m : List Th} (H : Sto h0 S h m) (t u : Nat) : Sto h0 S h (.osl (.slice none 0 0) t u false 0 [] :: m) :=
 H.cons _ ⟨by rw [Nat.zero_mul]; rfl, .inl ⟨rfl, rfl⟩⟩ (fun b e => by cases e) fun s _ _ b e => by cases e
abbrev yesQ (h : Hs) : Value → Hs → Prop := fun v h' => v = .bool true ∧ h' = h
def PlS (g : Geo) (p B gb : Nat) (v bs told : Value) (W : List Nat) (Z : List (Value × List (Nat × Nat))) : List Th := .osl told 38 1 false Z.length (Z.map (·.1)) :: .blk p (plO g v) :: .rsl v 1 (Wl W) :: .blk B (.row 33 0 true false [bs]) :: .rsl bs 1 (Wl W) :: .blk gb (.row 23 0 true false [kI g.b, kI g.n, kI g.c, kI g.k]) :: TH Z
set_option maxHeartbeats 4000000 in
theorem plays_ok {R : RnK} {N : Nat} (cg : CGood R) (cd : CDataF R) (ce : CEmpty R) (cn : CNewP R) (ctn : CTakeNo R) (ct : CTake R) (cgi : CGive R) (cl : CLongest R) (ch : CHas R) (cs : CBitsSet R) (cf : CFreeP R) (cb : CBitsP R) (cc : CCount R) (cow : COwn R) (cto : CTotalR R) (cme : CMergeR R) (cal : CAlike R) (cap : CApartR R)
 (hN : 1000000 ≤ N) {h : Hs} {g : Geo} {a : Value} {L : List ActW} (ra : ActsAt h a L) (aw : ∀ u, WP (R 4 [] u) fun v u' => v = .bool true ∧ Same u u') : WP (r3 R N [g.v, a] h) (yesQ h) := by
 have cgg := cg g
 have cdg := cd g
 have ceg := ce g
 have cng := cn g
 unfold Geo.v at cgg cdg ceg cng
 unfold r3 Geo.v
 have ll : (L.map actC).length = L.length := List.length_map _
 obtain ⟨a1, c1, rfl⟩ := ra.rd.1.formN ll
 have H := Sto.enter h
 refine w_unC ?_
 refine w_unC ?_
 refine w_enK ?_
 refine w_boxA H fun u1 H1 hu1 => ?_
 clear H
 have H := H1
 clear H1
 refine w_call (aw u1) fun v0 u0 q0 => ?_
 obtain ⟨rfl, sa⟩ := q0
 have H0 := H.same sa
 clear H
 have H := H0.unfl 0 rfl
 clear H0
 dsimp only [List.set_cons_zero] at H
 repeat' (first | ((refine w_callB (cgg _) (fun _ => ?_) (fun _ => ?_)) <;> first | (exfalso; omega) | skip) | (with_reducible first | refine w_jn ?_ | refine w_cndT ?_ | refine w_cndF ?_ | refine w_gFt ?_ | refine w_gFf ?_ | refine w_pickT ?_ | refine w_pickF ?_ | refine w_notT ?_ | refine w_notF ?_ | refine w_fieldA ?_ | refine w_lenV ?_) | ((with_reducible refine w_gtr_NN (fun _ => ?_) (fun _ => ?_)) <;> first | (exfalso; omega) | skip) | ((with_reducible apply w_load 0 H) ; rfl; rfl; rfl) | ((with_reducible apply w_loadsF 0 H) ; rfl; rfl; rfl))
 all_goals first
  | exact w_clr H rfl ⟨rfl, rfl⟩
  | skip
 have x : g.Ok := by assumption
 have xb : g.b ≤ 200 := by omega
 have xl : L.length ≤ 30 := by omega
 obtain ⟨x1, x2, x3, x4, x5⟩ := x.dt
 refine w_call (ceg _ x) fun v2 u2 n2 => ?_
 obtain ⟨s2, rfl, n2⟩ := n2
 refine w_light n2 fun u3 n3 => ?_
 clear n2
 replace H := H.call n3
 skip
 have bl : (bitsInit g g.b).length = (g.b + 63) / 64 := bitsInit_len2 g g.b
 have bsm : Small (bitsInit g g.b) := bitsInit_small
 have rd2 := H.rdO 0 rfl
 rw [← Wl_ones] at rd2
 refine w_call (cng s2 (bitsInit g g.b) _ x xb bl bsm rd2) fun v4 u4 q4 => ?_
 obtain ⟨p, v, rfl, s4, p4, A4, v4⟩ := q4
 have H5 := H.same s4
 have hnx3 := H.nx
 have H6 := Sto.consN (t := .rsl v 1 (Wl (bitsInit g g.b))) (n := u3.nx) H5 A4.rd.1 (fun b e => ⟨v4 b e, A4.rd.2 b e⟩) hnx3 fun s hs b e => (H.ids s hs b e).1
 have H7 := H6.cons (.blk p (plO g v)) A4.row (fun b e => by injection e with e; subst e; exact ⟨A4.pl, fun _ => .inl (by omega)⟩) fun s hs _ b e => by
  injection e with e
  subst e
  rcases List.mem_cons.1 hs with z | z
  ·subst z; exact A4.ne
  ·intro e; have := (H.ids s z p e).1; omega
 have hnx4 := s4.1.1
 have H8 := Sto.sub (m' := [.blk p (plO g v), .rsl v 1 (Wl (bitsInit g g.b)), .blk h.nx (.row 23 0 true false [kI g.b, kI g.n, kI g.c, kI g.k])]) (by simp) H7
 clear H H5 H6 H7
 have H := H8
 clear H8
 repeat' (first | (with_reducible refine w_gFf ?_) | ((with_reducible apply w_extr) ; rfl) | ((with_reducible refine w_bar ?_ ?_) ; omega) | ((with_reducible refine w_neq_NN (fun _ => ?_) (fun _ => ?_)) <;> first | (exfalso; omega) | skip))
 refine w_ob (v := .bool false) rfl ?_
 repeat' (first | (with_reducible first | refine w_jn ?_ | refine w_cndF ?_ | refine w_pickF ?_) | ((with_reducible apply w_loadsF 2 H) ; rfl; rfl; rfl))
 refine w_callE (cdg _ x) ?_
 repeat' (first | ((with_reducible apply w_extr) ; rfl) | ((with_reducible apply w_loadsF 2 H) ; rfl; rfl; rfl))
 refine w_call (ceg _ x) fun v6 u6 n6 => ?_
 obtain ⟨s6, rfl, n6⟩ := n6
 obtain ⟨sa6, sc6, rfl⟩ := n6.2.1.form
 replace n6 := n6.ones
 rw [← Wl_ones] at n6
 replace H := H.call n6
 repeat' (first | (with_reducible first | refine w_jn ?_ | refine w_st1A ?_) | ((with_reducible refine w_alloc H ?_) ; (clear H; intro u H hu)) | ((with_reducible apply w_storeV 0 H) ; rfl; rfl; rfl; omega; rfl; (clear H; intro u H hu; (try dsimp only [List.set_cons_zero, List.set_cons_succ, cellsL, List.toList_toArray, splice, ev, rep, List.cons_append, List.nil_append] at H))))
 rename_i u7 hu7 u8
 replace H := H.sel [2, 3, 0, 1, 4] 5 rfl (by decide) (by decide); dsimp only [List.filterMap_cons, List.filterMap_nil, List.getElem?_cons_zero, List.getElem?_cons_succ] at H
 replace H := H.unfl 2 rfl
 dsimp only [List.set_cons_zero, List.set_cons_succ] at H
 replace H := Sto.nilF H 38 1
 generalize hB : u6.nx = B at *
 refine lp_ind (Good := fun k (self : L38) => ∀ (i : Nat) (Z : List (Value × List (Nat × Nat))) (W : List Nat) (t ga : Nat) (v bs told y1 y2 y3 y4 y5 y6 y7 y8 y9 y10 y11 y12 y13 y14 y15 y16 y17 y18 y19 y20 y22 y23 y24 y25 y26 y27 y28 y29 y30 y31 y32 y33 y34 y35 y36 y37 : Value) (w : Hs), i + k = L.length → Inv g W (Z.map (·.2)) t ga → t + ga ≤ i ∧ Z.length ≤ i → (∀ e ∈ Z, e.2.length ≤ 10 ∧ ∃ a c, e.1 = .slice a e.2.length c) → (∃ a c, bs = .slice a W.length c) → Sto h [] w (PlS g p B h.nx v bs told W Z) → WP (self (kI i) y1 y2 y3 y4 y5 y6 y7 y8 y9 y10 y11 y12 y13 y14 y15 y16 y17 y18 y19 y20 told y22 y23 y24 y25 y26 y27 y28 y29 y30 y31 y32 y33 y34 y35 y36 y37 w) (yesQ h)) (fun k self ih i Z W t ga v bs told y1 y2 y3 y4 y5 y6 y7 y8 y9 y10 y11 y12 y13 y14 y15 y16 y17 y18 y19 y20 y22 y23 y24 y25 y26 y27 y28 y29 y30 y31 y32 y33 y34 y35 y36 y37 w hi I htg hZ hbs H1 => ?_) N L.length (by omega) 0 [] (bitsInit g g.b) 0 0 v _ _ _ _ _ _ _ _ _ _ _ _ _ _ _ _ _ _ _ _ _ _ _ _ _ _ _ _ _ _ _ _ _ _ _ _ _ _ _ (by omega) (Inv.init x) ⟨Nat.le_refl _, Nat.le_refl _⟩ (fun e he => by cases he) ⟨sa6, sc6, rfl⟩ H
 clear H
 have H := H1
 clear H1
 obtain ⟨ba, bc, rfl⟩ := hbs
 obtain ⟨ta, tc, rfl⟩ := (show OwnSl w told 38 1 _ _ _ from H.ok _ (List.mem_of_getElem? (i := 0) rfl)).form
 unfold PlS at H
 have hx := H.nx
 have l1 := H.lt 1 rfl
 have l3 := H.lt 3 rfl
 have l5 := H.lt 5 rfl
 have A : PlAt w g p v W := PlAt.of 1 2 H rfl rfl (by decide) x xb I.len I.sm
 repeat' (first | (with_reducible first | refine w_jn ?_ | refine w_cndT ?_ | refine w_cndF ?_ | refine w_lenV ?_) | ((with_reducible refine w_lss_NN (fun _ => ?_) (fun _ => ?_)) <;> first | (exfalso; omega) | skip))
 ·have ii : i < L.length := by omega
  have H2 := H.addR ra.rd fun b _ q => by cases q
  have hop := ra.op _ (List.getElem_mem ii)
  have gi : (L.map actC)[i]? = some (actC L[i]) := by rw [List.getElem?_map, List.getElem?_eq_getElem ii]; rfl
  generalize L[i] = X at *
  obtain ⟨⟨xa, xc, xv⟩, xr, xi1, xi2, xi3, xi4⟩ := hop
  unfold actC at gi
  refine w_at 0 H2 rfl gi rfl rfl ?_
  clear H2
  rw [xv] at xr ⊢
  refine w_alloc H fun u2 H2 hu2 => ?_
  refine w_storeV 0 H2 rfl rfl rfl (by decide) rfl fun u3 H3 hu3 => ?_
  clear H H2
  have H := H3.unfl 0 rfl
  clear H3
  dsimp only [List.set_cons_zero] at H
  refine w_fieldA ?_
  refine w_load 0 H rfl rfl rfl ?_
  refine w_lenV ?_
  refine w_gtr_NN (fun q6 => ?_) (fun q6 => ?_)
  ·repeat' (first | (with_reducible first | refine w_jn ?_ | refine w_cndT ?_))
   exact w_clr H rfl ⟨rfl, rfl⟩
  refine w_jn ?_
  refine w_cndF ?_
  refine w_fieldA ?_
  refine w_load 0 H rfl rfl rfl ?_
  refine w_jnG fun K hK => ?_
  have tail : ∀ (z1 z2 z3 z4 z5 z6 z7 z8 z9 z10 z11 z12 z13 z14 z15 z16 told z18 z19 z20 z21 z22 z23 z24 z25 z26 z27 z28 : Value) (u : Hs) (Z : List (Value × List (Nat × Nat))) (W : List Nat) (t ga : Nat) (v : Value) (ba : Option Addr) (bc : Nat), Inv g W (Z.map (·.2)) t ga → t + ga ≤ i + 1 ∧ Z.length ≤ i + 1 → (∀ e ∈ Z, e.2.length ≤ 10 ∧ ∃ a c, e.1 = .slice a e.2.length c) → Sto h [] u (PlS g p B h.nx v (.slice ba W.length bc) told W Z) → WP (K z1 z2 z3 z4 z5 z6 z7 z8 z9 z10 z11 z12 z13 z14 z15 z16 told z18 z19 z20 z21 z22 z23 z24 z25 z26 z27 z28 u) (yesQ h) := by
   intro z1 z2 z3 z4 z5 z6 z7 z8 z9 z10 z11 z12 z13 z14 z15 z16 told z18 z19 z20 z21 z22 z23 z24 z25 z26 z27 z28 u Z W t ga v ba bc I ht hZ H
   rw [hK]
   dsimp only
   have H0 := H
   unfold PlS at H
   have wl := I.len
   have hx := H.nx
   refine w_call (cb g p v W _ (PlAt.of 1 2 H rfl rfl (by decide) x xb I.len I.sm)) fun v1 v2 n1 => ?_
   obtain ⟨s, rfl, n1⟩ := n1
   obtain ⟨sa, sc, rfl⟩ := n1.2.1.form
   replace n1 := n1.ones
   rw [← Wl_ones] at n1
   replace H := H.call n1
   repeat' (first | (with_reducible first | refine w_jn ?_ | refine w_cndF ?_ | refine w_fieldA ?_ | refine w_lenV ?_ | refine w_st1A ?_) | ((with_reducible refine w_alloc H ?_) ; (clear H; intro u H hu)) | ((with_reducible refine w_neq_NN (fun _ => ?_) (fun _ => ?_)) <;> first | (exfalso; omega) | skip) | ((with_reducible apply w_load 0 H) ; rfl; rfl; rfl) | ((with_reducible apply w_storeV 0 H) ; rfl; rfl; rfl; omega; rfl; (clear H; intro u H hu; (try dsimp only [List.set_cons_zero, List.set_cons_succ, cellsL, List.toList_toArray, splice, ev, rep, List.cons_append, List.nil_append] at H))) | ((with_reducible apply w_load 5 H) ; rfl; rfl; rfl))
   rename_i v3 hv3 v4
   have rf : ∀ {u : Hs} {m : List Th}, Sto h [] u (m ++ PlS g p B h.nx v (.slice ba W.length bc) told W Z) → Sto h [] u (PlS g p B h.nx v (.slice ba W.length bc) told W Z) := fun H => Sto.sub (List.sublist_append_right _ _) H
   refine lp_ind (Good := fun m3 (self3 : L4) => ∀ (j : Nat) (e1 e2 e3 : Value) (w3 : Hs), j + m3 = W.length → Sto h [] w3 (.blk v2.nx (.row 33 0 true false [.slice sa W.length sc]) :: .rsl (.slice sa W.length sc) 1 (Wl W) :: PlS g p B h.nx v (.slice ba W.length bc) told W Z) → WP (self3 (kI j) e1 e2 e3 w3) (yesQ h)) (fun m3 self3 ih3 j e1 e2 e3 w3 hj H3 => ?_) N W.length (by omega) 0 _ _ _ _ (by omega) (H.unfl 0 rfl)
   clear H
   have H := H3
   clear H3
   unfold PlS at H
   have l0 := H.lt 0 rfl
   repeat' (first | (with_reducible first | refine w_jn ?_ | refine w_cndT ?_ | refine w_cndF ?_ | refine w_fieldA ?_ | refine w_lenV ?_) | ((with_reducible refine w_lss_NN (fun _ => ?_) (fun _ => ?_)) <;> first | (exfalso; omega) | skip) | ((with_reducible refine w_add_NN ?_ ?_) ; omega) | ((with_reducible apply w_load 0 H) ; rfl; rfl; rfl) | ((with_reducible apply w_load 5 H) ; rfl; rfl; rfl))
   ·have jj : j < W.length := by omega
    refine w_at1 1 H rfl (Wl_get jj) rfl rfl ?_
    repeat' (first | (with_reducible refine w_fieldA ?_) | ((with_reducible apply w_load 5 H) ; rfl; rfl; rfl))
    refine w_at1 6 H rfl (Wl_get jj) rfl rfl ?_
    repeat' (first | (with_reducible first | refine w_jn ?_ | refine w_cndF ?_) | ((with_reducible refine w_uneq (fun _ => ?_) (fun _ => ?_)) <;> first | (exfalso; omega) | skip) | ((with_reducible refine w_add_NN ?_ ?_) ; omega))
    exact ih3 (m3 - 1) (by omega) (j + 1) _ _ _ _ (by omega) H
   ·exact ih (k - 1) (by omega) (i + 1) Z W t ga v _ told _ _ _ _ _ _ _ _ _ _ _ _ _ _ _ _ _ _ _ _ _ _ _ _ _ _ _ _ _ _ _ _ _ _ _ _ _ (by omega) I ht hZ ⟨_, _, rfl⟩ H.tail.tail
  clear hK
  dsimp only [cellsL, List.toList_toArray] at H
  have l1 := H.lt 2 rfl
  have A3 : PlAt u3 g p v W := PlAt.of 2 3 H rfl rfl (by decide) x xb I.len I.sm
  have fewR : (rowsP g W).length ≤ 10 := I.few (by omega)
  repeat' (first | (with_reducible first | refine w_jn ?_ | refine w_cndT ?_ | refine w_cndF ?_ | refine w_gFt ?_ | refine w_gFf ?_ | refine w_pickT ?_ | refine w_pickF ?_ | refine w_fieldA ?_ | refine w_lenV ?_) | ((with_reducible first | refine w_lss_IN (fun _ => ?_) (fun _ => ?_) | refine w_geq_IN (fun _ => ?_) (fun _ => ?_) | refine w_eql_IN (fun _ => ?_) (fun _ => ?_)) <;> first | (exfalso; omega) | skip) | ((with_reducible apply w_load 0 H) ; rfl; rfl; rfl))
  ·by_cases bad : X.c < 0 ∨ (g.c : Int) ≤ X.c ∨ X.n < 0 ∨ X.mo < 1
   ·refine w_callE (ctn g p v W X.c X.n X.mo u3 A3 bad) ?_
    repeat' (first | (with_reducible first | refine w_jn ?_ | refine w_cndT ?_ | refine w_cndF ?_ | refine w_gFt ?_ | refine w_gFf ?_ | refine w_pickT ?_ | refine w_pickF ?_ | refine w_fieldA ?_ | refine w_lenV ?_) | ((with_reducible apply w_extr) ; rfl) | ((with_reducible first | refine w_lss_IN (fun _ => ?_) (fun _ => ?_) | refine w_geq_IN (fun _ => ?_) (fun _ => ?_) | refine w_neq_NN (fun _ => ?_) (fun _ => ?_)) <;> first | (exfalso; omega) | skip) | ((with_reducible apply w_load 0 H) ; rfl; rfl; rfl) | ((with_reducible apply w_load 6 H) ; rfl; rfl; rfl))
    all_goals exact tail _ _ _ _ _ _ _ _ _ _ _ _ _ _ _ _ _ _ _ _ _ _ _ _ _ _ _ _ _ Z W t ga v ba bc I (by omega) hZ H.tail
   ·obtain ⟨c, hc⟩ := Int.eq_ofNat_of_zero_le (show 0 ≤ X.c by omega)
    obtain ⟨n, hn⟩ := Int.eq_ofNat_of_zero_le (show 0 ≤ X.n by omega)
    obtain ⟨mo, hmo⟩ := Int.eq_ofNat_of_zero_le (show 0 ≤ X.mo by omega)
    have xi2b := xi2.2
    have xi3b := xi3.2
    rw [show X.c = Int.ofNat c from hc, show X.n = Int.ofNat n from hn, show X.mo = Int.ofNat mo from hmo] at H ⊢
    rw [hn] at xi2b
    rw [hmo] at xi3b
    have cg1 : c < g.c := by omega
    have mo1 : 1 ≤ mo := by omega
    refine w_call (ct g p v W c n mo u3 A3 (by omega) cg1 (by omega) mo1) fun r5 u5 q5 => ?_
    obtain ⟨f, o, T0, hp, hs, q5⟩ := q5
    have lg : ∃ S, falls S ∧ S.Perm ((rowsP g W).map fun r => r.2) ∧ ∀ r, LgQ S n mo r → r = if sumR (enoughL T0 n) < n ∨ mo < (enoughL T0 n).length then .tuple #[kI 0, .bool false] else .tuple #[kI (enoughL T0 n).length, .bool true] := by
     by_cases n0 : n = 0
     ·subst n0
      obtain ⟨S, h1, h2⟩ := falls_some ((rowsP g W).map fun r => r.2)
      refine ⟨S, h1, h2, fun r hr => ?_⟩
      unfold LgQ at hr
      rw [if_pos rfl] at hr
      rw [enoughL_zero, if_neg (by simp), hr]; rfl
     ·obtain ⟨S, h1, h2, h3⟩ := take_gr (most := mo) (show 0 < n by omega) mo1 hp hs
      refine ⟨S, h1, h2, fun r hr => ?_⟩
      unfold LgQ at hr
      rw [if_neg n0, h3] at hr
      split at hr
      ·rw [hr]
       rename_i z
       split at z
       ·cases z
       ·rename_i y; rw [if_neg y]; injection z with z; rw [z]
      ·rw [hr]
       rename_i z
       split at z
       ·rename_i y; rw [if_pos y]
       ·cases z
    obtain ⟨S, fS, pS, lg⟩ := lg
    have wl := I.len
    rcases q5 with ⟨cnd, rfl, rfl⟩ | ⟨cnd, s, v', rfl, Q5, rs, rsi⟩
    ·repeat' (first | (with_reducible first | refine w_jn ?_ | refine w_cndF ?_ | refine w_gFf ?_ | refine w_pickF ?_ | refine w_fieldA ?_) | ((with_reducible apply w_extr) ; rfl) | ((with_reducible first | refine w_lss_NN (fun _ => ?_) (fun _ => ?_) | refine w_geq_NN (fun _ => ?_) (fun _ => ?_)) <;> first | (exfalso; omega) | skip) | ((with_reducible refine w_add_NN ?_ ?_) ; omega) | ((with_reducible apply w_load 0 H) ; rfl; rfl; rfl) | ((with_reducible apply w_loadsF 4 H) ; rfl; rfl; rfl) | ((with_reducible apply w_load 6 H) ; rfl; rfl; rfl))
     refine w_call (cl W g.dataAt (g.dataAt + g.dataN) n mo S _ _ I.sm (by omega) (by omega) (by omega) (by omega) (by omega) fS pS (H.rd 5 rfl)) fun r6 u6 q6 => ?_
     obtain ⟨rfl, q6⟩ := q6
     have := lg r6 q6
     rw [if_pos cnd] at this
     subst this
     repeat' (first | (with_reducible first | refine w_jn ?_ | refine w_cndT ?_ | refine w_cndF ?_ | refine w_gFf ?_ | refine w_pickF ?_ | refine w_notF ?_ | refine w_lenV ?_) | ((with_reducible apply w_extr) ; rfl) | ((with_reducible refine w_neq_NN (fun _ => ?_) (fun _ => ?_)) <;> first | (exfalso; omega) | skip))
     exact tail _ _ _ _ _ _ _ _ _ _ _ _ _ _ _ _ _ _ _ _ _ _ _ _ _ _ _ _ _ Z W t ga v ba bc I (by omega) hZ H.tail
    ·obtain ⟨ra1, rc1, rfl⟩ := rs.1.formN (Rl_len _)
     obtain ⟨H5, lt5⟩ := Sto.plq 2 3 H rfl rfl (by decide) Q5
     have hu3 := A3.pl
     have H6 := H5.cons (.rsl (.slice ra1 (enoughL T0 n).length rc1) 2 (Rl (enoughL T0 n))) rs.1 (fun b e => ⟨rs.2 b e, fun z => by cases z⟩) fun s hs hx b e z => by
      have h1 := rsi b e
      rcases hx with hx | hx
      ·cases hx
      rcases List.mem_cons.1 hs with y | y
      ·subst y; cases hx
      ·rcases List.mem_or_eq_of_mem_set y with y | y
       ·have := lt5 s y b z; omega
       ·subst y; injection z with z; subst z; omega
     clear H H5
     have H := H6
     clear H6
     dsimp only [List.set_cons_zero, List.set_cons_succ] at H
     replace H := Sto.drp 5 H
     dsimp only [List.eraseIdx] at H
     have Inew := I.take (n := n) x hp
     have oN := Inew.few
     have row : ∀ r ∈ T0, IsRow (hasBit W) g.dataAt (g.dataAt + g.dataN) r := fun r hr => rowsF_row1 (Nat.le_add_right _ _) r (hp.mem_iff.1 hr)
     have em := enoughL_mem (n := n) fun r hr => (row r hr).ln
     have ntc : noTouch (enoughL T0 n) := enough_noTouch (Nat.le_add_right g.dataAt g.dataN) hp
     have ojd : djL (enoughL T0 n) := enoughL_dj (fun r hr => (row r hr).ln) (rows_djL hp)
     have osm := enoughL_sum (L := T0) (n := n)
     have ole := enoughL_len (l := T0) (n := n)
     have tle : T0.length = (rowsP g W).length := hp.length_eq
     have ob : ∀ r ∈ enoughL T0 n, 1 ≤ r.2 ∧ g.dataAt ≤ r.1 ∧ r.1 + r.2 ≤ g.dataAt + g.dataN ∧ ∀ y, r.1 ≤ y → y < r.1 + r.2 → hasBit W y = false := fun r hr => by
      obtain ⟨q, hq, e1, e2, e3⟩ := em r hr
      have h := row q hq
      have h1 := h.lo
      have h2 := h.hi
      exact ⟨e2, by omega, by omega, fun y h3 h4 => h.fr y (by omega) (by omega)⟩
     have ocn : Cnt (enoughL T0 n) := fun r hr => by
      have := ob r hr
      exact ⟨this.1, by omega, by omega⟩
     have osu : sumR (enoughL T0 n) = n := by omega
     generalize hout : enoughL T0 n = out at *
     repeat' (first | (with_reducible first | refine w_jn ?_ | refine w_cndF ?_ | refine w_gFf ?_ | refine w_pickF ?_ | refine w_fieldA ?_) | ((with_reducible apply w_extr) ; rfl) | ((with_reducible first | refine w_lss_NN (fun _ => ?_) (fun _ => ?_) | refine w_geq_NN (fun _ => ?_) (fun _ => ?_)) <;> first | (exfalso; omega) | skip) | ((with_reducible refine w_add_NN ?_ ?_) ; omega) | ((with_reducible apply w_load 2 H) ; rfl; rfl; rfl) | ((with_reducible apply w_loadsF 5 H) ; rfl; rfl; rfl) | ((with_reducible apply w_load 7 H) ; rfl; rfl; rfl))
     refine w_call (cl W g.dataAt (g.dataAt + g.dataN) n mo S _ _ I.sm (by omega) (by omega) (by omega) (by omega) (by omega) fS pS (H.rd 6 rfl)) fun r6 u6 q6 => ?_
     obtain ⟨rfl, q6⟩ := q6
     have := lg r6 q6
     rw [if_neg cnd] at this
     subst this
     repeat' (first | (with_reducible first | refine w_jn ?_ | refine w_cndF ?_ | refine w_gFf ?_ | refine w_pickF ?_ | refine w_notT ?_ | refine w_lenV ?_ | refine w_blind ?_) | ((with_reducible apply w_extr) ; rfl) | ((with_reducible refine w_neq_NN (fun _ => ?_) (fun _ => ?_)) <;> first | (exfalso; omega) | skip))
     have il : (iR out).length ≤ 100 := by rw [iR_len]; omega
     have rdo : Rd u6 (.slice ra1 out.length rc1) 2 (Ril (iR out)) := by rw [← Rl_iR]; exact H.rd 0 rfl
     have lw := H.lt 2 rfl
     have ly := H.lt 4 rfl
     refine w_call (cow (iR out) _ _ il (Rd.lo rdo _)) fun v7 u7 n7 => ?_
     refine w_light n7 fun u8 n8 => ?_
     clear n7
     have nn8 := n8.1.1.1
     replace H := H.call n8
     repeat' (first | (with_reducible refine w_gFf ?_))
     refine w_callE (cto (iR out) v7 _ il (Rd.lo (H.rdORi 0 rfl) _)) ?_
     refine w_light0 ?_
     rw [cR_iR ocn, osu]
     repeat' (first | (with_reducible first | refine w_gFf ?_ | refine w_pickF ?_ | refine w_fieldA ?_ | refine w_blind ?_) | ((with_reducible refine w_neq_NN (fun _ => ?_) (fun _ => ?_)) <;> first | (exfalso; omega) | skip) | ((with_reducible apply w_loadD 3 H) ; rfl; rfl; (intro _; simp only [HidOk, and_true]; omega)))
     have rdo2 : Rd u8 (.slice ra1 out.length rc1) 2 (Ril (iR out)) := by rw [← Rl_iR]; exact H.rd 1 rfl
     refine w_call (cow (iR out) _ _ il rdo2) fun v9 u9 n9 => ?_
     refine w_bar n9.1.1.1 ?_
     replace H := H.call n9
     repeat' (first | (with_reducible refine w_gFf ?_))
     have rdo3 : Rd u9 (.slice ra1 out.length rc1) 2 (Ril (iR out)) := by rw [← Rl_iR]; exact H.rd 2 rfl
     refine w_call (cow (iR out) _ _ il rdo3) fun v10 u10 n10 => ?_
     refine w_bar n10.1.1.1 ?_
     replace H := H.call n10
     repeat' (first | (with_reducible refine w_gFf ?_))
     refine w_call (cme out v10 _ ocn (by omega) ntc (by rw [Rl_iR]; exact H.rdORi 0 rfl)) fun v11 u11 n11 => ?_
     refine w_bar n11.1.1.1 ?_
     replace H := H.call n11
     repeat' (first | (with_reducible refine w_gFf ?_))
     refine w_callE (cal out v9 v11 _ (by omega) (by rw [Rl_iR]; exact H.rdORi 2 rfl) (H.rdOR' 0 rfl)) ?_
     refine w_bar (Nat.le_refl _) ?_
     repeat' (first | (with_reducible first | refine w_gFf ?_ | refine w_pickF ?_ | refine w_notT ?_ | refine w_blind ?_))
     replace H := H.tail.tail.tail.tail
     have rdo4 : Rd u11 (.slice ra1 out.length rc1) 2 (Ril (iR out)) := by rw [← Rl_iR]; exact H.rd 0 rfl
     refine w_call (cow (iR out) _ _ il rdo4) fun v12 u12 n12 => ?_
     refine w_bar n12.1.1.1 ?_
     replace H := H.call n12
     repeat' (first | (with_reducible refine w_gFf ?_))
     refine w_callE (cap out v12 _ ocn (by omega) ojd (by rw [Rl_iR]; exact H.rdORi 0 rfl)) ?_
     refine w_bar (Nat.le_refl _) ?_
     repeat' (first | (with_reducible first | refine w_jn ?_ | refine w_cndF ?_ | refine w_gFf ?_ | refine w_pickF ?_ | refine w_notT ?_ | refine w_blind ?_))
     replace H := H.tail
     have oin : ∀ r ∈ out, r.1 + r.2 ≤ 64 * W.length ∧ ∀ y, r.1 ≤ y → y < r.1 + r.2 → hasBit W y = false := fun r hr => by
      have := ob r hr
      exact ⟨by omega, this.2.2.2⟩
     refine lp_ind (Good := fun k2 (self2 : L7) => ∀ (j : Nat) (e1 e2 e3 e4 e5 e6 : Value) (w2 : Hs) (ba : Option Addr) (bc : Nat), j + k2 = out.length → Sto h [] w2 (.rsl (.slice ra1 out.length rc1) 2 (Rl out) :: .rsl v' 1 (Wl (setRuns W true out)) :: .blk w.nx (.row 40 0 true false [.int .i64 X.op, .int .i64 (Int.ofNat c), .int .i64 (Int.ofNat n), .int .i64 (Int.ofNat mo), .slice xa X.l.length xc]) :: .osl (.slice ta Z.length tc) 38 1 false Z.length (Z.map (·.1)) :: .blk p (plO g v') :: .blk B (.row 33 0 true false [.slice ba W.length bc]) :: .rsl (.slice ba W.length bc) 1 (Wl (setRuns W true (out.take j))) :: .blk h.nx (.row 23 0 true false [kI g.b, kI g.n, kI g.c, kI g.k]) :: TH Z) → WP (self2 (kI j) e1 e2 e3 e4 e5 e6 w2) (yesQ h)) (fun k2 self2 ih2 j e1 e2 e3 e4 e5 e6 w2 ba bc hj H2 => ?_) N out.length (by omega) 0 _ _ _ _ _ _ _ ba bc (by omega) H
     clear H
     have H := H2
     clear H2
     have wjl : (setRuns W true (out.take j)).length = W.length := setRuns_len _ _ _
     have wjs : Small (setRuns W true (out.take j)) := setRuns_small _ _ I.sm
     repeat' (first | (with_reducible first | refine w_jn ?_ | refine w_cndT ?_ | refine w_cndF ?_ | refine w_lenV ?_) | ((with_reducible apply w_mkrow H) ; rfl; (clear H; intro u H hu; (try dsimp only [List.set_cons_zero, List.set_cons_succ, cellsL, List.toList_toArray, splice, ev, rep, List.cons_append, List.nil_append] at H))) | ((with_reducible refine w_lss_NN (fun _ => ?_) (fun _ => ?_)) <;> first | (exfalso; omega) | skip))
     ·have jj : j < out.length := by omega
      have rb := ob _ (List.getElem_mem jj)
      obtain ⟨b1, o1, rfl⟩ := sl_some (H.rd 0 rfl) (by omega)
      have lb := (H.rd 0 rfl).2 b1 (by
       have : (Rl out).length = out.length := Rl_len out
       cases h2 : Rl out with
       | nil => rw [h2] at this; have : out.length = 0 := this.symm; omega
       | cons x l => rfl)
      repeat' (first | (with_reducible refine w_idx (by omega) ?_) | (refine w_ldX 0 H rfl (Rl_get jj) rfl (by decide) rfl ?_) | (with_reducible first | refine w_jn ?_ | refine w_cndF ?_ | refine w_gFf ?_ | refine w_pickF ?_ | refine w_fieldA ?_ | refine w_blind ?_) | ((with_reducible first | refine w_lss_NN (fun _ => ?_) (fun _ => ?_) | refine w_gtr_NN (fun _ => ?_) (fun _ => ?_)) <;> first | (exfalso; omega) | skip) | ((with_reducible refine w_add_NN ?_ ?_) ; omega))
      have tk : setRuns W true (out.take (j + 1)) = setRun (setRuns W true (out.take j)) true out[j].1 out[j].2 := by
       rw [List.take_add_one, List.getElem?_eq_getElem jj]; exact setRuns_snoc _ _ _ _
      have fr := fun q (hq : q < out[j].2) => set_free ojd oin jj hq
      generalize setRuns W true (out.take j) = Wj at *
      refine lp_ind (Good := fun k3 (self3 : L4) => ∀ (q : Nat) (d1 d2 d3 : Value) (w3 : Hs) (ba : Option Addr) (bc : Nat), q + k3 = out[j].2 → Sto h [] w3 (.rsl (.slice (some ⟨b1, o1, none⟩) out.length rc1) 2 (Rl out) :: .rsl v' 1 (Wl (setRuns W true out)) :: .blk w.nx (.row 40 0 true false [.int .i64 X.op, .int .i64 (Int.ofNat c), .int .i64 (Int.ofNat n), .int .i64 (Int.ofNat mo), .slice xa X.l.length xc]) :: .osl (.slice ta Z.length tc) 38 1 false Z.length (Z.map (·.1)) :: .blk p (plO g v') :: .blk B (.row 33 0 true false [.slice ba W.length bc]) :: .rsl (.slice ba W.length bc) 1 (Wl (setRun Wj true out[j].1 q)) :: .blk h.nx (.row 23 0 true false [kI g.b, kI g.n, kI g.c, kI g.k]) :: TH Z) → WP (self3 (kI q) d1 d2 d3 w3) (yesQ h)) (fun k3 self3 ih3 q d1 d2 d3 w3 ba bc hq H3 => ?_) N out[j].2 (by omega) 0 _ _ _ _ ba bc (by omega) H
      clear H
      have H := H3
      clear H3
      have wql : (setRun Wj true out[j].1 q).length = W.length := by rw [setRun_len]; exact wjl
      have wqs : Small (setRun Wj true out[j].1 q) := setRun_small wjs _ _ _
      repeat' (first | (with_reducible refine w_idx (by omega) ?_) | (refine w_ldX 0 H rfl (Rl_get jj) rfl (by decide) rfl ?_) | (with_reducible first | refine w_jn ?_ | refine w_cndT ?_ | refine w_cndF ?_ | refine w_fieldA ?_) | ((with_reducible refine w_lss_NN (fun _ => ?_) (fun _ => ?_)) <;> first | (exfalso; omega) | skip) | ((with_reducible refine w_add_NN ?_ ?_) ; omega) | ((with_reducible apply w_loadsF 5 H) ; rfl; rfl; rfl))
      ·refine w_callE (ch (setRun Wj true out[j].1 q) (out[j].1 + q) _ _ wqs (by omega) (by omega) (H.rd 6 rfl)) ?_
       refine w_bar (Nat.le_refl _) ?_
       rw [fr q (by omega)]
       repeat' (first | (with_reducible refine w_idx (by omega) ?_) | (refine w_ldX 0 H rfl (Rl_get jj) rfl (by decide) rfl ?_) | (with_reducible first | refine w_jn ?_ | refine w_cndF ?_ | refine w_fieldA ?_) | ((with_reducible refine w_add_NN ?_ ?_) ; omega) | ((with_reducible apply w_loadsF 5 H) ; rfl; rfl; rfl))
       refine w_mkrowL (lm := []) (hist := []) H rfl fun u4 H4 hu4 => ?_
       clear H
       have H := H4
       clear H4
       have le1 : ∀ z ∈ [((out[j].1 + q : Nat) : Int)], z ≤ 9223372036854775807 := by
        intro z hz
        simp only [List.mem_singleton] at hz
        omega
       have bst : setRun Wj true out[j].1 (q + 1) = setBits (setRun Wj true out[j].1 q) true [((out[j].1 + q : Nat) : Int)] := setRun_succ _ _ _ _
       refine w_call (cs (setRun Wj true out[j].1 q) true [((out[j].1 + q : Nat) : Int)] _ _ _ wqs (by omega) (by simp) le1 (H.rd 7 rfl) (H.rdB (L := [kI (out[j].1 + q)]) (n := 1) (c := 1) 0 rfl rfl (Nat.le_refl _))) fun v6 u6 n6 => ?_
       obtain ⟨s6, rfl, n6⟩ := n6
       rw [← bst] at n6
       have nl : (setRun Wj true out[j].1 (q + 1)).length = W.length := by rw [setRun_len]; exact wjl
       unfold OW at n6
       rw [nl] at n6
       obtain ⟨a6, c6, rfl⟩ := n6.2.1.form
       have n6u := n6.1.1.1
       replace n6 := n6.ones
       rw [← Wl_ones] at n6
       replace H := H.call n6
       repeat' (first | (with_reducible refine w_st1A ?_) | ((with_reducible first | refine w_bar ?_ ?_ | refine w_add_NN ?_ ?_) ; omega) | ((with_reducible apply w_storeV 7 H) ; rfl; rfl; rfl; omega; rfl; (clear H; intro u H hu; (try dsimp only [List.set_cons_zero, List.set_cons_succ, cellsL, List.toList_toArray, splice, ev, rep, List.cons_append, List.nil_append] at H))))
       replace H := Sto.drp 1 (Sto.drp 8 (H.unfl 7 rfl))
       dsimp only [List.eraseIdx, List.set_cons_zero, List.set_cons_succ] at H
       exact ih3 (k3 - 1) (by omega) (q + 1) _ _ _ _ a6 c6 (by omega) (Sto.perm (List.perm_middle (l₁ := [_, _, _, _, _, _])).symm H)
      ·obtain rfl : q = out[j].2 := by omega
       rw [← tk] at H
       exact ih2 (k2 - 1) (by omega) (j + 1) _ _ _ _ _ _ _ ba bc (by omega) H
     ·refine w_appendB 4 0 H rfl rfl rfl rfl (by omega) (by omega) fun v7 u7 H7 hu7 => ?_
      obtain rfl : j = out.length := by omega
      rw [List.take_length] at H7 wjl
      dsimp only [List.set_cons_zero, List.set_cons_succ] at H7
      have H8 := Sto.drp 1 (Sto.perm (List.perm_append_singleton _ _).symm H7.tail)
      dsimp only [List.eraseIdx, List.cons_append] at H8
      have H9 := Sto.perm (List.perm_middle (l₁ := [_, _])).symm H8
      dsimp only
      rw [← wjl] at H9
      exact tail _ _ _ _ _ _ _ _ _ _ _ _ _ _ _ _ _ _ _ _ _ _ _ _ _ _ _ _ _ (Z ++ [(.slice ra1 out.length rc1, out)]) (setRuns W true out) (t + 1) ga v' ba bc (by rw [List.map_append]; exact Inew) (by rw [List.length_append, List.length_singleton]; omega) (fun e he => by
       rcases List.mem_append.1 he with z | z
       ·exact hZ e z
       ·rw [List.mem_singleton.1 z]; exact ⟨by dsimp only; omega, _, _, rfl⟩) (by
       unfold PlS TH
       rw [List.map_append, List.map_append, List.length_append]
       exact H9)
  ·exact tail _ _ _ _ _ _ _ _ _ _ _ _ _ _ _ _ _ _ _ _ _ _ _ _ _ _ _ _ _ Z W t ga v ba bc I (by omega) hZ H.tail
  ·exact tail _ _ _ _ _ _ _ _ _ _ _ _ _ _ _ _ _ _ _ _ _ _ _ _ _ _ _ _ _ Z W t ga v ba bc I (by omega) hZ H.tail
  ·obtain ⟨nn, hnn⟩ := Int.eq_ofNat_of_zero_le (show 0 ≤ X.n by omega)
   rw [show X.n = Int.ofNat nn from hnn] at H ⊢
   have nz : nn < Z.length := by omega
   have hz : (Z.map (·.1))[nn]? = some Z[nn].1 := by rw [List.getElem?_map, List.getElem?_eq_getElem nz]; rfl
   have hT : (Z.map (·.2))[nn]? = some Z[nn].2 := by rw [List.getElem?_map, List.getElem?_eq_getElem nz]; rfl
   have hth : (TH Z)[nn]? = some (.rsl Z[nn].1 2 (Rl Z[nn].2)) := by unfold TH; rw [List.getElem?_map, List.getElem?_eq_getElem nz]; rfl
   obtain ⟨z10, za, zc, ze⟩ := hZ _ (List.getElem_mem nz)
   generalize hE : Z[nn].1 = e0 at *
   generalize hU : Z[nn].2 = uu at *
   subst ze
   obtain ⟨gok, u1b, ucn⟩ := I.giveOk x hT
   have Inew := I.give x hT
   refine w_atO 1 H rfl hz rfl ?_
   have rdx := H.rd (nn + 7) hth
   have npx : Th.id (.rsl (.slice za uu.length zc) 2 (Rl uu)) ≠ some p := H.neR (i := 2) (j := nn + 7) rfl hth (by omega)
   rw [Rl_iR] at rdx npx
   have iu : (iR uu).length = uu.length := iR_len uu
   refine w_call (cgi g p v W (iR uu) _ u3 A3 (by omega) (fun r hr => ?_) rdx npx) fun r5 u5 q5 => ?_
   ·unfold iR at hr
    obtain ⟨q, hq, rfl⟩ := List.mem_map.1 hr
    have := ucn q hq
    unfold Gev.In64
    dsimp only
    omega
   obtain ⟨_, rfl, v', Q5⟩ := q5.resolve_right fun z => absurd gok z.1
   rw [nR_iR u1b] at Q5
   have nx5 := Q5.1.1
   obtain ⟨H5, lt5⟩ := Sto.plq 2 3 H rfl rfl (by decide) Q5
   clear H
   have H6 := Sto.drp 4 H5
   dsimp only [List.set_cons_zero, List.set_cons_succ, List.eraseIdx] at H6
   have H := Sto.dup (nn + 7) H6 hth rfl
   clear H5 H6
   have oin : ∀ r ∈ uu, g.dataAt ≤ r.1 ∧ r.1 + r.2 ≤ g.dataAt + g.dataN := fun r hr => by
    obtain ⟨j, hj, rfl⟩ := List.getElem_of_mem hr
    have := gok j (by omega) ((uu[j].1 : Int), (uu[j].2 : Int)) (by unfold iR; rw [List.getElem?_map, List.getElem?_eq_getElem hj]; rfl) (by have := u1b _ (List.getElem_mem hj); show 1 ≤ (uu[j].2 : Int); omega)
    dsimp only at this
    omega
   have wl := I.len
   have rm := Inv.room x I.len
   repeat' (first | (with_reducible first | refine w_jn ?_ | refine w_cndF ?_) | ((with_reducible refine w_neq_NN (fun _ => ?_) (fun _ => ?_)) <;> first | (exfalso; omega) | skip))
   refine lp_ind (Good := fun k2 (self2 : L4) => ∀ (j : Nat) (e1 e2 e3 : Value) (w2 : Hs) (ba : Option Addr) (bc : Nat), j + k2 = uu.length → Sto h [] w2 (.rsl (.slice za uu.length zc) 2 (Rl uu) :: .rsl v' 1 (Wl (setRuns W false uu)) :: .blk w.nx (.row 40 0 true false [.int .i64 X.op, .int .i64 X.c, .int .i64 (Int.ofNat nn), .int .i64 X.mo, .slice xa X.l.length xc]) :: .osl (.slice ta Z.length tc) 38 1 false Z.length (Z.map (·.1)) :: .blk p (plO g v') :: .blk B (.row 33 0 true false [.slice ba W.length bc]) :: .rsl (.slice ba W.length bc) 1 (Wl (setRuns W false (uu.take j))) :: .blk h.nx (.row 23 0 true false [kI g.b, kI g.n, kI g.c, kI g.k]) :: TH Z) → WP (self2 (kI j) e1 e2 e3 w2) (yesQ h)) (fun k2 self2 ih2 j e1 e2 e3 w2 ba bc hj H2 => ?_) N uu.length (by omega) 0 _ _ _ _ ba bc (by omega) H
   clear H
   have H := H2
   clear H2
   have wjl : (setRuns W false (uu.take j)).length = W.length := setRuns_len _ _ _
   have wjs : Small (setRuns W false (uu.take j)) := setRuns_small _ _ I.sm
   repeat' (first | (refine w_atO 3 H rfl hz rfl ?_) | (with_reducible first | refine w_jn ?_ | refine w_cndT ?_ | refine w_cndF ?_ | refine w_fieldA ?_ | refine w_lenV ?_) | ((with_reducible refine w_lss_NN (fun _ => ?_) (fun _ => ?_)) <;> first | (exfalso; omega) | skip) | ((with_reducible apply w_load 2 H) ; rfl; rfl; rfl))
   ·have jj : j < uu.length := by omega
    have rb := oin _ (List.getElem_mem jj)
    obtain ⟨b1, o1, rfl⟩ := sl_some (H.rd 0 rfl) (by omega)
    have tk : setRuns W false (uu.take (j + 1)) = setRun (setRuns W false (uu.take j)) false uu[j].1 uu[j].2 := by
     rw [List.take_add_one, List.getElem?_eq_getElem jj]; exact setRuns_snoc _ _ _ _
    generalize setRuns W false (uu.take j) = Wj at *
    refine lp_ind (Good := fun k3 (self3 : L2) => ∀ (q : Nat) (d1 : Value) (w3 : Hs) (ba : Option Addr) (bc : Nat), q + k3 = uu[j].2 → Sto h [] w3 (.rsl (.slice (some ⟨b1, o1, none⟩) uu.length zc) 2 (Rl uu) :: .rsl v' 1 (Wl (setRuns W false uu)) :: .blk w.nx (.row 40 0 true false [.int .i64 X.op, .int .i64 X.c, .int .i64 (Int.ofNat nn), .int .i64 X.mo, .slice xa X.l.length xc]) :: .osl (.slice ta Z.length tc) 38 1 false Z.length (Z.map (·.1)) :: .blk p (plO g v') :: .blk B (.row 33 0 true false [.slice ba W.length bc]) :: .rsl (.slice ba W.length bc) 1 (Wl (setRun Wj false uu[j].1 q)) :: .blk h.nx (.row 23 0 true false [kI g.b, kI g.n, kI g.c, kI g.k]) :: TH Z) → WP (self3 (kI q) d1 w3) (yesQ h)) (fun k3 self3 ih3 q d1 w3 ba bc hq H3 => ?_) N uu[j].2 (by omega) 0 _ _ ba bc (by omega) H
    clear H
    have H := H3
    clear H3
    have wql : (setRun Wj false uu[j].1 q).length = W.length := by rw [setRun_len]; exact wjl
    have wqs : Small (setRun Wj false uu[j].1 q) := setRun_small wjs _ _ _
    repeat' (first | (refine w_atO 3 H rfl hz rfl ?_) | (with_reducible refine w_idx (by omega) ?_) | (refine w_ldX 0 H rfl (Rl_get jj) rfl (by decide) rfl ?_) | (with_reducible first | refine w_jn ?_ | refine w_cndT ?_ | refine w_cndF ?_ | refine w_fieldA ?_) | ((with_reducible refine w_lss_NN (fun _ => ?_) (fun _ => ?_)) <;> first | (exfalso; omega) | skip) | ((with_reducible refine w_add_NN ?_ ?_) ; omega) | ((with_reducible apply w_load 2 H) ; rfl; rfl; rfl) | ((with_reducible apply w_loadsF 5 H) ; rfl; rfl; rfl))
    ·refine w_mkrowL (lm := []) (hist := []) H rfl fun u4 H4 hu4 => ?_
     clear H
     have H := H4
     clear H4
     have le1 : ∀ z ∈ [((uu[j].1 + q : Nat) : Int)], z ≤ 9223372036854775807 := by
      intro z hz
      simp only [List.mem_singleton] at hz
      omega
     have bst : setRun Wj false uu[j].1 (q + 1) = setBits (setRun Wj false uu[j].1 q) false [((uu[j].1 + q : Nat) : Int)] := setRun_succ _ _ _ _
     refine w_call (cs (setRun Wj false uu[j].1 q) false [((uu[j].1 + q : Nat) : Int)] _ _ _ wqs (by omega) (by simp) le1 (H.rd 7 rfl) (H.rdB (L := [kI (uu[j].1 + q)]) (n := 1) (c := 1) 0 rfl rfl (Nat.le_refl _))) fun v6 u6 n6 => ?_
     obtain ⟨s6, rfl, n6⟩ := n6
     rw [← bst] at n6
     have nl : (setRun Wj false uu[j].1 (q + 1)).length = W.length := by rw [setRun_len]; exact wjl
     unfold OW at n6
     rw [nl] at n6
     obtain ⟨a6, c6, rfl⟩ := n6.2.1.form
     have n6u := n6.1.1.1
     replace n6 := n6.ones
     rw [← Wl_ones] at n6
     replace H := H.call n6
     repeat' (first | (with_reducible refine w_st1A ?_) | ((with_reducible first | refine w_bar ?_ ?_ | refine w_add_NN ?_ ?_) ; omega) | ((with_reducible apply w_storeV 7 H) ; rfl; rfl; rfl; omega; rfl; (clear H; intro u H hu; (try dsimp only [List.set_cons_zero, List.set_cons_succ, cellsL, List.toList_toArray, splice, ev, rep, List.cons_append, List.nil_append] at H))))
     replace H := Sto.drp 1 (Sto.drp 8 (H.unfl 7 rfl))
     dsimp only [List.eraseIdx, List.set_cons_zero, List.set_cons_succ] at H
     exact ih3 (k3 - 1) (by omega) (q + 1) _ _ a6 c6 (by omega) (Sto.perm (List.perm_middle (l₁ := [_, _, _, _, _, _])).symm H)
    ·obtain rfl : q = uu[j].2 := by omega
     rw [← tk] at H
     exact ih2 (k2 - 1) (by omega) (j + 1) _ _ _ _ ba bc (by omega) H
   ·obtain rfl : j = uu.length := by omega
    rw [List.take_length] at H wjl
    refine w_storeO 3 H rfl (by rw [List.length_map]; exact nz) rfl fun u7 H7 hu7 => ?_
    dsimp only [List.set_cons_zero, List.set_cons_succ] at H7
    have H8 := Sto.drp 1 H7.tail
    dsimp only [List.eraseIdx] at H8
    have H9 := Sto.setE (nn + 6) (Sto.perm (List.perm_middle (l₁ := [_, _])).symm H8) hth
    dsimp only [List.set_cons_succ, List.cons_append, List.nil_append] at H9
    rw [← wjl] at H9
    dsimp only
    exact tail _ _ _ _ _ _ _ _ _ _ _ _ _ _ _ _ _ _ _ _ _ _ _ _ _ _ _ _ _ (Z.set nn (.slice none 0 0, [])) (setRuns W false uu) t (ga + 1) v' ba bc (by rw [List.map_set]; exact Inew) (by rw [List.length_set]; omega) (fun e he => by
     rcases List.mem_or_eq_of_mem_set he with z | z
     ·exact hZ e z
     ·rw [z]; exact ⟨Nat.zero_le _, none, 0, rfl⟩) (by
     unfold PlS TH
     rw [List.map_set, List.map_set, List.length_set]
     exact H9)
  ·refine w_callE (cf g p v W u3 A3) ?_
   repeat' (first | (with_reducible refine w_fieldA ?_) | ((with_reducible apply w_load 0 H) ; rfl; rfl; rfl))
   have rdx := H.rd0 xr fun b _ q => by cases q
   have npx : Th.id (.rsl (.slice xa X.l.length xc) 2 (Ril X.l)) ≠ some p := fun e => by
    have h1 := xr.2 p e
    rcases (H.ids _ (List.mem_of_getElem? (i := 2) rfl) p rfl).2 rfl with z | z
    ·omega
    ·cases z
   refine w_call (cgi g p v W X.l _ u3 A3 (by omega) xi4 rdx npx) fun r5 u5 q5 => ?_
   rcases q5 with ⟨gok, rfl, v', Q5⟩ | ⟨gno, rfl, rfl⟩
   ·have A5 := Q5.2.1
    have nx5 := Q5.1.1
    obtain ⟨H5, lt5⟩ := Sto.plq 2 3 H rfl rfl (by decide) Q5
    clear H
    have H := H5
    clear H5
    dsimp only [List.set_cons_zero, List.set_cons_succ] at H
    have lw := H.lt 1 rfl
    have gf := I.giveFree x gok
    have cs1 := cnt_sum (cR_cnt X.l)
    have cl1 := cR_len X.l
    have rs1 := rowsF_cnt (f := hasBit W) (Nat.le_add_right g.dataAt g.dataN) (by omega)
    have rs2 := cnt_sum rs1
    have rs3 : sumR (rowsF (hasBit W) g.dataAt (g.dataAt + g.dataN)) = sumR (rowsP g W) := rfl
    have rs4 : (rowsF (hasBit W) g.dataAt (g.dataAt + g.dataN)).length = (rowsP g W).length := rfl
    repeat' (first | (with_reducible first | refine w_jn ?_ | refine w_cndT ?_) | ((with_reducible refine w_eql_NN (fun _ => ?_) (fun _ => ?_)) <;> first | (exfalso; omega) | skip))
    refine w_callE (cf g p v' (setRuns W false (nR X.l)) _ (A5.to rfl rfl)) ?_
    refine w_light0 ?_
    repeat' (first | (with_reducible refine w_fieldA ?_) | ((with_reducible apply w_loadD 1 H) ; rfl; rfl; (intro _; simp only [HidOk, and_true]; omega)))
    have rdx2 := H.rd0 xr fun b _ q => by cases q
    refine w_call (cow X.l _ _ (by omega) rdx2) fun v7 u7 n7 => ?_
    refine w_bar n7.1.1.1 ?_
    replace H := H.call n7
    refine w_callE (cto X.l v7 _ (by omega) (H.rdORi 0 rfl)) ?_
    refine w_bar (Nat.le_refl _) ?_
    rw [gf]
    repeat' (first | ((with_reducible refine w_eql_NN (fun _ => ?_) (fun _ => ?_)) <;> first | (exfalso; omega) | skip) | ((with_reducible refine w_add_NN ?_ ?_) ; omega))
    exact w_clr H rfl ⟨rfl, rfl⟩
   ·repeat' (first | (with_reducible first | refine w_jn ?_ | refine w_cndF ?_) | ((with_reducible refine w_eql_NN (fun _ => ?_) (fun _ => ?_)) <;> first | (exfalso; omega) | skip))
    refine w_callE (cf g p v W u5 A3) ?_
    repeat' (first | (with_reducible first | refine w_jn ?_ | refine w_cndF ?_) | ((with_reducible refine w_neq_NN (fun _ => ?_) (fun _ => ?_)) <;> first | (exfalso; omega) | skip))
    exact tail _ _ _ _ _ _ _ _ _ _ _ _ _ _ _ _ _ _ _ _ _ _ _ _ _ _ _ _ _ Z W t ga v ba bc I (by omega) hZ H.tail
 ·dsimp only
  refine w_callE (cf g p v W ⟨w.hp, w.nx, w.nx⟩ (A.to rfl rfl)) ?_
  refine w_light0 ?_
  repeat' (first | (with_reducible refine w_fieldA ?_) | ((with_reducible apply w_loadsD 3 H) ; rfl; rfl; (intro _; simp only [HidOk, and_true]; omega)) | ((with_reducible apply w_loadD 5 H) ; rfl; rfl; (intro _; simp only [HidOk, and_true]; omega)))
  have wl := I.len
  refine w_callE (cc W (.slice ba W.length bc) _ I.sm (by omega) (Rd.lo (H.rd 4 rfl) _)) ?_
  refine w_light0 ?_
  have ct := I.count x
  repeat' (first | ((with_reducible refine w_eql_NN (fun _ => ?_) (fun _ => ?_)) <;> first | (exfalso; omega) | skip) | ((with_reducible refine w_sub_NN ?_ ?_ ?_) ; omega; omega))
  exact w_clr H rfl ⟨rfl, rfl⟩
theorem plays_bad {R : RnK} {N : Nat} (cg : CGood R) (cgn : CGoodNeg R) {h : Hs} {b n c k : Int} {a : Value} (x : BadG b n c k) (aw : ∀ u, WP (R 4 [] u) fun v u' => v = .bool true ∧ Same u u') : WP (r3 R N [gI b n c k, a] h) (yesQ h) := by
 have cb := bad_good cg cgn x
 unfold r3
 unfold gI at cb ⊢
 have H := Sto.enter h
 refine w_unC ?_
 refine w_unC ?_
 refine w_enK ?_
 refine w_boxA H fun u1 H1 hu1 => ?_
 clear H
 have H := H1
 clear H1
 refine w_call (aw u1) fun v0 u0 q0 => ?_
 obtain ⟨rfl, sa⟩ := q0
 have H0 := H.same sa
 clear H
 have H := H0
 clear H0
 repeat' (first | (refine w_callE (cb _) ?_) | (with_reducible first | refine w_jn ?_ | refine w_cndT ?_ | refine w_cndF ?_ | refine w_gFt ?_ | refine w_pickT ?_ | refine w_notT ?_ | refine w_notF ?_) | ((with_reducible apply w_loadsF 0 H) ; rfl; rfl; rfl))
 exact w_clr H rfl ⟨rfl, rfl⟩
theorem counts_of {R : RnK} (c : CCountsI R) : CCounts R := fun l v h hc hb r => by
 have := c (iR l) v h (by rw [iR_len]; exact hb) (by rw [← Rl_iR]; exact r)
 rwa [cR_iR hc] at this
end Go.Proofs.Ytndlcnfnoiabbaa.poolPlays
