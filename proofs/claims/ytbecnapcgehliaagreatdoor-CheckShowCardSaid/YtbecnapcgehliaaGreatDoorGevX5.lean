/- More operations of the evaluator do what the model's do: all together. -/
import Derived.Test.YtbecnapcgehliaaGreatDoorGevIt
namespace Go.Gev
open Go.RowKit

section
variable {P : Program} {cx : Cx} {o : Oper}

theorem list_one' {α : Type} {xs : Array α} {x : α} (h : xs.toList = [x]) : xs = #[x] := by apply Array.ext'; simpa using h
theorem list_two' {α : Type} {xs : Array α} {x y : α} (h : xs.toList = [x, y]) : xs = #[x, y] := by apply Array.ext'; simpa using h

set_option maxHeartbeats 1000000 in
theorem gopX_sound {g : En → Hs → Rs} (h : gopX P cx o = some g) : Snd P cx o g := by
  unfold gopX at h
  split at h
  · rename_i s d x ho
    split at h
    · rename_i e hs hd
      split at h
      · rename_i he
        simp only [Option.bind_eq_bind, Option.bind_eq_some_iff, Option.some.injEq] at h
        obtain ⟨y, hy, rfl⟩ := h
        exact snd_toStr ho hs hd he hy
      · cases h
    · rename_i e hs hd
      split at h
      · rename_i he
        simp only [Option.bind_eq_bind, Option.bind_eq_some_iff, Option.some.injEq] at h
        obtain ⟨y, hy, rfl⟩ := h
        exact snd_toBytes ho hs hd he hy
      · cases h
    · rename_i e0 e hs hd
      split at h
      · rename_i he
        split at h
        · rename_i hsd
          have hsd := eq_of_beq hsd
          subst hsd
          simp only [Option.bind_eq_bind, Option.bind_eq_some_iff, Option.some.injEq] at h
          obtain ⟨y, hy, rfl⟩ := h
          exact snd_mark ho hd he hy
        · cases h
      · cases h
    · rename_i t hs hd
      simp only [Option.bind_eq_bind, Option.bind_eq_some_iff] at h
      obtain ⟨n, hn, h⟩ := h
      split at h
      · cases h
      · rename_i hn0
        simp only [Option.bind_eq_some_iff, Option.some.injEq] at h
        obtain ⟨y, hy, rfl⟩ := h
        exact snd_toUns ho hs hd hn hn0 hy
    · rename_i t hs hd
      simp only [Option.bind_eq_bind, Option.bind_eq_some_iff] at h
      obtain ⟨n, hn, h⟩ := h
      split at h
      · cases h
      · rename_i hn0
        simp only [Option.bind_eq_some_iff, Option.some.injEq] at h
        obtain ⟨n2, hn2, y, hy, rfl⟩ := h
        rw [hn] at hn2
        injection hn2 with hn2
        subst hn2
        exact snd_fromUns ho hs hd hn hn0 hy
    · cases h
  · rename_i t r ho
    split at h
    · rename_i kt et ht
      split at h
      · injection h with h
        subst h
        exact snd_mkmap ho ht (.inl ⟨rfl, rfl⟩)
      · rename_i x
        simp only [Option.bind_eq_bind, Option.bind_eq_some_iff, Option.some.injEq] at h
        obtain ⟨y, hy, rfl⟩ := h
        exact snd_mkmap ho ht (.inr ⟨x, rfl, hy⟩)
    · cases h
  · rename_i t m k ok ho
    split at h
    · rename_i kt et ht
      simp only [Option.bind_eq_bind, Option.bind_eq_some_iff, Option.some.injEq] at h
      obtain ⟨b, hb, z, hz, m', hm, k', hk, rfl⟩ := h
      exact snd_lookup ho ht hb hz hm hk
    · cases h
  · rename_i t x ho
    split at h
    · rename_i kt et ht
      simp only [Option.bind_eq_bind, Option.bind_eq_some_iff, Option.some.injEq] at h
      obtain ⟨x', hx, rfl⟩ := h
      exact snd_range ho ht hx
    · cases h
  · rename_i x ho
    simp only [Option.bind_eq_bind, Option.bind_eq_some_iff, Option.some.injEq] at h
    obtain ⟨x', hx, rfl⟩ := h
    exact snd_entry ho hx
  · rename_i t x ho
    split at h
    · rename_i n e ht
      simp only [Option.bind_eq_bind, Option.bind_eq_some_iff] at h
      obtain ⟨u, hu, h⟩ := h
      split at h
      · cases h
      · rename_i hn
        simp only [Option.bind_eq_some_iff, Option.some.injEq] at h
        obtain ⟨y, hy, rfl⟩ := h
        exact snd_slArr ho ht hu hn hy
    · cases h
  · rename_i t m k v ho
    split at h
    · rename_i kt et ht
      simp only [Option.bind_eq_bind, Option.bind_eq_some_iff, Option.some.injEq] at h
      obtain ⟨b, hb, m', hm, k', hk, v', hv, rfl⟩ := h
      exact snd_mapup (.inl ho) ht hb hm hk hv
    · cases h
  · rename_i t m k v ho
    split at h
    · rename_i kt et ht
      simp only [Option.bind_eq_bind, Option.bind_eq_some_iff, Option.some.injEq] at h
      obtain ⟨b, hb, m', hm, k', hk, v', hv, rfl⟩ := h
      exact snd_mapup (.inr ho) ht hb hm hk hv
    · cases h
  · rename_i c ho
    split at h
    · rename_i f x hc ha
      split at h
      · rename_i hf
        simp only [Option.bind_eq_bind, Option.bind_eq_some_iff, Option.some.injEq] at h
        obtain ⟨y, hy, rfl⟩ := h
        exact snd_noEscape ho hc (list_one' ha) hf hy
      · split at h
        · rename_i hf
          simp only [Option.bind_eq_bind, Option.bind_eq_some_iff, Option.some.injEq] at h
          obtain ⟨e, he, y, hy, rfl⟩ := h
          exact snd_mkNZ ho hc (list_one' ha) hf he hy
        · cases h
    · rename_i f x y hc ha
      split at h
      · rename_i hf
        simp only [Option.bind_eq_bind, Option.bind_eq_some_iff, Option.some.injEq] at h
        obtain ⟨x', hx, y', hy, rfl⟩ := h
        exact snd_idxB ho hc (list_two' ha) hf hx hy
      · split at h
        · rename_i hf
          simp only [Option.bind_eq_bind, Option.bind_eq_some_iff, Option.some.injEq] at h
          obtain ⟨x', hx, y', hy, rfl⟩ := h
          exact snd_cntB ho hc (list_two' ha) hf hx hy
        · cases h
    · rename_i x hc ha
      simp only [Option.bind_eq_bind, Option.bind_eq_some_iff, Option.some.injEq] at h
      obtain ⟨y, hy, rfl⟩ := h
      exact snd_sdata ho hc (list_one' ha) hy
    · rename_i m k hc ha
      split at h
      · rename_i kt et ht
        simp only [Option.bind_eq_bind, Option.bind_eq_some_iff, Option.some.injEq] at h
        obtain ⟨b, hb, m', hm, k', hk, rfl⟩ := h
        obtain ⟨t, hat, ht⟩ := Option.bind_eq_some_iff.1 ht
        exact snd_mapdel ho hc (list_two' ha) hat ht hb hm hk
      · cases h
    · rename_i m hc ha
      split at h
      · rename_i kt et ht
        simp only [Option.bind_eq_bind, Option.bind_eq_some_iff, Option.some.injEq] at h
        obtain ⟨m', hm, rfl⟩ := h
        obtain ⟨t, hat, ht⟩ := Option.bind_eq_some_iff.1 ht
        exact snd_maplen ho hc (list_one' ha) hat ht hm
      · cases h
    · rename_i x n hc ha
      split at h
      · rename_i pt it hat
        split at h
        · rename_i e hp
          simp only [Option.bind_eq_bind, Option.bind_eq_some_iff] at h
          obtain ⟨k, hk, h⟩ := h
          split at h
          · rename_i hk1
            subst hk1
            simp only [Option.bind_eq_some_iff, Option.some.injEq] at h
            obtain ⟨y, hy, n', hn, rfl⟩ := h
            exact snd_ustr ho hc (list_two' ha) (list_two' hat) hp hk hy hn
          · cases h
        · cases h
      · cases h
    · rename_i s x hc ha
      split at h
      · rename_i t ti hat
        split at h
        · rename_i e ht hti
          simp only [Option.bind_eq_bind, Option.bind_eq_some_iff] at h
          obtain ⟨u, hu, b, hb, z, hz, h⟩ := h
          split at h
          · rename_i hub
            obtain ⟨rfl, rfl⟩ := hub
            simp only [Option.bind_eq_some_iff, Option.some.injEq] at h
            obtain ⟨s', hs, x', hx, rfl⟩ := h
            exact snd_appendS ho hc (list_two' ha) (list_two' hat) ht hti hu hb hz hs hx
          · cases h
        · cases h
      · cases h
    · cases h
  · cases h
end
end Go.Gev
