/- What is proved here: what a filter of fractions comes to, step by step. No program in sight. -/
import Derived.Test.YtdgdlpnhhelgnaaFS
import Derived.Test.YtdgdlpnhhelgnaaPlusP
import Derived.Test.YtdgdlpnhhelgnaaAppend
namespace Go.Proofs.Ytdgdlpnhhelgnaa
open Go.RowKit

/-- The sum of the first k products of a row, or the first error. -/
def fsumN (l t : List (Int × Int)) (i : Nat) : Nat → FR
  | 0 => ⟨0, 1, 0⟩
  | k + 1 => if (fsumN l t i k).e = 0 then fplus (fsumN l t i k).n (fsumN l t i k).d (t.getD k (0, 0)).1 (t.getD k (0, 0)).2 (l.getD (i + k) (0, 0)).1 (l.getD (i + k) (0, 0)).2 else fsumN l t i k
theorem fsumN_succ {l t : List (Int × Int)} {i k : Nat} (hk : k < t.length) (hl : i + k < l.length) (h : (fsumN l t i k).e = 0) :
    fsumN l t i (k + 1) = fplus (fsumN l t i k).n (fsumN l t i k).d t[k].1 t[k].2 l[i + k].1 l[i + k].2 := by
  rw [fsumN, if_pos h]
  simp [List.getD, hk, hl]
theorem fsumN_stop {l t : List (Int × Int)} {i k : Nat} (h : ¬ (fsumN l t i k).e = 0) : ∀ m, k ≤ m → fsumN l t i m = fsumN l t i k
  | 0, hm => by obtain rfl : k = 0 := by omega
                rfl
  | m + 1, hm => by
    rcases Nat.lt_or_ge k (m + 1) with h1 | h1
    · have ih := fsumN_stop h m (by omega)
      rw [fsumN, if_neg (by rw [ih]; exact h), ih]
    · obtain rfl : k = m + 1 := by omega
      rfl
theorem fsumN_i64 (l t : List (Int × Int)) (i : Nat) : ∀ k, i64 (fsumN l t i k).n ∧ i64 (fsumN l t i k).d
  | 0 => ⟨i64_0, (⟨by decide, by decide⟩ : i64 1)⟩
  | k + 1 => by
    rw [fsumN]; split
    · exact fplus_i64 _ _ _ _ _ _
    · exact fsumN_i64 l t i k
/-- The first m rows, or the first error. -/
def frows (l t : List (Int × Int)) : Nat → List (Int × Int) × Int
  | 0 => ([], 0)
  | m + 1 => if (frows l t m).2 = 0 then (if (fsumN l t m t.length).e = 0 then ((frows l t m).1 ++ [((fsumN l t m t.length).n, (fsumN l t m t.length).d)], 0) else ([], (fsumN l t m t.length).e)) else frows l t m
theorem frows_succ {l t : List (Int × Int)} {m : Nat} (h : (frows l t m).2 = 0) (h2 : (fsumN l t m t.length).e = 0) : frows l t (m + 1) = ((frows l t m).1 ++ [((fsumN l t m t.length).n, (fsumN l t m t.length).d)], 0) := by
  rw [frows, if_pos h, if_pos h2]
theorem frows_err {l t : List (Int × Int)} {m : Nat} (h : (frows l t m).2 = 0) (h2 : ¬ (fsumN l t m t.length).e = 0) : frows l t (m + 1) = ([], (fsumN l t m t.length).e) := by
  rw [frows, if_pos h, if_neg h2]
theorem frows_stop {l t : List (Int × Int)} {k : Nat} (h : ¬ (frows l t k).2 = 0) : ∀ m, k ≤ m → frows l t m = frows l t k
  | 0, hm => by obtain rfl : k = 0 := by omega
                rfl
  | m + 1, hm => by
    rcases Nat.lt_or_ge k (m + 1) with h1 | h1
    · have ih := frows_stop h m (by omega)
      rw [frows, if_neg (by rw [ih]; exact h), ih]
    · obtain rfl : k = m + 1 := by omega
      rfl
theorem frows_len {l t : List (Int × Int)} : ∀ m, (frows l t m).2 = 0 → (frows l t m).1.length = m
  | 0, _ => rfl
  | m + 1, h => by
    by_cases h1 : (frows l t m).2 = 0
    · by_cases h2 : (fsumN l t m t.length).e = 0
      · rw [frows_succ h1 h2, List.length_append, frows_len m h1]; rfl
      · rw [frows_err h1 h2] at h; exact absurd h h2
    · rw [frows, if_neg h1] at h; exact absurd h h1
/-- A filtered list, and an error. -/
def ffilt (l t : List (Int × Int)) : List (Int × Int) × Int :=
  if 256 < l.length ∨ 20 < t.length then ([], 4) else if t.length = 0 ∨ fvalid l = false ∨ fvalid t = false then ([], 8) else frows l t (l.length + 1 - t.length)
/-- An error in a row ends the whole. -/
theorem frows_end {l t : List (Int × Int)} {m k N : Nat} (h : (frows l t m).2 = 0) (hk : k < t.length) (he : ¬ (fsumN l t m (k + 1)).e = 0) (hm : m < N) : frows l t N = ([], (fsumN l t m (k + 1)).e) := by
  have h1 := fsumN_stop he t.length hk
  have h2 : ¬ (fsumN l t m t.length).e = 0 := by rw [h1]; exact he
  have h3 := frows_err h h2
  rw [frows_stop (k := m + 1) (by rw [h3]; exact h2) N hm, h3, h1]
theorem sf_nil (w : World) : SF w (.slice none 0 0) [] := ⟨none, 0, rfl, Nat.le_refl _, by decide, fun i x hx => by simp [fcs] at hx⟩
end Go.Proofs.Ytdgdlpnhhelgnaa
