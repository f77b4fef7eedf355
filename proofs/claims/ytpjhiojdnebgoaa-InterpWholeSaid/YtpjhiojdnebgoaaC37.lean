/- What is proved here: contracts of functions and plain facts, several texts in one; each one says ahead what it proves, and its conditions. -/
import Derived.Test.YtpjhiojdnebgoaaC18
/- What is proved here: what joining two filters comes to, step by step. No program in sight. -/
namespace Go.Proofs.Ytpjhiojdnebgoaa
open Go.RowKit

/-- The rows that f gives, up to m, or the first error. -/
def rowsOf (f : Nat → FR) : Nat → List (Int × Int) × Int
  | 0 => ([], 0)
  | m + 1 => if (rowsOf f m).2 = 0 then (if (f m).e = 0 then ((rowsOf f m).1 ++ [((f m).n, (f m).d)], 0) else ([], (f m).e)) else rowsOf f m
theorem rows_succ {f : Nat → FR} {m : Nat} (h : (rowsOf f m).2 = 0) (h2 : (f m).e = 0) : rowsOf f (m + 1) = ((rowsOf f m).1 ++ [((f m).n, (f m).d)], 0) := by
  rw [rowsOf, if_pos h, if_pos h2]
theorem rows_err {f : Nat → FR} {m : Nat} (h : (rowsOf f m).2 = 0) (h2 : ¬ (f m).e = 0) : rowsOf f (m + 1) = ([], (f m).e) := by
  rw [rowsOf, if_pos h, if_neg h2]
theorem rows_stop {f : Nat → FR} {k : Nat} (h : ¬ (rowsOf f k).2 = 0) : ∀ m, k ≤ m → rowsOf f m = rowsOf f k
  | 0, hm => by obtain rfl : k = 0 := by omega
                rfl
  | m + 1, hm => by
    rcases Nat.lt_or_ge k (m + 1) with h1 | h1
    · have ih := rows_stop h m (by omega)
      rw [rowsOf, if_neg (by rw [ih]; exact h), ih]
    · obtain rfl : k = m + 1 := by omega
      rfl
theorem rows_len {f : Nat → FR} : ∀ m, (rowsOf f m).2 = 0 → (rowsOf f m).1.length = m
  | 0, _ => rfl
  | m + 1, h => by
    by_cases h1 : (rowsOf f m).2 = 0
    · by_cases h2 : (f m).e = 0
      · rw [rows_succ h1 h2, List.length_append, rows_len m h1]; rfl
      · rw [rows_err h1 h2] at h; exact absurd h h2
    · rw [rowsOf, if_neg h1] at h; exact absurd h h1
/-- The sum of the products of a row of a joined filter, of the first j elements of a. -/
def jsumN (a b : List (Int × Int)) (k : Nat) : Nat → FR
  | 0 => ⟨0, 1, 0⟩
  | j + 1 => if (jsumN a b k j).e = 0 ∧ j ≤ k ∧ k - j < b.length then fplus (jsumN a b k j).n (jsumN a b k j).d (a.getD j (0, 0)).1 (a.getD j (0, 0)).2 (b.getD (k - j) (0, 0)).1 (b.getD (k - j) (0, 0)).2 else jsumN a b k j
theorem jsumN_succ {a b : List (Int × Int)} {k j : Nat} (hj : j < a.length) (hk : j ≤ k) (hb : k - j < b.length) (h : (jsumN a b k j).e = 0) :
    jsumN a b k (j + 1) = fplus (jsumN a b k j).n (jsumN a b k j).d a[j].1 a[j].2 b[k - j].1 b[k - j].2 := by
  rw [jsumN, if_pos ⟨h, hk, hb⟩]
  simp [List.getD, hj, hb]
theorem jsumN_skip {a b : List (Int × Int)} {k j : Nat} (h : ¬ (j ≤ k ∧ k - j < b.length)) : jsumN a b k (j + 1) = jsumN a b k j := by
  rw [jsumN, if_neg (fun h' => h h'.2)]
theorem jsumN_stop {a b : List (Int × Int)} {k j : Nat} (h : ¬ (jsumN a b k j).e = 0) : ∀ m, j ≤ m → jsumN a b k m = jsumN a b k j
  | 0, hm => by obtain rfl : j = 0 := by omega
                rfl
  | m + 1, hm => by
    rcases Nat.lt_or_ge j (m + 1) with h1 | h1
    · have ih := jsumN_stop h m (by omega)
      rw [jsumN, if_neg (by rw [ih]; exact fun h' => h h'.1), ih]
    · obtain rfl : j = m + 1 := by omega
      rfl
theorem jsumN_low {a b : List (Int × Int)} {k : Nat} : ∀ j, j + b.length ≤ k + 1 → jsumN a b k j = ⟨0, 1, 0⟩
  | 0, _ => rfl
  | j + 1, h => by rw [jsumN_skip (by omega), jsumN_low j (by omega)]
theorem jsumN_high {a b : List (Int × Int)} {k j : Nat} (hj : k < j) : ∀ m, j ≤ m → jsumN a b k m = jsumN a b k j
  | 0, hm => by obtain rfl : j = 0 := by omega
                rfl
  | m + 1, hm => by
    rcases Nat.lt_or_ge j (m + 1) with h1 | h1
    · rw [jsumN_skip (by omega), jsumN_high hj m (by omega)]
    · obtain rfl : j = m + 1 := by omega
      rfl
theorem jsumN_i64 (a b : List (Int × Int)) (k : Nat) : ∀ j, i64 (jsumN a b k j).n ∧ i64 (jsumN a b k j).d
  | 0 => ⟨i64_0, (⟨by decide, by decide⟩ : i64 1)⟩
  | j + 1 => by
    rw [jsumN]; split
    · exact fplus_i64 _ _ _ _ _ _
    · exact jsumN_i64 a b k j
/-- A row of a joined filter. -/
def jrow (a b : List (Int × Int)) (k : Nat) : FR := jsumN a b k a.length
/-- A joined filter, and an error. -/
def fjoin (a b : List (Int × Int)) : List (Int × Int) × Int :=
  if 20 < a.length ∨ 20 < b.length ∨ 21 < a.length + b.length then ([], 4) else if a.length = 0 ∨ b.length = 0 ∨ fvalid a = false ∨ fvalid b = false then ([], 8) else rowsOf (jrow a b) (a.length + b.length - 1)
theorem join_end {a b : List (Int × Int)} {k j N : Nat} (h : (rowsOf (jrow a b) k).2 = 0) (hj : j < a.length) (he : ¬ (jsumN a b k (j + 1)).e = 0) (hm : k < N) : rowsOf (jrow a b) N = ([], (jsumN a b k (j + 1)).e) := by
  have h1 : jrow a b k = jsumN a b k (j + 1) := jsumN_stop he a.length hj
  have h2 : ¬ (jrow a b k).e = 0 := by rw [h1]; exact he
  have h3 := rows_err h h2
  rw [rows_stop (k := k + 1) (by rw [h3]; exact h2) N hm, h3, h1]
end Go.Proofs.Ytpjhiojdnebgoaa
