/- What is proved here: plain facts on filling row by row and column by column. No program in sight. -/
import Derived.Test.YtpkggglifahioaaFillD
namespace Go.Proofs.Ytpkggglifahioaa
open Go.RowKit

theorem cnt_pre (xs : List Bool) (C t : Nat) : ∀ k, k ≤ t * C → cnt xs (· / C) t k = 0
  | 0, _ => rfl
  | k + 1, h => by
    rw [cnt_other (by
      have : k / C < t := Nat.div_lt_of_lt_mul (by rw [Nat.mul_comm]; omega)
      show k / C ≠ t
      omega)]
    exact cnt_pre xs C t k (by omega)
theorem cnt_post (xs : List Bool) (C t : Nat) (hC : 0 < C) : ∀ d, cnt xs (· / C) t ((t + 1) * C + d) = cnt xs (· / C) t ((t + 1) * C)
  | 0 => rfl
  | d + 1 => by
    rw [← Nat.add_assoc, cnt_other (by
      have : t + 1 ≤ ((t + 1) * C + d) / C := (Nat.le_div_iff_mul_le hC).2 (by omega)
      show ((t + 1) * C + d) / C ≠ t
      omega)]
    exact cnt_post xs C t hC d
theorem div_row {t c C : Nat} (h : c < C) : (t * C + c) / C = t := by
  rw [Nat.mul_comm, Nat.mul_add_div (by omega), Nat.div_eq_of_lt h]; rfl
theorem mod_row {t c C : Nat} (h : c < C) : (t * C + c) % C = c := by
  rw [Nat.mul_comm, Nat.mul_add_mod, Nat.mod_eq_of_lt h]
theorem row_lt {t c T C : Nat} (h : t < T) (h2 : c < C) : t * C + c < T * C := by
  have := Nat.mul_le_mul_right C (show t + 1 ≤ T by omega)
  rw [Nat.add_mul] at this; omega
theorem cnt_row (xs : List Bool) {T C t : Nat} (hC : 0 < C) (ht : t < T) (hn : xs.length = T * C) : cnt xs (· / C) t (t * C + C) = cnt xs (· / C) t xs.length := by
  have h := Nat.mul_le_mul_right C (show t + 1 ≤ T by omega)
  have := cnt_post xs C t hC (T * C - (t + 1) * C)
  rw [Nat.add_sub_cancel' h] at this
  rw [hn, this, Nat.add_mul, Nat.one_mul]
theorem cnt_rowS (xs : List Bool) {C t c : Nat} (h : c < C) : cnt xs (· / C) t (t * C + (c + 1)) = cnt xs (· / C) t (t * C + c) + if xs.getD (t * C + c) false = true then 1 else 0 := by
  rw [← Nat.add_assoc, cnt]
  simp only [div_row h, and_true]
theorem cnt_colI (xs : List Bool) {C t c : Nat} (h : c < C) : ∀ d, d ≤ C → cnt xs (· % C) c (t * C + d) = cnt xs (· % C) c (t * C) + if c < d ∧ xs.getD (t * C + c) false = true then 1 else 0
  | 0, _ => by simp
  | d + 1, hd => by
    rw [← Nat.add_assoc, cnt, cnt_colI xs h d (by omega), mod_row (show d < C by omega)]
    by_cases h1 : d = c
    · subst h1
      simp
    · have e : c < d + 1 ↔ c < d := by omega
      simp only [h1, and_false, if_false, Nat.add_zero, e]
theorem cnt_colS (xs : List Bool) {C t c : Nat} (h : c < C) : cnt xs (· % C) c ((t + 1) * C) = cnt xs (· % C) c (t * C) + if xs.getD (t * C + c) false = true then 1 else 0 := by
  have := cnt_colI xs (t := t) h C (Nat.le_refl _)
  rw [Nat.add_mul, Nat.one_mul, this]
  simp [h]

/-- The cells after the rows below t were filled, and of row t the cells below c. -/
def fR (C : Nat) (xs : List Bool) (fn fd : Int) (t c j : Nat) : Bool :=
  xs.getD j false || ((decide (j / C < t) || (decide (j / C = t) && decide (j % C < c))) && enB fn fd (cnt xs (· / C) (j / C) xs.length) C)
/-- The cells after all rows and the columns below c were filled, and of column c the cells of rows below t. -/
def fC (T C : Nat) (xs : List Bool) (fn fd : Int) (c t j : Nat) : Bool :=
  fR C xs fn fd T 0 j || ((decide (j % C < c) || (decide (j % C = c) && decide (j / C < t))) && enB fn fd (cnt xs (· % C) (j % C) xs.length) T)
theorem fR_zero (C : Nat) (xs : List Bool) (fn fd : Int) (j : Nat) : fR C xs fn fd 0 0 j = xs.getD j false := by simp [fR]
theorem fR_skip {C : Nat} {xs : List Bool} {fn fd : Int} {t : Nat} (h : enB fn fd (cnt xs (· / C) t xs.length) C = false) (j : Nat) : fR C xs fn fd (t + 1) 0 j = fR C xs fn fd t 0 j := by
  unfold fR
  by_cases hj : j / C = t
  · rw [hj, h]; simp
  · have e : decide (j / C < t + 1) = decide (j / C < t) := decide_eq_decide.2 (by omega)
    rw [e]; simp
theorem fR_next {C : Nat} {xs : List Bool} {fn fd : Int} {t : Nat} (hC : 0 < C) (j : Nat) : fR C xs fn fd (t + 1) 0 j = fR C xs fn fd t C j := by
  unfold fR
  have e : (decide (j / C < t + 1) || decide (j / C = t + 1) && decide (j % C < 0)) = (decide (j / C < t) || decide (j / C = t) && decide (j % C < C)) := by
    have h1 : decide (j % C < C) = true := by simpa using Nat.mod_lt j hC
    have h2 : decide (j % C < 0) = false := by simp
    rw [h1, h2]
    simp only [Bool.and_false, Bool.or_false, Bool.and_true]
    rw [Bool.eq_iff_iff]; simp; omega
  rw [e]
theorem idx_eq {C j t c : Nat} (hc : c < C) : j = t * C + c ↔ j / C = t ∧ j % C = c := by
  constructor
  · rintro rfl; exact ⟨div_row hc, mod_row hc⟩
  · rintro ⟨rfl, rfl⟩
    have := Nat.div_add_mod j C
    rw [Nat.mul_comm] at this; omega
theorem fR_step {C : Nat} {xs : List Bool} {fn fd : Int} {t c : Nat} (hc : c < C) (h : enB fn fd (cnt xs (· / C) t xs.length) C = true) (j : Nat) : fR C xs fn fd t (c + 1) j = (fR C xs fn fd t c j || j == t * C + c) := by
  unfold fR
  by_cases hj : j = t * C + c
  · obtain ⟨h1, h2⟩ := (idx_eq hc).1 hj
    rw [h1, h2, h, hj]; simp
  · have e : (j == t * C + c) = false := by simpa using hj
    have e2 : (decide (j / C = t) && decide (j % C < c + 1)) = (decide (j / C = t) && decide (j % C < c)) := by
      by_cases h1 : j / C = t
      · have : j % C ≠ c := fun h2 => hj ((idx_eq hc).2 ⟨h1, h2⟩)
        simp only [h1, decide_true, Bool.true_and]
        exact decide_eq_decide.2 (by omega)
      · simp [h1]
    rw [e, e2, Bool.or_false]
theorem fC_zero (T C : Nat) (xs : List Bool) (fn fd : Int) (j : Nat) : fC T C xs fn fd 0 0 j = fR C xs fn fd T 0 j := by simp [fC]
theorem fC_skip {T C : Nat} {xs : List Bool} {fn fd : Int} {c : Nat} (h : enB fn fd (cnt xs (· % C) c xs.length) T = false) (j : Nat) : fC T C xs fn fd (c + 1) 0 j = fC T C xs fn fd c 0 j := by
  unfold fC
  by_cases hj : j % C = c
  · rw [hj, h]; simp
  · have e : decide (j % C < c + 1) = decide (j % C < c) := decide_eq_decide.2 (by omega)
    rw [e]; simp
theorem fC_next {T C : Nat} {xs : List Bool} {fn fd : Int} {c : Nat} (j : Nat) (hj : j / C < T) : fC T C xs fn fd (c + 1) 0 j = fC T C xs fn fd c T j := by
  unfold fC
  have e : (decide (j % C < c + 1) || decide (j % C = c + 1) && decide (j / C < 0)) = (decide (j % C < c) || decide (j % C = c) && decide (j / C < T)) := by
    have h1 : decide (j / C < T) = true := by simpa using hj
    have h2 : decide (j / C < 0) = false := by simp
    rw [h1, h2]
    simp only [Bool.and_false, Bool.or_false, Bool.and_true]
    rw [Bool.eq_iff_iff]; simp; omega
  rw [e]
theorem fC_step {T C : Nat} {xs : List Bool} {fn fd : Int} {c t : Nat} (hc : c < C) (h : enB fn fd (cnt xs (· % C) c xs.length) T = true) (j : Nat) : fC T C xs fn fd c (t + 1) j = (fC T C xs fn fd c t j || j == t * C + c) := by
  unfold fC
  by_cases hj : j = t * C + c
  · obtain ⟨h1, h2⟩ := (idx_eq hc).1 hj
    rw [h1, h2, h, hj]; simp
  · have e : (j == t * C + c) = false := by simpa using hj
    have e2 : (decide (j % C = c) && decide (j / C < t + 1)) = (decide (j % C = c) && decide (j / C < t)) := by
      by_cases h1 : j % C = c
      · have : j / C ≠ t := fun h2 => hj ((idx_eq hc).2 ⟨h2, h1⟩)
        simp only [h1, decide_true, Bool.true_and]
        exact decide_eq_decide.2 (by omega)
      · simp [h1]
    rw [e, e2, Bool.or_false]
theorem fC_end {T C : Nat} {xs : List Bool} {fn fd : Int} (hC : 0 < C) (hn : xs.length = T * C) : bv xs.length (fC T C xs fn fd C 0) = (fillL T C xs fn fd).map Value.bool := by
  unfold bv fillL
  congr 1
  refine List.map_congr_left fun j hj => ?_
  have hj := List.mem_range.1 hj
  have h1 : j / C < T := Nat.div_lt_of_lt_mul (by rw [Nat.mul_comm, ← hn]; exact hj)
  have h2 := Nat.mod_lt j hC
  unfold fC fR fillB
  simp [h1, h2]

end Go.Proofs.Ytpkggglifahioaa
