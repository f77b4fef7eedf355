/- What is proved here: plain facts on fractions: what Make gives for small numbers, and how the order reads. No program in sight. -/
import Derived.Test.YtdgdlpnhhelgnaaFracB
namespace Go.Proofs.Ytdgdlpnhhelgnaa
open Go.RowKit

theorem natAbs_div_gcd (a b : Nat) (hb : 0 < b) : Nat.gcd (a / Nat.gcd a b) (b / Nat.gcd a b) = 1 := Nat.gcd_div_gcd_div_gcd_of_pos_right hb

theorem fchk_ok {n d : Int} (h1 : 1 ≤ d) (h2 : d ≤ 1000000000000000000) (h3 : -1000000000000000000 ≤ n) (h4 : n ≤ 1000000000000000000) (hg : Nat.gcd n.natAbs d.natAbs = 1) : fchk n d = 0 := by
  rw [fchk_gcd h1 h2 h3 h4, if_pos hg]

/-- The fraction of two numbers within 10^18, the second one greater than 0. -/
theorem fmk_ok {num den : Int} (h1 : 1 ≤ den) (h2 : den ≤ 1000000000000000000) (h3 : -1000000000000000000 ≤ num) (h4 : num ≤ 1000000000000000000) :
    (fmk num den).e = 0 ∧ fchk (fmk num den).n (fmk num den).d = 0 ∧ (fmk num den).n * den = num * (fmk num den).d := by
  rw [fmk_ne (by omega)]
  have hg : 0 < Nat.gcd num.natAbs den.natAbs := Nat.gcd_pos_of_pos_right _ (by omega)
  have e1 : (num.natAbs : Int) / ((Nat.gcd num.natAbs den.natAbs : Nat) : Int) = ((num.natAbs / Nat.gcd num.natAbs den.natAbs : Nat) : Int) := (Int.natCast_ediv _ _).symm
  have e2 : (den.natAbs : Int) / ((Nat.gcd num.natAbs den.natAbs : Nat) : Int) = ((den.natAbs / Nat.gcd num.natAbs den.natAbs : Nat) : Int) := (Int.natCast_ediv _ _).symm
  rw [e1, e2]
  have q1 := Nat.div_le_self num.natAbs (Nat.gcd num.natAbs den.natAbs)
  have q2 := Nat.div_le_self den.natAbs (Nat.gcd num.natAbs den.natAbs)
  have hc := natAbs_div_gcd num.natAbs den.natAbs (by omega)
  have m1 := Nat.div_mul_cancel (Nat.gcd_dvd_left num.natAbs den.natAbs)
  have m2 := Nat.div_mul_cancel (Nat.gcd_dvd_right num.natAbs den.natAbs)
  have hpos : 0 < den.natAbs / Nat.gcd num.natAbs den.natAbs := Nat.div_pos (Nat.gcd_le_right _ (by omega)) hg
  generalize Nat.gcd num.natAbs den.natAbs = g at *
  generalize num.natAbs / g = u at *
  generalize den.natAbs / g = v at *
  rw [bld_yes (by omega)]
  have hden : (den : Int) = (v : Int) * g := by rw [← Int.natCast_mul, m2]; omega
  have hd : decide (den < 0) = false := by simp; omega
  rw [hd]
  by_cases hn : num < 0
  · have hnum : num = -((u : Int) * g) := by rw [← Int.natCast_mul, m1]; omega
    have hd : decide (num < 0) = true := by simpa using hn
    rw [hd]
    simp only [bne_iff_ne, ne_eq, Bool.true_eq_false, not_false_eq_true, if_true]
    refine ⟨trivial, fchk_ok (by omega) (by omega) (by omega) (by omega) (by simpa using hc), ?_⟩
    rw [hden, hnum, Int.neg_mul, Int.neg_mul, Int.mul_comm (v : Int) g, Int.mul_assoc]
  · have hnum : num = (u : Int) * g := by rw [← Int.natCast_mul, m1]; omega
    have hd : decide (num < 0) = false := by simpa using hn
    rw [hd]
    simp only [bne_self_eq_false, Bool.false_eq_true, if_false]
    refine ⟨trivial, fchk_ok (by omega) (by omega) (by omega) (by omega) (by simpa using hc), ?_⟩
    rw [hden, hnum, Int.mul_comm (v : Int) g, Int.mul_assoc]

theorem fcmp_ge {an ad bn bd : Int} : 0 ≤ fcmp an ad bn bd ↔ bn * ad ≤ an * bd := by
  unfold fcmp; split
  · omega
  · split <;> omega
theorem fcmp_gt_iff {an ad bn bd : Int} : 0 < fcmp an ad bn bd ↔ bn * ad < an * bd := by
  unfold fcmp; split
  · omega
  · split <;> omega
/-- A fraction that equals num / den compares as num / den. -/
theorem frac_le {a b num den fn fd : Int} (hb : 1 ≤ b) (hd : 1 ≤ den) (h : a * den = num * b) : fn * b ≤ a * fd ↔ fn * den ≤ num * fd := by
  have e1 : (fn * b) * den = (fn * den) * b := by rw [Int.mul_assoc, Int.mul_comm b, ← Int.mul_assoc]
  have e2 : (a * fd) * den = (num * fd) * b := by rw [Int.mul_assoc, Int.mul_comm fd, ← Int.mul_assoc, h, Int.mul_assoc, Int.mul_comm b, ← Int.mul_assoc]
  constructor
  · intro h1
    have h2 := Int.mul_le_mul_of_nonneg_right h1 (show 0 ≤ den by omega)
    rw [e1, e2] at h2
    exact Int.le_of_mul_le_mul_right h2 (by omega)
  · intro h1
    have h2 := Int.mul_le_mul_of_nonneg_right h1 (show 0 ≤ b by omega)
    rw [← e1, ← e2] at h2
    exact Int.le_of_mul_le_mul_right h2 (by omega)
theorem fr_i64 {n d : Int} (h : fchk n d = 0) : i64 n ∧ i64 d := by
  obtain ⟨u1, u2, u3, u4, _⟩ := fok_of h
  exact ⟨⟨by omega, by omega⟩, ⟨by omega, by omega⟩⟩

end Go.Proofs.Ytdgdlpnhhelgnaa
