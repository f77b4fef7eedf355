/- What is proved here: contracts of functions and plain facts, several texts in one; each one says ahead what it proves, and its conditions. -/
import Derived.Test.YtpjhiojdnebgoaaC05
/- What is proved here: the greatest whole number that is not greater than a fraction, and the rest, in plain Lean. No program in sight. -/
namespace Go.Proofs.Ytpjhiojdnebgoaa
open Go.RowKit

theorem flo_lt {n d : Int} (h : 1 ≤ d) (hn : n.tmod d < 0) : n.tdiv d - 1 = n / d := by
  have h1 := Int.tdiv_eq_ediv (a := n) (b := d)
  have h2 := Int.tmod_eq_emod (a := n) (b := d)
  split at h1
  · rename_i h3
    rw [if_pos h3] at h2
    have := Int.emod_nonneg n (show d ≠ 0 by omega)
    omega
  · rw [Int.sign_eq_one_of_pos (by omega)] at h1
    omega
theorem flo_ge {n d : Int} (h : 1 ≤ d) (hn : ¬ n.tmod d < 0) : n.tdiv d = n / d := by
  have h1 := Int.tdiv_eq_ediv (a := n) (b := d)
  have h2 := Int.tmod_eq_emod (a := n) (b := d)
  split at h1
  · omega
  · rename_i h3
    rw [if_neg h3] at h2
    have := Int.emod_lt_of_pos n (show 0 < d by omega)
    omega
theorem flo_bd {n d : Int} (h : 1 ≤ d) (h1 : -1000000000000000000 ≤ n) (h2 : n ≤ 1000000000000000000) : -1000000000000000000 ≤ n / d ∧ n / d ≤ 1000000000000000000 := by
  constructor
  · rw [Int.le_ediv_iff_mul_le (by omega)]
    have := Int.mul_le_mul_of_nonneg_left (show (1 : Int) ≤ d from h) (show (0 : Int) ≤ 1000000000000000000 by decide)
    omega
  · by_cases hn : 0 ≤ n
    · have := Int.ediv_le_self (a := n) d hn; omega
    · have := Int.ediv_neg_of_neg_of_pos (a := n) (b := d) (by omega) (by omega); omega
/-- Floor, and the rest. -/
def fspl (n d : Int) : Int × Int × Int × Int := if fchk n d = 0 then (n / d, (fsub n d (n / d) 1).n, (fsub n d (n / d) 1).d, 0) else (0, 0, 0, 8)
theorem fspl_0 {n d : Int} (h : fchk n d = 0) : fspl n d = (n / d, (fsub n d (n / d) 1).n, (fsub n d (n / d) 1).d, 0) := if_pos h
theorem fspl_8 {n d : Int} (h : ¬ fchk n d = 0) : fspl n d = (0, 0, 0, 8) := if_neg h
theorem whole_chk {x : Int} (h1 : -1000000000000000000 ≤ x) (h2 : x ≤ 1000000000000000000) : fchk x 1 = 0 := fchk_ok (by decide) (by decide) h1 h2 (by simp)
/-- The rest is in range. -/
theorem spl_e {n d : Int} (h : fchk n d = 0) : (fsub n d (n / d) 1).e = 0 := by
  obtain ⟨u1, u2, u3, u4, _⟩ := fok_of h
  have b := flo_bd u1 u3 u4
  rw [fsub_0 (fboth_of h (whole_chk b.1 b.2)), pack_e]
  rw [Rat.divInt_sub_divInt _ _ (by omega) (by decide)]
  have e1 : n * 1 - n / d * d = n % d := by have := Int.emod_def n d; rw [Int.mul_comm d] at this; omega
  rw [e1, Int.mul_one]
  have m1 := Int.emod_nonneg n (show d ≠ 0 by omega)
  have m2 := Int.emod_lt_of_pos n (show 0 < d by omega)
  have := (fmk_ok (num := n % d) (den := d) u1 u2 (by omega) (by omega)).1
  rw [fmk_pack (by omega)] at this
  exact pack_e.1 this
end Go.Proofs.Ytpjhiojdnebgoaa
