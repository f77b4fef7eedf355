/- What is proved here: contracts of functions and plain facts, several texts in one; each one says ahead what it proves, and its conditions. -/
import Derived.Test.YthlcmlngmcoknaaC02
import Derived.Test.YthlcmlngmcoknaaC01
import Derived.Test.YthlcmlngmcoknaaC03
/- What is proved here: the contracts of frac.build, wider and both. Condition: the numbers are 64-bit integers. -/
namespace Go.Proofs.Ythlcmlngmcoknaa
open Go.RowKit

/-- A fraction's numbers, and an error. -/
structure FR where
  n : Int
  d : Int
  e : Int
/-- The fraction of two numbers without a common divisor: error 16 if one is greater than 10^18. -/
def bld (neg : Bool) (num den : Int) : FR := if 1000000000000000000 < num ∨ 1000000000000000000 < den then ⟨0, 0, 16⟩ else ⟨if neg then -num else num, den, 0⟩
theorem bld_no {neg : Bool} {num den : Int} (h : 1000000000000000000 < num ∨ 1000000000000000000 < den) : bld neg num den = ⟨0, 0, 16⟩ := if_pos h
theorem bld_yes {neg : Bool} {num den : Int} (h : ¬ (1000000000000000000 < num ∨ 1000000000000000000 < den)) : bld neg num den = ⟨if neg then -num else num, den, 0⟩ := if_neg h

theorem build_any (neg : Bool) (num den : Int) (w : World) (h1 : 0 ≤ num) (h2 : num ≤ 18446744073709551615) (h3 : 0 ≤ den) (h4 : den ≤ 18446744073709551615) :
    Calls Try.prog 155 #[.bool neg, .int .u64 num, .int .u64 den] w fun e w' => e = .returned (.tuple #[.agg #[.int .i64 (bld neg num den).n, .int .i64 (bld neg num den).d], .int .i64 (bld neg num den).e]) ∧ Below w.heap.size w w' := by
  by_cases h : 1000000000000000000 < num ∨ 1000000000000000000 < den
  · have H := Lib.hid (bld_no (neg := neg) h)
    go_enter Try.func155, Try.ntmps155
    go_wp2
    all_goals first | (exfalso; omega) | skip
    all_goals exact bodyPost_ret (v := .tuple #[.agg #[.int .i64 0, .int .i64 0], .int .i64 16]) (by simp [results, Try.results155, go_sem]) rfl ⟨by rw [H.out], (Below.refl _ _).alloc (Nat.le_refl _) _⟩
  · have H := Lib.hid (bld_yes (neg := neg) h)
    have n1 : num ≤ 1000000000000000000 := by omega
    have n2 : den ≤ 1000000000000000000 := by omega
    cases neg
    · go_enter Try.func155, Try.ntmps155
      go_wp2
      exact bodyPost_ret (v := .tuple #[.agg #[.int .i64 num, .int .i64 den], .int .i64 0]) (by simp [results, Try.results155, go_sem]) rfl ⟨by rw [H.out]; rfl, ba2 _ _ _⟩
    · go_enter Try.func155, Try.ntmps155
      go_wp2
      exact bodyPost_ret (v := .tuple #[.agg #[.int .i64 (-num), .int .i64 den], .int .i64 0]) (by simp [results, Try.results155, go_sem]) rfl ⟨by rw [H.out]; rfl, ba2 _ _ _⟩

/-- The fraction of num / den. -/
def fmk (num den : Int) : FR := if den = 0 then ⟨0, 0, 18⟩ else bld (decide (num < 0) != decide (den < 0)) ((num.natAbs : Int) / (Nat.gcd num.natAbs den.natAbs : Nat)) ((den.natAbs : Int) / (Nat.gcd num.natAbs den.natAbs : Nat))
theorem fmk_0 (num : Int) : fmk num 0 = ⟨0, 0, 18⟩ := if_pos rfl
theorem fmk_ne {num den : Int} (h : ¬ den = 0) : fmk num den = bld (decide (num < 0) != decide (den < 0)) ((num.natAbs : Int) / (Nat.gcd num.natAbs den.natAbs : Nat)) ((den.natAbs : Int) / (Nat.gcd num.natAbs den.natAbs : Nat)) := if_neg h
theorem quo_bd (a g : Nat) (ha : a ≤ 9223372036854775808) : 0 ≤ (a : Int) / (g : Int) ∧ (a : Int) / (g : Int) ≤ 18446744073709551615 := by
  rw [← Int.natCast_ediv]
  have := Nat.div_le_self a g
  generalize a / g = q at *
  omega
theorem wrap_quo (a g : Nat) (ha : a ≤ 9223372036854775808) : IntKind.u64.wrap ((a : Int) / (g : Int)) = (a : Int) / (g : Int) := by
  have h := quo_bd a g ha
  generalize (a : Int) / (g : Int) = q at *
  simp only [IntKind.wrap, IntKind.bits, IntKind.signed]; simp; omega
theorem tdiv_quo (a g : Nat) : (a : Int).tdiv (g : Int) = (a : Int) / (g : Int) := Int.tdiv_eq_ediv_of_nonneg (by omega)
/-- What compares two numbers: 1, 0 or -1. -/
def cmpN (x y : Nat) : Int := if y < x then 1 else if x = y then 0 else -1
def wid (ah al bh bl : Nat) : Int := if bh < ah ∨ (ah = bh ∧ bl < al) then 1 else if ah = bh ∧ al = bl then 0 else -1
theorem wid_cmp (x y : Nat) : wid (x / 18446744073709551616) (x % 18446744073709551616) (y / 18446744073709551616) (y % 18446744073709551616) = cmpN x y := by
  unfold wid cmpN
  have hx := Nat.div_add_mod x 18446744073709551616
  have hy := Nat.div_add_mod y 18446744073709551616
  have hx2 := Nat.mod_lt x (show 18446744073709551616 > 0 by decide)
  have hy2 := Nat.mod_lt y (show 18446744073709551616 > 0 by decide)
  generalize x / 18446744073709551616 = a at *
  generalize x % 18446744073709551616 = b at *
  generalize y / 18446744073709551616 = c at *
  generalize y % 18446744073709551616 = d at *
  by_cases h1 : y < x
  · rw [if_pos h1, if_pos (by omega)]
  · rw [if_neg h1, if_neg (by omega)]
    by_cases h2 : x = y
    · rw [if_pos h2, if_pos (by omega)]
    · rw [if_neg h2, if_neg (by omega)]

set_option maxHeartbeats 800000 in
theorem wider_any (ah al bh bl : Nat) (w : World) :
    Calls Try.prog 163 #[.int .u64 ah, .int .u64 al, .int .u64 bh, .int .u64 bl] w fun e w' => e = .returned (.int .i64 (wid ah al bh bl)) ∧ w = w' := by
  rcases Nat.lt_trichotomy ah bh with h | h | h
  · have H : Hid (wid ah al bh bl = -1) := by show _ = _; unfold wid; rw [if_neg (by omega), if_neg (by omega)]
    have b1 : ((ah : Int) == (bh : Int)) = false := by simp; omega
    go_enter Try.func163, Try.ntmps163
    go_wp2
    go_ret
    exact ⟨by rw [H.out]; rfl, rfl⟩
  · subst h
    rcases Nat.lt_trichotomy al bl with h | h | h
    · have H : Hid (wid ah al ah bl = -1) := by show _ = _; unfold wid; rw [if_neg (by omega), if_neg (by omega)]
      have b1 : ((al : Int) == (bl : Int)) = false := by simp; omega
      go_enter Try.func163, Try.ntmps163
      go_wp2
      go_ret
      exact ⟨by rw [H.out]; rfl, rfl⟩
    · subst h
      have H : Hid (wid ah al ah al = 0) := by show _ = _; unfold wid; rw [if_neg (by omega), if_pos (by omega)]
      go_enter Try.func163, Try.ntmps163
      go_wp2
      go_ret
      exact ⟨by rw [H.out]; rfl, rfl⟩
    · have H : Hid (wid ah al ah bl = 1) := by show _ = _; unfold wid; rw [if_pos (by omega)]
      have b1 : ((al : Int) == (bl : Int)) = false := by simp; omega
      go_enter Try.func163, Try.ntmps163
      go_wp2
      go_ret
      exact ⟨by rw [H.out]; rfl, rfl⟩
  · have H : Hid (wid ah al bh bl = 1) := by show _ = _; unfold wid; rw [if_pos (by omega)]
    have b1 : ((ah : Int) == (bh : Int)) = false := by simp; omega
    go_enter Try.func163, Try.ntmps163
    go_wp2
    go_ret
    exact ⟨by rw [H.out]; rfl, rfl⟩

theorem mul64_any (x y : Nat) (hx : x ≤ 18446744073709551615) (hy : y ≤ 18446744073709551615) (w : World) :
    Calls Try.prog 161 #[.int .u64 x, .int .u64 y] w fun e w' => e = .returned (.tuple #[.int .u64 ((x * y / 18446744073709551616 : Nat) : Int), .int .u64 ((x * y % 18446744073709551616 : Nat) : Int)]) ∧ w = w' :=
  (Try.bits_Mul64 x y (by omega) (by omega) w).mono fun e w' ⟨h1, h2⟩ => ⟨h1, h2.symm⟩

theorem mul64_as (x y : Nat) (hi lo : Int) (w : World) (hx : x ≤ 18446744073709551615) (hy : y ≤ 18446744073709551615) (h1 : ((x * y / 18446744073709551616 : Nat) : Int) = hi) (h2 : ((x * y % 18446744073709551616 : Nat) : Int) = lo) :
    Calls Try.prog 161 #[.int .u64 x, .int .u64 y] w fun e w' => e = .returned (.tuple #[.int .u64 hi, .int .u64 lo]) ∧ w = w' := by
  subst h1 h2; exact mul64_any x y hx hy w

/-- The order of two fractions. -/
def fcmp (an ad bn bd : Int) : Int := if an * bd < bn * ad then -1 else if an * bd = bn * ad then 0 else 1
theorem fcmp_lt {an ad bn bd : Int} (h1 : an < 0) (h2 : 0 ≤ bn) (h3 : 1 ≤ ad) (h4 : 1 ≤ bd) : fcmp an ad bn bd = -1 := by
  unfold fcmp
  have a1 : an * bd < 0 := Int.mul_neg_of_neg_of_pos h1 (by omega)
  have a2 : 0 ≤ bn * ad := Int.mul_nonneg h2 (by omega)
  rw [if_pos (by omega)]
theorem fcmp_gt {an ad bn bd : Int} (h1 : 0 ≤ an) (h2 : bn < 0) (h3 : 1 ≤ ad) (h4 : 1 ≤ bd) : fcmp an ad bn bd = 1 := by
  unfold fcmp
  have a1 : bn * ad < 0 := Int.mul_neg_of_neg_of_pos h2 (by omega)
  have a2 : 0 ≤ an * bd := Int.mul_nonneg h1 (by omega)
  rw [if_neg (by omega), if_neg (by omega)]
theorem fcmp_nn {an ad bn bd : Int} (h1 : 0 ≤ an) (h2 : 0 ≤ bn) (h3 : 1 ≤ ad) (h4 : 1 ≤ bd) : fcmp an ad bn bd = cmpN (an.natAbs * bd.natAbs) (bn.natAbs * ad.natAbs) := by
  have e1 : an * bd = ((an.natAbs * bd.natAbs : Nat) : Int) := by rw [Int.natCast_mul, Int.natAbs_of_nonneg h1, Int.natAbs_of_nonneg (by omega)]
  have e2 : bn * ad = ((bn.natAbs * ad.natAbs : Nat) : Int) := by rw [Int.natCast_mul, Int.natAbs_of_nonneg h2, Int.natAbs_of_nonneg (by omega)]
  unfold fcmp cmpN
  rw [e1, e2]
  generalize an.natAbs * bd.natAbs = x
  generalize bn.natAbs * ad.natAbs = y
  by_cases h1 : y < x
  · rw [if_neg (by omega), if_neg (by omega), if_pos h1]
  · by_cases h2 : x = y
    · rw [if_neg (by omega), if_pos (by omega), if_neg h1, if_pos h2]
    · rw [if_pos (by omega), if_neg h1, if_neg h2]
theorem fcmp_neg {an ad bn bd : Int} (h1 : an < 0) (h2 : bn < 0) (h3 : 1 ≤ ad) (h4 : 1 ≤ bd) : fcmp an ad bn bd = -cmpN (an.natAbs * bd.natAbs) (bn.natAbs * ad.natAbs) := by
  have e1 : an * bd = -((an.natAbs * bd.natAbs : Nat) : Int) := by rw [Int.natCast_mul, Int.ofNat_natAbs_of_nonpos (by omega), Int.natAbs_of_nonneg (by omega), Int.neg_mul, Int.neg_neg]
  have e2 : bn * ad = -((bn.natAbs * ad.natAbs : Nat) : Int) := by rw [Int.natCast_mul, Int.ofNat_natAbs_of_nonpos (by omega), Int.natAbs_of_nonneg (by omega), Int.neg_mul, Int.neg_neg]
  unfold fcmp cmpN
  rw [e1, e2]
  generalize an.natAbs * bd.natAbs = x
  generalize bn.natAbs * ad.natAbs = y
  by_cases h1 : y < x
  · rw [if_pos (by omega), if_pos h1]
  · by_cases h2 : x = y
    · rw [if_neg (by omega), if_pos (by omega), if_neg h1, if_pos h2]; rfl
    · rw [if_neg (by omega), if_neg (by omega), if_neg h1, if_neg h2]; rfl
theorem cmpN_bd (x y : Nat) : -1 ≤ cmpN x y ∧ cmpN x y ≤ 1 := by
  unfold cmpN; split
  · omega
  · split <;> omega

/-- The error of two fractions. -/
def fboth (an ad bn bd : Int) : Int := if fchk an ad = 0 then fchk bn bd else fchk an ad
theorem fboth_0 {an ad bn bd : Int} (h : fchk an ad = 0) : fboth an ad bn bd = fchk bn bd := if_pos h
theorem fboth_1 {an ad bn bd : Int} (h : ¬ fchk an ad = 0) : fboth an ad bn bd = fchk an ad := if_neg h
theorem frboth_any (an ad bn bd : Int) (w : World) (h1 : i64 an) (h2 : i64 ad) (h3 : i64 bn) (h4 : i64 bd) :
    Calls Try.prog 147 #[.agg #[.int .i64 an, .int .i64 ad], .agg #[.int .i64 bn, .int .i64 bd]] w fun e w' => e = .returned (.int .i64 (fboth an ad bn bd)) ∧ Below w.heap.size w w' := by
  by_cases p : fchk an ad = 0
  · have H := Lib.hid (fboth_0 (bn := bn) (bd := bd) p)
    have b1 : (fchk an ad != 0) = false := by simp [p]
    clear p
    go_enter Try.func147, Try.ntmps147
    go_wp2_with fail
    refine (check_any _ _ _ h1 h2).mono ?_
    rintro e w1 ⟨rfl, hb1⟩
    obtain ⟨c1, f1⟩ := bcell hb1
    have z1 := (hb1).size
    try simp at z1
    try simp at c1
    try simp at f1
    go_wp2_with fail
    refine (check_any _ _ _ h3 h4).mono ?_
    rintro e w2 ⟨rfl, hb2⟩
    go_wp2
    go_ret
    exact ⟨by rw [H.out]; try rfl, below_to (below_to (ba2 _ _ _) hb1) hb2⟩
  · have H := Lib.hid (fboth_1 (bn := bn) (bd := bd) p)
    have b1 : (fchk an ad != 0) = true := by simp [p]
    clear p
    go_enter Try.func147, Try.ntmps147
    go_wp2_with fail
    refine (check_any _ _ _ h1 h2).mono ?_
    rintro e w1 ⟨rfl, hb1⟩
    go_wp2
    go_ret
    exact ⟨by rw [H.out]; try rfl, below_to (ba2 _ _ _) hb1⟩

theorem fok_of {n d : Int} (h : fchk n d = 0) : 1 ≤ d ∧ d ≤ 1000000000000000000 ∧ -1000000000000000000 ≤ n ∧ n ≤ 1000000000000000000 ∧ Nat.gcd n.natAbs d.natAbs = 1 := by
  unfold fchk at h
  split at h
  · rename_i h'
    unfold fokB at h'
    simp only [Bool.and_eq_true, decide_eq_true_eq, beq_iff_eq] at h'
    omega
  · omega
theorem fboth_ok {an ad bn bd : Int} (h : fboth an ad bn bd = 0) : fchk an ad = 0 ∧ fchk bn bd = 0 := by
  unfold fboth at h; split at h
  · rename_i p; exact ⟨p, h⟩
  · rename_i p; exact absurd h p
/-- The order of two fractions that may be invalid. -/
def fcmpZ (an ad bn bd : Int) : Int := if fboth an ad bn bd = 0 then fcmp an ad bn bd else 0
end Go.Proofs.Ythlcmlngmcoknaa
