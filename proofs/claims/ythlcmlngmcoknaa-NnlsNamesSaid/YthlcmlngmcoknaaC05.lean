/- What is proved here: contracts of functions and plain facts, several texts in one; each one says ahead what it proves, and its conditions. -/
import Derived.Test.YthlcmlngmcoknaaC04
import Derived.Test.YthlcmlngmcoknaaC01
/- What is proved here: plain facts on fractions: what Make gives for small numbers, and how the order reads. No program in sight. -/
namespace Go.Proofs.Ythlcmlngmcoknaa
open Go.RowKit

theorem natAbs_div_gcd (a b : Nat) (hb : 0 < b) : Nat.gcd (a / Nat.gcd a b) (b / Nat.gcd a b) = 1 := Nat.gcd_div_gcd_div_gcd_of_pos_right hb

theorem fchk_ok {n d : Int} (h1 : 1 ≤ d) (h2 : d ≤ 1000000000000000000) (h3 : -1000000000000000000 ≤ n) (h4 : n ≤ 1000000000000000000) (hg : Nat.gcd n.natAbs d.natAbs = 1) : fchk n d = 0 := by
  rw [fchk_gcd h1 h2 h3 h4, if_pos hg]

/-- The fraction of two numbers within 10^18, the second one greater than 0. -/
theorem fmk_ok {num den : Int} (h1 : 1 ≤ den) (h2 : den ≤ 1000000000000000000) (h3 : -1000000000000000000 ≤ num) (h4 : num ≤ 1000000000000000000) :
    (fmk num den).e = 0 ∧ fchk (fmk num den).n (fmk num den).d = 0 ∧ (fmk num den).n * den = num * (fmk num den).d := by
  rw [fmk_ne (by omega)]
  have hg : 0 < Nat.gcd num.natAbs den.natAbs := Nat.gcd_pos_of_pos_right _ (by omega)
  have e1 : (num.natAbs : Int) / ((Nat.gcd num.natAbs den.natAbs : Nat) : Int) = ((num.natAbs / Nat.gcd num.natAbs den.natAbs : Nat) : Int) := (Int.natCast_ediv _ _).symm
  have e2 : (den.natAbs : Int) / ((Nat.gcd num.natAbs den.natAbs : Nat) : Int) = ((den.natAbs / Nat.gcd num.natAbs den.natAbs : Nat) : Int) := (Int.natCast_ediv _ _).symm
  rw [e1, e2]
  have q1 := Nat.div_le_self num.natAbs (Nat.gcd num.natAbs den.natAbs)
  have q2 := Nat.div_le_self den.natAbs (Nat.gcd num.natAbs den.natAbs)
  have hc := natAbs_div_gcd num.natAbs den.natAbs (by omega)
  have m1 := Nat.div_mul_cancel (Nat.gcd_dvd_left num.natAbs den.natAbs)
  have m2 := Nat.div_mul_cancel (Nat.gcd_dvd_right num.natAbs den.natAbs)
  have hpos : 0 < den.natAbs / Nat.gcd num.natAbs den.natAbs := Nat.div_pos (Nat.gcd_le_right _ (by omega)) hg
  generalize Nat.gcd num.natAbs den.natAbs = g at *
  generalize num.natAbs / g = u at *
  generalize den.natAbs / g = v at *
  rw [bld_yes (by omega)]
  have hden : (den : Int) = (v : Int) * g := by rw [← Int.natCast_mul, m2]; omega
  have hd : decide (den < 0) = false := by simp; omega
  rw [hd]
  by_cases hn : num < 0
  · have hnum : num = -((u : Int) * g) := by rw [← Int.natCast_mul, m1]; omega
    have hd : decide (num < 0) = true := by simpa using hn
    rw [hd]
    simp only [bne_iff_ne, ne_eq, Bool.true_eq_false, not_false_eq_true, if_true]
    refine ⟨trivial, fchk_ok (by omega) (by omega) (by omega) (by omega) (by simpa using hc), ?_⟩
    rw [hden, hnum, Int.neg_mul, Int.neg_mul, Int.mul_comm (v : Int) g, Int.mul_assoc]
  · have hnum : num = (u : Int) * g := by rw [← Int.natCast_mul, m1]; omega
    have hd : decide (num < 0) = false := by simpa using hn
    rw [hd]
    simp only [bne_self_eq_false, Bool.false_eq_true, if_false]
    refine ⟨trivial, fchk_ok (by omega) (by omega) (by omega) (by omega) (by simpa using hc), ?_⟩
    rw [hden, hnum, Int.mul_comm (v : Int) g, Int.mul_assoc]

theorem fcmp_ge {an ad bn bd : Int} : 0 ≤ fcmp an ad bn bd ↔ bn * ad ≤ an * bd := by
  unfold fcmp; split
  · omega
  · split <;> omega
theorem fcmp_gt_iff {an ad bn bd : Int} : 0 < fcmp an ad bn bd ↔ bn * ad < an * bd := by
  unfold fcmp; split
  · omega
  · split <;> omega
/-- A fraction that equals num / den compares as num / den. -/
theorem frac_le {a b num den fn fd : Int} (hb : 1 ≤ b) (hd : 1 ≤ den) (h : a * den = num * b) : fn * b ≤ a * fd ↔ fn * den ≤ num * fd := by
  have e1 : (fn * b) * den = (fn * den) * b := by rw [Int.mul_assoc, Int.mul_comm b, ← Int.mul_assoc]
  have e2 : (a * fd) * den = (num * fd) * b := by rw [Int.mul_assoc, Int.mul_comm fd, ← Int.mul_assoc, h, Int.mul_assoc, Int.mul_comm b, ← Int.mul_assoc]
  constructor
  · intro h1
    have h2 := Int.mul_le_mul_of_nonneg_right h1 (show 0 ≤ den by omega)
    rw [e1, e2] at h2
    exact Int.le_of_mul_le_mul_right h2 (by omega)
  · intro h1
    have h2 := Int.mul_le_mul_of_nonneg_right h1 (show 0 ≤ b by omega)
    rw [← e1, ← e2] at h2
    exact Int.le_of_mul_le_mul_right h2 (by omega)
theorem fr_i64 {n d : Int} (h : fchk n d = 0) : i64 n ∧ i64 d := by
  obtain ⟨u1, u2, u3, u4, _⟩ := fok_of h
  exact ⟨⟨by omega, by omega⟩, ⟨by omega, by omega⟩⟩

end Go.Proofs.Ythlcmlngmcoknaa

/- What is proved here: the product of two fractions, as numbers. No program in sight. -/
namespace Go.Proofs.Ythlcmlngmcoknaa
open Go.RowKit

/-- The product of two fractions. -/
def fmulV (an ad bn bd : Int) : FR :=
  bld (decide (an < 0) != decide (bn < 0)) ((an.natAbs / Nat.gcd an.natAbs bd.natAbs * (bn.natAbs / Nat.gcd bn.natAbs ad.natAbs) : Nat) : Int) ((ad.natAbs / Nat.gcd bn.natAbs ad.natAbs * (bd.natAbs / Nat.gcd an.natAbs bd.natAbs) : Nat) : Int)
end Go.Proofs.Ythlcmlngmcoknaa

/- What is proved here: fractions as rational numbers: what Make, and the sum, the difference, the product and the quotient of two fractions come to. No program in sight. -/
namespace Go.Proofs.Ythlcmlngmcoknaa
open Go.RowKit

/-- A rational number whose numbers are within 10^18. -/
def inr (x : Rat) : Prop := x.num.natAbs ≤ 1000000000000000000 ∧ x.den ≤ 1000000000000000000
instance (x : Rat) : Decidable (inr x) := by unfold inr; infer_instance
/-- A rational number as a fraction: error 16 if it is out of range. -/
def pack (x : Rat) : FR := if inr x then ⟨x.num, x.den, 0⟩ else ⟨0, 0, 16⟩
theorem pack_ok {x : Rat} (h : inr x) : pack x = ⟨x.num, x.den, 0⟩ := if_pos h
theorem pack_no {x : Rat} (h : ¬ inr x) : pack x = ⟨0, 0, 16⟩ := if_neg h
theorem pack_e {x : Rat} : (pack x).e = 0 ↔ inr x := by
  by_cases h : inr x
  · rw [pack_ok h]; simp [h]
  · rw [pack_no h]; simp [h]
theorem fchk_inr {x : Rat} (h : inr x) : fchk x.num x.den = 0 := by
  have := x.den_pos
  have h1 := h.1
  have h2 := h.2
  exact fchk_ok (by omega) (by omega) (by omega) (by omega) (by simpa using x.reduced)
theorem Q_ok {n d : Int} (h : fchk n d = 0) : (Rat.divInt n d).num = n ∧ ((Rat.divInt n d).den : Int) = d ∧ inr (Rat.divInt n d) := by
  obtain ⟨u1, u2, u3, u4, u5⟩ := fok_of h
  obtain ⟨D, rfl⟩ := Int.eq_ofNat_of_zero_le (show 0 ≤ d by omega)
  have e : (⟨n, D, by omega, by simpa using u5⟩ : Rat) = Rat.divInt n (D : Int) := Rat.mk_eq_divInt
  rw [← e]
  exact ⟨rfl, rfl, by show _ ≤ _; simp only; omega, by show _ ≤ _; simp only; omega⟩
theorem Q_self (x : Rat) : Rat.divInt x.num (x.den : Int) = x := Rat.num_divInt_den x
theorem Q_mul {num den : Int} (h : den ≠ 0) : num * ((Rat.divInt num den).den : Int) = (Rat.divInt num den).num * den := by
  have hd := (Rat.divInt num den).den_pos
  exact (Rat.divInt_eq_divInt_iff h (by omega)).1 (Q_self (Rat.divInt num den)).symm

/-- The fraction of num / den from any two numbers without a common divisor that have the same ratio. -/
theorem fmk_of {num den : Int} {u v : Nat} (hd : den ≠ 0) (hc : Nat.gcd u v = 1) (h : num.natAbs * v = u * den.natAbs) :
    fmk num den = bld (decide (num < 0) != decide (den < 0)) (u : Int) (v : Int) := by
  have hv : 0 < v := by
    rcases Nat.eq_zero_or_pos v with h0 | h0
    · subst h0
      have hu : u = 0 := by
        rw [Nat.mul_zero] at h
        rcases Nat.mul_eq_zero.1 h.symm with h1 | h1
        · exact h1
        · omega
      subst hu
      simp at hc
    · exact h0
  have d1 : v ∣ den.natAbs := by
    have : v ∣ u * den.natAbs := ⟨num.natAbs, by rw [← h, Nat.mul_comm]⟩
    exact Nat.Coprime.dvd_of_dvd_mul_left (Nat.Coprime.symm hc) this
  obtain ⟨k, hk⟩ := d1
  have hk0 : 0 < k := by
    rcases Nat.eq_zero_or_pos k with h0 | h0
    · subst h0; simp at hk; omega
    · exact h0
  have hn : num.natAbs = u * k := by
    rw [hk, ← Nat.mul_assoc, Nat.mul_comm u v, Nat.mul_assoc, Nat.mul_comm v] at h
    exact Nat.eq_of_mul_eq_mul_right hv h
  rw [fmk_ne hd, hn, hk, Nat.gcd_mul_right, hc, Nat.one_mul, ← Int.natCast_ediv, ← Int.natCast_ediv, Nat.mul_div_cancel _ hk0, Nat.mul_div_cancel _ hk0]

theorem bld_sign {neg neg' : Bool} {u v : Int} (h : u = 0 ∨ neg = neg') : bld neg u v = bld neg' u v := by
  rcases h with h | h
  · subst h; unfold bld; simp
  · rw [h]
theorem bld_pack {x : Rat} {neg : Bool} (h : x.num = 0 ∨ neg = decide (x.num < 0)) : bld neg (x.num.natAbs : Int) (x.den : Int) = pack x := by
  rw [bld_sign (neg' := decide (x.num < 0)) (by rcases h with h | h; exact .inl (by omega); exact .inr h)]
  by_cases hi : inr x
  · rw [pack_ok hi, bld_yes (by have := hi.1; have := hi.2; omega)]
    have : (if decide (x.num < 0) = true then -(x.num.natAbs : Int) else (x.num.natAbs : Int)) = x.num := by
      by_cases hn : x.num < 0
      · rw [decide_eq_true hn, if_pos rfl]; omega
      · rw [decide_eq_false hn, if_neg (by decide)]; omega
    rw [this]
  · rw [pack_no hi, bld_no]
    unfold inr at hi
    omega
theorem fmk_pack {num den : Int} (h : den ≠ 0) : fmk num den = pack (Rat.divInt num den) := by
  have hm := Q_mul (num := num) h
  have hd := (Rat.divInt num den).den_pos
  have hr := (Rat.divInt num den).reduced
  rw [fmk_of (u := (Rat.divInt num den).num.natAbs) (v := (Rat.divInt num den).den) h hr (by
    have := congrArg Int.natAbs hm
    rwa [Int.natAbs_mul, Int.natAbs_mul, Int.natAbs_natCast] at this)]
  refine bld_pack ?_
  generalize Rat.divInt num den = x at *
  have hs := congrArg Int.sign hm
  rw [Int.sign_mul, Int.sign_mul, Int.sign_eq_one_of_pos (by omega : (0 : Int) < (x.den : Int)), Int.mul_one] at hs
  generalize x.num = m at *
  rcases Int.lt_trichotomy m 0 with h1 | h1 | h1
  · right
    rw [Int.sign_eq_neg_one_of_neg h1] at hs
    rcases Int.lt_trichotomy den 0 with h2 | h2 | h2
    · rw [Int.sign_eq_neg_one_of_neg h2] at hs
      have := Int.sign_eq_one_iff_pos.1 (by omega : num.sign = 1)
      rw [decide_eq_true h1, decide_eq_true h2, decide_eq_false (by omega)]; rfl
    · omega
    · rw [Int.sign_eq_one_of_pos h2] at hs
      have := Int.sign_eq_neg_one_iff_neg.1 (by omega : num.sign = -1)
      rw [decide_eq_true h1, decide_eq_true this, decide_eq_false (by omega)]; rfl
  · exact .inl h1
  · right
    rw [Int.sign_eq_one_of_pos h1] at hs
    rcases Int.lt_trichotomy den 0 with h2 | h2 | h2
    · rw [Int.sign_eq_neg_one_of_neg h2] at hs
      have := Int.sign_eq_neg_one_iff_neg.1 (by omega : num.sign = -1)
      rw [decide_eq_true this, decide_eq_true h2, decide_eq_false (by omega)]; rfl
    · omega
    · rw [Int.sign_eq_one_of_pos h2] at hs
      have := Int.sign_eq_one_iff_pos.1 (by omega : num.sign = 1)
      rw [decide_eq_false (show ¬ num < 0 by omega), decide_eq_false (show ¬ den < 0 by omega), decide_eq_false (show ¬ m < 0 by omega)]; rfl

/-- The product of two fractions is the rational one. -/
theorem fmulV_pack {an ad bn bd : Int} (h1 : fchk an ad = 0) (h2 : fchk bn bd = 0) : fmulV an ad bn bd = pack (Rat.divInt an ad * Rat.divInt bn bd) := by
  obtain ⟨u1, u2, u3, u4, u5⟩ := fok_of h1
  obtain ⟨v1, v2, v3, v4, v5⟩ := fok_of h2
  rw [Rat.divInt_mul_divInt, ← fmk_pack (Int.mul_ne_zero (by omega) (by omega))]
  unfold fmulV
  have gp : 0 < Nat.gcd an.natAbs bd.natAbs := Nat.gcd_pos_of_pos_right _ (by omega)
  have hp : 0 < Nat.gcd bn.natAbs ad.natAbs := Nat.gcd_pos_of_pos_right _ (by omega)
  have c1 := Nat.gcd_div_gcd_div_gcd_of_pos_right (n := an.natAbs) (show 0 < bd.natAbs by omega)
  have c2 := Nat.gcd_div_gcd_div_gcd_of_pos_right (n := bn.natAbs) (show 0 < ad.natAbs by omega)
  have m1 := Nat.div_mul_cancel (Nat.gcd_dvd_left an.natAbs bd.natAbs)
  have m2 := Nat.div_mul_cancel (Nat.gcd_dvd_right an.natAbs bd.natAbs)
  have m3 := Nat.div_mul_cancel (Nat.gcd_dvd_left bn.natAbs ad.natAbs)
  have m4 := Nat.div_mul_cancel (Nat.gcd_dvd_right bn.natAbs ad.natAbs)
  generalize Nat.gcd an.natAbs bd.natAbs = g at *
  generalize Nat.gcd bn.natAbs ad.natAbs = h at *
  generalize ea : an.natAbs / g = p at *
  generalize eb : bn.natAbs / h = q at *
  generalize ec : ad.natAbs / h = r at *
  generalize ed : bd.natAbs / g = s at *
  have cpr : Nat.Coprime p r := by
    have : Nat.Coprime (p * g) (r * h) := by rw [m1, m4]; exact u5
    exact Nat.Coprime.coprime_dvd_left ⟨g, rfl⟩ (Nat.Coprime.coprime_dvd_right ⟨h, rfl⟩ this)
  have cqs : Nat.Coprime q s := by
    have : Nat.Coprime (q * h) (s * g) := by rw [m3, m2]; exact v5
    exact Nat.Coprime.coprime_dvd_left ⟨h, rfl⟩ (Nat.Coprime.coprime_dvd_right ⟨g, rfl⟩ this)
  have cps : Nat.Coprime p s := c1
  have cqr : Nat.Coprime q r := c2
  have hc : Nat.Coprime (p * q) (r * s) := Nat.Coprime.mul_left (Nat.Coprime.mul_right cpr cps) (Nat.Coprime.mul_right cqr cqs)
  rw [fmk_of (u := p * q) (v := r * s) (Int.mul_ne_zero (by omega) (by omega)) hc (by
    rw [Int.natAbs_mul, Int.natAbs_mul, ← m1, ← m2, ← m3, ← m4]; grind)]
  refine bld_sign ?_
  have d0 : ¬ ad * bd < 0 := by have := Int.mul_pos (show 0 < ad by omega) (show 0 < bd by omega); omega
  by_cases z1 : an = 0
  · left
    subst z1
    have hz : p * g = 0 := by rw [m1]; rfl
    have : p = 0 := by
      rcases Nat.mul_eq_zero.1 hz with h | h
      · exact h
      · omega
    subst this; simp
  · by_cases z2 : bn = 0
    · left
      subst z2
      have hz : q * h = 0 := by rw [m3]; rfl
      have : q = 0 := by
        rcases Nat.mul_eq_zero.1 hz with h | h
        · exact h
        · omega
      subst this; simp
    · right
      rcases Int.lt_or_gt_of_ne z1 with s1 | s1 <;> rcases Int.lt_or_gt_of_ne z2 with s2 | s2
      · have := Int.mul_pos_of_neg_of_neg s1 s2
        have e1 : decide (an < 0) = true := by simpa using s1
        have e2 : decide (bn < 0) = true := by simpa using s2
        have e3 : decide (an * bn < 0) = false := by simp; omega
        have e4 : decide (ad * bd < 0) = false := by simpa using d0
        rw [e1, e2, e3, e4]; try rfl
      · have := Int.mul_neg_of_neg_of_pos s1 s2
        have e1 : decide (an < 0) = true := by simpa using s1
        have e2 : decide (bn < 0) = false := by simp; omega
        have e3 : decide (an * bn < 0) = true := by simpa using this
        have e4 : decide (ad * bd < 0) = false := by simpa using d0
        rw [e1, e2, e3, e4]; try rfl
      · have := Int.mul_neg_of_pos_of_neg s1 s2
        have e1 : decide (an < 0) = false := by simp; omega
        have e2 : decide (bn < 0) = true := by simpa using s2
        have e3 : decide (an * bn < 0) = true := by simpa using this
        have e4 : decide (ad * bd < 0) = false := by simpa using d0
        rw [e1, e2, e3, e4]; try rfl
      · have := Int.mul_pos s1 s2
        have e1 : decide (an < 0) = false := by simp; omega
        have e2 : decide (bn < 0) = false := by simp; omega
        have e3 : decide (an * bn < 0) = false := by simp; omega
        have e4 : decide (ad * bd < 0) = false := by simpa using d0
        rw [e1, e2, e3, e4]; try rfl

/-- The sum's number has no divisor in common with one denominator's own part. -/
theorem sum_coprime {A B : Int} {d a b : Nat} (hab : Nat.Coprime a b) (hA : Nat.Coprime A.natAbs (a * d)) : Nat.Coprime (A * b + B * a).natAbs a := by
  have hp1 := Nat.gcd_dvd_left (A * b + B * a).natAbs a
  have hp2 := Nat.gcd_dvd_right (A * b + B * a).natAbs a
  show Nat.gcd _ _ = 1
  generalize Nat.gcd (A * b + B * a).natAbs a = p at *
  have i1 : (p : Int) ∣ A * b + B * a := Int.natAbs_dvd_natAbs.1 hp1
  have i2 : (p : Int) ∣ B * a := Int.dvd_trans (Int.natCast_dvd_natCast.2 hp2) (Int.dvd_mul_left _ _)
  have i3 : (p : Int) ∣ A * b := (Int.dvd_iff_dvd_of_dvd_add i1).2 i2
  have i4 : p ∣ A.natAbs * b := by have := Int.natAbs_dvd_natAbs.2 i3; rwa [Int.natAbs_mul, Int.natAbs_natCast, Int.natAbs_natCast] at this
  have c : Nat.Coprime p A.natAbs := (Nat.Coprime.coprime_dvd_right (Nat.dvd_trans hp2 ⟨d, rfl⟩) hA).symm
  have i5 : p ∣ b := c.dvd_of_dvd_mul_left i4
  have := Nat.dvd_gcd hp2 i5
  rw [hab] at this
  exact Nat.eq_one_of_dvd_one this

/-- The sum of two fractions: S is the absolute value of the sum's number. -/
theorem sum_pack {an ad bn bd : Int} {neg : Bool} (h1 : fchk an ad = 0) (h2 : fchk bn bd = 0) (S : Nat)
    (hS : an * ((bd.natAbs / Nat.gcd ad.natAbs bd.natAbs : Nat) : Int) + bn * ((ad.natAbs / Nat.gcd ad.natAbs bd.natAbs : Nat) : Int) = if neg then -(S : Int) else (S : Int)) :
    bld neg ((S / Nat.gcd (Nat.gcd ad.natAbs bd.natAbs) S : Nat) : Int) ((ad.natAbs / Nat.gcd ad.natAbs bd.natAbs * (bd.natAbs / Nat.gcd (Nat.gcd ad.natAbs bd.natAbs) S) : Nat) : Int) = pack (Rat.divInt an ad + Rat.divInt bn bd) := by
  obtain ⟨u1, u2, u3, u4, u5⟩ := fok_of h1
  obtain ⟨v1, v2, v3, v4, v5⟩ := fok_of h2
  rw [Rat.divInt_add_divInt _ _ (by omega) (by omega), ← fmk_pack (Int.mul_ne_zero (by omega) (by omega))]
  obtain ⟨x, rfl⟩ := Int.eq_ofNat_of_zero_le (show 0 ≤ ad by omega)
  obtain ⟨y, rfl⟩ := Int.eq_ofNat_of_zero_le (show 0 ≤ bd by omega)
  simp only [Int.natAbs_natCast] at *
  have dp : 0 < Nat.gcd x y := Nat.gcd_pos_of_pos_right _ (by omega)
  have cab : Nat.Coprime (x / Nat.gcd x y) (y / Nat.gcd x y) := Nat.gcd_div_gcd_div_gcd_of_pos_right (by omega)
  have mx := Nat.div_mul_cancel (Nat.gcd_dvd_left x y)
  have my := Nat.div_mul_cancel (Nat.gcd_dvd_right x y)
  generalize Nat.gcd x y = d at *
  generalize x / d = a at *
  generalize y / d = b at *
  subst mx my
  have gp : 0 < Nat.gcd d S := Nat.gcd_pos_of_pos_left _ dp
  have cts : Nat.Coprime (d / Nat.gcd d S) (S / Nat.gcd d S) := Nat.gcd_div_gcd_div_gcd_of_pos_left dp
  have md := Nat.div_mul_cancel (Nat.gcd_dvd_left d S)
  have ms := Nat.div_mul_cancel (Nat.gcd_dvd_right d S)
  have hSa : (an * b + bn * a).natAbs = S := by rw [hS]; split <;> simp
  have cA : Nat.Coprime S a := by rw [← hSa]; exact sum_coprime cab u5
  have cB : Nat.Coprime S b := by rw [← hSa, Int.add_comm]; exact sum_coprime cab.symm v5
  generalize Nat.gcd d S = g at *
  generalize et : d / g = t at *
  generalize es : S / g = s at *
  subst md ms
  have cA' : Nat.Coprime s a := Nat.Coprime.coprime_dvd_left ⟨g, rfl⟩ cA
  have cB' : Nat.Coprime s b := Nat.Coprime.coprime_dvd_left ⟨g, rfl⟩ cB
  have eb : b * (t * g) / g = b * t := by rw [← Nat.mul_assoc, Nat.mul_div_cancel _ gp]
  rw [eb]
  have hnum : an * ((b * (t * g) : Nat) : Int) + bn * ((a * (t * g) : Nat) : Int) = (an * b + bn * a) * ((t * g : Nat) : Int) := by
    rw [Int.natCast_mul b, Int.natCast_mul a, Int.add_mul, Int.mul_assoc, Int.mul_assoc]
  rw [hnum]
  have hden : 0 < ((a * (t * g) : Nat) : Int) * ((b * (t * g) : Nat) : Int) := Int.mul_pos (by omega) (by omega)
  have hc : Nat.gcd s (a * (b * t)) = 1 := Nat.Coprime.mul_right cA' (Nat.Coprime.mul_right cB' cts.symm)
  rw [fmk_of (u := s) (v := a * (b * t)) (by omega) hc (by
    rw [Int.natAbs_mul, hSa, Int.natAbs_mul, Int.natAbs_natCast, Int.natAbs_natCast, Int.natAbs_natCast]; grind)]
  refine bld_sign ?_
  rcases Nat.eq_zero_or_pos s with z | z
  · left; omega
  · right
    have hs : 0 < s * g := Nat.mul_pos z gp
    have ht : (0 : Int) < ((t * g : Nat) : Int) := by omega
    have d2 : decide (((a * (t * g) : Nat) : Int) * ((b * (t * g) : Nat) : Int) < 0) = false := by simp only [decide_eq_false_iff_not]; omega
    rw [d2, hS]
    cases neg
    · have := Int.mul_pos (show (0 : Int) < ((s * g : Nat) : Int) by omega) ht
      have d1 : decide ((if false = true then -((s * g : Nat) : Int) else ((s * g : Nat) : Int)) * ((t * g : Nat) : Int) < 0) = false := by
        simp only [Bool.false_eq_true, if_false, decide_eq_false_iff_not]; omega
      rw [d1]; rfl
    · have := Int.mul_neg_of_neg_of_pos (show -((s * g : Nat) : Int) < 0 by omega) ht
      have d1 : decide ((if true = true then -((s * g : Nat) : Int) else ((s * g : Nat) : Int)) * ((t * g : Nat) : Int) < 0) = true := by
        simp only [if_true, decide_eq_true_eq]; omega
      rw [d1]; rfl

/-- A number in two halves of 64 bits: sums and differences. -/
theorem add_halves (x y : Nat) (h : x + y < 340282366920938463463374607431768211456) :
    (x % 18446744073709551616 + y % 18446744073709551616 + 0) % 18446744073709551616 = (x + y) % 18446744073709551616 ∧
    (x % 18446744073709551616 + y % 18446744073709551616 + 0) / 18446744073709551616 ≤ 1 ∧
    (x / 18446744073709551616 + y / 18446744073709551616 + (x % 18446744073709551616 + y % 18446744073709551616 + 0) / 18446744073709551616) % 18446744073709551616 = (x + y) / 18446744073709551616 := by omega
theorem sub_halves (x y : Nat) (hy : y ≤ x) (h : x < 340282366920938463463374607431768211456) :
    (x % 18446744073709551616 + 18446744073709551616 - y % 18446744073709551616 - 0) % 18446744073709551616 = (x - y) % 18446744073709551616 ∧
    (if x % 18446744073709551616 < y % 18446744073709551616 + 0 then 1 else 0) ≤ 1 ∧
    (x / 18446744073709551616 + 18446744073709551616 - y / 18446744073709551616 - (if x % 18446744073709551616 < y % 18446744073709551616 + 0 then 1 else 0)) % 18446744073709551616 = (x - y) / 18446744073709551616 := by
  split <;> omega

/-- The sum of two fractions. -/
def fadd (an ad bn bd : Int) : FR := if fboth an ad bn bd = 0 then pack (Rat.divInt an ad + Rat.divInt bn bd) else ⟨0, 0, fboth an ad bn bd⟩
def fsub (an ad bn bd : Int) : FR := if fboth an ad bn bd = 0 then pack (Rat.divInt an ad - Rat.divInt bn bd) else ⟨0, 0, fboth an ad bn bd⟩
def fdiv (an ad bn bd : Int) : FR := if fboth an ad bn bd = 0 then (if bn = 0 then ⟨0, 0, 18⟩ else pack (Rat.divInt an ad / Rat.divInt bn bd)) else ⟨0, 0, fboth an ad bn bd⟩
theorem fadd_0 {an ad bn bd : Int} (h : fboth an ad bn bd = 0) : fadd an ad bn bd = pack (Rat.divInt an ad + Rat.divInt bn bd) := if_pos h
theorem fadd_8 {an ad bn bd : Int} (h : ¬ fboth an ad bn bd = 0) : fadd an ad bn bd = ⟨0, 0, fboth an ad bn bd⟩ := if_neg h
theorem fsub_0 {an ad bn bd : Int} (h : fboth an ad bn bd = 0) : fsub an ad bn bd = pack (Rat.divInt an ad - Rat.divInt bn bd) := if_pos h
theorem fsub_8 {an ad bn bd : Int} (h : ¬ fboth an ad bn bd = 0) : fsub an ad bn bd = ⟨0, 0, fboth an ad bn bd⟩ := if_neg h
theorem fdiv_0 {an ad bn bd : Int} (h : fboth an ad bn bd = 0) (hz : bn = 0) : fdiv an ad bn bd = ⟨0, 0, 18⟩ := by unfold fdiv; rw [if_pos h, if_pos hz]
theorem fdiv_1 {an ad bn bd : Int} (h : fboth an ad bn bd = 0) (hz : ¬ bn = 0) : fdiv an ad bn bd = pack (Rat.divInt an ad / Rat.divInt bn bd) := by unfold fdiv; rw [if_pos h, if_neg hz]
theorem fdiv_8 {an ad bn bd : Int} (h : ¬ fboth an ad bn bd = 0) : fdiv an ad bn bd = ⟨0, 0, fboth an ad bn bd⟩ := if_neg h
theorem fchk_neg {n d : Int} (h : fchk n d = 0) : fchk (-n) d = 0 := by
  obtain ⟨u1, u2, u3, u4, u5⟩ := fok_of h
  exact fchk_ok u1 u2 (by omega) (by omega) (by rwa [Int.natAbs_neg])
/-- The fraction over which one is divided. -/
theorem fchk_over {n d : Int} (h : fchk n d = 0) (hn : 0 < n) : fchk d n = 0 := by
  obtain ⟨u1, u2, u3, u4, u5⟩ := fok_of h
  exact fchk_ok (by omega) (by omega) (by omega) (by omega) (by rwa [Nat.gcd_comm])
theorem fchk_over' {n d : Int} (h : fchk n d = 0) (hn : n < 0) : fchk (-d) (-n) = 0 := by
  obtain ⟨u1, u2, u3, u4, u5⟩ := fok_of h
  exact fchk_ok (by omega) (by omega) (by omega) (by omega) (by rwa [Int.natAbs_neg, Int.natAbs_neg, Nat.gcd_comm])
theorem sub_as_add (an ad bn bd : Int) : Rat.divInt an ad + Rat.divInt (-bn) bd = Rat.divInt an ad - Rat.divInt bn bd := by
  rw [← Rat.neg_divInt, Rat.sub_eq_add_neg]
theorem div_as_mul (an ad bn bd : Int) : Rat.divInt an ad * Rat.divInt bd bn = Rat.divInt an ad / Rat.divInt bn bd := by
  rw [Rat.div_def, Rat.inv_divInt]
theorem div_as_mul' (an ad bn bd : Int) : Rat.divInt an ad * Rat.divInt (-bd) (-bn) = Rat.divInt an ad / Rat.divInt bn bd := by
  rw [Rat.neg_divInt_neg, div_as_mul]
theorem pack_num (x : Rat) : (pack x).e = 0 → (pack x).n = x.num ∧ (pack x).d = x.den := by
  intro h
  rw [pack_ok (pack_e.1 h)]; exact ⟨rfl, rfl⟩
theorem pack_fchk {x : Rat} (h : (pack x).e = 0) : fchk (pack x).n (pack x).d = 0 := by
  rw [pack_ok (pack_e.1 h)]; exact fchk_inr (pack_e.1 h)
theorem pack_Q {x : Rat} (h : (pack x).e = 0) : Rat.divInt (pack x).n (pack x).d = x := by
  rw [pack_ok (pack_e.1 h)]; exact Q_self x
/-- A rational result is a fraction in range, or error 16 with 0 / 0. -/
theorem pack_i64 (x : Rat) : i64 (pack x).n ∧ i64 (pack x).d := by
  by_cases h : inr x
  · rw [pack_ok h]; have := h.1; have := h.2; exact ⟨⟨by show _ ≤ _; simp only; omega, by show _ ≤ _; simp only; omega⟩, ⟨by show _ ≤ _; simp only; omega, by show _ ≤ _; simp only; omega⟩⟩
  · rw [pack_no h]; exact ⟨⟨by decide, by decide⟩, ⟨by decide, by decide⟩⟩
theorem fchk_cases (n d : Int) : fchk n d = 0 ∨ fchk n d = 8 := by
  unfold fchk; split <;> simp
theorem fboth_cases (an ad bn bd : Int) : fboth an ad bn bd = 0 ∨ fboth an ad bn bd = 8 := by
  unfold fboth; split
  · exact fchk_cases _ _
  · exact fchk_cases _ _
theorem fboth_of {an ad bn bd : Int} (h1 : fchk an ad = 0) (h2 : fchk bn bd = 0) : fboth an ad bn bd = 0 := by rw [fboth_0 h1, h2]
end Go.Proofs.Ythlcmlngmcoknaa

/- What is proved here: the product of two fractions that may be invalid: its cases. No program in sight. -/
namespace Go.Proofs.Ythlcmlngmcoknaa
open Go.RowKit

def fmul (an ad bn bd : Int) : FR := if fboth an ad bn bd = 0 then fmulV an ad bn bd else ⟨0, 0, fboth an ad bn bd⟩
theorem fmul_0 {an ad bn bd : Int} (h : fboth an ad bn bd = 0) : fmul an ad bn bd = fmulV an ad bn bd := if_pos h
theorem fmul_8 {an ad bn bd : Int} (h : ¬ fboth an ad bn bd = 0) : fmul an ad bn bd = ⟨0, 0, fboth an ad bn bd⟩ := if_neg h
theorem bp_gen' {P : Program} {f : Func} {Q : Ending → World → Prop} {ex : Exit} {a : Act} {w : World} (F : World → Prop) (hF : F w) (h : ∀ W, F W → bodyPost P f Q ex a W) : bodyPost P f Q ex a w := h w hF
end Go.Proofs.Ythlcmlngmcoknaa

/- What is proved here: slices of fractions: what their cells hold, opened element by element. No condition. -/
namespace Go.Proofs.Ythlcmlngmcoknaa
open Go.RowKit

/-- The cells of fractions. -/
def fcs (xs : List (Int × Int)) : List Value := xs.flatMap fun p => [.int .i64 p.1, .int .i64 p.2]
theorem fcs_nil : fcs [] = [] := rfl
theorem fcs_cons (p : Int × Int) (xs : List (Int × Int)) : fcs (p :: xs) = .int .i64 p.1 :: .int .i64 p.2 :: fcs xs := rfl
theorem fcs_append (xs ys : List (Int × Int)) : fcs (xs ++ ys) = fcs xs ++ fcs ys := by simp [fcs]
theorem fcs_len (xs : List (Int × Int)) : (fcs xs).length = xs.length * 2 := by
  induction xs with
  | nil => rfl
  | cons p xs ih => rw [fcs_cons, List.length_cons, List.length_cons, ih, List.length_cons]; omega
theorem fcs_get : ∀ (xs : List (Int × Int)) (i : Nat) (h : i < xs.length), (fcs xs)[i * 2]? = some (.int .i64 xs[i].1) ∧ (fcs xs)[i * 2 + 1]? = some (.int .i64 xs[i].2)
  | p :: xs, 0, _ => ⟨rfl, rfl⟩
  | p :: xs, i + 1, h => by
    have := fcs_get xs i (by simpa using h)
    rw [fcs_cons, show (i + 1) * 2 = i * 2 + 1 + 1 by omega]
    simpa using this
/-- A slice of fractions. -/
def SF (w : World) (v : Value) (xs : List (Int × Int)) : Prop := Sl w v xs.length (fcs xs)
theorem SF.below {w w' : World} {v : Value} {xs : List (Int × Int)} (h : SF w v xs) (hb : Below w.heap.size w w') : SF w' v xs := Sl.below h hb
theorem SF.grow {w : World} {v : Value} {xs : List (Int × Int)} (h : SF w v xs) (e : World) : SF (grow w e) v xs := Sl.grow h e
theorem SF.low {w : World} {v : Value} {xs : List (Int × Int)} {B : Nat} (h : SF w v xs) (hf : Frv B v) {p : Addr} (hp : p.block < B) (x : Value) : SF (w.setCell p x) v xs := Sl.low h hf hp x
theorem SF.open {w : World} {v : Value} {xs : List (Int × Int)} (h : SF w v xs) : ∃ ad cap, v = .slice ad xs.length cap ∧ xs.length ≤ cap ∧ xs.length ≤ 9223372036854775807 ∧
    Hid (∀ i (h : i < xs.length), ∃ b off, ad = some ⟨b, off, none⟩ ∧ w.cell? ⟨b, off + i * 2, none⟩ = some (.int .i64 xs[i].1) ∧ w.cell? ⟨b, off + i * 2 + 1, none⟩ = some (.int .i64 xs[i].2)) := by
  obtain ⟨ad, cap, h1, h2, h3, h4⟩ := h
  refine ⟨ad, cap, h1, h2, h3, fun i hi => ?_⟩
  obtain ⟨g1, g2⟩ := fcs_get xs i hi
  obtain ⟨b, off, e1, c1⟩ := h4 _ _ g1
  obtain ⟨b', off', e2, c2⟩ := h4 _ _ g2
  rw [e1] at e2
  cases e2
  exact ⟨b, off, e1, c1, by rw [show off + i * 2 + 1 = off + (i * 2 + 1) by omega]; exact c2⟩
/-- All numbers are 64-bit integers. -/
def FI (xs : List (Int × Int)) : Prop := ∀ p ∈ xs, i64 p.1 ∧ i64 p.2
theorem FI.get {xs : List (Int × Int)} (h : FI xs) (i : Nat) (hi : i < xs.length) : i64 xs[i].1 ∧ i64 xs[i].2 := h _ (List.getElem_mem hi)
/-- All fractions are valid. -/
def fvalid (xs : List (Int × Int)) : Bool := xs.all fun p => fchk p.1 p.2 == 0
theorem fvalid_take {xs : List (Int × Int)} {k : Nat} (hk : k < xs.length) (h : fvalid (xs.take k) = true) (hz : fchk xs[k].1 xs[k].2 = 0) : fvalid (xs.take (k + 1)) = true := by
  unfold fvalid at *
  rw [List.take_succ_eq_append_getElem hk, List.all_append, h]
  simp [hz]
theorem fvalid_not {xs : List (Int × Int)} {k : Nat} (hk : k < xs.length) (hz : ¬ fchk xs[k].1 xs[k].2 = 0) : fvalid xs = false := by
  unfold fvalid
  rw [List.all_eq_false]
  exact ⟨xs[k], List.getElem_mem hk, by simpa using hz⟩
theorem fvalid_get {xs : List (Int × Int)} (h : fvalid xs = true) (i : Nat) (hi : i < xs.length) : fchk xs[i].1 xs[i].2 = 0 := by
  unfold fvalid at h
  have := List.all_eq_true.1 h xs[i] (List.getElem_mem hi)
  simpa using this
end Go.Proofs.Ythlcmlngmcoknaa

/- What is proved here: a sum to which a product is added, as numbers. No program in sight. -/
namespace Go.Proofs.Ythlcmlngmcoknaa
open Go.RowKit

theorem i64_0 : i64 0 := ⟨by decide, by decide⟩
theorem fmul_i64 (an ad bn bd : Int) : i64 (fmul an ad bn bd).n ∧ i64 (fmul an ad bn bd).d := by
  by_cases h : fboth an ad bn bd = 0
  · obtain ⟨c1, c2⟩ := fboth_ok h
    rw [fmul_0 h, fmulV_pack c1 c2]; exact pack_i64 _
  · rw [fmul_8 h]; exact ⟨i64_0, i64_0⟩
theorem fadd_i64 (an ad bn bd : Int) : i64 (fadd an ad bn bd).n ∧ i64 (fadd an ad bn bd).d := by
  by_cases h : fboth an ad bn bd = 0
  · rw [fadd_0 h]; exact pack_i64 _
  · rw [fadd_8 h]; exact ⟨i64_0, i64_0⟩
theorem fsub_i64 (an ad bn bd : Int) : i64 (fsub an ad bn bd).n ∧ i64 (fsub an ad bn bd).d := by
  by_cases h : fboth an ad bn bd = 0
  · rw [fsub_0 h]; exact pack_i64 _
  · rw [fsub_8 h]; exact ⟨i64_0, i64_0⟩
theorem fdiv_i64 (an ad bn bd : Int) : i64 (fdiv an ad bn bd).n ∧ i64 (fdiv an ad bn bd).d := by
  by_cases h : fboth an ad bn bd = 0
  · by_cases hz : bn = 0
    · rw [fdiv_0 h hz]; exact ⟨i64_0, i64_0⟩
    · rw [fdiv_1 h hz]; exact pack_i64 _
  · rw [fdiv_8 h]; exact ⟨i64_0, i64_0⟩
/-- The sum of s and the product of a and b. -/
def fplus (sn sd an ad bn bd : Int) : FR := if (fmul an ad bn bd).e = 0 then fadd sn sd (fmul an ad bn bd).n (fmul an ad bn bd).d else ⟨0, 0, (fmul an ad bn bd).e⟩
theorem fplus_0 {sn sd an ad bn bd : Int} (h : (fmul an ad bn bd).e = 0) : fplus sn sd an ad bn bd = fadd sn sd (fmul an ad bn bd).n (fmul an ad bn bd).d := if_pos h
theorem fplus_1 {sn sd an ad bn bd : Int} (h : ¬ (fmul an ad bn bd).e = 0) : fplus sn sd an ad bn bd = ⟨0, 0, (fmul an ad bn bd).e⟩ := if_neg h
theorem fplus_i64 (sn sd an ad bn bd : Int) : i64 (fplus sn sd an ad bn bd).n ∧ i64 (fplus sn sd an ad bn bd).d := by
  by_cases h : (fmul an ad bn bd).e = 0
  · rw [fplus_0 h]; exact fadd_i64 _ _ _ _
  · rw [fplus_1 h]; exact ⟨i64_0, i64_0⟩
theorem own_fourth (w : World) (T : TypeId) (cs : List Value) (o1 o2 o3 : Obj) : Own ((((w.alloc o1).alloc o2).alloc o3).alloc (.cells cs.toArray T (0, 0))) (w.heap.size + 1 + 1 + 1) T cs := by
  have h := own_third (w.alloc o1) T cs o2 o3
  rw [show (w.alloc o1).heap.size = w.heap.size + 1 from by simp] at h
  exact h
end Go.Proofs.Ythlcmlngmcoknaa

/- What is proved here: what a filter of fractions comes to, step by step. No program in sight. -/
namespace Go.Proofs.Ythlcmlngmcoknaa
open Go.RowKit

/-- The sum of the first k products of a row, or the first error. -/
def fsumN (l t : List (Int × Int)) (i : Nat) : Nat → FR
  | 0 => ⟨0, 1, 0⟩
  | k + 1 => if (fsumN l t i k).e = 0 then fplus (fsumN l t i k).n (fsumN l t i k).d (t.getD k (0, 0)).1 (t.getD k (0, 0)).2 (l.getD (i + k) (0, 0)).1 (l.getD (i + k) (0, 0)).2 else fsumN l t i k
theorem fsumN_succ {l t : List (Int × Int)} {i k : Nat} (hk : k < t.length) (hl : i + k < l.length) (h : (fsumN l t i k).e = 0) :
    fsumN l t i (k + 1) = fplus (fsumN l t i k).n (fsumN l t i k).d t[k].1 t[k].2 l[i + k].1 l[i + k].2 := by
  rw [fsumN, if_pos h]
  simp [List.getD, hk, hl]
theorem fsumN_stop {l t : List (Int × Int)} {i k : Nat} (h : ¬ (fsumN l t i k).e = 0) : ∀ m, k ≤ m → fsumN l t i m = fsumN l t i k
  | 0, hm => by obtain rfl : k = 0 := by omega
                rfl
  | m + 1, hm => by
    rcases Nat.lt_or_ge k (m + 1) with h1 | h1
    · have ih := fsumN_stop h m (by omega)
      rw [fsumN, if_neg (by rw [ih]; exact h), ih]
    · obtain rfl : k = m + 1 := by omega
      rfl
theorem fsumN_i64 (l t : List (Int × Int)) (i : Nat) : ∀ k, i64 (fsumN l t i k).n ∧ i64 (fsumN l t i k).d
  | 0 => ⟨i64_0, (⟨by decide, by decide⟩ : i64 1)⟩
  | k + 1 => by
    rw [fsumN]; split
    · exact fplus_i64 _ _ _ _ _ _
    · exact fsumN_i64 l t i k
/-- The first m rows, or the first error. -/
def frows (l t : List (Int × Int)) : Nat → List (Int × Int) × Int
  | 0 => ([], 0)
  | m + 1 => if (frows l t m).2 = 0 then (if (fsumN l t m t.length).e = 0 then ((frows l t m).1 ++ [((fsumN l t m t.length).n, (fsumN l t m t.length).d)], 0) else ([], (fsumN l t m t.length).e)) else frows l t m
theorem frows_succ {l t : List (Int × Int)} {m : Nat} (h : (frows l t m).2 = 0) (h2 : (fsumN l t m t.length).e = 0) : frows l t (m + 1) = ((frows l t m).1 ++ [((fsumN l t m t.length).n, (fsumN l t m t.length).d)], 0) := by
  rw [frows, if_pos h, if_pos h2]
theorem frows_err {l t : List (Int × Int)} {m : Nat} (h : (frows l t m).2 = 0) (h2 : ¬ (fsumN l t m t.length).e = 0) : frows l t (m + 1) = ([], (fsumN l t m t.length).e) := by
  rw [frows, if_pos h, if_neg h2]
theorem frows_stop {l t : List (Int × Int)} {k : Nat} (h : ¬ (frows l t k).2 = 0) : ∀ m, k ≤ m → frows l t m = frows l t k
  | 0, hm => by obtain rfl : k = 0 := by omega
                rfl
  | m + 1, hm => by
    rcases Nat.lt_or_ge k (m + 1) with h1 | h1
    · have ih := frows_stop h m (by omega)
      rw [frows, if_neg (by rw [ih]; exact h), ih]
    · obtain rfl : k = m + 1 := by omega
      rfl
theorem frows_len {l t : List (Int × Int)} : ∀ m, (frows l t m).2 = 0 → (frows l t m).1.length = m
  | 0, _ => rfl
  | m + 1, h => by
    by_cases h1 : (frows l t m).2 = 0
    · by_cases h2 : (fsumN l t m t.length).e = 0
      · rw [frows_succ h1 h2, List.length_append, frows_len m h1]; rfl
      · rw [frows_err h1 h2] at h; exact absurd h h2
    · rw [frows, if_neg h1] at h; exact absurd h h1
/-- A filtered list, and an error. -/
def ffilt (l t : List (Int × Int)) : List (Int × Int) × Int :=
  if 256 < l.length ∨ 20 < t.length then ([], 4) else if t.length = 0 ∨ fvalid l = false ∨ fvalid t = false then ([], 8) else frows l t (l.length + 1 - t.length)
/-- An error in a row ends the whole. -/
theorem frows_end {l t : List (Int × Int)} {m k N : Nat} (h : (frows l t m).2 = 0) (hk : k < t.length) (he : ¬ (fsumN l t m (k + 1)).e = 0) (hm : m < N) : frows l t N = ([], (fsumN l t m (k + 1)).e) := by
  have h1 := fsumN_stop he t.length hk
  have h2 : ¬ (fsumN l t m t.length).e = 0 := by rw [h1]; exact he
  have h3 := frows_err h h2
  rw [frows_stop (k := m + 1) (by rw [h3]; exact h2) N hm, h3, h1]
theorem sf_nil (w : World) : SF w (.slice none 0 0) [] := ⟨none, 0, rfl, Nat.le_refl _, by decide, fun i x hx => by simp [fcs] at hx⟩
end Go.Proofs.Ythlcmlngmcoknaa

/- What is proved here: what joining two filters comes to, step by step. No program in sight. -/
namespace Go.Proofs.Ythlcmlngmcoknaa
open Go.RowKit

/-- The rows that f gives, up to m, or the first error. -/
def rowsOf (f : Nat → FR) : Nat → List (Int × Int) × Int
  | 0 => ([], 0)
  | m + 1 => if (rowsOf f m).2 = 0 then (if (f m).e = 0 then ((rowsOf f m).1 ++ [((f m).n, (f m).d)], 0) else ([], (f m).e)) else rowsOf f m
theorem rows_succ {f : Nat → FR} {m : Nat} (h : (rowsOf f m).2 = 0) (h2 : (f m).e = 0) : rowsOf f (m + 1) = ((rowsOf f m).1 ++ [((f m).n, (f m).d)], 0) := by
  rw [rowsOf, if_pos h, if_pos h2]
theorem rows_err {f : Nat → FR} {m : Nat} (h : (rowsOf f m).2 = 0) (h2 : ¬ (f m).e = 0) : rowsOf f (m + 1) = ([], (f m).e) := by
  rw [rowsOf, if_pos h, if_neg h2]
theorem rows_stop {f : Nat → FR} {k : Nat} (h : ¬ (rowsOf f k).2 = 0) : ∀ m, k ≤ m → rowsOf f m = rowsOf f k
  | 0, hm => by obtain rfl : k = 0 := by omega
                rfl
  | m + 1, hm => by
    rcases Nat.lt_or_ge k (m + 1) with h1 | h1
    · have ih := rows_stop h m (by omega)
      rw [rowsOf, if_neg (by rw [ih]; exact h), ih]
    · obtain rfl : k = m + 1 := by omega
      rfl
theorem rows_len {f : Nat → FR} : ∀ m, (rowsOf f m).2 = 0 → (rowsOf f m).1.length = m
  | 0, _ => rfl
  | m + 1, h => by
    by_cases h1 : (rowsOf f m).2 = 0
    · by_cases h2 : (f m).e = 0
      · rw [rows_succ h1 h2, List.length_append, rows_len m h1]; rfl
      · rw [rows_err h1 h2] at h; exact absurd h h2
    · rw [rowsOf, if_neg h1] at h; exact absurd h h1
/-- The sum of the products of a row of a joined filter, of the first j elements of a. -/
def jsumN (a b : List (Int × Int)) (k : Nat) : Nat → FR
  | 0 => ⟨0, 1, 0⟩
  | j + 1 => if (jsumN a b k j).e = 0 ∧ j ≤ k ∧ k - j < b.length then fplus (jsumN a b k j).n (jsumN a b k j).d (a.getD j (0, 0)).1 (a.getD j (0, 0)).2 (b.getD (k - j) (0, 0)).1 (b.getD (k - j) (0, 0)).2 else jsumN a b k j
theorem jsumN_succ {a b : List (Int × Int)} {k j : Nat} (hj : j < a.length) (hk : j ≤ k) (hb : k - j < b.length) (h : (jsumN a b k j).e = 0) :
    jsumN a b k (j + 1) = fplus (jsumN a b k j).n (jsumN a b k j).d a[j].1 a[j].2 b[k - j].1 b[k - j].2 := by
  rw [jsumN, if_pos ⟨h, hk, hb⟩]
  simp [List.getD, hj, hb]
theorem jsumN_skip {a b : List (Int × Int)} {k j : Nat} (h : ¬ (j ≤ k ∧ k - j < b.length)) : jsumN a b k (j + 1) = jsumN a b k j := by
  rw [jsumN, if_neg (fun h' => h h'.2)]
theorem jsumN_stop {a b : List (Int × Int)} {k j : Nat} (h : ¬ (jsumN a b k j).e = 0) : ∀ m, j ≤ m → jsumN a b k m = jsumN a b k j
  | 0, hm => by obtain rfl : j = 0 := by omega
                rfl
  | m + 1, hm => by
    rcases Nat.lt_or_ge j (m + 1) with h1 | h1
    · have ih := jsumN_stop h m (by omega)
      rw [jsumN, if_neg (by rw [ih]; exact fun h' => h h'.1), ih]
    · obtain rfl : j = m + 1 := by omega
      rfl
theorem jsumN_low {a b : List (Int × Int)} {k : Nat} : ∀ j, j + b.length ≤ k + 1 → jsumN a b k j = ⟨0, 1, 0⟩
  | 0, _ => rfl
  | j + 1, h => by rw [jsumN_skip (by omega), jsumN_low j (by omega)]
theorem jsumN_high {a b : List (Int × Int)} {k j : Nat} (hj : k < j) : ∀ m, j ≤ m → jsumN a b k m = jsumN a b k j
  | 0, hm => by obtain rfl : j = 0 := by omega
                rfl
  | m + 1, hm => by
    rcases Nat.lt_or_ge j (m + 1) with h1 | h1
    · rw [jsumN_skip (by omega), jsumN_high hj m (by omega)]
    · obtain rfl : j = m + 1 := by omega
      rfl
theorem jsumN_i64 (a b : List (Int × Int)) (k : Nat) : ∀ j, i64 (jsumN a b k j).n ∧ i64 (jsumN a b k j).d
  | 0 => ⟨i64_0, (⟨by decide, by decide⟩ : i64 1)⟩
  | j + 1 => by
    rw [jsumN]; split
    · exact fplus_i64 _ _ _ _ _ _
    · exact jsumN_i64 a b k j
/-- A row of a joined filter. -/
def jrow (a b : List (Int × Int)) (k : Nat) : FR := jsumN a b k a.length
/-- A joined filter, and an error. -/
def fjoin (a b : List (Int × Int)) : List (Int × Int) × Int :=
  if 20 < a.length ∨ 20 < b.length ∨ 21 < a.length + b.length then ([], 4) else if a.length = 0 ∨ b.length = 0 ∨ fvalid a = false ∨ fvalid b = false then ([], 8) else rowsOf (jrow a b) (a.length + b.length - 1)
theorem join_end {a b : List (Int × Int)} {k j N : Nat} (h : (rowsOf (jrow a b) k).2 = 0) (hj : j < a.length) (he : ¬ (jsumN a b k (j + 1)).e = 0) (hm : k < N) : rowsOf (jrow a b) N = ([], (jsumN a b k (j + 1)).e) := by
  have h1 : jrow a b k = jsumN a b k (j + 1) := jsumN_stop he a.length hj
  have h2 : ¬ (jrow a b k).e = 0 := by rw [h1]; exact he
  have h3 := rows_err h h2
  rw [rows_stop (k := k + 1) (by rw [h3]; exact h2) N hm, h3, h1]
end Go.Proofs.Ythlcmlngmcoknaa

/- What is proved here: what the residual, the gradient and the value of a fit come to, step by step. No program in sight. -/
namespace Go.Proofs.Ythlcmlngmcoknaa
open Go.RowKit

/-- The sum of the first k products, or the first error. -/
def gsum (t : Nat → (Int × Int) × (Int × Int)) : Nat → FR
  | 0 => ⟨0, 1, 0⟩
  | k + 1 => if (gsum t k).e = 0 then fplus (gsum t k).n (gsum t k).d (t k).1.1 (t k).1.2 (t k).2.1 (t k).2.2 else gsum t k
theorem gsum_succ {t : Nat → (Int × Int) × (Int × Int)} {k : Nat} (h : (gsum t k).e = 0) : gsum t (k + 1) = fplus (gsum t k).n (gsum t k).d (t k).1.1 (t k).1.2 (t k).2.1 (t k).2.2 := by
  rw [gsum, if_pos h]
theorem gsum_stop {t : Nat → (Int × Int) × (Int × Int)} {k : Nat} (h : ¬ (gsum t k).e = 0) : ∀ m, k ≤ m → gsum t m = gsum t k
  | 0, hm => by obtain rfl : k = 0 := by omega
                rfl
  | m + 1, hm => by
    rcases Nat.lt_or_ge k (m + 1) with h1 | h1
    · have ih := gsum_stop h m (by omega)
      rw [gsum, if_neg (by rw [ih]; exact h), ih]
    · obtain rfl : k = m + 1 := by omega
      rfl
theorem gsum_i64 (t : Nat → (Int × Int) × (Int × Int)) : ∀ k, i64 (gsum t k).n ∧ i64 (gsum t k).d
  | 0 => ⟨i64_0, (⟨by decide, by decide⟩ : i64 1)⟩
  | k + 1 => by
    rw [gsum]; split
    · exact fplus_i64 _ _ _ _ _ _
    · exact gsum_i64 t k
/-- A result: valid, or 0 / 0 with error 16. -/
def FOk (r : FR) : Prop := (r.e = 0 ∧ fchk r.n r.d = 0) ∨ r = ⟨0, 0, 16⟩
theorem FOk.e {r : FR} (h : FOk r) (he : ¬ r.e = 0) : r = ⟨0, 0, 16⟩ := by
  rcases h with h | h
  · exact absurd h.1 he
  · exact h
theorem FOk.v {r : FR} (h : FOk r) (he : r.e = 0) : fchk r.n r.d = 0 := by
  rcases h with h | h
  · exact h.2
  · rw [h] at he; cases he
theorem pack_FOk (x : Rat) : FOk (pack x) := by
  by_cases h : inr x
  · exact .inl ⟨pack_e.2 h, pack_fchk (pack_e.2 h)⟩
  · exact .inr (pack_no h)
theorem fmul_FOk {an ad bn bd : Int} (h1 : fchk an ad = 0) (h2 : fchk bn bd = 0) : FOk (fmul an ad bn bd) := by
  rw [fmul_0 (fboth_of h1 h2), fmulV_pack h1 h2]; exact pack_FOk _
theorem fadd_FOk {an ad bn bd : Int} (h1 : fchk an ad = 0) (h2 : fchk bn bd = 0) : FOk (fadd an ad bn bd) := by
  rw [fadd_0 (fboth_of h1 h2)]; exact pack_FOk _
theorem fsub_FOk {an ad bn bd : Int} (h1 : fchk an ad = 0) (h2 : fchk bn bd = 0) : FOk (fsub an ad bn bd) := by
  rw [fsub_0 (fboth_of h1 h2)]; exact pack_FOk _
theorem fplus_FOk {sn sd an ad bn bd : Int} (h0 : fchk sn sd = 0) (h1 : fchk an ad = 0) (h2 : fchk bn bd = 0) : FOk (fplus sn sd an ad bn bd) := by
  have h := fmul_FOk h1 h2
  by_cases he : (fmul an ad bn bd).e = 0
  · rw [fplus_0 he]; exact fadd_FOk h0 (h.v he)
  · rw [fplus_1 he, h.e he]; exact .inr rfl
theorem fchk_01 : fchk 0 1 = 0 := by decide
theorem gsum_FOk {t : Nat → (Int × Int) × (Int × Int)} : ∀ k, (∀ j, j < k → fchk (t j).1.1 (t j).1.2 = 0 ∧ fchk (t j).2.1 (t j).2.2 = 0) → FOk (gsum t k)
  | 0, _ => .inl ⟨rfl, fchk_01⟩
  | k + 1, h => by
    have ih := gsum_FOk k (fun j hj => h j (by omega))
    by_cases he : (gsum t k).e = 0
    · rw [gsum_succ he]; exact fplus_FOk (ih.v he) (h k (by omega)).1 (h k (by omega)).2
    · rw [gsum_stop he (k + 1) (by omega)]; exact ih
/-- A small whole number is a valid fraction. -/
theorem fchk_small {a : Int} (h1 : -1000 ≤ a) (h2 : a ≤ 1000) : fchk a 1 = 0 :=
  fchk_ok (by decide) (by decide) (by omega) (by omega) (by simp)

/-- What the sum of the products of numbers and fractions adds up. -/
def dotT (a : List Int) (x : List (Int × Int)) (k : Nat) : (Int × Int) × (Int × Int) := ((a.getD k 0, 1), x.getD k (0, 0))
theorem dot_succ {a : List Int} {x : List (Int × Int)} {k : Nat} (ha : k < a.length) (hx : k < x.length) (h : (gsum (dotT a x) k).e = 0) :
    gsum (dotT a x) (k + 1) = fplus (gsum (dotT a x) k).n (gsum (dotT a x) k).d a[k] 1 x[k].1 x[k].2 := by
  rw [gsum_succ h]; simp [dotT, List.getD, ha, hx]
theorem gsum_congr {t t' : Nat → (Int × Int) × (Int × Int)} : ∀ k, (∀ j, j < k → t j = t' j) → gsum t k = gsum t' k
  | 0, _ => rfl
  | k + 1, h => by
    have ih := gsum_congr k (fun j hj => h j (by omega))
    rw [gsum, gsum, ih, h k (by omega)]
/-- The first error of a sum ends it. -/
theorem gsum_end {t : Nat → (Int × Int) × (Int × Int)} {k n : Nat} (hk : k < n) (h : ¬ (gsum t (k + 1)).e = 0) (ho : FOk (gsum t (k + 1))) : gsum t n = ⟨0, 0, 16⟩ := by
  rw [gsum_stop h n hk]; exact ho.e h
theorem dot_ok {a : List Int} {x : List (Int × Int)} {k : Nat} (hk : k ≤ a.length) (hl : a.length ≤ x.length) (ha : ∀ i (h : i < a.length), -1000 ≤ a[i] ∧ a[i] ≤ 1000) (hx : ∀ i (h : i < x.length), fchk x[i].1 x[i].2 = 0) : FOk (gsum (dotT a x) k) := by
  refine gsum_FOk k fun j hj => ?_
  have h1 : j < a.length := by omega
  have h2 : j < x.length := by omega
  simp only [dotT, List.getD, List.getElem?_eq_getElem h1, List.getElem?_eq_getElem h2, Option.getD_some]
  exact ⟨fchk_small (ha j h1).1 (ha j h1).2, hx j h2⟩
/-- The element of a row of a list of rows, 0 where there is none. -/
def cel (A : List (List Int)) (i k : Nat) : Int := (A.getD i []).getD k 0
theorem cel_get {A : List (List Int)} {i k : Nat} (hi : i < A.length) (hk : k < A[i].length) : cel A i k = A[i][k] := by
  simp [cel, List.getD, hi, hk]

/-- The error of a fit. -/
def ncheck (A : List (List Int)) (B : List Int) : Int :=
  if 5 < A.length ∨ 5 < B.length then 4
  else if (A.all fun r => decide (r.length ≤ 3)) = false then 4
  else if A.length = 0 ∨ B.length ≠ A.length ∨ (A.getD 0 []).length = 0 then 8
  else if (A.all fun r => decide (r.length = (A.getD 0 []).length) && r.all fun a => decide (-5 ≤ a) && decide (a ≤ 5)) = true ∧ (B.all fun b => decide (-50 ≤ b) && decide (b ≤ 50)) = true then 0
  else 8
/-- A row of a fit: of the right length, and of small numbers. -/
def rowOk (n : Nat) (r : List Int) : Bool := decide (r.length = n) && r.all fun a => decide (-5 ≤ a) && decide (a ≤ 5)
theorem ncheck_4 {A : List (List Int)} {B : List Int} (h : 5 < A.length ∨ 5 < B.length) : ncheck A B = 4 := if_pos h
theorem ncheck_4' {A : List (List Int)} {B : List Int} {k : Nat} (h0 : ¬ (5 < A.length ∨ 5 < B.length)) (hk : k < A.length) (h : 3 < A[k].length) : ncheck A B = 4 := by
  unfold ncheck; rw [if_neg h0, if_pos]
  rw [List.all_eq_false]; exact ⟨A[k], List.getElem_mem hk, by simp; omega⟩
theorem ncheck_8 {A : List (List Int)} {B : List Int} (h0 : ¬ (5 < A.length ∨ 5 < B.length)) (h1 : (A.all fun r => decide (r.length ≤ 3)) = true) (h : A.length = 0 ∨ B.length ≠ A.length ∨ (A.getD 0 []).length = 0) : ncheck A B = 8 := by
  unfold ncheck; rw [if_neg h0, if_neg (by simp [h1]), if_pos h]
theorem ncheck_8' {A : List (List Int)} {B : List Int} (h0 : ¬ (5 < A.length ∨ 5 < B.length)) (h1 : (A.all fun r => decide (r.length ≤ 3)) = true) (h2 : ¬ (A.length = 0 ∨ B.length ≠ A.length ∨ (A.getD 0 []).length = 0))
    (h : (A.all fun r => rowOk (A.getD 0 []).length r) = false ∨ (B.all fun b => decide (-50 ≤ b) && decide (b ≤ 50)) = false) : ncheck A B = 8 := by
  unfold ncheck; rw [if_neg h0, if_neg (by simp [h1]), if_neg h2, if_neg]
  intro h3
  rcases h with h | h
  · have : (A.all fun r => rowOk (A.getD 0 []).length r) = true := h3.1
    rw [h] at this; cases this
  · rw [h] at h3; cases h3.2
theorem ncheck_0 {A : List (List Int)} {B : List Int} (h0 : ¬ (5 < A.length ∨ 5 < B.length)) (h1 : (A.all fun r => decide (r.length ≤ 3)) = true) (h2 : ¬ (A.length = 0 ∨ B.length ≠ A.length ∨ (A.getD 0 []).length = 0))
    (h : (A.all fun r => rowOk (A.getD 0 []).length r) = true) (h' : (B.all fun b => decide (-50 ≤ b) && decide (b ≤ 50)) = true) : ncheck A B = 0 := by
  unfold ncheck; rw [if_neg h0, if_neg (by simp [h1]), if_neg h2, if_pos ⟨h, h'⟩]
theorem all_take {α : Type} {p : α → Bool} {xs : List α} {k : Nat} (hk : k < xs.length) (h : (xs.take k).all p = true) (hp : p xs[k] = true) : (xs.take (k + 1)).all p = true := by
  rw [List.take_succ_eq_append_getElem hk, List.all_append, h]; simp [hp]
theorem all_not {α : Type} {p : α → Bool} {xs : List α} {k : Nat} (hk : k < xs.length) (hp : p xs[k] = false) : xs.all p = false := by
  rw [List.all_eq_false]; exact ⟨xs[k], List.getElem_mem hk, by simp [hp]⟩
theorem all_end {α : Type} {p : α → Bool} {xs : List α} {k : Nat} (hk : ¬ k < xs.length) (h : (xs.take k).all p = true) : xs.all p = true := by
  rw [List.take_of_length_le (by omega)] at h; exact h
theorem getD_get {α : Type} {xs : List α} {d : α} {k : Nat} (hk : k < xs.length) : xs.getD k d = xs[k] := by simp [List.getD, hk]
/-- What a valid fit is. -/
structure Fit (A : List (List Int)) (B : List Int) (n : Nat) : Prop where
  rows : 1 ≤ A.length ∧ A.length ≤ 5
  right : B.length = A.length
  cols : 1 ≤ n ∧ n ≤ 3
  wide : ∀ i (h : i < A.length), A[i].length = n
  coef : ∀ i (h : i < A.length) k (h' : k < A[i].length), -5 ≤ A[i][k] ∧ A[i][k] ≤ 5
  side : ∀ i (h : i < B.length), -50 ≤ B[i] ∧ B[i] ≤ 50
theorem fit_of {A : List (List Int)} {B : List Int} (h : ncheck A B = 0) : Fit A B (A.getD 0 []).length := by
  unfold ncheck at h
  split at h
  · cases h
  split at h
  · cases h
  split at h
  · cases h
  split at h
  · rename_i h1 h2 h3 h4
    simp only [Bool.not_eq_false, List.all_eq_true, decide_eq_true_eq, Bool.and_eq_true] at h2 h4
    have hg : (A.getD 0 []).length ≤ 3 := by
      cases A with
      | nil => simp
      | cons a A => exact h2 a (by simp)
    refine ⟨⟨by omega, by omega⟩, by omega, ⟨by omega, hg⟩, fun i hi => (h4.1 _ (List.getElem_mem hi)).1, fun i hi k hk => (h4.1 _ (List.getElem_mem hi)).2 _ (List.getElem_mem hk), fun i hi => h4.2 _ (List.getElem_mem hi)⟩
  · cases h
/-- A number of a point: valid, and not negative. -/
def ptB (p : Int × Int) : Bool := decide (fchk p.1 p.2 = 0) && decide (0 ≤ p.1)
theorem ptB_chk {p : Int × Int} (h : ¬ fchk p.1 p.2 = 0) : ptB p = false := by simp [ptB, h]
theorem ptB_neg {p : Int × Int} (h : p.1 < 0) : ptB p = false := by
  have : decide (0 ≤ p.1) = false := by simp; omega
  simp [ptB, this]
theorem ptB_ok {p : Int × Int} (h1 : fchk p.1 p.2 = 0) (h2 : ¬ p.1 < 0) : ptB p = true := by
  have : 0 ≤ p.1 := by omega
  simp [ptB, h1, this]
/-- Whether a list is a point of a fit with n unknowns. -/
def pointB (n : Nat) (x : List (Int × Int)) : Bool := x.all ptB && decide (x.length = n)
/-- The error of a fit and a point. -/
def npoint (A : List (List Int)) (B : List Int) (x : List (Int × Int)) : Int :=
  if ncheck A B = 0 then (if pointB (A.getD 0 []).length x = true then 0 else 2) else ncheck A B
theorem npoint_c {A : List (List Int)} {B : List Int} {x : List (Int × Int)} (h : ¬ ncheck A B = 0) : npoint A B x = ncheck A B := if_neg h
theorem npoint_2 {A : List (List Int)} {B : List Int} {x : List (Int × Int)} (h : ncheck A B = 0) (h' : pointB (A.getD 0 []).length x = false) : npoint A B x = 2 := by
  unfold npoint; rw [if_pos h, if_neg (by rw [h']; decide)]
theorem npoint_0 {A : List (List Int)} {B : List Int} {x : List (Int × Int)} (h : ncheck A B = 0) (h' : pointB (A.getD 0 []).length x = true) : npoint A B x = 0 := by
  unfold npoint; rw [if_pos h, if_pos h']
theorem pointB_len {n : Nat} {x : List (Int × Int)} (h : ¬ x.length = n) : pointB n x = false := by simp [pointB, h]
theorem pointB_all {n : Nat} {x : List (Int × Int)} (h : x.all ptB = false) : pointB n x = false := by simp [pointB, h]
theorem pointB_ok {n : Nat} {x : List (Int × Int)} (h : x.all ptB = true) : pointB n x = decide (x.length = n) := by simp [pointB, h]
theorem pointB_of {n : Nat} {x : List (Int × Int)} (h : pointB n x = true) : x.length = n ∧ ∀ i (h : i < x.length), fchk x[i].1 x[i].2 = 0 ∧ 0 ≤ x[i].1 := by
  simp only [pointB, Bool.and_eq_true, decide_eq_true_eq] at h
  refine ⟨h.2, fun i hi => ?_⟩
  have := List.all_eq_true.1 h.1 _ (List.getElem_mem hi)
  simpa [ptB] using this
theorem point_of {A : List (List Int)} {B : List Int} {x : List (Int × Int)} (h : npoint A B x = 0) : Fit A B x.length ∧ (∀ i (h : i < x.length), fchk x[i].1 x[i].2 = 0 ∧ 0 ≤ x[i].1) := by
  unfold npoint at h
  split at h
  · rename_i h1
    split at h
    · rename_i h2
      obtain ⟨h3, h4⟩ := pointB_of h2
      refine ⟨?_, h4⟩
      rw [h3]; exact fit_of h1
    · cases h
  · rename_i h1; exact absurd h h1
theorem ncheck_len {A : List (List Int)} {B : List Int} (h : ncheck A B = 0) : 0 < A.length := (fit_of h).rows.1
theorem npoint_check {A : List (List Int)} {B : List Int} {x : List (Int × Int)} (h : npoint A B x = 0) : ncheck A B = 0 := by
  unfold npoint at h
  split at h
  · assumption
  · rename_i h1; exact absurd h h1
/-- What the sum of a row's products adds up. -/
def rowT (A : List (List Int)) (x : List (Int × Int)) (i k : Nat) : (Int × Int) × (Int × Int) := ((cel A i k, 1), x.getD k (0, 0))
/-- What the sum of a column's products adds up. -/
def colT (A : List (List Int)) (r : List (Int × Int)) (k i : Nat) : (Int × Int) × (Int × Int) := ((cel A i k, 1), r.getD i (0, 0))
/-- What the sum of squares adds up. -/
def sqT (r : List (Int × Int)) (i : Nat) : (Int × Int) × (Int × Int) := (r.getD i (0, 0), r.getD i (0, 0))
/-- One number of a residual. -/
def nres (A : List (List Int)) (B : List Int) (x : List (Int × Int)) (i : Nat) : FR :=
  if (gsum (rowT A x i) x.length).e = 0 then fsub (gsum (rowT A x i) x.length).n (gsum (rowT A x i) x.length).d (B.getD i 0) 1 else gsum (rowT A x i) x.length
/-- The residual, and an error. -/
def nresidual (A : List (List Int)) (B : List Int) (x : List (Int × Int)) : List (Int × Int) × Int := rowsOf (nres A B x) A.length
def nResidual (A : List (List Int)) (B : List Int) (x : List (Int × Int)) : List (Int × Int) × Int := if npoint A B x = 0 then nresidual A B x else ([], npoint A B x)
def ngradient (A : List (List Int)) (B : List Int) (x : List (Int × Int)) : List (Int × Int) × Int :=
  if (nresidual A B x).2 = 0 then rowsOf (fun k => gsum (colT A (nresidual A B x).1 k) A.length) x.length else ([], (nresidual A B x).2)
def nGradient (A : List (List Int)) (B : List Int) (x : List (Int × Int)) : List (Int × Int) × Int := if npoint A B x = 0 then ngradient A B x else ([], npoint A B x)
def nValue (A : List (List Int)) (B : List Int) (x : List (Int × Int)) : FR :=
  if (nResidual A B x).2 = 0 then gsum (sqT (nResidual A B x).1) (nResidual A B x).1.length else ⟨0, 0, (nResidual A B x).2⟩
/-- Whether a gradient is that of an optimum. -/
def noptB (g x : List (Int × Int)) (k : Nat) : Bool := (List.range k).all fun j => !(decide ((g.getD j (0, 0)).1 < 0) || (decide (0 < (g.getD j (0, 0)).1) && decide (0 < (x.getD j (0, 0)).1)))
def nOptimal (A : List (List Int)) (B : List Int) (x : List (Int × Int)) : Bool × Int :=
  if (nGradient A B x).2 = 0 then (noptB (nGradient A B x).1 x (nGradient A B x).1.length, 0) else (false, (nGradient A B x).2)
theorem rows_end {f : Nat → FR} {m N : Nat} (h : (rowsOf f m).2 = 0) (hm : m < N) (he : ¬ (f m).e = 0) : rowsOf f N = ([], (f m).e) := by
  have h3 := rows_err h he
  rw [rows_stop (k := m + 1) (by rw [h3]; exact he) N hm, h3]
theorem nres_0 {A : List (List Int)} {B : List Int} {x : List (Int × Int)} {i : Nat} (h : (gsum (rowT A x i) x.length).e = 0) : nres A B x i = fsub (gsum (rowT A x i) x.length).n (gsum (rowT A x i) x.length).d (B.getD i 0) 1 := if_pos h
theorem nres_1 {A : List (List Int)} {B : List Int} {x : List (Int × Int)} {i : Nat} (h : ¬ (gsum (rowT A x i) x.length).e = 0) : nres A B x i = gsum (rowT A x i) x.length := if_neg h
theorem row_dot {A : List (List Int)} {x : List (Int × Int)} {i : Nat} (hi : i < A.length) (hl : A[i].length = x.length) : gsum (dotT A[i] x) A[i].length = gsum (rowT A x i) x.length := by
  rw [hl]; refine gsum_congr _ fun j hj => ?_
  simp [dotT, rowT, cel, List.getD, hi]
/-- A system with small numbers, and as many valid fractions as unknowns. -/
structure FitX (A : List (List Int)) (B : List Int) (x : List (Int × Int)) : Prop where
  right : B.length = A.length
  few : A.length ≤ 100 ∧ x.length ≤ 100
  wide : ∀ i (h : i < A.length), A[i].length = x.length
  coef : ∀ i (h : i < A.length) k (h' : k < A[i].length), -1000 ≤ A[i][k] ∧ A[i][k] ≤ 1000
  side : ∀ i (h : i < B.length), -1000 ≤ B[i] ∧ B[i] ≤ 1000
  val : ∀ i (h : i < x.length), fchk x[i].1 x[i].2 = 0
theorem FitX.of {A : List (List Int)} {B : List Int} {x : List (Int × Int)} (h : npoint A B x = 0) : FitX A B x := by
  obtain ⟨f, hx⟩ := point_of h
  exact ⟨f.right, ⟨by have := f.rows; omega, by have := f.cols; omega⟩, f.wide, fun i hi k hk => by have := f.coef i hi k hk; omega, fun i hi => by have := f.side i hi; omega, fun i hi => (hx i hi).1⟩
theorem FitX.row_ok {A : List (List Int)} {B : List Int} {x : List (Int × Int)} (h : FitX A B x) {i k : Nat} (hi : i < A.length) (hk : k ≤ x.length) : FOk (gsum (rowT A x i) k) := by
  have h1 := dot_ok (a := A[i]) (x := x) (k := k) (by rw [h.wide i hi]; exact hk) (by rw [h.wide i hi]; exact Nat.le_refl _) (h.coef i hi) h.val
  have h2 : gsum (dotT A[i] x) k = gsum (rowT A x i) k := gsum_congr _ fun j hj => by simp [dotT, rowT, cel, List.getD, hi]
  rw [← h2]; exact h1
theorem FitX.res_ok {A : List (List Int)} {B : List Int} {x : List (Int × Int)} (h : FitX A B x) {i : Nat} (hi : i < A.length) : FOk (nres A B x i) := by
  have h1 := h.row_ok hi (Nat.le_refl _)
  by_cases he : (gsum (rowT A x i) x.length).e = 0
  · rw [nres_0 he]
    have hb : i < B.length := by rw [h.right]; exact hi
    rw [getD_get hb]
    exact fsub_FOk (h1.v he) (fchk_small (h.side i hb).1 (h.side i hb).2)
  · rw [nres_1 he]; exact h1
theorem rows_FI {f : Nat → FR} (hf : ∀ i, i64 (f i).n ∧ i64 (f i).d) : ∀ m, FI (rowsOf f m).1
  | 0 => fun p hp => by cases hp
  | m + 1 => by
    rw [rowsOf]
    split
    · split
      · intro p hp
        rcases List.mem_append.1 hp with h | h
        · exact rows_FI hf m p h
        · simp at h; rw [h]; exact hf m
      · intro p hp; cases hp
    · exact rows_FI hf m
/-- All rows are valid where nothing has an error. -/
theorem rows_val {f : Nat → FR} {N : Nat} (hf : ∀ i, i < N → FOk (f i)) : ∀ m, m ≤ N → ∀ p ∈ (rowsOf f m).1, fchk p.1 p.2 = 0
  | 0, _ => fun p hp => by cases hp
  | m + 1, hm => by
    rw [rowsOf]
    split
    · split
      · rename_i h1
        intro p hp
        rcases List.mem_append.1 hp with h | h
        · exact rows_val hf m (by omega) p h
        · simp at h; rw [h]; exact (hf m (by omega)).v h1
      · intro p hp; cases hp
    · exact rows_val hf m (by omega)
theorem rows_err16 {f : Nat → FR} {N : Nat} (hf : ∀ i, i < N → FOk (f i)) : ∀ m, m ≤ N → (rowsOf f m).2 = 0 ∨ rowsOf f m = ([], 16)
  | 0, _ => .inl rfl
  | m + 1, hm => by
    rcases rows_err16 hf m (by omega) with h | h
    · by_cases h1 : (f m).e = 0
      · left; rw [rows_succ h h1]
      · right; rw [rows_err h h1, (hf m (by omega)).e h1]
    · right
      rw [rows_stop (k := m) (by rw [h]; decide) (m + 1) (by omega)]; exact h
theorem nres_i64 (A : List (List Int)) (B : List Int) (x : List (Int × Int)) (i : Nat) : i64 (nres A B x i).n ∧ i64 (nres A B x i).d := by
  by_cases he : (gsum (rowT A x i) x.length).e = 0
  · rw [nres_0 he]; exact fsub_i64 _ _ _ _
  · rw [nres_1 he]; exact gsum_i64 _ _
/-- A column of a list of rows. -/
def colOf (A : List (List Int)) (k : Nat) : List Int := A.map fun r => r.getD k 0
theorem colOf_len (A : List (List Int)) (k : Nat) : (colOf A k).length = A.length := by simp [colOf]
theorem colOf_get {A : List (List Int)} {k i : Nat} (hi : i < A.length) : (colOf A k)[i]? = some (cel A i k) := by simp [colOf, cel, List.getD, hi]
theorem col_dot {A : List (List Int)} {r : List (Int × Int)} {k : Nat} : gsum (dotT (colOf A k) r) (colOf A k).length = gsum (colT A r k) A.length := by
  rw [colOf_len]; refine gsum_congr _ fun j hj => ?_
  simp [dotT, colT, cel, List.getD, colOf, hj]
theorem FitX.col_small {A : List (List Int)} {B : List Int} {x : List (Int × Int)} (h : FitX A B x) {k : Nat} (hk : k < x.length) : ∀ i (h : i < (colOf A k).length), -1000 ≤ (colOf A k)[i] ∧ (colOf A k)[i] ≤ 1000 := by
  intro i hi
  have hi' : i < A.length := by rw [colOf_len] at hi; exact hi
  have e : (colOf A k)[i] = cel A i k := by
    have := colOf_get (k := k) hi'
    simpa [hi] using this
  have hk' : k < A[i].length := by rw [h.wide i hi']; exact hk
  rw [e, cel_get hi' hk']
  exact h.coef i hi' k hk'
theorem nresid_parts {A : List (List Int)} {B : List Int} {x : List (Int × Int)} (h : (nResidual A B x).2 = 0) : npoint A B x = 0 ∧ nResidual A B x = nresidual A B x := by
  by_cases h0 : npoint A B x = 0
  · exact ⟨h0, if_pos h0⟩
  · exfalso; unfold nResidual at h; rw [if_neg h0] at h; exact h0 h
/-- What a residual without an error is. -/
theorem resid_ok {A : List (List Int)} {B : List Int} {x : List (Int × Int)} (h : FitX A B x) (h0 : (nresidual A B x).2 = 0) : (nresidual A B x).1.length = A.length ∧ ∀ i (h : i < (nresidual A B x).1.length), fchk (nresidual A B x).1[i].1 (nresidual A B x).1[i].2 = 0 :=
  ⟨rows_len _ h0, fun i hi => rows_val (N := A.length) (fun j hj => h.res_ok hj) A.length (Nat.le_refl _) _ (List.getElem_mem hi)⟩
theorem nresid_FI (A : List (List Int)) (B : List Int) (x : List (Int × Int)) : FI (nresidual A B x).1 := rows_FI (nres_i64 A B x) _
theorem nResid_FI (A : List (List Int)) (B : List Int) (x : List (Int × Int)) : FI (nResidual A B x).1 := by
  unfold nResidual; split
  · exact nresid_FI A B x
  · intro p hp; cases hp
theorem nGrad_1 {A : List (List Int)} {B : List Int} {x : List (Int × Int)} (h : ¬ (nResidual A B x).2 = 0) : nGradient A B x = ([], (nResidual A B x).2) := by
  by_cases h0 : npoint A B x = 0
  · have e : nResidual A B x = nresidual A B x := if_pos h0
    rw [e] at h ⊢
    unfold nGradient ngradient
    rw [if_pos h0, if_neg h]
  · unfold nGradient nResidual
    rw [if_neg h0, if_neg h0]
theorem nGrad_0 {A : List (List Int)} {B : List Int} {x : List (Int × Int)} (h : (nResidual A B x).2 = 0) : nGradient A B x = rowsOf (fun k => gsum (colT A (nResidual A B x).1 k) A.length) x.length := by
  obtain ⟨h0, e⟩ := nresid_parts h
  rw [e] at h ⊢
  unfold nGradient ngradient
  rw [if_pos h0, if_pos h]
theorem nVal_1 {A : List (List Int)} {B : List Int} {x : List (Int × Int)} (h : ¬ (nResidual A B x).2 = 0) : nValue A B x = ⟨0, 0, (nResidual A B x).2⟩ := if_neg h
theorem nVal_0 {A : List (List Int)} {B : List Int} {x : List (Int × Int)} (h : (nResidual A B x).2 = 0) : nValue A B x = gsum (sqT (nResidual A B x).1) (nResidual A B x).1.length := if_pos h
theorem nOpt_1 {A : List (List Int)} {B : List Int} {x : List (Int × Int)} (h : ¬ (nGradient A B x).2 = 0) : nOptimal A B x = (false, (nGradient A B x).2) := if_neg h
theorem nOpt_0 {A : List (List Int)} {B : List Int} {x : List (Int × Int)} (h : (nGradient A B x).2 = 0) : nOptimal A B x = (noptB (nGradient A B x).1 x (nGradient A B x).1.length, 0) := if_pos h
theorem sq_succ {r : List (Int × Int)} {k : Nat} (hk : k < r.length) (h : (gsum (sqT r) k).e = 0) : gsum (sqT r) (k + 1) = fplus (gsum (sqT r) k).n (gsum (sqT r) k).d r[k].1 r[k].2 r[k].1 r[k].2 := by
  rw [gsum_succ h]; simp [sqT, List.getD, hk]
theorem sq_ok {r : List (Int × Int)} {k : Nat} (hk : k ≤ r.length) (hr : ∀ i (h : i < r.length), fchk r[i].1 r[i].2 = 0) : FOk (gsum (sqT r) k) :=
  gsum_FOk k fun j hj => by
    have h1 : j < r.length := by omega
    simp only [sqT, List.getD, List.getElem?_eq_getElem h1, Option.getD_some]
    exact ⟨hr j h1, hr j h1⟩
/-- One number of a gradient, and the number of the point: not that of an optimum. -/
def noptN (g x : Int) : Bool := decide (g < 0) || (decide (0 < g) && decide (0 < x))
theorem noptB_succ {g x : List (Int × Int)} {k : Nat} (h1 : k < g.length) (h2 : k < x.length) (h : noptB g x k = true) (hn : noptN g[k].1 x[k].1 = false) : noptB g x (k + 1) = true := by
  unfold noptB at *
  rw [List.range_succ, List.all_append, h]
  simp only [List.all_cons, List.all_nil, List.getD, List.getElem?_eq_getElem h1, List.getElem?_eq_getElem h2, Option.getD_some]
  unfold noptN at hn
  rw [hn]; rfl
theorem noptB_not {g x : List (Int × Int)} {k n : Nat} (hk : k < n) (h1 : k < g.length) (h2 : k < x.length) (hn : noptN g[k].1 x[k].1 = true) : noptB g x n = false := by
  unfold noptB
  rw [List.all_eq_false]
  refine ⟨k, List.mem_range.2 hk, ?_⟩
  simp only [List.getD, List.getElem?_eq_getElem h1, List.getElem?_eq_getElem h2, Option.getD_some]
  unfold noptN at hn
  rw [hn]; decide
theorem grad_len {A : List (List Int)} {B : List Int} {x : List (Int × Int)} (h : (nGradient A B x).2 = 0) : npoint A B x = 0 ∧ (nGradient A B x).1.length = x.length := by
  by_cases h1 : (nResidual A B x).2 = 0
  · rw [nGrad_0 h1] at h ⊢
    exact ⟨(nresid_parts h1).1, rows_len _ h⟩
  · rw [nGrad_1 h1] at h; exact absurd h h1
theorem nGrad_FI (A : List (List Int)) (B : List Int) (x : List (Int × Int)) : FI (nGradient A B x).1 := by
  by_cases h1 : (nResidual A B x).2 = 0
  · rw [nGrad_0 h1]; exact rows_FI (fun i => gsum_i64 _ _) _
  · rw [nGrad_1 h1]; intro p hp; cases hp
theorem row_succ {A : List (List Int)} {x : List (Int × Int)} {i k : Nat} (hi : i < A.length) (ha : k < A[i].length) (hx : k < x.length) (h : (gsum (rowT A x i) k).e = 0) :
    gsum (rowT A x i) (k + 1) = fplus (gsum (rowT A x i) k).n (gsum (rowT A x i) k).d A[i][k] 1 x[k].1 x[k].2 := by
  rw [gsum_succ h]; simp [rowT, cel, List.getD, hi, ha, hx]
theorem col_succ {A : List (List Int)} {r : List (Int × Int)} {i k : Nat} (hi : i < A.length) (ha : k < A[i].length) (hx : i < r.length) (h : (gsum (colT A r k) i).e = 0) :
    gsum (colT A r k) (i + 1) = fplus (gsum (colT A r k) i).n (gsum (colT A r k) i).d A[i][k] 1 r[i].1 r[i].2 := by
  rw [gsum_succ h]; simp [colT, cel, List.getD, hi, ha, hx]
/-- An error in a row's sum ends the residual. -/
theorem res_end {A : List (List Int)} {B : List Int} {x : List (Int × Int)} {m j N : Nat} (h : (rowsOf (nres A B x) m).2 = 0) (hj : j < x.length) (he : ¬ (gsum (rowT A x m) (j + 1)).e = 0) (hm : m < N) : rowsOf (nres A B x) N = ([], (gsum (rowT A x m) (j + 1)).e) := by
  have h1 := gsum_stop he x.length hj
  have h2 : ¬ (gsum (rowT A x m) x.length).e = 0 := by rw [h1]; exact he
  rw [rows_end h hm (by rw [nres_1 h2]; exact h2), nres_1 h2, h1]
theorem grad_end {A : List (List Int)} {r : List (Int × Int)} {m j N M : Nat} (h : (rowsOf (fun k => gsum (colT A r k) M) m).2 = 0) (hj : j < M) (he : ¬ (gsum (colT A r m) (j + 1)).e = 0) (hm : m < N) : rowsOf (fun k => gsum (colT A r k) M) N = ([], (gsum (colT A r m) (j + 1)).e) := by
  have h1 := gsum_stop he M hj
  rw [rows_end h hm (by show ¬ (gsum (colT A r m) M).e = 0; rw [h1]; exact he)]
  show ([], (gsum (colT A r m) M).e) = _
  rw [h1]
end Go.Proofs.Ythlcmlngmcoknaa
