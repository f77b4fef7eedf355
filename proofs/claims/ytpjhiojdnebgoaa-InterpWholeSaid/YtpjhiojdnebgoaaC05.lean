/- What is proved here: contracts of functions and plain facts, several texts in one; each one says ahead what it proves, and its conditions. -/
import Derived.Test.YtpjhiojdnebgoaaC04
/- What is proved here: plain facts on fractions: what Make gives for small numbers, and how the order reads. No program in sight. -/
namespace Go.Proofs.Ytpjhiojdnebgoaa
open Go.RowKit

theorem natAbs_div_gcd (a b : Nat) (hb : 0 < b) : Nat.gcd (a / Nat.gcd a b) (b / Nat.gcd a b) = 1 := Nat.gcd_div_gcd_div_gcd_of_pos_right hb

theorem fchk_ok {n d : Int} (h1 : 1 ≤ d) (h2 : d ≤ 1000000000000000000) (h3 : -1000000000000000000 ≤ n) (h4 : n ≤ 1000000000000000000) (hg : Nat.gcd n.natAbs d.natAbs = 1) : fchk n d = 0 := by
  rw [fchk_gcd h1 h2 h3 h4, if_pos hg]

/-- The fraction of two numbers within 10^18, the second one greater than 0. -/
theorem fmk_ok {num den : Int} (h1 : 1 ≤ den) (h2 : den ≤ 1000000000000000000) (h3 : -1000000000000000000 ≤ num) (h4 : num ≤ 1000000000000000000) :
    (fmk num den).e = 0 ∧ fchk (fmk num den).n (fmk num den).d = 0 ∧ (fmk num den).n * den = num * (fmk num den).d := by
  rw [fmk_ne (by omega)]
  have hg : 0 < Nat.gcd num.natAbs den.natAbs := Nat.gcd_pos_of_pos_right _ (by omega)
  have e1 : (num.natAbs : Int) / ((Nat.gcd num.natAbs den.natAbs : Nat) : Int) = ((num.natAbs / Nat.gcd num.natAbs den.natAbs : Nat) : Int) := (Int.natCast_ediv _ _).symm
  have e2 : (den.natAbs : Int) / ((Nat.gcd num.natAbs den.natAbs : Nat) : Int) = ((den.natAbs / Nat.gcd num.natAbs den.natAbs : Nat) : Int) := (Int.natCast_ediv _ _).symm
  rw [e1, e2]
  have q1 := Nat.div_le_self num.natAbs (Nat.gcd num.natAbs den.natAbs)
  have q2 := Nat.div_le_self den.natAbs (Nat.gcd num.natAbs den.natAbs)
  have hc := natAbs_div_gcd num.natAbs den.natAbs (by omega)
  have m1 := Nat.div_mul_cancel (Nat.gcd_dvd_left num.natAbs den.natAbs)
  have m2 := Nat.div_mul_cancel (Nat.gcd_dvd_right num.natAbs den.natAbs)
  have hpos : 0 < den.natAbs / Nat.gcd num.natAbs den.natAbs := Nat.div_pos (Nat.gcd_le_right _ (by omega)) hg
  generalize Nat.gcd num.natAbs den.natAbs = g at *
  generalize num.natAbs / g = u at *
  generalize den.natAbs / g = v at *
  rw [bld_yes (by omega)]
  have hden : (den : Int) = (v : Int) * g := by rw [← Int.natCast_mul, m2]; omega
  have hd : decide (den < 0) = false := by simp; omega
  rw [hd]
  by_cases hn : num < 0
  · have hnum : num = -((u : Int) * g) := by rw [← Int.natCast_mul, m1]; omega
    have hd : decide (num < 0) = true := by simpa using hn
    rw [hd]
    simp only [bne_iff_ne, ne_eq, Bool.true_eq_false, not_false_eq_true, if_true]
    refine ⟨trivial, fchk_ok (by omega) (by omega) (by omega) (by omega) (by simpa using hc), ?_⟩
    rw [hden, hnum, Int.neg_mul, Int.neg_mul, Int.mul_comm (v : Int) g, Int.mul_assoc]
  · have hnum : num = (u : Int) * g := by rw [← Int.natCast_mul, m1]; omega
    have hd : decide (num < 0) = false := by simpa using hn
    rw [hd]
    simp only [bne_self_eq_false, Bool.false_eq_true, if_false]
    refine ⟨trivial, fchk_ok (by omega) (by omega) (by omega) (by omega) (by simpa using hc), ?_⟩
    rw [hden, hnum, Int.mul_comm (v : Int) g, Int.mul_assoc]

theorem fcmp_ge {an ad bn bd : Int} : 0 ≤ fcmp an ad bn bd ↔ bn * ad ≤ an * bd := by
  unfold fcmp; split
  · omega
  · split <;> omega
theorem fcmp_gt_iff {an ad bn bd : Int} : 0 < fcmp an ad bn bd ↔ bn * ad < an * bd := by
  unfold fcmp; split
  · omega
  · split <;> omega
/-- A fraction that equals num / den compares as num / den. -/
theorem frac_le {a b num den fn fd : Int} (hb : 1 ≤ b) (hd : 1 ≤ den) (h : a * den = num * b) : fn * b ≤ a * fd ↔ fn * den ≤ num * fd := by
  have e1 : (fn * b) * den = (fn * den) * b := by rw [Int.mul_assoc, Int.mul_comm b, ← Int.mul_assoc]
  have e2 : (a * fd) * den = (num * fd) * b := by rw [Int.mul_assoc, Int.mul_comm fd, ← Int.mul_assoc, h, Int.mul_assoc, Int.mul_comm b, ← Int.mul_assoc]
  constructor
  · intro h1
    have h2 := Int.mul_le_mul_of_nonneg_right h1 (show 0 ≤ den by omega)
    rw [e1, e2] at h2
    exact Int.le_of_mul_le_mul_right h2 (by omega)
  · intro h1
    have h2 := Int.mul_le_mul_of_nonneg_right h1 (show 0 ≤ b by omega)
    rw [← e1, ← e2] at h2
    exact Int.le_of_mul_le_mul_right h2 (by omega)
theorem fr_i64 {n d : Int} (h : fchk n d = 0) : i64 n ∧ i64 d := by
  obtain ⟨u1, u2, u3, u4, _⟩ := fok_of h
  exact ⟨⟨by omega, by omega⟩, ⟨by omega, by omega⟩⟩

end Go.Proofs.Ytpjhiojdnebgoaa

/- What is proved here: the product of two fractions, as numbers. No program in sight. -/
namespace Go.Proofs.Ytpjhiojdnebgoaa
open Go.RowKit

/-- The product of two fractions. -/
def fmulV (an ad bn bd : Int) : FR :=
  bld (decide (an < 0) != decide (bn < 0)) ((an.natAbs / Nat.gcd an.natAbs bd.natAbs * (bn.natAbs / Nat.gcd bn.natAbs ad.natAbs) : Nat) : Int) ((ad.natAbs / Nat.gcd bn.natAbs ad.natAbs * (bd.natAbs / Nat.gcd an.natAbs bd.natAbs) : Nat) : Int)
end Go.Proofs.Ytpjhiojdnebgoaa

/- What is proved here: fractions as rational numbers: what Make, and the sum, the difference, the product and the quotient of two fractions come to. No program in sight. -/
namespace Go.Proofs.Ytpjhiojdnebgoaa
open Go.RowKit

/-- A rational number whose numbers are within 10^18. -/
def inr (x : Rat) : Prop := x.num.natAbs ≤ 1000000000000000000 ∧ x.den ≤ 1000000000000000000
instance (x : Rat) : Decidable (inr x) := by unfold inr; infer_instance
/-- A rational number as a fraction: error 16 if it is out of range. -/
def pack (x : Rat) : FR := if inr x then ⟨x.num, x.den, 0⟩ else ⟨0, 0, 16⟩
theorem pack_ok {x : Rat} (h : inr x) : pack x = ⟨x.num, x.den, 0⟩ := if_pos h
theorem pack_no {x : Rat} (h : ¬ inr x) : pack x = ⟨0, 0, 16⟩ := if_neg h
theorem pack_e {x : Rat} : (pack x).e = 0 ↔ inr x := by
  by_cases h : inr x
  · rw [pack_ok h]; simp [h]
  · rw [pack_no h]; simp [h]
theorem fchk_inr {x : Rat} (h : inr x) : fchk x.num x.den = 0 := by
  have := x.den_pos
  have h1 := h.1
  have h2 := h.2
  exact fchk_ok (by omega) (by omega) (by omega) (by omega) (by simpa using x.reduced)
theorem Q_ok {n d : Int} (h : fchk n d = 0) : (Rat.divInt n d).num = n ∧ ((Rat.divInt n d).den : Int) = d ∧ inr (Rat.divInt n d) := by
  obtain ⟨u1, u2, u3, u4, u5⟩ := fok_of h
  obtain ⟨D, rfl⟩ := Int.eq_ofNat_of_zero_le (show 0 ≤ d by omega)
  have e : (⟨n, D, by omega, by simpa using u5⟩ : Rat) = Rat.divInt n (D : Int) := Rat.mk_eq_divInt
  rw [← e]
  exact ⟨rfl, rfl, by show _ ≤ _; simp only; omega, by show _ ≤ _; simp only; omega⟩
theorem Q_self (x : Rat) : Rat.divInt x.num (x.den : Int) = x := Rat.num_divInt_den x
theorem Q_mul {num den : Int} (h : den ≠ 0) : num * ((Rat.divInt num den).den : Int) = (Rat.divInt num den).num * den := by
  have hd := (Rat.divInt num den).den_pos
  exact (Rat.divInt_eq_divInt_iff h (by omega)).1 (Q_self (Rat.divInt num den)).symm

/-- The fraction of num / den from any two numbers without a common divisor that have the same ratio. -/
theorem fmk_of {num den : Int} {u v : Nat} (hd : den ≠ 0) (hc : Nat.gcd u v = 1) (h : num.natAbs * v = u * den.natAbs) :
    fmk num den = bld (decide (num < 0) != decide (den < 0)) (u : Int) (v : Int) := by
  have hv : 0 < v := by
    rcases Nat.eq_zero_or_pos v with h0 | h0
    · subst h0
      have hu : u = 0 := by
        rw [Nat.mul_zero] at h
        rcases Nat.mul_eq_zero.1 h.symm with h1 | h1
        · exact h1
        · omega
      subst hu
      simp at hc
    · exact h0
  have d1 : v ∣ den.natAbs := by
    have : v ∣ u * den.natAbs := ⟨num.natAbs, by rw [← h, Nat.mul_comm]⟩
    exact Nat.Coprime.dvd_of_dvd_mul_left (Nat.Coprime.symm hc) this
  obtain ⟨k, hk⟩ := d1
  have hk0 : 0 < k := by
    rcases Nat.eq_zero_or_pos k with h0 | h0
    · subst h0; simp at hk; omega
    · exact h0
  have hn : num.natAbs = u * k := by
    rw [hk, ← Nat.mul_assoc, Nat.mul_comm u v, Nat.mul_assoc, Nat.mul_comm v] at h
    exact Nat.eq_of_mul_eq_mul_right hv h
  rw [fmk_ne hd, hn, hk, Nat.gcd_mul_right, hc, Nat.one_mul, ← Int.natCast_ediv, ← Int.natCast_ediv, Nat.mul_div_cancel _ hk0, Nat.mul_div_cancel _ hk0]

theorem bld_sign {neg neg' : Bool} {u v : Int} (h : u = 0 ∨ neg = neg') : bld neg u v = bld neg' u v := by
  rcases h with h | h
  · subst h; unfold bld; simp
  · rw [h]
theorem bld_pack {x : Rat} {neg : Bool} (h : x.num = 0 ∨ neg = decide (x.num < 0)) : bld neg (x.num.natAbs : Int) (x.den : Int) = pack x := by
  rw [bld_sign (neg' := decide (x.num < 0)) (by rcases h with h | h; exact .inl (by omega); exact .inr h)]
  by_cases hi : inr x
  · rw [pack_ok hi, bld_yes (by have := hi.1; have := hi.2; omega)]
    have : (if decide (x.num < 0) = true then -(x.num.natAbs : Int) else (x.num.natAbs : Int)) = x.num := by
      by_cases hn : x.num < 0
      · rw [decide_eq_true hn, if_pos rfl]; omega
      · rw [decide_eq_false hn, if_neg (by decide)]; omega
    rw [this]
  · rw [pack_no hi, bld_no]
    unfold inr at hi
    omega
theorem fmk_pack {num den : Int} (h : den ≠ 0) : fmk num den = pack (Rat.divInt num den) := by
  have hm := Q_mul (num := num) h
  have hd := (Rat.divInt num den).den_pos
  have hr := (Rat.divInt num den).reduced
  rw [fmk_of (u := (Rat.divInt num den).num.natAbs) (v := (Rat.divInt num den).den) h hr (by
    have := congrArg Int.natAbs hm
    rwa [Int.natAbs_mul, Int.natAbs_mul, Int.natAbs_natCast] at this)]
  refine bld_pack ?_
  generalize Rat.divInt num den = x at *
  have hs := congrArg Int.sign hm
  rw [Int.sign_mul, Int.sign_mul, Int.sign_eq_one_of_pos (by omega : (0 : Int) < (x.den : Int)), Int.mul_one] at hs
  generalize x.num = m at *
  rcases Int.lt_trichotomy m 0 with h1 | h1 | h1
  · right
    rw [Int.sign_eq_neg_one_of_neg h1] at hs
    rcases Int.lt_trichotomy den 0 with h2 | h2 | h2
    · rw [Int.sign_eq_neg_one_of_neg h2] at hs
      have := Int.sign_eq_one_iff_pos.1 (by omega : num.sign = 1)
      rw [decide_eq_true h1, decide_eq_true h2, decide_eq_false (by omega)]; rfl
    · omega
    · rw [Int.sign_eq_one_of_pos h2] at hs
      have := Int.sign_eq_neg_one_iff_neg.1 (by omega : num.sign = -1)
      rw [decide_eq_true h1, decide_eq_true this, decide_eq_false (by omega)]; rfl
  · exact .inl h1
  · right
    rw [Int.sign_eq_one_of_pos h1] at hs
    rcases Int.lt_trichotomy den 0 with h2 | h2 | h2
    · rw [Int.sign_eq_neg_one_of_neg h2] at hs
      have := Int.sign_eq_neg_one_iff_neg.1 (by omega : num.sign = -1)
      rw [decide_eq_true this, decide_eq_true h2, decide_eq_false (by omega)]; rfl
    · omega
    · rw [Int.sign_eq_one_of_pos h2] at hs
      have := Int.sign_eq_one_iff_pos.1 (by omega : num.sign = 1)
      rw [decide_eq_false (show ¬ num < 0 by omega), decide_eq_false (show ¬ den < 0 by omega), decide_eq_false (show ¬ m < 0 by omega)]; rfl

/-- The product of two fractions is the rational one. -/
theorem fmulV_pack {an ad bn bd : Int} (h1 : fchk an ad = 0) (h2 : fchk bn bd = 0) : fmulV an ad bn bd = pack (Rat.divInt an ad * Rat.divInt bn bd) := by
  obtain ⟨u1, u2, u3, u4, u5⟩ := fok_of h1
  obtain ⟨v1, v2, v3, v4, v5⟩ := fok_of h2
  rw [Rat.divInt_mul_divInt, ← fmk_pack (Int.mul_ne_zero (by omega) (by omega))]
  unfold fmulV
  have gp : 0 < Nat.gcd an.natAbs bd.natAbs := Nat.gcd_pos_of_pos_right _ (by omega)
  have hp : 0 < Nat.gcd bn.natAbs ad.natAbs := Nat.gcd_pos_of_pos_right _ (by omega)
  have c1 := Nat.gcd_div_gcd_div_gcd_of_pos_right (n := an.natAbs) (show 0 < bd.natAbs by omega)
  have c2 := Nat.gcd_div_gcd_div_gcd_of_pos_right (n := bn.natAbs) (show 0 < ad.natAbs by omega)
  have m1 := Nat.div_mul_cancel (Nat.gcd_dvd_left an.natAbs bd.natAbs)
  have m2 := Nat.div_mul_cancel (Nat.gcd_dvd_right an.natAbs bd.natAbs)
  have m3 := Nat.div_mul_cancel (Nat.gcd_dvd_left bn.natAbs ad.natAbs)
  have m4 := Nat.div_mul_cancel (Nat.gcd_dvd_right bn.natAbs ad.natAbs)
  generalize Nat.gcd an.natAbs bd.natAbs = g at *
  generalize Nat.gcd bn.natAbs ad.natAbs = h at *
  generalize ea : an.natAbs / g = p at *
  generalize eb : bn.natAbs / h = q at *
  generalize ec : ad.natAbs / h = r at *
  generalize ed : bd.natAbs / g = s at *
  have cpr : Nat.Coprime p r := by
    have : Nat.Coprime (p * g) (r * h) := by rw [m1, m4]; exact u5
    exact Nat.Coprime.coprime_dvd_left ⟨g, rfl⟩ (Nat.Coprime.coprime_dvd_right ⟨h, rfl⟩ this)
  have cqs : Nat.Coprime q s := by
    have : Nat.Coprime (q * h) (s * g) := by rw [m3, m2]; exact v5
    exact Nat.Coprime.coprime_dvd_left ⟨h, rfl⟩ (Nat.Coprime.coprime_dvd_right ⟨g, rfl⟩ this)
  have cps : Nat.Coprime p s := c1
  have cqr : Nat.Coprime q r := c2
  have hc : Nat.Coprime (p * q) (r * s) := Nat.Coprime.mul_left (Nat.Coprime.mul_right cpr cps) (Nat.Coprime.mul_right cqr cqs)
  rw [fmk_of (u := p * q) (v := r * s) (Int.mul_ne_zero (by omega) (by omega)) hc (by
    rw [Int.natAbs_mul, Int.natAbs_mul, ← m1, ← m2, ← m3, ← m4]; grind)]
  refine bld_sign ?_
  have d0 : ¬ ad * bd < 0 := by have := Int.mul_pos (show 0 < ad by omega) (show 0 < bd by omega); omega
  by_cases z1 : an = 0
  · left
    subst z1
    have hz : p * g = 0 := by rw [m1]; rfl
    have : p = 0 := by
      rcases Nat.mul_eq_zero.1 hz with h | h
      · exact h
      · omega
    subst this; simp
  · by_cases z2 : bn = 0
    · left
      subst z2
      have hz : q * h = 0 := by rw [m3]; rfl
      have : q = 0 := by
        rcases Nat.mul_eq_zero.1 hz with h | h
        · exact h
        · omega
      subst this; simp
    · right
      rcases Int.lt_or_gt_of_ne z1 with s1 | s1 <;> rcases Int.lt_or_gt_of_ne z2 with s2 | s2
      · have := Int.mul_pos_of_neg_of_neg s1 s2
        have e1 : decide (an < 0) = true := by simpa using s1
        have e2 : decide (bn < 0) = true := by simpa using s2
        have e3 : decide (an * bn < 0) = false := by simp; omega
        have e4 : decide (ad * bd < 0) = false := by simpa using d0
        rw [e1, e2, e3, e4]; try rfl
      · have := Int.mul_neg_of_neg_of_pos s1 s2
        have e1 : decide (an < 0) = true := by simpa using s1
        have e2 : decide (bn < 0) = false := by simp; omega
        have e3 : decide (an * bn < 0) = true := by simpa using this
        have e4 : decide (ad * bd < 0) = false := by simpa using d0
        rw [e1, e2, e3, e4]; try rfl
      · have := Int.mul_neg_of_pos_of_neg s1 s2
        have e1 : decide (an < 0) = false := by simp; omega
        have e2 : decide (bn < 0) = true := by simpa using s2
        have e3 : decide (an * bn < 0) = true := by simpa using this
        have e4 : decide (ad * bd < 0) = false := by simpa using d0
        rw [e1, e2, e3, e4]; try rfl
      · have := Int.mul_pos s1 s2
        have e1 : decide (an < 0) = false := by simp; omega
        have e2 : decide (bn < 0) = false := by simp; omega
        have e3 : decide (an * bn < 0) = false := by simp; omega
        have e4 : decide (ad * bd < 0) = false := by simpa using d0
        rw [e1, e2, e3, e4]; try rfl

/-- The sum's number has no divisor in common with one denominator's own part. -/
theorem sum_coprime {A B : Int} {d a b : Nat} (hab : Nat.Coprime a b) (hA : Nat.Coprime A.natAbs (a * d)) : Nat.Coprime (A * b + B * a).natAbs a := by
  have hp1 := Nat.gcd_dvd_left (A * b + B * a).natAbs a
  have hp2 := Nat.gcd_dvd_right (A * b + B * a).natAbs a
  show Nat.gcd _ _ = 1
  generalize Nat.gcd (A * b + B * a).natAbs a = p at *
  have i1 : (p : Int) ∣ A * b + B * a := Int.natAbs_dvd_natAbs.1 hp1
  have i2 : (p : Int) ∣ B * a := Int.dvd_trans (Int.natCast_dvd_natCast.2 hp2) (Int.dvd_mul_left _ _)
  have i3 : (p : Int) ∣ A * b := (Int.dvd_iff_dvd_of_dvd_add i1).2 i2
  have i4 : p ∣ A.natAbs * b := by have := Int.natAbs_dvd_natAbs.2 i3; rwa [Int.natAbs_mul, Int.natAbs_natCast, Int.natAbs_natCast] at this
  have c : Nat.Coprime p A.natAbs := (Nat.Coprime.coprime_dvd_right (Nat.dvd_trans hp2 ⟨d, rfl⟩) hA).symm
  have i5 : p ∣ b := c.dvd_of_dvd_mul_left i4
  have := Nat.dvd_gcd hp2 i5
  rw [hab] at this
  exact Nat.eq_one_of_dvd_one this

/-- The sum of two fractions: S is the absolute value of the sum's number. -/
theorem sum_pack {an ad bn bd : Int} {neg : Bool} (h1 : fchk an ad = 0) (h2 : fchk bn bd = 0) (S : Nat)
    (hS : an * ((bd.natAbs / Nat.gcd ad.natAbs bd.natAbs : Nat) : Int) + bn * ((ad.natAbs / Nat.gcd ad.natAbs bd.natAbs : Nat) : Int) = if neg then -(S : Int) else (S : Int)) :
    bld neg ((S / Nat.gcd (Nat.gcd ad.natAbs bd.natAbs) S : Nat) : Int) ((ad.natAbs / Nat.gcd ad.natAbs bd.natAbs * (bd.natAbs / Nat.gcd (Nat.gcd ad.natAbs bd.natAbs) S) : Nat) : Int) = pack (Rat.divInt an ad + Rat.divInt bn bd) := by
  obtain ⟨u1, u2, u3, u4, u5⟩ := fok_of h1
  obtain ⟨v1, v2, v3, v4, v5⟩ := fok_of h2
  rw [Rat.divInt_add_divInt _ _ (by omega) (by omega), ← fmk_pack (Int.mul_ne_zero (by omega) (by omega))]
  obtain ⟨x, rfl⟩ := Int.eq_ofNat_of_zero_le (show 0 ≤ ad by omega)
  obtain ⟨y, rfl⟩ := Int.eq_ofNat_of_zero_le (show 0 ≤ bd by omega)
  simp only [Int.natAbs_natCast] at *
  have dp : 0 < Nat.gcd x y := Nat.gcd_pos_of_pos_right _ (by omega)
  have cab : Nat.Coprime (x / Nat.gcd x y) (y / Nat.gcd x y) := Nat.gcd_div_gcd_div_gcd_of_pos_right (by omega)
  have mx := Nat.div_mul_cancel (Nat.gcd_dvd_left x y)
  have my := Nat.div_mul_cancel (Nat.gcd_dvd_right x y)
  generalize Nat.gcd x y = d at *
  generalize x / d = a at *
  generalize y / d = b at *
  subst mx my
  have gp : 0 < Nat.gcd d S := Nat.gcd_pos_of_pos_left _ dp
  have cts : Nat.Coprime (d / Nat.gcd d S) (S / Nat.gcd d S) := Nat.gcd_div_gcd_div_gcd_of_pos_left dp
  have md := Nat.div_mul_cancel (Nat.gcd_dvd_left d S)
  have ms := Nat.div_mul_cancel (Nat.gcd_dvd_right d S)
  have hSa : (an * b + bn * a).natAbs = S := by rw [hS]; split <;> simp
  have cA : Nat.Coprime S a := by rw [← hSa]; exact sum_coprime cab u5
  have cB : Nat.Coprime S b := by rw [← hSa, Int.add_comm]; exact sum_coprime cab.symm v5
  generalize Nat.gcd d S = g at *
  generalize et : d / g = t at *
  generalize es : S / g = s at *
  subst md ms
  have cA' : Nat.Coprime s a := Nat.Coprime.coprime_dvd_left ⟨g, rfl⟩ cA
  have cB' : Nat.Coprime s b := Nat.Coprime.coprime_dvd_left ⟨g, rfl⟩ cB
  have eb : b * (t * g) / g = b * t := by rw [← Nat.mul_assoc, Nat.mul_div_cancel _ gp]
  rw [eb]
  have hnum : an * ((b * (t * g) : Nat) : Int) + bn * ((a * (t * g) : Nat) : Int) = (an * b + bn * a) * ((t * g : Nat) : Int) := by
    rw [Int.natCast_mul b, Int.natCast_mul a, Int.add_mul, Int.mul_assoc, Int.mul_assoc]
  rw [hnum]
  have hden : 0 < ((a * (t * g) : Nat) : Int) * ((b * (t * g) : Nat) : Int) := Int.mul_pos (by omega) (by omega)
  have hc : Nat.gcd s (a * (b * t)) = 1 := Nat.Coprime.mul_right cA' (Nat.Coprime.mul_right cB' cts.symm)
  rw [fmk_of (u := s) (v := a * (b * t)) (by omega) hc (by
    rw [Int.natAbs_mul, hSa, Int.natAbs_mul, Int.natAbs_natCast, Int.natAbs_natCast, Int.natAbs_natCast]; grind)]
  refine bld_sign ?_
  rcases Nat.eq_zero_or_pos s with z | z
  · left; omega
  · right
    have hs : 0 < s * g := Nat.mul_pos z gp
    have ht : (0 : Int) < ((t * g : Nat) : Int) := by omega
    have d2 : decide (((a * (t * g) : Nat) : Int) * ((b * (t * g) : Nat) : Int) < 0) = false := by simp only [decide_eq_false_iff_not]; omega
    rw [d2, hS]
    cases neg
    · have := Int.mul_pos (show (0 : Int) < ((s * g : Nat) : Int) by omega) ht
      have d1 : decide ((if false = true then -((s * g : Nat) : Int) else ((s * g : Nat) : Int)) * ((t * g : Nat) : Int) < 0) = false := by
        simp only [Bool.false_eq_true, if_false, decide_eq_false_iff_not]; omega
      rw [d1]; rfl
    · have := Int.mul_neg_of_neg_of_pos (show -((s * g : Nat) : Int) < 0 by omega) ht
      have d1 : decide ((if true = true then -((s * g : Nat) : Int) else ((s * g : Nat) : Int)) * ((t * g : Nat) : Int) < 0) = true := by
        simp only [if_true, decide_eq_true_eq]; omega
      rw [d1]; rfl

/-- A number in two halves of 64 bits: sums and differences. -/
theorem add_halves (x y : Nat) (h : x + y < 340282366920938463463374607431768211456) :
    (x % 18446744073709551616 + y % 18446744073709551616 + 0) % 18446744073709551616 = (x + y) % 18446744073709551616 ∧
    (x % 18446744073709551616 + y % 18446744073709551616 + 0) / 18446744073709551616 ≤ 1 ∧
    (x / 18446744073709551616 + y / 18446744073709551616 + (x % 18446744073709551616 + y % 18446744073709551616 + 0) / 18446744073709551616) % 18446744073709551616 = (x + y) / 18446744073709551616 := by omega
theorem sub_halves (x y : Nat) (hy : y ≤ x) (h : x < 340282366920938463463374607431768211456) :
    (x % 18446744073709551616 + 18446744073709551616 - y % 18446744073709551616 - 0) % 18446744073709551616 = (x - y) % 18446744073709551616 ∧
    (if x % 18446744073709551616 < y % 18446744073709551616 + 0 then 1 else 0) ≤ 1 ∧
    (x / 18446744073709551616 + 18446744073709551616 - y / 18446744073709551616 - (if x % 18446744073709551616 < y % 18446744073709551616 + 0 then 1 else 0)) % 18446744073709551616 = (x - y) / 18446744073709551616 := by
  split <;> omega

/-- The sum of two fractions. -/
def fadd (an ad bn bd : Int) : FR := if fboth an ad bn bd = 0 then pack (Rat.divInt an ad + Rat.divInt bn bd) else ⟨0, 0, fboth an ad bn bd⟩
def fsub (an ad bn bd : Int) : FR := if fboth an ad bn bd = 0 then pack (Rat.divInt an ad - Rat.divInt bn bd) else ⟨0, 0, fboth an ad bn bd⟩
def fdiv (an ad bn bd : Int) : FR := if fboth an ad bn bd = 0 then (if bn = 0 then ⟨0, 0, 18⟩ else pack (Rat.divInt an ad / Rat.divInt bn bd)) else ⟨0, 0, fboth an ad bn bd⟩
theorem fadd_0 {an ad bn bd : Int} (h : fboth an ad bn bd = 0) : fadd an ad bn bd = pack (Rat.divInt an ad + Rat.divInt bn bd) := if_pos h
theorem fadd_8 {an ad bn bd : Int} (h : ¬ fboth an ad bn bd = 0) : fadd an ad bn bd = ⟨0, 0, fboth an ad bn bd⟩ := if_neg h
theorem fsub_0 {an ad bn bd : Int} (h : fboth an ad bn bd = 0) : fsub an ad bn bd = pack (Rat.divInt an ad - Rat.divInt bn bd) := if_pos h
theorem fsub_8 {an ad bn bd : Int} (h : ¬ fboth an ad bn bd = 0) : fsub an ad bn bd = ⟨0, 0, fboth an ad bn bd⟩ := if_neg h
theorem fdiv_0 {an ad bn bd : Int} (h : fboth an ad bn bd = 0) (hz : bn = 0) : fdiv an ad bn bd = ⟨0, 0, 18⟩ := by unfold fdiv; rw [if_pos h, if_pos hz]
theorem fdiv_1 {an ad bn bd : Int} (h : fboth an ad bn bd = 0) (hz : ¬ bn = 0) : fdiv an ad bn bd = pack (Rat.divInt an ad / Rat.divInt bn bd) := by unfold fdiv; rw [if_pos h, if_neg hz]
theorem fdiv_8 {an ad bn bd : Int} (h : ¬ fboth an ad bn bd = 0) : fdiv an ad bn bd = ⟨0, 0, fboth an ad bn bd⟩ := if_neg h
theorem fchk_neg {n d : Int} (h : fchk n d = 0) : fchk (-n) d = 0 := by
  obtain ⟨u1, u2, u3, u4, u5⟩ := fok_of h
  exact fchk_ok u1 u2 (by omega) (by omega) (by rwa [Int.natAbs_neg])
/-- The fraction over which one is divided. -/
theorem fchk_over {n d : Int} (h : fchk n d = 0) (hn : 0 < n) : fchk d n = 0 := by
  obtain ⟨u1, u2, u3, u4, u5⟩ := fok_of h
  exact fchk_ok (by omega) (by omega) (by omega) (by omega) (by rwa [Nat.gcd_comm])
theorem fchk_over' {n d : Int} (h : fchk n d = 0) (hn : n < 0) : fchk (-d) (-n) = 0 := by
  obtain ⟨u1, u2, u3, u4, u5⟩ := fok_of h
  exact fchk_ok (by omega) (by omega) (by omega) (by omega) (by rwa [Int.natAbs_neg, Int.natAbs_neg, Nat.gcd_comm])
theorem sub_as_add (an ad bn bd : Int) : Rat.divInt an ad + Rat.divInt (-bn) bd = Rat.divInt an ad - Rat.divInt bn bd := by
  rw [← Rat.neg_divInt, Rat.sub_eq_add_neg]
theorem div_as_mul (an ad bn bd : Int) : Rat.divInt an ad * Rat.divInt bd bn = Rat.divInt an ad / Rat.divInt bn bd := by
  rw [Rat.div_def, Rat.inv_divInt]
theorem div_as_mul' (an ad bn bd : Int) : Rat.divInt an ad * Rat.divInt (-bd) (-bn) = Rat.divInt an ad / Rat.divInt bn bd := by
  rw [Rat.neg_divInt_neg, div_as_mul]
theorem pack_num (x : Rat) : (pack x).e = 0 → (pack x).n = x.num ∧ (pack x).d = x.den := by
  intro h
  rw [pack_ok (pack_e.1 h)]; exact ⟨rfl, rfl⟩
theorem pack_fchk {x : Rat} (h : (pack x).e = 0) : fchk (pack x).n (pack x).d = 0 := by
  rw [pack_ok (pack_e.1 h)]; exact fchk_inr (pack_e.1 h)
theorem pack_Q {x : Rat} (h : (pack x).e = 0) : Rat.divInt (pack x).n (pack x).d = x := by
  rw [pack_ok (pack_e.1 h)]; exact Q_self x
/-- A rational result is a fraction in range, or error 16 with 0 / 0. -/
theorem pack_i64 (x : Rat) : i64 (pack x).n ∧ i64 (pack x).d := by
  by_cases h : inr x
  · rw [pack_ok h]; have := h.1; have := h.2; exact ⟨⟨by show _ ≤ _; simp only; omega, by show _ ≤ _; simp only; omega⟩, ⟨by show _ ≤ _; simp only; omega, by show _ ≤ _; simp only; omega⟩⟩
  · rw [pack_no h]; exact ⟨⟨by decide, by decide⟩, ⟨by decide, by decide⟩⟩
theorem fchk_cases (n d : Int) : fchk n d = 0 ∨ fchk n d = 8 := by
  unfold fchk; split <;> simp
theorem fboth_cases (an ad bn bd : Int) : fboth an ad bn bd = 0 ∨ fboth an ad bn bd = 8 := by
  unfold fboth; split
  · exact fchk_cases _ _
  · exact fchk_cases _ _
theorem fboth_of {an ad bn bd : Int} (h1 : fchk an ad = 0) (h2 : fchk bn bd = 0) : fboth an ad bn bd = 0 := by rw [fboth_0 h1, h2]
end Go.Proofs.Ytpjhiojdnebgoaa

/- What is proved here: the product of two fractions that may be invalid: its cases. No program in sight. -/
namespace Go.Proofs.Ytpjhiojdnebgoaa
open Go.RowKit

def fmul (an ad bn bd : Int) : FR := if fboth an ad bn bd = 0 then fmulV an ad bn bd else ⟨0, 0, fboth an ad bn bd⟩
theorem fmul_0 {an ad bn bd : Int} (h : fboth an ad bn bd = 0) : fmul an ad bn bd = fmulV an ad bn bd := if_pos h
theorem fmul_8 {an ad bn bd : Int} (h : ¬ fboth an ad bn bd = 0) : fmul an ad bn bd = ⟨0, 0, fboth an ad bn bd⟩ := if_neg h
theorem bp_gen' {P : Program} {f : Func} {Q : Ending → World → Prop} {ex : Exit} {a : Act} {w : World} (F : World → Prop) (hF : F w) (h : ∀ W, F W → bodyPost P f Q ex a W) : bodyPost P f Q ex a w := h w hF
end Go.Proofs.Ytpjhiojdnebgoaa

/- What is proved here: a sum to which a product is added, as numbers. No program in sight. -/
namespace Go.Proofs.Ytpjhiojdnebgoaa
open Go.RowKit

theorem i64_0 : i64 0 := ⟨by decide, by decide⟩
theorem fmul_i64 (an ad bn bd : Int) : i64 (fmul an ad bn bd).n ∧ i64 (fmul an ad bn bd).d := by
  by_cases h : fboth an ad bn bd = 0
  · obtain ⟨c1, c2⟩ := fboth_ok h
    rw [fmul_0 h, fmulV_pack c1 c2]; exact pack_i64 _
  · rw [fmul_8 h]; exact ⟨i64_0, i64_0⟩
theorem fadd_i64 (an ad bn bd : Int) : i64 (fadd an ad bn bd).n ∧ i64 (fadd an ad bn bd).d := by
  by_cases h : fboth an ad bn bd = 0
  · rw [fadd_0 h]; exact pack_i64 _
  · rw [fadd_8 h]; exact ⟨i64_0, i64_0⟩
theorem fsub_i64 (an ad bn bd : Int) : i64 (fsub an ad bn bd).n ∧ i64 (fsub an ad bn bd).d := by
  by_cases h : fboth an ad bn bd = 0
  · rw [fsub_0 h]; exact pack_i64 _
  · rw [fsub_8 h]; exact ⟨i64_0, i64_0⟩
theorem fdiv_i64 (an ad bn bd : Int) : i64 (fdiv an ad bn bd).n ∧ i64 (fdiv an ad bn bd).d := by
  by_cases h : fboth an ad bn bd = 0
  · by_cases hz : bn = 0
    · rw [fdiv_0 h hz]; exact ⟨i64_0, i64_0⟩
    · rw [fdiv_1 h hz]; exact pack_i64 _
  · rw [fdiv_8 h]; exact ⟨i64_0, i64_0⟩
/-- The sum of s and the product of a and b. -/
def fplus (sn sd an ad bn bd : Int) : FR := if (fmul an ad bn bd).e = 0 then fadd sn sd (fmul an ad bn bd).n (fmul an ad bn bd).d else ⟨0, 0, (fmul an ad bn bd).e⟩
theorem fplus_0 {sn sd an ad bn bd : Int} (h : (fmul an ad bn bd).e = 0) : fplus sn sd an ad bn bd = fadd sn sd (fmul an ad bn bd).n (fmul an ad bn bd).d := if_pos h
theorem fplus_1 {sn sd an ad bn bd : Int} (h : ¬ (fmul an ad bn bd).e = 0) : fplus sn sd an ad bn bd = ⟨0, 0, (fmul an ad bn bd).e⟩ := if_neg h
theorem fplus_i64 (sn sd an ad bn bd : Int) : i64 (fplus sn sd an ad bn bd).n ∧ i64 (fplus sn sd an ad bn bd).d := by
  by_cases h : (fmul an ad bn bd).e = 0
  · rw [fplus_0 h]; exact fadd_i64 _ _ _ _
  · rw [fplus_1 h]; exact ⟨i64_0, i64_0⟩
theorem own_fourth (w : World) (T : TypeId) (cs : List Value) (o1 o2 o3 : Obj) : Own ((((w.alloc o1).alloc o2).alloc o3).alloc (.cells cs.toArray T (0, 0))) (w.heap.size + 1 + 1 + 1) T cs := by
  have h := own_third (w.alloc o1) T cs o2 o3
  rw [show (w.alloc o1).heap.size = w.heap.size + 1 from by simp] at h
  exact h
end Go.Proofs.Ytpjhiojdnebgoaa
