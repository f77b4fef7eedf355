/- What is proved here: plain laws on the values of visibilities: greatest common divisors, least common multiples, products with whole numbers. No program in sight. -/
import Derived.Test.YtapdkmonfoooiaaFmulP
namespace Go.Proofs.Ytapdkmonfoooiaa
open Go.RowKit

/-- A value is valid. -/
def cokB (re im den : Int) : Bool := decide (1 ≤ den) && decide (den ≤ 1000000000) && decide (-1000000000 ≤ re) && decide (re ≤ 1000000000) && decide (-1000000000 ≤ im) && decide (im ≤ 1000000000) && Nat.gcd (Nat.gcd re.natAbs im.natAbs) den.natAbs == 1
def CFit (re im den : Int) : Prop := 1 ≤ den ∧ den ≤ 1000000000 ∧ -1000000000 ≤ re ∧ re ≤ 1000000000 ∧ -1000000000 ≤ im ∧ im ≤ 1000000000
theorem cok_no {re im den : Int} (h : ¬ CFit re im den) : cokB re im den = false := by
  unfold CFit at h
  unfold cokB
  rw [← Bool.not_eq_true]
  intro h'
  simp only [Bool.and_eq_true, decide_eq_true_eq] at h'
  exact h ⟨h'.1.1.1.1.1.1, h'.1.1.1.1.1.2, h'.1.1.1.1.2, h'.1.1.1.2, h'.1.1.2, h'.1.2⟩
theorem cok_gcd {re im den : Int} (h : CFit re im den) : cokB re im den = decide (Nat.gcd (Nat.gcd re.natAbs im.natAbs) den.natAbs = 1) := by
  obtain ⟨a, b, c, d, e, f⟩ := h
  unfold cokB
  rw [decide_eq_true a, decide_eq_true b, decide_eq_true c, decide_eq_true d, decide_eq_true e, decide_eq_true f]
  simp [Bool.beq_eq_decide_eq]
theorem cok_fit {re im den : Int} (h : cokB re im den = true) : CFit re im den := by
  unfold cokB at h
  simp only [Bool.and_eq_true, decide_eq_true_eq] at h
  exact ⟨h.1.1.1.1.1.1, h.1.1.1.1.1.2, h.1.1.1.1.2, h.1.1.1.2, h.1.1.2, h.1.2⟩
/-- A visibility is valid. -/
def vokB (i j re im den n : Int) : Bool := decide (0 ≤ i) && decide (i < j) && decide (j < 8) && cokB re im den && decide (0 ≤ n) && decide (n ≤ 1000000)
def vchk (i j re im den n : Int) : Int := if vokB i j re im den n then 0 else 8
/-- The least denominator of two. -/
def wden (rd id : Int) : Int := ((rd.natAbs / Nat.gcd rd.natAbs id.natAbs * id.natAbs : Nat) : Int)
/-- Two fractions have a valid value together. -/
def wok (rn rd n d : Int) : Bool := decide (-1000000000 ≤ rn) && decide (rn ≤ 1000000000) && decide (rd ≤ 1000000000) && decide (-1000000000 ≤ n) && decide (n ≤ 1000000000) && decide (d ≤ 1000000000) && decide (wden rd d ≤ 1000000000) && cokB (rn * (wden rd d / rd)) (n * (wden rd d / d)) (wden rd d)
structure CX where
  re : Int
  im : Int
  den : Int
  e : Int
def wval (rn rd n d : Int) : CX := if wok rn rd n d then ⟨rn * (wden rd d / rd), n * (wden rd d / d), wden rd d, 0⟩ else ⟨0, 0, 0, 16⟩
theorem wval_1 {rn rd n d : Int} (h : wok rn rd n d = true) : wval rn rd n d = ⟨rn * (wden rd d / rd), n * (wden rd d / d), wden rd d, 0⟩ := if_pos h
theorem wval_0 {rn rd n d : Int} (h : wok rn rd n d = false) : wval rn rd n d = ⟨0, 0, 0, 16⟩ := if_neg (by rw [h]; decide)
structure VR where
  i : Int
  j : Int
  re : Int
  im : Int
  den : Int
  n : Int
  e : Int
def wbad (i j n : Int) : Bool := decide (i < 0) || decide (8 ≤ i) || decide (j < 0) || decide (8 ≤ j) || decide (i = j) || decide (n < 0) || decide (1000000 < n)
def wmk (i j rn rd m d n : Int) : VR :=
  if wbad i j n then ⟨0, 0, 0, 0, 0, 0, 2⟩ else if ¬ (fchk rn rd = 0 ∧ fchk m d = 0) then ⟨0, 0, 0, 0, 0, 0, 8⟩
  else if wok rn rd m d = false then ⟨0, 0, 0, 0, 0, 0, 16⟩
  else if j < i then ⟨j, i, (wval rn rd m d).re, -(wval rn rd m d).im, (wval rn rd m d).den, n, 0⟩ else ⟨i, j, (wval rn rd m d).re, (wval rn rd m d).im, (wval rn rd m d).den, n, 0⟩

theorem wden_facts {rd d : Int} (h1 : 1 ≤ rd) (h2 : 1 ≤ d) : 1 ≤ wden rd d ∧ rd ∣ wden rd d ∧ d ∣ wden rd d ∧ 1 ≤ wden rd d / rd ∧ 1 ≤ wden rd d / d := by
  obtain ⟨a, rfl⟩ := Int.eq_ofNat_of_zero_le (show 0 ≤ rd by omega)
  obtain ⟨b, rfl⟩ := Int.eq_ofNat_of_zero_le (show 0 ≤ d by omega)
  have ha : 0 < a := by omega
  have hb : 0 < b := by omega
  unfold wden
  simp only [Int.natAbs_natCast]
  have hg : 0 < Nat.gcd a b := Nat.gcd_pos_of_pos_left _ ha
  have e1 : a / Nat.gcd a b * b = a * (b / Nat.gcd a b) := by
    obtain ⟨x, hx⟩ := Nat.gcd_dvd_left a b
    obtain ⟨y, hy⟩ := Nat.gcd_dvd_right a b
    have q1 : a / Nat.gcd a b = x := by rw [Nat.div_eq_iff_eq_mul_left hg (Nat.gcd_dvd_left a b)]; rw [Nat.mul_comm]; exact hx
    have q2 : b / Nat.gcd a b = y := by rw [Nat.div_eq_iff_eq_mul_left hg (Nat.gcd_dvd_right a b)]; rw [Nat.mul_comm]; exact hy
    rw [q1, q2]
    calc x * b = x * (Nat.gcd a b * y) := by rw [← hy]
      _ = (Nat.gcd a b * x) * y := by rw [← Nat.mul_assoc, Nat.mul_comm x]
      _ = a * y := by rw [← hx]
  have p1 : 0 < a / Nat.gcd a b := Nat.div_pos (Nat.gcd_le_left _ ha) hg
  have p2 : 0 < b / Nat.gcd a b := Nat.div_pos (Nat.gcd_le_right _ hb) hg
  have p3 : 0 < a / Nat.gcd a b * b := Nat.mul_pos p1 hb
  refine ⟨by omega, ?_, ?_, ?_, ?_⟩
  · rw [e1]; exact Int.natCast_dvd_natCast.2 ⟨_, rfl⟩
  · exact Int.natCast_dvd_natCast.2 ⟨_, Nat.mul_comm _ _⟩
  · rw [e1, ← Int.natCast_ediv, Nat.mul_div_cancel_left _ ha]; omega
  · rw [← Int.natCast_ediv, Nat.mul_div_cancel _ hb]; omega
theorem wden_neg (rd d : Int) (rn n : Int) : wok rn rd (-n) d = wok rn rd n d := by
  have e : ∀ x y z : Int, cokB x (-y) z = cokB x y z := fun x y z => by
    unfold cokB
    rw [Int.natAbs_neg]
    congr 1
    rw [Bool.eq_iff_iff]
    simp only [Bool.and_eq_true, decide_eq_true_eq]
    constructor <;> (intro h; refine ⟨⟨⟨⟨⟨h.1.1.1.1.1, h.1.1.1.1.2⟩, h.1.1.1.2⟩, h.1.1.2⟩, ?_⟩, ?_⟩ <;> omega)
  unfold wok
  rw [Int.neg_mul, e, Bool.eq_iff_iff]
  simp only [Bool.and_eq_true, decide_eq_true_eq]
  constructor <;> (intro h; refine ⟨⟨⟨⟨⟨⟨⟨h.1.1.1.1.1.1.1, h.1.1.1.1.1.1.2⟩, h.1.1.1.1.1.2⟩, ?_⟩, ?_⟩, h.1.1.2⟩, h.1.2⟩, h.2⟩ <;> omega)
theorem fchk_neg (n d : Int) : fchk (-n) d = fchk n d := by
  unfold fchk fokB
  rw [Int.natAbs_neg]
  have : (decide (1 ≤ d) && decide (d ≤ 1000000000000000000) && decide (-1000000000000000000 ≤ -n) && decide (-n ≤ 1000000000000000000) && Nat.gcd n.natAbs d.natAbs == 1) = (decide (1 ≤ d) && decide (d ≤ 1000000000000000000) && decide (-1000000000000000000 ≤ n) && decide (n ≤ 1000000000000000000) && Nat.gcd n.natAbs d.natAbs == 1) := by
    rw [Bool.eq_iff_iff]
    simp only [Bool.and_eq_true, decide_eq_true_eq]
    constructor <;> (intro h; refine ⟨⟨⟨h.1.1.1, ?_⟩, ?_⟩, h.2⟩ <;> omega)
  rw [this]
/-- A fraction times a multiple of its denominator. -/
theorem fmul_whole {n d m : Int} (hd : 1 ≤ d) (hm : 1 ≤ m) (h : d ∣ m) : fmulV n d m 1 = bld (decide (n < 0)) ((n * (m / d)).natAbs : Int) 1 := by
  unfold fmulV
  have e1 : decide (m < 0) = false := decide_eq_false (by omega)
  obtain ⟨k, rfl⟩ := h
  have hk : 1 ≤ k := by
    by_cases hk : k ≤ 0
    · have := Int.mul_nonpos_of_nonneg_of_nonpos (show 0 ≤ d by omega) hk; omega
    · omega
  have e2 : Nat.gcd (d * k).natAbs d.natAbs = d.natAbs := by rw [Int.natAbs_mul, Nat.gcd_comm, Nat.gcd_mul_right_right]
  have e3 : Nat.gcd n.natAbs (Int.natAbs 1) = 1 := Nat.gcd_one_right _
  have hd' : 0 < d.natAbs := by omega
  rw [e1, e2, e3, Int.mul_ediv_cancel_left _ (by omega), Int.natAbs_mul, Nat.mul_div_cancel_left _ hd', Nat.div_one, Nat.div_self hd', Int.natAbs_mul]
  simp
theorem tmod_lt (a b : Int) (hb : b ≠ 0) : (a.tmod b).natAbs < b.natAbs := by
  rw [Int.natAbs_tmod]; exact Nat.mod_lt _ (by omega)
theorem gcd_tmod (a b : Int) : Nat.gcd b.natAbs (a.tmod b).natAbs = Nat.gcd a.natAbs b.natAbs := by
  rw [Int.natAbs_tmod, Nat.gcd_comm, ← Nat.gcd_rec, Nat.gcd_comm]
theorem gcd3 (a b c : Nat) : Nat.gcd b (Nat.gcd a c) = Nat.gcd (Nat.gcd a b) c := by
  rw [← Nat.gcd_assoc, Nat.gcd_comm b a]
theorem gcd2 (a b : Nat) : Nat.gcd b (Nat.gcd a b) = Nat.gcd a b := by
  rw [gcd3, Nat.gcd_assoc, Nat.gcd_self]
theorem wden_prog {rd d : Int} (h1 : 1 ≤ rd) (h2 : 1 ≤ d) : rd.tdiv ((Nat.gcd rd.natAbs d.natAbs : Nat) : Int) * d = wden rd d := by
  obtain ⟨a, rfl⟩ := Int.eq_ofNat_of_zero_le (show 0 ≤ rd by omega)
  obtain ⟨b, rfl⟩ := Int.eq_ofNat_of_zero_le (show 0 ≤ d by omega)
  unfold wden
  simp only [Int.natAbs_natCast]
  rw [Int.tdiv_eq_ediv_of_nonneg (by omega), ← Int.natCast_ediv, ← Int.natCast_mul]
theorem quo_le {rd d : Int} (h1 : 1 ≤ rd) : 1 ≤ rd.tdiv ((Nat.gcd rd.natAbs d.natAbs : Nat) : Int) ∧ rd.tdiv ((Nat.gcd rd.natAbs d.natAbs : Nat) : Int) ≤ rd := by
  obtain ⟨a, rfl⟩ := Int.eq_ofNat_of_zero_le (show 0 ≤ rd by omega)
  rw [Int.tdiv_eq_ediv_of_nonneg (by omega), ← Int.natCast_ediv]
  simp only [Int.natAbs_natCast]
  have hg : 0 < Nat.gcd a d.natAbs := Nat.gcd_pos_of_pos_left _ (by omega)
  have p1 : 0 < a / Nat.gcd a d.natAbs := Nat.div_pos (Nat.gcd_le_left _ (by omega)) hg
  have p2 := Nat.div_le_self a (Nat.gcd a d.natAbs)
  omega
theorem wden_ref {rd d : Int} (h1 : 1 ≤ rd) (h2 : 1 ≤ d) : (rd * d).tdiv ((Nat.gcd rd.natAbs d.natAbs : Nat) : Int) = wden rd d := by
  obtain ⟨a, rfl⟩ := Int.eq_ofNat_of_zero_le (show 0 ≤ rd by omega)
  obtain ⟨b, rfl⟩ := Int.eq_ofNat_of_zero_le (show 0 ≤ d by omega)
  unfold wden
  simp only [Int.natAbs_natCast]
  rw [← Int.natCast_mul, Int.tdiv_eq_ediv_of_nonneg (by omega), ← Int.natCast_ediv, Nat.mul_comm, Nat.mul_div_assoc _ (Nat.gcd_dvd_left a b), Nat.mul_comm]
theorem wden_le {rd d : Int} (h1 : 1 ≤ rd) (h2 : 1 ≤ d) : wden rd d ≤ rd * d := by
  rw [← wden_prog h1 h2]
  exact Int.mul_le_mul_of_nonneg_right (quo_le h1).2 (by omega)
/-- What a multiple of a denominator has of it. -/
theorem whole_mul {n d m : Int} (hd : 1 ≤ d) (hm : 1 ≤ m) (h : d ∣ m) (hb : (n * (m / d)).natAbs ≤ 1000000000000000000) : fmulV n d m 1 = ⟨n * (m / d), 1, 0⟩ := by
  rw [fmul_whole hd hm h, bld_yes (by omega)]
  obtain ⟨k, rfl⟩ := h
  have hk : 1 ≤ k := by
    by_cases hk : k ≤ 0
    · have := Int.mul_nonpos_of_nonneg_of_nonpos (show 0 ≤ d by omega) hk; omega
    · omega
  rw [Int.mul_ediv_cancel_left _ (by omega)]
  by_cases hn : n < 0
  · have : n * k < 0 := Int.mul_neg_of_neg_of_pos hn (by omega)
    rw [decide_eq_true hn, if_pos rfl]
    congr 1; omega
  · have : 0 ≤ n * k := Int.mul_nonneg (by omega) (by omega)
    rw [decide_eq_false hn, if_neg (by decide)]
    congr 1; omega
theorem whole_no {n d m : Int} (hd : 1 ≤ d) (hm : 1 ≤ m) (h : d ∣ m) (hb : 1000000000000000000 < (n * (m / d)).natAbs) : fmulV n d m 1 = ⟨0, 0, 16⟩ := by
  rw [fmul_whole hd hm h, bld_no (by omega)]
theorem mul_abs {n k : Int} (hk : 1 ≤ k) (h1 : -1000000000 ≤ n * k) (h2 : n * k ≤ 1000000000) : -1000000000 ≤ n ∧ n ≤ 1000000000 := by
  constructor
  · rcases Int.lt_or_le n 0 with h | h
    · have := Int.mul_le_mul_of_nonpos_left (a := n) (b := k) (c := 1) (by omega) hk; omega
    · omega
  · rcases Int.lt_or_le n 0 with h | h
    · omega
    · have := Int.mul_le_mul_of_nonneg_left (a := 1) (b := k) (c := n) hk (by omega); omega
theorem wok_ref {rn rd n d : Int} (h1 : 1 ≤ rd) (h2 : 1 ≤ d) (h3 : rd ≤ 1000000000) (h4 : d ≤ 1000000000) (h5 : wden rd d ≤ 1000000000) : wok rn rd n d = cokB (rn * (wden rd d / rd)) (n * (wden rd d / d)) (wden rd d) := by
  obtain ⟨_, _, _, k1, k2⟩ := wden_facts h1 h2
  cases hc : cokB (rn * (wden rd d / rd)) (n * (wden rd d / d)) (wden rd d) with
  | false => unfold wok; rw [hc, Bool.and_false]
  | true =>
    obtain ⟨_, _, c, e, f, g⟩ := cok_fit hc
    have m1 := mul_abs k1 c e
    have m2 := mul_abs k2 f g
    unfold wok
    rw [hc, decide_eq_true m1.1, decide_eq_true m1.2, decide_eq_true m2.1, decide_eq_true m2.2, decide_eq_true h3, decide_eq_true h4, decide_eq_true h5]
    rfl
theorem wok_no1 {rn rd n d : Int} (h : ¬ (-1000000000 ≤ rn ∧ rn ≤ 1000000000 ∧ rd ≤ 1000000000 ∧ -1000000000 ≤ n ∧ n ≤ 1000000000 ∧ d ≤ 1000000000)) : wok rn rd n d = false := by
  rw [← Bool.not_eq_true]
  intro h'
  unfold wok at h'
  simp only [Bool.and_eq_true, decide_eq_true_eq] at h'
  exact h ⟨h'.1.1.1.1.1.1.1, h'.1.1.1.1.1.1.2, h'.1.1.1.1.1.2, h'.1.1.1.1.2, h'.1.1.1.2, h'.1.1.2⟩
theorem wok_no2 {rn rd n d : Int} (h : ¬ wden rd d ≤ 1000000000) : wok rn rd n d = false := by
  rw [← Bool.not_eq_true]
  intro h'
  unfold wok at h'
  simp only [Bool.and_eq_true, decide_eq_true_eq] at h'
  exact h h'.1.2
theorem quo_bd9 {m d : Int} (hd : 1 ≤ d) (hm : 1 ≤ m) (h : m ≤ 1000000000) : 0 ≤ m / d ∧ m / d ≤ 1000000000 := by
  have a := Int.ediv_nonneg (a := m) (b := d) (by omega) (by omega)
  have b := Int.ediv_le_self (a := m) d (by omega)
  omega
theorem mul_bd9 {n k : Int} (h1 : -1000000000 ≤ n) (h2 : n ≤ 1000000000) (h3 : 0 ≤ k) (h4 : k ≤ 1000000000) : -1000000000000000000 ≤ n * k ∧ n * k ≤ 1000000000000000000 := by
  constructor
  · have a := Int.mul_le_mul_of_nonneg_right (a := -1000000000) (b := n) (c := k) h1 h3
    omega
  · have a := Int.mul_le_mul_of_nonneg_right (a := n) (b := 1000000000) (c := k) h2 h3
    omega
end Go.Proofs.Ytapdkmonfoooiaa
