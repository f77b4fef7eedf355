/- What is proved here: contracts of functions and plain facts, several texts in one; each one says ahead what it proves, and its conditions. -/
import Derived.Test.YthlcmlngmcoknaaC35
import Derived.Test.YthlcmlngmcoknaaC36
import Derived.Test.YthlcmlngmcoknaaC32
import Derived.Test.YthlcmlngmcoknaaC37
import Derived.Test.YthlcmlngmcoknaaC02
import Derived.Deep.DeepCutAuto
import Derived.RegionTactic
import Derived.ChangeAlike
import Derived.BigRegion
/- What is proved here: the contract of the reference's Add of two valid fractions. Condition: two valid fractions. -/
namespace Go.Proofs.Ythlcmlngmcoknaa
open Go.RowKit

theorem rgcd_as (a b g : Nat) (w : World) (h1 : a ≤ 18446744073709551615) (h2 : b ≤ 18446744073709551615) (hg : Nat.gcd a b = g) :
    Calls Try.prog 102 #[.int .u64 a, .int .u64 b] w fun e w' => e = .returned (.int .u64 (g : Int)) ∧ ∃ n, w' = w.drewN n := by
  subst hg; exact rgcd_any a b w h1 h2
theorem product_as (a b x : Nat) (w : World) (ha : a ≤ 18446744073709551615) (hb : b ≤ 18446744073709551615) (hx : a * b = x) :
    Calls Try.prog 106 #[.int .u64 a, .int .u64 b] w fun e w' => e = .returned (.agg #[.int .u64 (dg x 0), .int .u64 (dg x 1), .int .u64 (dg x 2), .int .u64 (dg x 3)]) ∧ Below w.heap.size w w' := by
  subst hx; exact product_any a b w ha hb
theorem rover_as (x n q r : Nat) (w : World) (hx : x < 340282366920938463463374607431768211456) (hn : 0 < n) (hn2 : (n : Int) ≤ 4611686018427387904) (hq : x / n = q) (hr : x % n = r) :
    Calls Try.prog 110 #[.agg #[.int .u64 (dg x 0), .int .u64 (dg x 1), .int .u64 (dg x 2), .int .u64 (dg x 3)], .int .u64 n] w fun e w' => e = .returned (.tuple #[.agg #[.int .u64 (dg q 0), .int .u64 (dg q 1), .int .u64 (dg q 2), .int .u64 (dg q 3)], .int .u64 (r : Int)]) ∧ Below w.heap.size w w' := by
  subst hq hr; exact rover_any x n w hx hn hn2
theorem rsum_as (x y s : Nat) (w : World) (hx : x < 340282366920938463463374607431768211456) (hy : y < 340282366920938463463374607431768211456) (h : x + y < 340282366920938463463374607431768211456) (hs : x + y = s) :
    Calls Try.prog 107 #[.agg #[.int .u64 (dg x 0), .int .u64 (dg x 1), .int .u64 (dg x 2), .int .u64 (dg x 3)], .agg #[.int .u64 (dg y 0), .int .u64 (dg y 1), .int .u64 (dg y 2), .int .u64 (dg y 3)]] w fun e w' => e = .returned (.agg #[.int .u64 (dg s 0), .int .u64 (dg s 1), .int .u64 (dg s 2), .int .u64 (dg s 3)]) ∧ Below w.heap.size w w' := by
  subst hs; exact rsum_any x y w hx hy h
theorem rrest_as (x y s : Nat) (w : World) (hx : x < 340282366920938463463374607431768211456) (hy : y < 340282366920938463463374607431768211456) (h : y ≤ x) (hs : x - y = s) :
    Calls Try.prog 109 #[.agg #[.int .u64 (dg x 0), .int .u64 (dg x 1), .int .u64 (dg x 2), .int .u64 (dg x 3)], .agg #[.int .u64 (dg y 0), .int .u64 (dg y 1), .int .u64 (dg y 2), .int .u64 (dg y 3)]] w fun e w' => e = .returned (.agg #[.int .u64 (dg s 0), .int .u64 (dg s 1), .int .u64 (dg s 2), .int .u64 (dg s 3)]) ∧ Below w.heap.size w w' := by
  subst hs; exact rrest_any x y w hx hy h
theorem bbelow_as (x y : Nat) (t : Bool) (w : World) (hx : x < 340282366920938463463374607431768211456) (hy : y < 340282366920938463463374607431768211456) (ht : decide (x < y) = t) :
    Calls Try.prog 108 #[.agg #[.int .u64 (dg x 0), .int .u64 (dg x 1), .int .u64 (dg x 2), .int .u64 (dg x 3)], .agg #[.int .u64 (dg y 0), .int .u64 (dg y 1), .int .u64 (dg y 2), .int .u64 (dg y 3)]] w fun e w' => e = .returned (.bool t) ∧ Below w.heap.size w w' := by
  subst ht; exact bbelow_any x y w hx hy
theorem sgn_same {an bn : Int} {x y : Nat} {s : Bool} (hx : an.natAbs = x) (hy : bn.natAbs = y) (h1 : decide (an < 0) = s) (h2 : decide (bn < 0) = s) (p q : Nat) : an * (p : Int) + bn * (q : Int) = if s then -((x * p + y * q : Nat) : Int) else ((x * p + y * q : Nat) : Int) := by
  cases s
  · have a1 : an = x := by have := of_decide_eq_false h1; omega
    have a2 : bn = y := by have := of_decide_eq_false h2; omega
    subst a1 a2; simp
  · have a1 : an = -(x : Int) := by have := of_decide_eq_true h1; omega
    have a2 : bn = -(y : Int) := by have := of_decide_eq_true h2; omega
    subst a1 a2; simp; grind
theorem sgn_more {an bn : Int} {x y : Nat} {s : Bool} (hx : an.natAbs = x) (hy : bn.natAbs = y) (h1 : decide (an < 0) = s) (h2 : decide (bn < 0) = !s) (p q : Nat) (hl : y * q ≤ x * p) : an * (p : Int) + bn * (q : Int) = if s then -((x * p - y * q : Nat) : Int) else ((x * p - y * q : Nat) : Int) := by
  rw [Int.natCast_sub hl]
  cases s
  · have a1 : an = x := by have := of_decide_eq_false h1; omega
    have a2 : bn = -(y : Int) := by have := of_decide_eq_true h2; omega
    subst a1 a2; simp; grind
  · have a1 : an = -(x : Int) := by have := of_decide_eq_true h1; omega
    have a2 : bn = (y : Int) := by have := of_decide_eq_false h2; omega
    subst a1 a2; simp; grind
theorem sgn_less {an bn : Int} {x y : Nat} {s : Bool} (hx : an.natAbs = x) (hy : bn.natAbs = y) (h1 : decide (an < 0) = s) (h2 : decide (bn < 0) = !s) (p q : Nat) (hl : x * p ≤ y * q) : an * (p : Int) + bn * (q : Int) = if !s then -((y * q - x * p : Nat) : Int) else ((y * q - x * p : Nat) : Int) := by
  rw [Int.natCast_sub hl]
  cases s
  · have a1 : an = x := by have := of_decide_eq_false h1; omega
    have a2 : bn = -(y : Int) := by have := of_decide_eq_true h2; omega
    subst a1 a2; simp; grind
  · have a1 : an = -(x : Int) := by have := of_decide_eq_true h1; omega
    have a2 : bn = (y : Int) := by have := of_decide_eq_false h2; omega
    subst a1 a2; simp; grind
theorem dgs_zero {x : Nat} (hx : x < 340282366920938463463374607431768211456) : (((dg x 0 : Nat) : Int) == 0 && ((dg x 1 : Nat) : Int) == 0 && ((dg x 2 : Nat) : Int) == 0 && ((dg x 3 : Nat) : Int) == 0) = decide (x = 0) := by
  have h := dg_sum x hx
  have e : ∀ n : Nat, ((n : Int) == 0) = decide (n = 0) := fun n => by
    by_cases hn : n = 0
    · subst hn; rfl
    · simp [hn]
  rw [e, e, e, e, ← Bool.decide_and, ← Bool.decide_and, ← Bool.decide_and]
  exact decide_eq_decide.2 ⟨fun ⟨⟨⟨h0, h1⟩, h2⟩, h3⟩ => by omega, fun h0 => by omega⟩
theorem calls_gen {P : Program} {f : FuncId} {args : Array Value} {w : World} {Q : Ending → World → Prop} (F : World → Prop) (hF : F w) (h : ∀ W, F W → Calls P f args W Q) : Calls P f args w Q := h w hF
theorem mul36 {a b : Nat} (ha : a ≤ 1000000000000000000) (hb : b ≤ 1000000000000000000) : a * b ≤ 1000000000000000000000000000000000000 := Nat.mul_le_mul ha hb
/-- What the reference's sum of two fractions comes to, step by step. -/
structure RSteps (an bn : Int) (A B d a b x y S qd r g num bg ag : Nat) (neg : Bool) : Prop where
  gd : Nat.gcd A B = d
  dp : 0 < d
  dle : d ≤ 1000000000000000000
  qa : (A : Int) / (d : Int) = (a : Int)
  qb : (B : Int) / (d : Int) = (b : Int)
  al : a ≤ 1000000000000000000
  bl : b ≤ 1000000000000000000
  mx : an.natAbs * b = x
  my : bn.natAbs * a = y
  xl : x ≤ 1000000000000000000000000000000000000
  yl : y ≤ 1000000000000000000000000000000000000
  qd' : S / d = qd
  rd : S % d = r
  gg : Nat.gcd r d = g
  gp : 0 < g
  gle : g ≤ 1000000000000000000
  nd : S / g = num
  qg : (B : Int) / (g : Int) = (bg : Int)
  bgl : bg ≤ 1000000000000000000
  qag : (A : Int) / (g : Int) = (ag : Int)
  agl : ag ≤ 1000000000000000000
  zero : num = 0 → pack (Rat.divInt an A + Rat.divInt bn B) = ⟨0, 1, 0⟩
  out : pack (Rat.divInt an A + Rat.divInt bn B) = bld neg (num : Int) ((a * bg : Nat) : Int)
  out' : pack (Rat.divInt an A + Rat.divInt bn B) = bld neg (num : Int) ((b * ag : Nat) : Int)
theorem rsteps {an bn : Int} {A B : Nat} (c1 : fchk an A = 0) (c2 : fchk bn B = 0) (S : Nat) (neg : Bool)
    (hS : an * ((B / Nat.gcd A B : Nat) : Int) + bn * ((A / Nat.gcd A B : Nat) : Int) = if neg then -(S : Int) else (S : Int)) :
    ∃ r g num bg ag, RSteps an bn A B (Nat.gcd A B) (A / Nat.gcd A B) (B / Nat.gcd A B) (an.natAbs * (B / Nat.gcd A B)) (bn.natAbs * (A / Nat.gcd A B)) S (S / Nat.gcd A B) r g num bg ag neg := by
  obtain ⟨k1, k2, k3, k4, _⟩ := fok_of c1
  obtain ⟨l1, l2, l3, l4, _⟩ := fok_of c2
  have hp := sum_pack (ad := A) (bd := B) c1 c2 S (by simpa using hS)
  simp only [Int.natAbs_natCast] at hp
  have dp : 0 < Nat.gcd A B := Nat.gcd_pos_of_pos_right _ (by omega)
  have gp : 0 < Nat.gcd (Nat.gcd A B) S := Nat.gcd_pos_of_pos_left _ dp
  have dle : Nat.gcd A B ≤ B := Nat.gcd_le_right _ (by omega)
  have gle : Nat.gcd (Nat.gcd A B) S ≤ Nat.gcd A B := Nat.gcd_le_left _ dp
  have q1 := Nat.div_le_self A (Nat.gcd A B)
  have q2 := Nat.div_le_self B (Nat.gcd A B)
  have q3 := Nat.div_le_self B (Nat.gcd (Nat.gcd A B) S)
  have q4 := Nat.div_le_self A (Nat.gcd (Nat.gcd A B) S)
  refine ⟨S % Nat.gcd A B, Nat.gcd (Nat.gcd A B) S, S / Nat.gcd (Nat.gcd A B) S, B / Nat.gcd (Nat.gcd A B) S, A / Nat.gcd (Nat.gcd A B) S, ?_⟩
  exact {
    gd := rfl, dp := dp, dle := by omega
    qa := (Int.natCast_ediv _ _).symm, qb := (Int.natCast_ediv _ _).symm
    al := by omega, bl := by omega
    mx := rfl, my := rfl
    xl := mul36 (by omega) (by omega), yl := mul36 (by omega) (by omega)
    qd' := rfl, rd := rfl
    gg := (Nat.gcd_rec _ _).symm
    gp := gp, gle := by omega
    nd := rfl
    qg := (Int.natCast_ediv _ _).symm
    bgl := by omega
    qag := (Int.natCast_ediv _ _).symm
    agl := by omega
    zero := fun h => by
      have h0 : S = 0 := by
        have h1 := Nat.div_mul_cancel (Nat.gcd_dvd_right (Nat.gcd A B) S)
        rw [h, Nat.zero_mul] at h1
        exact h1.symm
      subst h0
      have hz : an * ((B / Nat.gcd A B : Nat) : Int) + bn * ((A / Nat.gcd A B : Nat) : Int) = 0 := by rw [hS]; split <;> rfl
      have hn : an * (B : Int) + bn * (A : Int) = 0 := by
        have e1 := Nat.div_mul_cancel (Nat.gcd_dvd_left A B)
        have e2 := Nat.div_mul_cancel (Nat.gcd_dvd_right A B)
        generalize A / Nat.gcd A B = a at *
        generalize B / Nat.gcd A B = b at *
        generalize Nat.gcd A B = d at *
        rw [← e1, ← e2, Int.natCast_mul, Int.natCast_mul, ← Int.mul_assoc, ← Int.mul_assoc, ← Int.add_mul, hz, Int.zero_mul]
      rw [Rat.divInt_add_divInt _ _ (by omega) (by omega), hn, Rat.zero_divInt]
      rfl
    out := hp.symm
    out' := by
      rw [← hp]
      congr 2
      have e1 := Nat.div_mul_cancel (Nat.gcd_dvd_left A B)
      have e2 := Nat.div_mul_cancel (Nat.gcd_dvd_right A B)
      have e3 := Nat.div_mul_cancel (Nat.gcd_dvd_left (Nat.gcd A B) S)
      generalize Nat.gcd (Nat.gcd A B) S = g at *
      generalize A / Nat.gcd A B = a at *
      generalize B / Nat.gcd A B = b at *
      generalize Nat.gcd A B = d at *
      generalize d / g = t at *
      subst e3
      rw [← e1, ← e2, ← Nat.mul_assoc, ← Nat.mul_assoc, Nat.mul_div_cancel _ gp, Nat.mul_div_cancel _ gp]
      grind }
end Go.Proofs.Ythlcmlngmcoknaa
