/- What is proved here: contracts of functions and plain facts, several texts in one; each one says ahead what it proves, and its conditions. -/
import Derived.Test.YtpjhiojdnebgoaaC15
import Derived.Test.YtpjhiojdnebgoaaC16
import Derived.Test.YtpjhiojdnebgoaaC17
import Derived.Test.YtpjhiojdnebgoaaC01
import Derived.Deep.DeepCutAuto
import Derived.RegionTactic
import Derived.ChangeAlike
import Derived.BigRegion
import Derived.Test.YtpjhiojdnebgoaaC05
/- What is proved here: the contract of the reference's Add of two valid fractions. Condition: two valid fractions. -/
namespace Go.Proofs.Ytpjhiojdnebgoaa
open Go.RowKit

theorem rgcd_as (a b g : Nat) (w : World) (h1 : a ≤ 18446744073709551615) (h2 : b ≤ 18446744073709551615) (hg : Nat.gcd a b = g) :
    Calls Try.prog 63 #[.int .u64 a, .int .u64 b] w fun e w' => e = .returned (.int .u64 (g : Int)) ∧ ∃ n, w' = w.drewN n := by
  subst hg; exact rgcd_any a b w h1 h2
theorem product_as (a b x : Nat) (w : World) (ha : a ≤ 18446744073709551615) (hb : b ≤ 18446744073709551615) (hx : a * b = x) :
    Calls Try.prog 64 #[.int .u64 a, .int .u64 b] w fun e w' => e = .returned (.agg #[.int .u64 (dg x 0), .int .u64 (dg x 1), .int .u64 (dg x 2), .int .u64 (dg x 3)]) ∧ Below w.heap.size w w' := by
  subst hx; exact product_any a b w ha hb
theorem rover_as (x n q r : Nat) (w : World) (hx : x < 340282366920938463463374607431768211456) (hn : 0 < n) (hn2 : (n : Int) ≤ 4611686018427387904) (hq : x / n = q) (hr : x % n = r) :
    Calls Try.prog 69 #[.agg #[.int .u64 (dg x 0), .int .u64 (dg x 1), .int .u64 (dg x 2), .int .u64 (dg x 3)], .int .u64 n] w fun e w' => e = .returned (.tuple #[.agg #[.int .u64 (dg q 0), .int .u64 (dg q 1), .int .u64 (dg q 2), .int .u64 (dg q 3)], .int .u64 (r : Int)]) ∧ Below w.heap.size w w' := by
  subst hq hr; exact rover_any x n w hx hn hn2
theorem rsum_as (x y s : Nat) (w : World) (hx : x < 340282366920938463463374607431768211456) (hy : y < 340282366920938463463374607431768211456) (h : x + y < 340282366920938463463374607431768211456) (hs : x + y = s) :
    Calls Try.prog 66 #[.agg #[.int .u64 (dg x 0), .int .u64 (dg x 1), .int .u64 (dg x 2), .int .u64 (dg x 3)], .agg #[.int .u64 (dg y 0), .int .u64 (dg y 1), .int .u64 (dg y 2), .int .u64 (dg y 3)]] w fun e w' => e = .returned (.agg #[.int .u64 (dg s 0), .int .u64 (dg s 1), .int .u64 (dg s 2), .int .u64 (dg s 3)]) ∧ Below w.heap.size w w' := by
  subst hs; exact rsum_any x y w hx hy h
theorem rrest_as (x y s : Nat) (w : World) (hx : x < 340282366920938463463374607431768211456) (hy : y < 340282366920938463463374607431768211456) (h : y ≤ x) (hs : x - y = s) :
    Calls Try.prog 68 #[.agg #[.int .u64 (dg x 0), .int .u64 (dg x 1), .int .u64 (dg x 2), .int .u64 (dg x 3)], .agg #[.int .u64 (dg y 0), .int .u64 (dg y 1), .int .u64 (dg y 2), .int .u64 (dg y 3)]] w fun e w' => e = .returned (.agg #[.int .u64 (dg s 0), .int .u64 (dg s 1), .int .u64 (dg s 2), .int .u64 (dg s 3)]) ∧ Below w.heap.size w w' := by
  subst hs; exact rrest_any x y w hx hy h
theorem bbelow_as (x y : Nat) (t : Bool) (w : World) (hx : x < 340282366920938463463374607431768211456) (hy : y < 340282366920938463463374607431768211456) (ht : decide (x < y) = t) :
    Calls Try.prog 67 #[.agg #[.int .u64 (dg x 0), .int .u64 (dg x 1), .int .u64 (dg x 2), .int .u64 (dg x 3)], .agg #[.int .u64 (dg y 0), .int .u64 (dg y 1), .int .u64 (dg y 2), .int .u64 (dg y 3)]] w fun e w' => e = .returned (.bool t) ∧ Below w.heap.size w w' := by
  subst ht; exact bbelow_any x y w hx hy
theorem sgn_same {an bn : Int} {x y : Nat} {s : Bool} (hx : an.natAbs = x) (hy : bn.natAbs = y) (h1 : decide (an < 0) = s) (h2 : decide (bn < 0) = s) (p q : Nat) : an * (p : Int) + bn * (q : Int) = if s then -((x * p + y * q : Nat) : Int) else ((x * p + y * q : Nat) : Int) := by
  cases s
  · have a1 : an = x := by have := of_decide_eq_false h1; omega
    have a2 : bn = y := by have := of_decide_eq_false h2; omega
    subst a1 a2; simp
  · have a1 : an = -(x : Int) := by have := of_decide_eq_true h1; omega
    have a2 : bn = -(y : Int) := by have := of_decide_eq_true h2; omega
    subst a1 a2; simp; grind
theorem sgn_more {an bn : Int} {x y : Nat} {s : Bool} (hx : an.natAbs = x) (hy : bn.natAbs = y) (h1 : decide (an < 0) = s) (h2 : decide (bn < 0) = !s) (p q : Nat) (hl : y * q ≤ x * p) : an * (p : Int) + bn * (q : Int) = if s then -((x * p - y * q : Nat) : Int) else ((x * p - y * q : Nat) : Int) := by
  rw [Int.natCast_sub hl]
  cases s
  · have a1 : an = x := by have := of_decide_eq_false h1; omega
    have a2 : bn = -(y : Int) := by have := of_decide_eq_true h2; omega
    subst a1 a2; simp; grind
  · have a1 : an = -(x : Int) := by have := of_decide_eq_true h1; omega
    have a2 : bn = (y : Int) := by have := of_decide_eq_false h2; omega
    subst a1 a2; simp; grind
theorem sgn_less {an bn : Int} {x y : Nat} {s : Bool} (hx : an.natAbs = x) (hy : bn.natAbs = y) (h1 : decide (an < 0) = s) (h2 : decide (bn < 0) = !s) (p q : Nat) (hl : x * p ≤ y * q) : an * (p : Int) + bn * (q : Int) = if !s then -((y * q - x * p : Nat) : Int) else ((y * q - x * p : Nat) : Int) := by
  rw [Int.natCast_sub hl]
  cases s
  · have a1 : an = x := by have := of_decide_eq_false h1; omega
    have a2 : bn = -(y : Int) := by have := of_decide_eq_true h2; omega
    subst a1 a2; simp; grind
  · have a1 : an = -(x : Int) := by have := of_decide_eq_true h1; omega
    have a2 : bn = (y : Int) := by have := of_decide_eq_false h2; omega
    subst a1 a2; simp; grind
theorem dgs_zero {x : Nat} (hx : x < 340282366920938463463374607431768211456) : (((dg x 0 : Nat) : Int) == 0 && ((dg x 1 : Nat) : Int) == 0 && ((dg x 2 : Nat) : Int) == 0 && ((dg x 3 : Nat) : Int) == 0) = decide (x = 0) := by
  have h := dg_sum x hx
  have e : ∀ n : Nat, ((n : Int) == 0) = decide (n = 0) := fun n => by
    by_cases hn : n = 0
    · subst hn; rfl
    · simp [hn]
  rw [e, e, e, e, ← Bool.decide_and, ← Bool.decide_and, ← Bool.decide_and]
  exact decide_eq_decide.2 ⟨fun ⟨⟨⟨h0, h1⟩, h2⟩, h3⟩ => by omega, fun h0 => by omega⟩
theorem calls_gen {P : Program} {f : FuncId} {args : Array Value} {w : World} {Q : Ending → World → Prop} (F : World → Prop) (hF : F w) (h : ∀ W, F W → Calls P f args W Q) : Calls P f args w Q := h w hF
theorem mul36 {a b : Nat} (ha : a ≤ 1000000000000000000) (hb : b ≤ 1000000000000000000) : a * b ≤ 1000000000000000000000000000000000000 := Nat.mul_le_mul ha hb
/-- What the reference's sum of two fractions comes to, step by step. -/
structure RSteps (an bn : Int) (A B d a b x y S qd r g num bg ag : Nat) (neg : Bool) : Prop where
  gd : Nat.gcd A B = d
  dp : 0 < d
  dle : d ≤ 1000000000000000000
  qa : (A : Int) / (d : Int) = (a : Int)
  qb : (B : Int) / (d : Int) = (b : Int)
  al : a ≤ 1000000000000000000
  bl : b ≤ 1000000000000000000
  mx : an.natAbs * b = x
  my : bn.natAbs * a = y
  xl : x ≤ 1000000000000000000000000000000000000
  yl : y ≤ 1000000000000000000000000000000000000
  qd' : S / d = qd
  rd : S % d = r
  gg : Nat.gcd r d = g
  gp : 0 < g
  gle : g ≤ 1000000000000000000
  nd : S / g = num
  qg : (B : Int) / (g : Int) = (bg : Int)
  bgl : bg ≤ 1000000000000000000
  qag : (A : Int) / (g : Int) = (ag : Int)
  agl : ag ≤ 1000000000000000000
  zero : num = 0 → pack (Rat.divInt an A + Rat.divInt bn B) = ⟨0, 1, 0⟩
  out : pack (Rat.divInt an A + Rat.divInt bn B) = bld neg (num : Int) ((a * bg : Nat) : Int)
  out' : pack (Rat.divInt an A + Rat.divInt bn B) = bld neg (num : Int) ((b * ag : Nat) : Int)
theorem rsteps {an bn : Int} {A B : Nat} (c1 : fchk an A = 0) (c2 : fchk bn B = 0) (S : Nat) (neg : Bool)
    (hS : an * ((B / Nat.gcd A B : Nat) : Int) + bn * ((A / Nat.gcd A B : Nat) : Int) = if neg then -(S : Int) else (S : Int)) :
    ∃ r g num bg ag, RSteps an bn A B (Nat.gcd A B) (A / Nat.gcd A B) (B / Nat.gcd A B) (an.natAbs * (B / Nat.gcd A B)) (bn.natAbs * (A / Nat.gcd A B)) S (S / Nat.gcd A B) r g num bg ag neg := by
  obtain ⟨k1, k2, k3, k4, _⟩ := fok_of c1
  obtain ⟨l1, l2, l3, l4, _⟩ := fok_of c2
  have hp := sum_pack (ad := A) (bd := B) c1 c2 S (by simpa using hS)
  simp only [Int.natAbs_natCast] at hp
  have dp : 0 < Nat.gcd A B := Nat.gcd_pos_of_pos_right _ (by omega)
  have gp : 0 < Nat.gcd (Nat.gcd A B) S := Nat.gcd_pos_of_pos_left _ dp
  have dle : Nat.gcd A B ≤ B := Nat.gcd_le_right _ (by omega)
  have gle : Nat.gcd (Nat.gcd A B) S ≤ Nat.gcd A B := Nat.gcd_le_left _ dp
  have q1 := Nat.div_le_self A (Nat.gcd A B)
  have q2 := Nat.div_le_self B (Nat.gcd A B)
  have q3 := Nat.div_le_self B (Nat.gcd (Nat.gcd A B) S)
  have q4 := Nat.div_le_self A (Nat.gcd (Nat.gcd A B) S)
  refine ⟨S % Nat.gcd A B, Nat.gcd (Nat.gcd A B) S, S / Nat.gcd (Nat.gcd A B) S, B / Nat.gcd (Nat.gcd A B) S, A / Nat.gcd (Nat.gcd A B) S, ?_⟩
  exact {
    gd := rfl, dp := dp, dle := by omega
    qa := (Int.natCast_ediv _ _).symm, qb := (Int.natCast_ediv _ _).symm
    al := by omega, bl := by omega
    mx := rfl, my := rfl
    xl := mul36 (by omega) (by omega), yl := mul36 (by omega) (by omega)
    qd' := rfl, rd := rfl
    gg := (Nat.gcd_rec _ _).symm
    gp := gp, gle := by omega
    nd := rfl
    qg := (Int.natCast_ediv _ _).symm
    bgl := by omega
    qag := (Int.natCast_ediv _ _).symm
    agl := by omega
    zero := fun h => by
      have h0 : S = 0 := by
        have h1 := Nat.div_mul_cancel (Nat.gcd_dvd_right (Nat.gcd A B) S)
        rw [h, Nat.zero_mul] at h1
        exact h1.symm
      subst h0
      have hz : an * ((B / Nat.gcd A B : Nat) : Int) + bn * ((A / Nat.gcd A B : Nat) : Int) = 0 := by rw [hS]; split <;> rfl
      have hn : an * (B : Int) + bn * (A : Int) = 0 := by
        have e1 := Nat.div_mul_cancel (Nat.gcd_dvd_left A B)
        have e2 := Nat.div_mul_cancel (Nat.gcd_dvd_right A B)
        generalize A / Nat.gcd A B = a at *
        generalize B / Nat.gcd A B = b at *
        generalize Nat.gcd A B = d at *
        rw [← e1, ← e2, Int.natCast_mul, Int.natCast_mul, ← Int.mul_assoc, ← Int.mul_assoc, ← Int.add_mul, hz, Int.zero_mul]
      rw [Rat.divInt_add_divInt _ _ (by omega) (by omega), hn, Rat.zero_divInt]
      rfl
    out := hp.symm
    out' := by
      rw [← hp]
      congr 2
      have e1 := Nat.div_mul_cancel (Nat.gcd_dvd_left A B)
      have e2 := Nat.div_mul_cancel (Nat.gcd_dvd_right A B)
      have e3 := Nat.div_mul_cancel (Nat.gcd_dvd_left (Nat.gcd A B) S)
      generalize Nat.gcd (Nat.gcd A B) S = g at *
      generalize A / Nat.gcd A B = a at *
      generalize B / Nat.gcd A B = b at *
      generalize Nat.gcd A B = d at *
      generalize d / g = t at *
      subst e3
      rw [← e1, ← e2, ← Nat.mul_assoc, ← Nat.mul_assoc, Nat.mul_div_cancel _ gp, Nat.mul_div_cancel _ gp]
      grind }
end Go.Proofs.Ytpjhiojdnebgoaa

/- What is proved here: slices of fractions: what their cells hold, opened element by element. No condition. -/
namespace Go.Proofs.Ytpjhiojdnebgoaa
open Go.RowKit

/-- The cells of fractions. -/
def fcs (xs : List (Int × Int)) : List Value := xs.flatMap fun p => [.int .i64 p.1, .int .i64 p.2]
theorem fcs_nil : fcs [] = [] := rfl
theorem fcs_cons (p : Int × Int) (xs : List (Int × Int)) : fcs (p :: xs) = .int .i64 p.1 :: .int .i64 p.2 :: fcs xs := rfl
theorem fcs_append (xs ys : List (Int × Int)) : fcs (xs ++ ys) = fcs xs ++ fcs ys := by simp [fcs]
theorem fcs_len (xs : List (Int × Int)) : (fcs xs).length = xs.length * 2 := by
  induction xs with
  | nil => rfl
  | cons p xs ih => rw [fcs_cons, List.length_cons, List.length_cons, ih, List.length_cons]; omega
theorem fcs_get : ∀ (xs : List (Int × Int)) (i : Nat) (h : i < xs.length), (fcs xs)[i * 2]? = some (.int .i64 xs[i].1) ∧ (fcs xs)[i * 2 + 1]? = some (.int .i64 xs[i].2)
  | p :: xs, 0, _ => ⟨rfl, rfl⟩
  | p :: xs, i + 1, h => by
    have := fcs_get xs i (by simpa using h)
    rw [fcs_cons, show (i + 1) * 2 = i * 2 + 1 + 1 by omega]
    simpa using this
/-- A slice of fractions. -/
def SF (w : World) (v : Value) (xs : List (Int × Int)) : Prop := Sl w v xs.length (fcs xs)
theorem SF.below {w w' : World} {v : Value} {xs : List (Int × Int)} (h : SF w v xs) (hb : Below w.heap.size w w') : SF w' v xs := Sl.below h hb
theorem SF.grow {w : World} {v : Value} {xs : List (Int × Int)} (h : SF w v xs) (e : World) : SF (grow w e) v xs := Sl.grow h e
theorem SF.low {w : World} {v : Value} {xs : List (Int × Int)} {B : Nat} (h : SF w v xs) (hf : Frv B v) {p : Addr} (hp : p.block < B) (x : Value) : SF (w.setCell p x) v xs := Sl.low h hf hp x
theorem SF.open {w : World} {v : Value} {xs : List (Int × Int)} (h : SF w v xs) : ∃ ad cap, v = .slice ad xs.length cap ∧ xs.length ≤ cap ∧ xs.length ≤ 9223372036854775807 ∧
    Hid (∀ i (h : i < xs.length), ∃ b off, ad = some ⟨b, off, none⟩ ∧ w.cell? ⟨b, off + i * 2, none⟩ = some (.int .i64 xs[i].1) ∧ w.cell? ⟨b, off + i * 2 + 1, none⟩ = some (.int .i64 xs[i].2)) := by
  obtain ⟨ad, cap, h1, h2, h3, h4⟩ := h
  refine ⟨ad, cap, h1, h2, h3, fun i hi => ?_⟩
  obtain ⟨g1, g2⟩ := fcs_get xs i hi
  obtain ⟨b, off, e1, c1⟩ := h4 _ _ g1
  obtain ⟨b', off', e2, c2⟩ := h4 _ _ g2
  rw [e1] at e2
  cases e2
  exact ⟨b, off, e1, c1, by rw [show off + i * 2 + 1 = off + (i * 2 + 1) by omega]; exact c2⟩
/-- All numbers are 64-bit integers. -/
def FI (xs : List (Int × Int)) : Prop := ∀ p ∈ xs, i64 p.1 ∧ i64 p.2
theorem FI.get {xs : List (Int × Int)} (h : FI xs) (i : Nat) (hi : i < xs.length) : i64 xs[i].1 ∧ i64 xs[i].2 := h _ (List.getElem_mem hi)
/-- All fractions are valid. -/
def fvalid (xs : List (Int × Int)) : Bool := xs.all fun p => fchk p.1 p.2 == 0
theorem fvalid_take {xs : List (Int × Int)} {k : Nat} (hk : k < xs.length) (h : fvalid (xs.take k) = true) (hz : fchk xs[k].1 xs[k].2 = 0) : fvalid (xs.take (k + 1)) = true := by
  unfold fvalid at *
  rw [List.take_succ_eq_append_getElem hk, List.all_append, h]
  simp [hz]
theorem fvalid_not {xs : List (Int × Int)} {k : Nat} (hk : k < xs.length) (hz : ¬ fchk xs[k].1 xs[k].2 = 0) : fvalid xs = false := by
  unfold fvalid
  rw [List.all_eq_false]
  exact ⟨xs[k], List.getElem_mem hk, by simpa using hz⟩
theorem fvalid_get {xs : List (Int × Int)} (h : fvalid xs = true) (i : Nat) (hi : i < xs.length) : fchk xs[i].1 xs[i].2 = 0 := by
  unfold fvalid at h
  have := List.all_eq_true.1 h xs[i] (List.getElem_mem hi)
  simpa using this
end Go.Proofs.Ytpjhiojdnebgoaa

/- What is proved here: what a filter of fractions comes to, step by step. No program in sight. -/
namespace Go.Proofs.Ytpjhiojdnebgoaa
open Go.RowKit

/-- The sum of the first k products of a row, or the first error. -/
def fsumN (l t : List (Int × Int)) (i : Nat) : Nat → FR
  | 0 => ⟨0, 1, 0⟩
  | k + 1 => if (fsumN l t i k).e = 0 then fplus (fsumN l t i k).n (fsumN l t i k).d (t.getD k (0, 0)).1 (t.getD k (0, 0)).2 (l.getD (i + k) (0, 0)).1 (l.getD (i + k) (0, 0)).2 else fsumN l t i k
theorem fsumN_succ {l t : List (Int × Int)} {i k : Nat} (hk : k < t.length) (hl : i + k < l.length) (h : (fsumN l t i k).e = 0) :
    fsumN l t i (k + 1) = fplus (fsumN l t i k).n (fsumN l t i k).d t[k].1 t[k].2 l[i + k].1 l[i + k].2 := by
  rw [fsumN, if_pos h]
  simp [List.getD, hk, hl]
theorem fsumN_stop {l t : List (Int × Int)} {i k : Nat} (h : ¬ (fsumN l t i k).e = 0) : ∀ m, k ≤ m → fsumN l t i m = fsumN l t i k
  | 0, hm => by obtain rfl : k = 0 := by omega
                rfl
  | m + 1, hm => by
    rcases Nat.lt_or_ge k (m + 1) with h1 | h1
    · have ih := fsumN_stop h m (by omega)
      rw [fsumN, if_neg (by rw [ih]; exact h), ih]
    · obtain rfl : k = m + 1 := by omega
      rfl
theorem fsumN_i64 (l t : List (Int × Int)) (i : Nat) : ∀ k, i64 (fsumN l t i k).n ∧ i64 (fsumN l t i k).d
  | 0 => ⟨i64_0, (⟨by decide, by decide⟩ : i64 1)⟩
  | k + 1 => by
    rw [fsumN]; split
    · exact fplus_i64 _ _ _ _ _ _
    · exact fsumN_i64 l t i k
/-- The first m rows, or the first error. -/
def frows (l t : List (Int × Int)) : Nat → List (Int × Int) × Int
  | 0 => ([], 0)
  | m + 1 => if (frows l t m).2 = 0 then (if (fsumN l t m t.length).e = 0 then ((frows l t m).1 ++ [((fsumN l t m t.length).n, (fsumN l t m t.length).d)], 0) else ([], (fsumN l t m t.length).e)) else frows l t m
theorem frows_succ {l t : List (Int × Int)} {m : Nat} (h : (frows l t m).2 = 0) (h2 : (fsumN l t m t.length).e = 0) : frows l t (m + 1) = ((frows l t m).1 ++ [((fsumN l t m t.length).n, (fsumN l t m t.length).d)], 0) := by
  rw [frows, if_pos h, if_pos h2]
theorem frows_err {l t : List (Int × Int)} {m : Nat} (h : (frows l t m).2 = 0) (h2 : ¬ (fsumN l t m t.length).e = 0) : frows l t (m + 1) = ([], (fsumN l t m t.length).e) := by
  rw [frows, if_pos h, if_neg h2]
theorem frows_stop {l t : List (Int × Int)} {k : Nat} (h : ¬ (frows l t k).2 = 0) : ∀ m, k ≤ m → frows l t m = frows l t k
  | 0, hm => by obtain rfl : k = 0 := by omega
                rfl
  | m + 1, hm => by
    rcases Nat.lt_or_ge k (m + 1) with h1 | h1
    · have ih := frows_stop h m (by omega)
      rw [frows, if_neg (by rw [ih]; exact h), ih]
    · obtain rfl : k = m + 1 := by omega
      rfl
theorem frows_len {l t : List (Int × Int)} : ∀ m, (frows l t m).2 = 0 → (frows l t m).1.length = m
  | 0, _ => rfl
  | m + 1, h => by
    by_cases h1 : (frows l t m).2 = 0
    · by_cases h2 : (fsumN l t m t.length).e = 0
      · rw [frows_succ h1 h2, List.length_append, frows_len m h1]; rfl
      · rw [frows_err h1 h2] at h; exact absurd h h2
    · rw [frows, if_neg h1] at h; exact absurd h h1
/-- A filtered list, and an error. -/
def ffilt (l t : List (Int × Int)) : List (Int × Int) × Int :=
  if 256 < l.length ∨ 20 < t.length then ([], 4) else if t.length = 0 ∨ fvalid l = false ∨ fvalid t = false then ([], 8) else frows l t (l.length + 1 - t.length)
/-- An error in a row ends the whole. -/
theorem frows_end {l t : List (Int × Int)} {m k N : Nat} (h : (frows l t m).2 = 0) (hk : k < t.length) (he : ¬ (fsumN l t m (k + 1)).e = 0) (hm : m < N) : frows l t N = ([], (fsumN l t m (k + 1)).e) := by
  have h1 := fsumN_stop he t.length hk
  have h2 : ¬ (fsumN l t m t.length).e = 0 := by rw [h1]; exact he
  have h3 := frows_err h h2
  rw [frows_stop (k := m + 1) (by rw [h3]; exact h2) N hm, h3, h1]
theorem sf_nil (w : World) : SF w (.slice none 0 0) [] := ⟨none, 0, rfl, Nat.le_refl _, by decide, fun i x hx => by simp [fcs] at hx⟩
end Go.Proofs.Ytpjhiojdnebgoaa
