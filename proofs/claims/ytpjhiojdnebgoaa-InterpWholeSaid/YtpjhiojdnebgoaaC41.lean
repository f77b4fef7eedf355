/- What is proved here: contracts of functions and plain facts, several texts in one; each one says ahead what it proves, and its conditions. -/
import Derived.Test.YtpjhiojdnebgoaaC37
/- What is proved here: what the residual, the gradient and the value of a fit come to, step by step. No program in sight. -/
namespace Go.Proofs.Ytpjhiojdnebgoaa
open Go.RowKit

/-- The sum of the first k products, or the first error. -/
def gsum (t : Nat → (Int × Int) × (Int × Int)) : Nat → FR
  | 0 => ⟨0, 1, 0⟩
  | k + 1 => if (gsum t k).e = 0 then fplus (gsum t k).n (gsum t k).d (t k).1.1 (t k).1.2 (t k).2.1 (t k).2.2 else gsum t k
theorem gsum_succ {t : Nat → (Int × Int) × (Int × Int)} {k : Nat} (h : (gsum t k).e = 0) : gsum t (k + 1) = fplus (gsum t k).n (gsum t k).d (t k).1.1 (t k).1.2 (t k).2.1 (t k).2.2 := by
  rw [gsum, if_pos h]
theorem gsum_stop {t : Nat → (Int × Int) × (Int × Int)} {k : Nat} (h : ¬ (gsum t k).e = 0) : ∀ m, k ≤ m → gsum t m = gsum t k
  | 0, hm => by obtain rfl : k = 0 := by omega
                rfl
  | m + 1, hm => by
    rcases Nat.lt_or_ge k (m + 1) with h1 | h1
    · have ih := gsum_stop h m (by omega)
      rw [gsum, if_neg (by rw [ih]; exact h), ih]
    · obtain rfl : k = m + 1 := by omega
      rfl
theorem gsum_i64 (t : Nat → (Int × Int) × (Int × Int)) : ∀ k, i64 (gsum t k).n ∧ i64 (gsum t k).d
  | 0 => ⟨i64_0, (⟨by decide, by decide⟩ : i64 1)⟩
  | k + 1 => by
    rw [gsum]; split
    · exact fplus_i64 _ _ _ _ _ _
    · exact gsum_i64 t k
/-- A result: valid, or 0 / 0 with error 16. -/
def FOk (r : FR) : Prop := (r.e = 0 ∧ fchk r.n r.d = 0) ∨ r = ⟨0, 0, 16⟩
theorem FOk.e {r : FR} (h : FOk r) (he : ¬ r.e = 0) : r = ⟨0, 0, 16⟩ := by
  rcases h with h | h
  · exact absurd h.1 he
  · exact h
theorem FOk.v {r : FR} (h : FOk r) (he : r.e = 0) : fchk r.n r.d = 0 := by
  rcases h with h | h
  · exact h.2
  · rw [h] at he; cases he
theorem pack_FOk (x : Rat) : FOk (pack x) := by
  by_cases h : inr x
  · exact .inl ⟨pack_e.2 h, pack_fchk (pack_e.2 h)⟩
  · exact .inr (pack_no h)
theorem fmul_FOk {an ad bn bd : Int} (h1 : fchk an ad = 0) (h2 : fchk bn bd = 0) : FOk (fmul an ad bn bd) := by
  rw [fmul_0 (fboth_of h1 h2), fmulV_pack h1 h2]; exact pack_FOk _
theorem fadd_FOk {an ad bn bd : Int} (h1 : fchk an ad = 0) (h2 : fchk bn bd = 0) : FOk (fadd an ad bn bd) := by
  rw [fadd_0 (fboth_of h1 h2)]; exact pack_FOk _
theorem fsub_FOk {an ad bn bd : Int} (h1 : fchk an ad = 0) (h2 : fchk bn bd = 0) : FOk (fsub an ad bn bd) := by
  rw [fsub_0 (fboth_of h1 h2)]; exact pack_FOk _
theorem fplus_FOk {sn sd an ad bn bd : Int} (h0 : fchk sn sd = 0) (h1 : fchk an ad = 0) (h2 : fchk bn bd = 0) : FOk (fplus sn sd an ad bn bd) := by
  have h := fmul_FOk h1 h2
  by_cases he : (fmul an ad bn bd).e = 0
  · rw [fplus_0 he]; exact fadd_FOk h0 (h.v he)
  · rw [fplus_1 he, h.e he]; exact .inr rfl
theorem fchk_01 : fchk 0 1 = 0 := by decide
theorem gsum_FOk {t : Nat → (Int × Int) × (Int × Int)} : ∀ k, (∀ j, j < k → fchk (t j).1.1 (t j).1.2 = 0 ∧ fchk (t j).2.1 (t j).2.2 = 0) → FOk (gsum t k)
  | 0, _ => .inl ⟨rfl, fchk_01⟩
  | k + 1, h => by
    have ih := gsum_FOk k (fun j hj => h j (by omega))
    by_cases he : (gsum t k).e = 0
    · rw [gsum_succ he]; exact fplus_FOk (ih.v he) (h k (by omega)).1 (h k (by omega)).2
    · rw [gsum_stop he (k + 1) (by omega)]; exact ih
/-- A small whole number is a valid fraction. -/
theorem fchk_small {a : Int} (h1 : -1000 ≤ a) (h2 : a ≤ 1000) : fchk a 1 = 0 :=
  fchk_ok (by decide) (by decide) (by omega) (by omega) (by simp)

/-- What the sum of the products of numbers and fractions adds up. -/
def dotT (a : List Int) (x : List (Int × Int)) (k : Nat) : (Int × Int) × (Int × Int) := ((a.getD k 0, 1), x.getD k (0, 0))
theorem dot_succ {a : List Int} {x : List (Int × Int)} {k : Nat} (ha : k < a.length) (hx : k < x.length) (h : (gsum (dotT a x) k).e = 0) :
    gsum (dotT a x) (k + 1) = fplus (gsum (dotT a x) k).n (gsum (dotT a x) k).d a[k] 1 x[k].1 x[k].2 := by
  rw [gsum_succ h]; simp [dotT, List.getD, ha, hx]
theorem gsum_congr {t t' : Nat → (Int × Int) × (Int × Int)} : ∀ k, (∀ j, j < k → t j = t' j) → gsum t k = gsum t' k
  | 0, _ => rfl
  | k + 1, h => by
    have ih := gsum_congr k (fun j hj => h j (by omega))
    rw [gsum, gsum, ih, h k (by omega)]
/-- The first error of a sum ends it. -/
theorem gsum_end {t : Nat → (Int × Int) × (Int × Int)} {k n : Nat} (hk : k < n) (h : ¬ (gsum t (k + 1)).e = 0) (ho : FOk (gsum t (k + 1))) : gsum t n = ⟨0, 0, 16⟩ := by
  rw [gsum_stop h n hk]; exact ho.e h
theorem dot_ok {a : List Int} {x : List (Int × Int)} {k : Nat} (hk : k ≤ a.length) (hl : a.length ≤ x.length) (ha : ∀ i (h : i < a.length), -1000 ≤ a[i] ∧ a[i] ≤ 1000) (hx : ∀ i (h : i < x.length), fchk x[i].1 x[i].2 = 0) : FOk (gsum (dotT a x) k) := by
  refine gsum_FOk k fun j hj => ?_
  have h1 : j < a.length := by omega
  have h2 : j < x.length := by omega
  simp only [dotT, List.getD, List.getElem?_eq_getElem h1, List.getElem?_eq_getElem h2, Option.getD_some]
  exact ⟨fchk_small (ha j h1).1 (ha j h1).2, hx j h2⟩
/-- The element of a row of a list of rows, 0 where there is none. -/
def cel (A : List (List Int)) (i k : Nat) : Int := (A.getD i []).getD k 0
theorem cel_get {A : List (List Int)} {i k : Nat} (hi : i < A.length) (hk : k < A[i].length) : cel A i k = A[i][k] := by
  simp [cel, List.getD, hi, hk]

/-- The error of a fit. -/
def ncheck (A : List (List Int)) (B : List Int) : Int :=
  if 5 < A.length ∨ 5 < B.length then 4
  else if (A.all fun r => decide (r.length ≤ 3)) = false then 4
  else if A.length = 0 ∨ B.length ≠ A.length ∨ (A.getD 0 []).length = 0 then 8
  else if (A.all fun r => decide (r.length = (A.getD 0 []).length) && r.all fun a => decide (-5 ≤ a) && decide (a ≤ 5)) = true ∧ (B.all fun b => decide (-50 ≤ b) && decide (b ≤ 50)) = true then 0
  else 8
/-- A row of a fit: of the right length, and of small numbers. -/
def rowOk (n : Nat) (r : List Int) : Bool := decide (r.length = n) && r.all fun a => decide (-5 ≤ a) && decide (a ≤ 5)
theorem ncheck_4 {A : List (List Int)} {B : List Int} (h : 5 < A.length ∨ 5 < B.length) : ncheck A B = 4 := if_pos h
theorem ncheck_4' {A : List (List Int)} {B : List Int} {k : Nat} (h0 : ¬ (5 < A.length ∨ 5 < B.length)) (hk : k < A.length) (h : 3 < A[k].length) : ncheck A B = 4 := by
  unfold ncheck; rw [if_neg h0, if_pos]
  rw [List.all_eq_false]; exact ⟨A[k], List.getElem_mem hk, by simp; omega⟩
theorem ncheck_8 {A : List (List Int)} {B : List Int} (h0 : ¬ (5 < A.length ∨ 5 < B.length)) (h1 : (A.all fun r => decide (r.length ≤ 3)) = true) (h : A.length = 0 ∨ B.length ≠ A.length ∨ (A.getD 0 []).length = 0) : ncheck A B = 8 := by
  unfold ncheck; rw [if_neg h0, if_neg (by simp [h1]), if_pos h]
theorem ncheck_8' {A : List (List Int)} {B : List Int} (h0 : ¬ (5 < A.length ∨ 5 < B.length)) (h1 : (A.all fun r => decide (r.length ≤ 3)) = true) (h2 : ¬ (A.length = 0 ∨ B.length ≠ A.length ∨ (A.getD 0 []).length = 0))
    (h : (A.all fun r => rowOk (A.getD 0 []).length r) = false ∨ (B.all fun b => decide (-50 ≤ b) && decide (b ≤ 50)) = false) : ncheck A B = 8 := by
  unfold ncheck; rw [if_neg h0, if_neg (by simp [h1]), if_neg h2, if_neg]
  intro h3
  rcases h with h | h
  · have : (A.all fun r => rowOk (A.getD 0 []).length r) = true := h3.1
    rw [h] at this; cases this
  · rw [h] at h3; cases h3.2
theorem ncheck_0 {A : List (List Int)} {B : List Int} (h0 : ¬ (5 < A.length ∨ 5 < B.length)) (h1 : (A.all fun r => decide (r.length ≤ 3)) = true) (h2 : ¬ (A.length = 0 ∨ B.length ≠ A.length ∨ (A.getD 0 []).length = 0))
    (h : (A.all fun r => rowOk (A.getD 0 []).length r) = true) (h' : (B.all fun b => decide (-50 ≤ b) && decide (b ≤ 50)) = true) : ncheck A B = 0 := by
  unfold ncheck; rw [if_neg h0, if_neg (by simp [h1]), if_neg h2, if_pos ⟨h, h'⟩]
theorem all_take {α : Type} {p : α → Bool} {xs : List α} {k : Nat} (hk : k < xs.length) (h : (xs.take k).all p = true) (hp : p xs[k] = true) : (xs.take (k + 1)).all p = true := by
  rw [List.take_succ_eq_append_getElem hk, List.all_append, h]; simp [hp]
theorem all_not {α : Type} {p : α → Bool} {xs : List α} {k : Nat} (hk : k < xs.length) (hp : p xs[k] = false) : xs.all p = false := by
  rw [List.all_eq_false]; exact ⟨xs[k], List.getElem_mem hk, by simp [hp]⟩
theorem all_end {α : Type} {p : α → Bool} {xs : List α} {k : Nat} (hk : ¬ k < xs.length) (h : (xs.take k).all p = true) : xs.all p = true := by
  rw [List.take_of_length_le (by omega)] at h; exact h
theorem getD_get {α : Type} {xs : List α} {d : α} {k : Nat} (hk : k < xs.length) : xs.getD k d = xs[k] := by simp [List.getD, hk]
/-- What a valid fit is. -/
structure Fit (A : List (List Int)) (B : List Int) (n : Nat) : Prop where
  rows : 1 ≤ A.length ∧ A.length ≤ 5
  right : B.length = A.length
  cols : 1 ≤ n ∧ n ≤ 3
  wide : ∀ i (h : i < A.length), A[i].length = n
  coef : ∀ i (h : i < A.length) k (h' : k < A[i].length), -5 ≤ A[i][k] ∧ A[i][k] ≤ 5
  side : ∀ i (h : i < B.length), -50 ≤ B[i] ∧ B[i] ≤ 50
theorem fit_of {A : List (List Int)} {B : List Int} (h : ncheck A B = 0) : Fit A B (A.getD 0 []).length := by
  unfold ncheck at h
  split at h
  · cases h
  split at h
  · cases h
  split at h
  · cases h
  split at h
  · rename_i h1 h2 h3 h4
    simp only [Bool.not_eq_false, List.all_eq_true, decide_eq_true_eq, Bool.and_eq_true] at h2 h4
    have hg : (A.getD 0 []).length ≤ 3 := by
      cases A with
      | nil => simp
      | cons a A => exact h2 a (by simp)
    refine ⟨⟨by omega, by omega⟩, by omega, ⟨by omega, hg⟩, fun i hi => (h4.1 _ (List.getElem_mem hi)).1, fun i hi k hk => (h4.1 _ (List.getElem_mem hi)).2 _ (List.getElem_mem hk), fun i hi => h4.2 _ (List.getElem_mem hi)⟩
  · cases h
/-- A number of a point: valid, and not negative. -/
def ptB (p : Int × Int) : Bool := decide (fchk p.1 p.2 = 0) && decide (0 ≤ p.1)
theorem ptB_chk {p : Int × Int} (h : ¬ fchk p.1 p.2 = 0) : ptB p = false := by simp [ptB, h]
theorem ptB_neg {p : Int × Int} (h : p.1 < 0) : ptB p = false := by
  have : decide (0 ≤ p.1) = false := by simp; omega
  simp [ptB, this]
theorem ptB_ok {p : Int × Int} (h1 : fchk p.1 p.2 = 0) (h2 : ¬ p.1 < 0) : ptB p = true := by
  have : 0 ≤ p.1 := by omega
  simp [ptB, h1, this]
/-- Whether a list is a point of a fit with n unknowns. -/
def pointB (n : Nat) (x : List (Int × Int)) : Bool := x.all ptB && decide (x.length = n)
/-- The error of a fit and a point. -/
def npoint (A : List (List Int)) (B : List Int) (x : List (Int × Int)) : Int :=
  if ncheck A B = 0 then (if pointB (A.getD 0 []).length x = true then 0 else 2) else ncheck A B
theorem npoint_c {A : List (List Int)} {B : List Int} {x : List (Int × Int)} (h : ¬ ncheck A B = 0) : npoint A B x = ncheck A B := if_neg h
theorem npoint_2 {A : List (List Int)} {B : List Int} {x : List (Int × Int)} (h : ncheck A B = 0) (h' : pointB (A.getD 0 []).length x = false) : npoint A B x = 2 := by
  unfold npoint; rw [if_pos h, if_neg (by rw [h']; decide)]
theorem npoint_0 {A : List (List Int)} {B : List Int} {x : List (Int × Int)} (h : ncheck A B = 0) (h' : pointB (A.getD 0 []).length x = true) : npoint A B x = 0 := by
  unfold npoint; rw [if_pos h, if_pos h']
theorem pointB_len {n : Nat} {x : List (Int × Int)} (h : ¬ x.length = n) : pointB n x = false := by simp [pointB, h]
theorem pointB_all {n : Nat} {x : List (Int × Int)} (h : x.all ptB = false) : pointB n x = false := by simp [pointB, h]
theorem pointB_ok {n : Nat} {x : List (Int × Int)} (h : x.all ptB = true) : pointB n x = decide (x.length = n) := by simp [pointB, h]
theorem pointB_of {n : Nat} {x : List (Int × Int)} (h : pointB n x = true) : x.length = n ∧ ∀ i (h : i < x.length), fchk x[i].1 x[i].2 = 0 ∧ 0 ≤ x[i].1 := by
  simp only [pointB, Bool.and_eq_true, decide_eq_true_eq] at h
  refine ⟨h.2, fun i hi => ?_⟩
  have := List.all_eq_true.1 h.1 _ (List.getElem_mem hi)
  simpa [ptB] using this
theorem point_of {A : List (List Int)} {B : List Int} {x : List (Int × Int)} (h : npoint A B x = 0) : Fit A B x.length ∧ (∀ i (h : i < x.length), fchk x[i].1 x[i].2 = 0 ∧ 0 ≤ x[i].1) := by
  unfold npoint at h
  split at h
  · rename_i h1
    split at h
    · rename_i h2
      obtain ⟨h3, h4⟩ := pointB_of h2
      refine ⟨?_, h4⟩
      rw [h3]; exact fit_of h1
    · cases h
  · rename_i h1; exact absurd h h1
theorem ncheck_len {A : List (List Int)} {B : List Int} (h : ncheck A B = 0) : 0 < A.length := (fit_of h).rows.1
theorem npoint_check {A : List (List Int)} {B : List Int} {x : List (Int × Int)} (h : npoint A B x = 0) : ncheck A B = 0 := by
  unfold npoint at h
  split at h
  · assumption
  · rename_i h1; exact absurd h h1
/-- What the sum of a row's products adds up. -/
def rowT (A : List (List Int)) (x : List (Int × Int)) (i k : Nat) : (Int × Int) × (Int × Int) := ((cel A i k, 1), x.getD k (0, 0))
/-- What the sum of a column's products adds up. -/
def colT (A : List (List Int)) (r : List (Int × Int)) (k i : Nat) : (Int × Int) × (Int × Int) := ((cel A i k, 1), r.getD i (0, 0))
/-- What the sum of squares adds up. -/
def sqT (r : List (Int × Int)) (i : Nat) : (Int × Int) × (Int × Int) := (r.getD i (0, 0), r.getD i (0, 0))
/-- One number of a residual. -/
def nres (A : List (List Int)) (B : List Int) (x : List (Int × Int)) (i : Nat) : FR :=
  if (gsum (rowT A x i) x.length).e = 0 then fsub (gsum (rowT A x i) x.length).n (gsum (rowT A x i) x.length).d (B.getD i 0) 1 else gsum (rowT A x i) x.length
/-- The residual, and an error. -/
def nresidual (A : List (List Int)) (B : List Int) (x : List (Int × Int)) : List (Int × Int) × Int := rowsOf (nres A B x) A.length
def nResidual (A : List (List Int)) (B : List Int) (x : List (Int × Int)) : List (Int × Int) × Int := if npoint A B x = 0 then nresidual A B x else ([], npoint A B x)
def ngradient (A : List (List Int)) (B : List Int) (x : List (Int × Int)) : List (Int × Int) × Int :=
  if (nresidual A B x).2 = 0 then rowsOf (fun k => gsum (colT A (nresidual A B x).1 k) A.length) x.length else ([], (nresidual A B x).2)
def nGradient (A : List (List Int)) (B : List Int) (x : List (Int × Int)) : List (Int × Int) × Int := if npoint A B x = 0 then ngradient A B x else ([], npoint A B x)
def nValue (A : List (List Int)) (B : List Int) (x : List (Int × Int)) : FR :=
  if (nResidual A B x).2 = 0 then gsum (sqT (nResidual A B x).1) (nResidual A B x).1.length else ⟨0, 0, (nResidual A B x).2⟩
/-- Whether a gradient is that of an optimum. -/
def noptB (g x : List (Int × Int)) (k : Nat) : Bool := (List.range k).all fun j => !(decide ((g.getD j (0, 0)).1 < 0) || (decide (0 < (g.getD j (0, 0)).1) && decide (0 < (x.getD j (0, 0)).1)))
def nOptimal (A : List (List Int)) (B : List Int) (x : List (Int × Int)) : Bool × Int :=
  if (nGradient A B x).2 = 0 then (noptB (nGradient A B x).1 x (nGradient A B x).1.length, 0) else (false, (nGradient A B x).2)
theorem rows_end {f : Nat → FR} {m N : Nat} (h : (rowsOf f m).2 = 0) (hm : m < N) (he : ¬ (f m).e = 0) : rowsOf f N = ([], (f m).e) := by
  have h3 := rows_err h he
  rw [rows_stop (k := m + 1) (by rw [h3]; exact he) N hm, h3]
theorem nres_0 {A : List (List Int)} {B : List Int} {x : List (Int × Int)} {i : Nat} (h : (gsum (rowT A x i) x.length).e = 0) : nres A B x i = fsub (gsum (rowT A x i) x.length).n (gsum (rowT A x i) x.length).d (B.getD i 0) 1 := if_pos h
theorem nres_1 {A : List (List Int)} {B : List Int} {x : List (Int × Int)} {i : Nat} (h : ¬ (gsum (rowT A x i) x.length).e = 0) : nres A B x i = gsum (rowT A x i) x.length := if_neg h
theorem row_dot {A : List (List Int)} {x : List (Int × Int)} {i : Nat} (hi : i < A.length) (hl : A[i].length = x.length) : gsum (dotT A[i] x) A[i].length = gsum (rowT A x i) x.length := by
  rw [hl]; refine gsum_congr _ fun j hj => ?_
  simp [dotT, rowT, cel, List.getD, hi]
/-- A system with small numbers, and as many valid fractions as unknowns. -/
structure FitX (A : List (List Int)) (B : List Int) (x : List (Int × Int)) : Prop where
  right : B.length = A.length
  few : A.length ≤ 100 ∧ x.length ≤ 100
  wide : ∀ i (h : i < A.length), A[i].length = x.length
  coef : ∀ i (h : i < A.length) k (h' : k < A[i].length), -1000 ≤ A[i][k] ∧ A[i][k] ≤ 1000
  side : ∀ i (h : i < B.length), -1000 ≤ B[i] ∧ B[i] ≤ 1000
  val : ∀ i (h : i < x.length), fchk x[i].1 x[i].2 = 0
theorem FitX.of {A : List (List Int)} {B : List Int} {x : List (Int × Int)} (h : npoint A B x = 0) : FitX A B x := by
  obtain ⟨f, hx⟩ := point_of h
  exact ⟨f.right, ⟨by have := f.rows; omega, by have := f.cols; omega⟩, f.wide, fun i hi k hk => by have := f.coef i hi k hk; omega, fun i hi => by have := f.side i hi; omega, fun i hi => (hx i hi).1⟩
theorem FitX.row_ok {A : List (List Int)} {B : List Int} {x : List (Int × Int)} (h : FitX A B x) {i k : Nat} (hi : i < A.length) (hk : k ≤ x.length) : FOk (gsum (rowT A x i) k) := by
  have h1 := dot_ok (a := A[i]) (x := x) (k := k) (by rw [h.wide i hi]; exact hk) (by rw [h.wide i hi]; exact Nat.le_refl _) (h.coef i hi) h.val
  have h2 : gsum (dotT A[i] x) k = gsum (rowT A x i) k := gsum_congr _ fun j hj => by simp [dotT, rowT, cel, List.getD, hi]
  rw [← h2]; exact h1
theorem FitX.res_ok {A : List (List Int)} {B : List Int} {x : List (Int × Int)} (h : FitX A B x) {i : Nat} (hi : i < A.length) : FOk (nres A B x i) := by
  have h1 := h.row_ok hi (Nat.le_refl _)
  by_cases he : (gsum (rowT A x i) x.length).e = 0
  · rw [nres_0 he]
    have hb : i < B.length := by rw [h.right]; exact hi
    rw [getD_get hb]
    exact fsub_FOk (h1.v he) (fchk_small (h.side i hb).1 (h.side i hb).2)
  · rw [nres_1 he]; exact h1
theorem rows_FI {f : Nat → FR} (hf : ∀ i, i64 (f i).n ∧ i64 (f i).d) : ∀ m, FI (rowsOf f m).1
  | 0 => fun p hp => by cases hp
  | m + 1 => by
    rw [rowsOf]
    split
    · split
      · intro p hp
        rcases List.mem_append.1 hp with h | h
        · exact rows_FI hf m p h
        · simp at h; rw [h]; exact hf m
      · intro p hp; cases hp
    · exact rows_FI hf m
/-- All rows are valid where nothing has an error. -/
theorem rows_val {f : Nat → FR} {N : Nat} (hf : ∀ i, i < N → FOk (f i)) : ∀ m, m ≤ N → ∀ p ∈ (rowsOf f m).1, fchk p.1 p.2 = 0
  | 0, _ => fun p hp => by cases hp
  | m + 1, hm => by
    rw [rowsOf]
    split
    · split
      · rename_i h1
        intro p hp
        rcases List.mem_append.1 hp with h | h
        · exact rows_val hf m (by omega) p h
        · simp at h; rw [h]; exact (hf m (by omega)).v h1
      · intro p hp; cases hp
    · exact rows_val hf m (by omega)
theorem rows_err16 {f : Nat → FR} {N : Nat} (hf : ∀ i, i < N → FOk (f i)) : ∀ m, m ≤ N → (rowsOf f m).2 = 0 ∨ rowsOf f m = ([], 16)
  | 0, _ => .inl rfl
  | m + 1, hm => by
    rcases rows_err16 hf m (by omega) with h | h
    · by_cases h1 : (f m).e = 0
      · left; rw [rows_succ h h1]
      · right; rw [rows_err h h1, (hf m (by omega)).e h1]
    · right
      rw [rows_stop (k := m) (by rw [h]; decide) (m + 1) (by omega)]; exact h
theorem nres_i64 (A : List (List Int)) (B : List Int) (x : List (Int × Int)) (i : Nat) : i64 (nres A B x i).n ∧ i64 (nres A B x i).d := by
  by_cases he : (gsum (rowT A x i) x.length).e = 0
  · rw [nres_0 he]; exact fsub_i64 _ _ _ _
  · rw [nres_1 he]; exact gsum_i64 _ _
/-- A column of a list of rows. -/
def colOf (A : List (List Int)) (k : Nat) : List Int := A.map fun r => r.getD k 0
theorem colOf_len (A : List (List Int)) (k : Nat) : (colOf A k).length = A.length := by simp [colOf]
theorem colOf_get {A : List (List Int)} {k i : Nat} (hi : i < A.length) : (colOf A k)[i]? = some (cel A i k) := by simp [colOf, cel, List.getD, hi]
theorem col_dot {A : List (List Int)} {r : List (Int × Int)} {k : Nat} : gsum (dotT (colOf A k) r) (colOf A k).length = gsum (colT A r k) A.length := by
  rw [colOf_len]; refine gsum_congr _ fun j hj => ?_
  simp [dotT, colT, cel, List.getD, colOf, hj]
theorem FitX.col_small {A : List (List Int)} {B : List Int} {x : List (Int × Int)} (h : FitX A B x) {k : Nat} (hk : k < x.length) : ∀ i (h : i < (colOf A k).length), -1000 ≤ (colOf A k)[i] ∧ (colOf A k)[i] ≤ 1000 := by
  intro i hi
  have hi' : i < A.length := by rw [colOf_len] at hi; exact hi
  have e : (colOf A k)[i] = cel A i k := by
    have := colOf_get (k := k) hi'
    simpa [hi] using this
  have hk' : k < A[i].length := by rw [h.wide i hi']; exact hk
  rw [e, cel_get hi' hk']
  exact h.coef i hi' k hk'
theorem nresid_parts {A : List (List Int)} {B : List Int} {x : List (Int × Int)} (h : (nResidual A B x).2 = 0) : npoint A B x = 0 ∧ nResidual A B x = nresidual A B x := by
  by_cases h0 : npoint A B x = 0
  · exact ⟨h0, if_pos h0⟩
  · exfalso; unfold nResidual at h; rw [if_neg h0] at h; exact h0 h
/-- What a residual without an error is. -/
theorem resid_ok {A : List (List Int)} {B : List Int} {x : List (Int × Int)} (h : FitX A B x) (h0 : (nresidual A B x).2 = 0) : (nresidual A B x).1.length = A.length ∧ ∀ i (h : i < (nresidual A B x).1.length), fchk (nresidual A B x).1[i].1 (nresidual A B x).1[i].2 = 0 :=
  ⟨rows_len _ h0, fun i hi => rows_val (N := A.length) (fun j hj => h.res_ok hj) A.length (Nat.le_refl _) _ (List.getElem_mem hi)⟩
theorem nresid_FI (A : List (List Int)) (B : List Int) (x : List (Int × Int)) : FI (nresidual A B x).1 := rows_FI (nres_i64 A B x) _
theorem nResid_FI (A : List (List Int)) (B : List Int) (x : List (Int × Int)) : FI (nResidual A B x).1 := by
  unfold nResidual; split
  · exact nresid_FI A B x
  · intro p hp; cases hp
theorem nGrad_1 {A : List (List Int)} {B : List Int} {x : List (Int × Int)} (h : ¬ (nResidual A B x).2 = 0) : nGradient A B x = ([], (nResidual A B x).2) := by
  by_cases h0 : npoint A B x = 0
  · have e : nResidual A B x = nresidual A B x := if_pos h0
    rw [e] at h ⊢
    unfold nGradient ngradient
    rw [if_pos h0, if_neg h]
  · unfold nGradient nResidual
    rw [if_neg h0, if_neg h0]
theorem nGrad_0 {A : List (List Int)} {B : List Int} {x : List (Int × Int)} (h : (nResidual A B x).2 = 0) : nGradient A B x = rowsOf (fun k => gsum (colT A (nResidual A B x).1 k) A.length) x.length := by
  obtain ⟨h0, e⟩ := nresid_parts h
  rw [e] at h ⊢
  unfold nGradient ngradient
  rw [if_pos h0, if_pos h]
theorem nVal_1 {A : List (List Int)} {B : List Int} {x : List (Int × Int)} (h : ¬ (nResidual A B x).2 = 0) : nValue A B x = ⟨0, 0, (nResidual A B x).2⟩ := if_neg h
theorem nVal_0 {A : List (List Int)} {B : List Int} {x : List (Int × Int)} (h : (nResidual A B x).2 = 0) : nValue A B x = gsum (sqT (nResidual A B x).1) (nResidual A B x).1.length := if_pos h
theorem nOpt_1 {A : List (List Int)} {B : List Int} {x : List (Int × Int)} (h : ¬ (nGradient A B x).2 = 0) : nOptimal A B x = (false, (nGradient A B x).2) := if_neg h
theorem nOpt_0 {A : List (List Int)} {B : List Int} {x : List (Int × Int)} (h : (nGradient A B x).2 = 0) : nOptimal A B x = (noptB (nGradient A B x).1 x (nGradient A B x).1.length, 0) := if_pos h
theorem sq_succ {r : List (Int × Int)} {k : Nat} (hk : k < r.length) (h : (gsum (sqT r) k).e = 0) : gsum (sqT r) (k + 1) = fplus (gsum (sqT r) k).n (gsum (sqT r) k).d r[k].1 r[k].2 r[k].1 r[k].2 := by
  rw [gsum_succ h]; simp [sqT, List.getD, hk]
theorem sq_ok {r : List (Int × Int)} {k : Nat} (hk : k ≤ r.length) (hr : ∀ i (h : i < r.length), fchk r[i].1 r[i].2 = 0) : FOk (gsum (sqT r) k) :=
  gsum_FOk k fun j hj => by
    have h1 : j < r.length := by omega
    simp only [sqT, List.getD, List.getElem?_eq_getElem h1, Option.getD_some]
    exact ⟨hr j h1, hr j h1⟩
/-- One number of a gradient, and the number of the point: not that of an optimum. -/
def noptN (g x : Int) : Bool := decide (g < 0) || (decide (0 < g) && decide (0 < x))
theorem noptB_succ {g x : List (Int × Int)} {k : Nat} (h1 : k < g.length) (h2 : k < x.length) (h : noptB g x k = true) (hn : noptN g[k].1 x[k].1 = false) : noptB g x (k + 1) = true := by
  unfold noptB at *
  rw [List.range_succ, List.all_append, h]
  simp only [List.all_cons, List.all_nil, List.getD, List.getElem?_eq_getElem h1, List.getElem?_eq_getElem h2, Option.getD_some]
  unfold noptN at hn
  rw [hn]; rfl
theorem noptB_not {g x : List (Int × Int)} {k n : Nat} (hk : k < n) (h1 : k < g.length) (h2 : k < x.length) (hn : noptN g[k].1 x[k].1 = true) : noptB g x n = false := by
  unfold noptB
  rw [List.all_eq_false]
  refine ⟨k, List.mem_range.2 hk, ?_⟩
  simp only [List.getD, List.getElem?_eq_getElem h1, List.getElem?_eq_getElem h2, Option.getD_some]
  unfold noptN at hn
  rw [hn]; decide
theorem grad_len {A : List (List Int)} {B : List Int} {x : List (Int × Int)} (h : (nGradient A B x).2 = 0) : npoint A B x = 0 ∧ (nGradient A B x).1.length = x.length := by
  by_cases h1 : (nResidual A B x).2 = 0
  · rw [nGrad_0 h1] at h ⊢
    exact ⟨(nresid_parts h1).1, rows_len _ h⟩
  · rw [nGrad_1 h1] at h; exact absurd h h1
theorem nGrad_FI (A : List (List Int)) (B : List Int) (x : List (Int × Int)) : FI (nGradient A B x).1 := by
  by_cases h1 : (nResidual A B x).2 = 0
  · rw [nGrad_0 h1]; exact rows_FI (fun i => gsum_i64 _ _) _
  · rw [nGrad_1 h1]; intro p hp; cases hp
theorem row_succ {A : List (List Int)} {x : List (Int × Int)} {i k : Nat} (hi : i < A.length) (ha : k < A[i].length) (hx : k < x.length) (h : (gsum (rowT A x i) k).e = 0) :
    gsum (rowT A x i) (k + 1) = fplus (gsum (rowT A x i) k).n (gsum (rowT A x i) k).d A[i][k] 1 x[k].1 x[k].2 := by
  rw [gsum_succ h]; simp [rowT, cel, List.getD, hi, ha, hx]
theorem col_succ {A : List (List Int)} {r : List (Int × Int)} {i k : Nat} (hi : i < A.length) (ha : k < A[i].length) (hx : i < r.length) (h : (gsum (colT A r k) i).e = 0) :
    gsum (colT A r k) (i + 1) = fplus (gsum (colT A r k) i).n (gsum (colT A r k) i).d A[i][k] 1 r[i].1 r[i].2 := by
  rw [gsum_succ h]; simp [colT, cel, List.getD, hi, ha, hx]
/-- An error in a row's sum ends the residual. -/
theorem res_end {A : List (List Int)} {B : List Int} {x : List (Int × Int)} {m j N : Nat} (h : (rowsOf (nres A B x) m).2 = 0) (hj : j < x.length) (he : ¬ (gsum (rowT A x m) (j + 1)).e = 0) (hm : m < N) : rowsOf (nres A B x) N = ([], (gsum (rowT A x m) (j + 1)).e) := by
  have h1 := gsum_stop he x.length hj
  have h2 : ¬ (gsum (rowT A x m) x.length).e = 0 := by rw [h1]; exact he
  rw [rows_end h hm (by rw [nres_1 h2]; exact h2), nres_1 h2, h1]
theorem grad_end {A : List (List Int)} {r : List (Int × Int)} {m j N M : Nat} (h : (rowsOf (fun k => gsum (colT A r k) M) m).2 = 0) (hj : j < M) (he : ¬ (gsum (colT A r m) (j + 1)).e = 0) (hm : m < N) : rowsOf (fun k => gsum (colT A r k) M) N = ([], (gsum (colT A r m) (j + 1)).e) := by
  have h1 := gsum_stop he M hj
  rw [rows_end h hm (by show ¬ (gsum (colT A r m) M).e = 0; rw [h1]; exact he)]
  show ([], (gsum (colT A r m) M).e) = _
  rw [h1]
end Go.Proofs.Ytpjhiojdnebgoaa
