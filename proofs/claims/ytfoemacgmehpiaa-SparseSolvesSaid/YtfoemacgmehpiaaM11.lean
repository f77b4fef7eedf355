/- What is proved here: contracts of functions and plain facts, several texts in one; each one says ahead what it proves, and its conditions. -/
import Derived.Test.YtfoemacgmehpiaaM08
import Derived.Test.YtfoemacgmehpiaaM09
import Derived.Test.YtfoemacgmehpiaaM10
/- What is proved here: the solution of a fit with a cost as a list of fractions: its set, its numbers, and that a program that looks for the first good set finds it. No program in sight, no condition. -/
namespace Go.Proofs.Ytfoemacgmehpiaa
open Go.RowKit

section
variable (A : List (List Int)) (B : List Int) (c : Int) (n : Nat)
/-- The square matrix, the right sides less the cost, the solution's set, and its numbers. -/
def nG : Nat → Nat → Int := qg (cel A) A.length
def nD : Nat → Int := qc (cel A) (nb B) A.length c
def nS : Nat := fst8 (nG A) (nD A B c)
def nsx (k : Nat) : Rat := xs8 (cel A) (nb B) A.length c (nS A B c) k
def nsol : List (Int × Int) := (List.range n).map fun k => up (nsx A B c k)
end
variable {A : List (List Int)} {B : List Int} {c : Int} {n : Nat}
theorem nD_wi (h : Fit A B n) (h0 : 0 ≤ c) (h1 : c ≤ 1000) (k : Nat) : wi 3000 (nD A B c k) := by
  have h2 := h.qc1250 (r := A.length) (by omega) k
  have e : nD A B c k = qc (cel A) (nb B) A.length 0 k - c := by unfold nD qc; omega
  rw [e]
  unfold wi at *; omega
theorem nG_wi (h : Fit A B n) (k l : Nat) : wi 3000 (nG A k l) := wi_mono (h.qg125 (by omega) k l) (by decide)
theorem nG_out (h : Fit A B n) {k l : Nat} (hk : n ≤ l) : nG A k l = 0 := si_0 A.length fun r hr => by rw [h.out hr hk]; simp
theorem nG_comm (k l : Nat) : nG A k l = nG A l k := qg_comm _ _ _ _
theorem si_more {f : Nat → Int} {n : Nat} : ∀ N, n ≤ N → (∀ j, n ≤ j → f j = 0) → si f N = si f n
  | 0, h, _ => by obtain rfl : n = 0 := by omega
                  rfl
  | N + 1, h, hz => by
    rcases Nat.lt_or_ge n (N + 1) with h1 | h1
    · rw [si_succ, si_more N (by omega) hz, hz N (by omega)]; omega
    · obtain rfl : n = N + 1 := by omega
      rfl
theorem bsum_slp (h : Fit A B n) {S k : Nat} : bsum (nG A) (nD A B c) (num8 (nG A) (nD A B c) S) (den8 (nG A) S) k n = slp8 (nG A) (nD A B c) S k := by
  unfold bsum slp8
  rw [← si_more (f := fun l => nG A k l * num8 (nG A) (nD A B c) S l) 3 h.cols.2 fun j hj => by rw [nG_out h hj]; simp]
  simp only [si]
  omega
theorem bit_out {n S k : Nat} (hS : S < 2 ^ n) (hk : n ≤ k) : S.testBit k = false := Nat.testBit_lt_two_pow (Nat.lt_of_lt_of_le hS (Nat.pow_le_pow_right (by decide) hk))
/-- What the program compares: a good set. -/
theorem good_is (h : Fit A B n) {S : Nat} (hS : S < 2 ^ n) (hd : den8 (nG A) S ≠ 0) (hc : 0 ≤ c) : bestN (nG A) (nD A B c) (num8 (nG A) (nD A B c) S) (den8 (nG A) S) n = good8 (nG A) (nD A B c) S := by
  have n3 := h.cols.2
  have hS8 := set8 n3 hS
  have hden : 0 ≤ den8 (nG A) S := den_nn (cel A) A.length hS8
  rw [Bool.eq_iff_iff, good8_iff]
  unfold bestN
  rw [List.all_eq_true]
  constructor
  · intro h1
    refine ⟨hd, fun k hk => ?_⟩
    rcases Nat.lt_or_ge k n with h2 | h2
    · have := h1 k (List.mem_range.2 h2)
      unfold bOk at this
      rw [bsum_slp h] at this
      simpa using this
    · have e1 : num8 (nG A) (nD A B c) S k = 0 := num8_out _ _ hS8 hk (bit_out hS h2)
      have e2 : nD A B c k = -c := by
        unfold nD qc
        rw [si_0 A.length fun r hr => by rw [h.out hr h2]; simp]; omega
      refine ⟨by omega, ?_⟩
      unfold slp8
      rw [e2, nG_comm k 0, nG_comm k 1, nG_comm k 2, nG_out h h2, nG_out h h2, nG_out h h2]
      have := Int.mul_nonneg hden hc
      have e3 : -den8 (nG A) S * -c = den8 (nG A) S * c := by grind
      rw [e3]; omega
  · intro ⟨_, h1⟩ k hk
    have hk' := List.mem_range.1 hk
    have := h1 k (by omega)
    unfold bOk
    rw [bsum_slp h]
    simpa using this
theorem num8_wi (h : Fit A B n) (h0 : 0 ≤ c) (h1 : c ≤ 1000) {S k : Nat} (hS : S < 2 ^ n) (hk : k < 3) : wi 200000000000 (num8 (nG A) (nD A B c) S k) := by
  rw [← still_num (nG A) (nD A B c) h.cols.2 hS hk]
  exact npart_wi (nG_wi h) (nD_wi h h0 h1) _ _
theorem den8_wi (h : Fit A B n) {S : Nat} (hS : S < 2 ^ n) : wi 200000000000 (den8 (nG A) S) := by
  rw [← still_den (nG A) h.cols.2 hS]
  exact detM_wi fun i j => mpart_wi (nG_wi h) _ _ _ _
theorem num8_big (g : Nat → Nat → Int) (d : Nat → Int) {S : Nat} (hS : S < 8) (j : Nat) : num8 g d S (j + 3) = 0 := by
  rcases cases8 hS with rfl | rfl | rfl | rfl | rfl | rfl | rfl | rfl <;> rfl
theorem num8_wi' (h : Fit A B n) (h0 : 0 ≤ c) (h1 : c ≤ 1000) {S : Nat} (hS : S < 2 ^ n) (k : Nat) : wi 200000000000 (num8 (nG A) (nD A B c) S k) := by
  rcases Nat.lt_or_ge k 3 with hk | hk
  · exact num8_wi h h0 h1 hS hk
  · obtain ⟨j, rfl⟩ : ∃ j, k = j + 3 := ⟨k - 3, by omega⟩
    rw [num8_big _ _ (set8 h.cols.2 hS)]; unfold wi; omega
/-- A quotient of two whole numbers within 10^18. -/
theorem inr_frac {a b : Int} (hb : 0 < b) (h1 : b ≤ 1000000000000000000) (h2 : -1000000000000000000 ≤ a) (h3 : a ≤ 1000000000000000000) : inr ((a : Rat) / (b : Rat)) := by
  rw [← Rat.divInt_eq_div]
  have := (fmk_ok (num := a) (den := b) (by omega) h1 h2 h3).1
  rw [fmk_pack (by omega)] at this
  exact pack_e.1 this
theorem fmk_uf {a b : Int} (hb : 0 < b) (h1 : b ≤ 1000000000000000000) (h2 : -1000000000000000000 ≤ a) (h3 : a ≤ 1000000000000000000) : fmk a b = uf ((a : Rat) / (b : Rat)) := by
  have := inr_frac hb h1 h2 h3
  rw [fmk_pack (by omega), ← Rat.divInt_eq_div] at *
  exact pack_ok this
/-- The solution's set. -/
theorem nS_spec (h : Fit A B n) (h0 : 0 ≤ c) : nS A B c < 2 ^ n ∧ good8 (nG A) (nD A B c) (nS A B c) = true := by
  obtain ⟨h1, h2⟩ := fst8_good (a := cel A) (b := nb B) (m := A.length) h0
  refine ⟨?_, h2⟩
  have hd := (good8_iff.1 h2).1
  have hz : ∀ r k, n ≤ k → (fun r k => if r < A.length then cel A r k else 0) r k = 0 := fun r k hk => by
    simp only; split
    · rename_i hr; exact h.out hr hk
    · rfl
  have hq : qg (fun r k => if r < A.length then cel A r k else 0) A.length = qg (cel A) A.length := by
    funext i j
    exact si_congr A.length fun r hr => by simp only [if_pos hr]
  exact free_small h1 h.cols.2 hz (by rw [hq]; exact hd)
theorem nS_is (h : Fit A B n) {S : Nat} (hS : S < 2 ^ n) (hg : good8 (nG A) (nD A B c) S = true) (hl : ∀ T, T < S → good8 (nG A) (nD A B c) T = false) : nS A B c = S := fst8_is (set8 h.cols.2 hS) hg hl
/-- A number of the solution, as frac.Make gives it. -/
theorem nsx_make (h : Fit A B n) (h0 : 0 ≤ c) (h1 : c ≤ 1000) {k : Nat} (hk : k < 3) : inr (nsx A B c k) ∧ fmk (num8 (nG A) (nD A B c) (nS A B c) k) (den8 (nG A) (nS A B c)) = uf (nsx A B c k) := by
  obtain ⟨h2, h3⟩ := nS_spec h h0
  have hd := (good8_iff.1 h3).1
  have hden : 0 ≤ den8 (nG A) (nS A B c) := den_nn (cel A) A.length (set8 h.cols.2 h2)
  have w1 := num8_wi h h0 h1 h2 hk
  have w2 := den8_wi h h2
  unfold wi at w1 w2
  have hi : inr ((num8 (nG A) (nD A B c) (nS A B c) k : Rat) / (den8 (nG A) (nS A B c) : Rat)) := inr_frac (by omega) (by omega) (by omega) (by omega)
  exact ⟨hi, fmk_uf (by omega) (by omega) (by omega) (by omega)⟩
/-- What Solve returns: the solution, its set, and an error. -/
def nSolve (A : List (List Int)) (B : List Int) (c : Int) : List (Int × Int) × Nat × Int := if ncheck A B = 0 then (nsol A B c (A.getD 0 []).length, nS A B c, 0) else ([], 0, ncheck A B)
def solve_post (w : World) (r : List (Int × Int) × Nat × Int) (e : Ending) (w' : World) : Prop := ∃ u, e = .returned (.tuple #[u, .int .i64 r.2.1, .int .i64 r.2.2]) ∧ SF w' u r.1 ∧ Below w.heap.size w w'
theorem pow_wrap {n : Nat} (hn : n ≤ 3) : wrap64 ((2 : Int) ^ n) = ((2 ^ n : Nat) : Int) := by
  rcases (by omega : n = 0 ∨ n = 1 ∨ n = 2 ∨ n = 3) with rfl | rfl | rfl | rfl <;> (rw [Go.IntWalk.wrap64_in _ (by decide)]; rfl)
theorem nsol_len : (nsol A B c n).length = n := by simp [nsol]
theorem nsol_get {k : Nat} (hk : k < n) : (nsol A B c n)[k]? = some (up (nsx A B c k)) := by simp [nsol, hk]
theorem take_fill (xs : List (Int × Int)) (k n : Nat) (p : Int × Int) (hl : xs.length = n) (hk : k < n) (hp : xs[k]? = some p) : (xs.take k ++ List.replicate (n - k) (0, 0)).set k p = xs.take (k + 1) ++ List.replicate (n - (k + 1)) (0, 0) := by
  rw [fill_rows _ _ _ _ (by simp; omega) hk, List.take_add_one, hp]; rfl
end Go.Proofs.Ytfoemacgmehpiaa

/- What is proved here: the residual, the gradient and the value of the solution of a fit have no error, and what they are. No program in sight. Condition: a valid fit, a cost from 0 to 1000. -/
namespace Go.Proofs.Ytfoemacgmehpiaa
open Go.RowKit

section
variable {A : Nat → Nat → Rat} {b : Nat → Rat} {m : Nat} {c : Rat} {x y : Nat → Rat}
theorem qax_congr (h : ∀ k, k < 3 → x k = y k) (r : Nat) : qax A x r = qax A y r := sm_congr 3 fun k hk => by rw [h k hk]
theorem qres_congr (h : ∀ k, k < 3 → x k = y k) (r : Nat) : qres A b x r = qres A b y r := by unfold qres; rw [qax_congr h]
theorem qgrd_congr (h : ∀ k, k < 3 → x k = y k) (k : Nat) : qgrd A b m x k = qgrd A b m y k := sm_congr m fun r _ => by rw [qres_congr h]
theorem qslope_congr (h : ∀ k, k < 3 → x k = y k) (k : Nat) : qslope A b m c x k = qslope A b m c y k := by unfold qslope; rw [qgrd_congr h]
theorem qval_congr (h : ∀ k, k < 3 → x k = y k) : qval A b m x = qval A b m y := sm_congr m fun r _ => by rw [qres_congr h]
theorem qprice_congr (h : ∀ k, k < 3 → x k = y k) : qprice A b m c x = qprice A b m c y := by unfold qprice; rw [qval_congr h, sm_congr 3 h]
theorem qkkt_congr (h : ∀ k, k < 3 → x k = y k) (hk : qkkt A b m c x) : qkkt A b m c y := by
  refine ⟨fun k h3 => by rw [← h k h3]; exact hk.1 k h3, fun k h3 => ?_⟩
  rw [← qslope_congr h, ← h k h3]
  exact hk.2 k h3
end
section
variable {A : List (List Int)} {B : List Int} {c : Int} {n : Nat} {x : List (Int × Int)}
/-- A fit as rational numbers. -/
def fA (A : List (List Int)) : Nat → Nat → Rat := ra (cel A)
def fB (B : List Int) : Nat → Rat := rb (nb B)
theorem den_small (h : Fit A B n) {S : Nat} (hS : S < 8) : den8 (nG A) S ≤ 5859375 := by
  have g := fun k l => h.qg125 (r := A.length) (Nat.le_refl _) k l
  have d := fun k => diag_nn (cel A) A.length k
  have s10 := qg_comm (cel A) A.length 1 0
  have s20 := qg_comm (cel A) A.length 2 0
  have s21 := qg_comm (cel A) A.length 2 1
  unfold nG
  generalize qg (cel A) A.length = q at *
  have sq : ∀ z : Int, 0 ≤ z * z := fun z => by
    rcases Int.le_total 0 z with h | h
    · exact Int.mul_nonneg h h
    · exact Int.mul_nonneg_of_nonpos_of_nonpos h h
  have p := fun i j k l => wr_mulbd' (Z := 15625) (g i j) (g k l) (by decide)
  have sw : ∀ z : Int, wi 125 z → z ≤ 5859375 := fun z hz => by unfold wi at hz; omega
  have two : ∀ i j, q j i = q i j → det2 (q i i) (q i j) (q j i) (q j j) ≤ 5859375 := fun i j hs => by
    have h1 := p i i j j
    have h2 := sq (q i j)
    unfold det2; rw [hs]; omega
  rcases cases8 hS with rfl | rfl | rfl | rfl | rfl | rfl | rfl | rfl
  · show (1 : Int) ≤ _; omega
  · exact sw _ (g 0 0)
  · exact sw _ (g 1 1)
  · exact two 0 1 s10
  · exact sw _ (g 2 2)
  · exact two 0 2 s20
  · exact two 1 2 s21
  · show det3 _ _ _ _ _ _ _ _ _ ≤ _
    unfold det3
    rw [s10, s20, s21]
    have u1 := wr_mulbd' (Z := 1953125) (p 0 0 1 1) (g 2 2) (by decide)
    have u2 := wr_mulbd' (Z := 1953125) (p 0 1 1 2) (g 0 2) (by decide)
    have u3 := Int.mul_nonneg (d 0) (sq (q 1 2))
    have u4 := Int.mul_nonneg (d 1) (sq (q 0 2))
    have u5 := Int.mul_nonneg (d 2) (sq (q 0 1))
    have e : q 0 0 * (q 1 1 * q 2 2 - q 1 2 * q 1 2) - q 0 1 * (q 0 1 * q 2 2 - q 1 2 * q 0 2) + q 0 2 * (q 0 1 * q 1 2 - q 1 1 * q 0 2) =
        q 0 0 * q 1 1 * q 2 2 + 2 * (q 0 1 * q 1 2 * q 0 2) - q 0 0 * (q 1 2 * q 1 2) - q 1 1 * (q 0 2 * q 0 2) - q 2 2 * (q 0 1 * q 0 1) := by grind
    rw [e]; omega
/-- The solution as a point. -/
theorem nx_sol (h : Fit A B n) (h0 : 0 ≤ c) : ∀ k, k < 3 → nsx A B c k = nx (nsol A B c n) k := fun k hk => by
  rcases Nat.lt_or_ge k n with h1 | h1
  · unfold nx
    simp [List.getD, nsol_get h1, qq_up]
  · rw [nx_out (by rw [nsol_len]; exact h1)]
    exact xs8_sup (set8 h.cols.2 (nS_spec h h0).1) k hk (bit_out (nS_spec h h0).1 h1)
/-- The solution meets the conditions of an optimum. -/
theorem sol_kkt (h : Fit A B n) (h0 : 0 ≤ c) : qkkt (fA A) (fB B) A.length (c : Rat) (nx (nsol A B c n)) :=
  qkkt_congr (nx_sol h h0) (good_kkt (set8 h.cols.2 (nS_spec h h0).1) (nS_spec h h0).2)
theorem num_nn {x : Rat} (h : 0 ≤ x) : 0 ≤ x.num := Rat.num_nonneg.2 h
theorem sol_chk (h : Fit A B n) (h0 : 0 ≤ c) (h1 : c ≤ 1000) : ∀ p ∈ nsol A B c n, fchk p.1 p.2 = 0 ∧ 0 ≤ p.1 := fun p hp => by
  unfold nsol at hp
  obtain ⟨k, hk, rfl⟩ := List.mem_map.1 hp
  have hk' := List.mem_range.1 hk
  have k3 : k < 3 := by have := h.cols.2; omega
  refine ⟨up_chk (nsx_make h h0 h1 k3).1, num_nn ?_⟩
  rw [nx_sol h h0 k k3]
  exact (sol_kkt h h0).1 k k3
theorem Fit.check {A : List (List Int)} {B : List Int} (h : ncheck A B = 0) (x : List (Int × Int)) (hl : x.length = (A.getD 0 []).length) (hx : ∀ p ∈ x, fchk p.1 p.2 = 0 ∧ 0 ≤ p.1) : npoint A B x = 0 := by
  unfold npoint
  rw [if_pos h, if_pos]
  unfold pointB
  simp only [Bool.and_eq_true, decide_eq_true_eq]
  refine ⟨List.all_eq_true.2 fun p hp => ?_, hl⟩
  have := hx p hp
  simp [ptB, this.1, this.2]
theorem sol_point (hc : ncheck A B = 0) (h0 : 0 ≤ c) (h1 : c ≤ 1000) : npoint A B (nsol A B c (A.getD 0 []).length) = 0 :=
  Fit.check hc _ nsol_len (sol_chk (fit_of hc) h0 h1)

/-- Where all the numbers on the way have fractions, the residual has no error. -/
theorem nres_go (h : FitX A B x) (h3 : x.length ≤ 3) {i : Nat} (hi : i < A.length) (h1 : ∀ j, j < x.length → inr (fA A i j * nx x j)) (h2 : ∀ j, j ≤ x.length → inr (sm (fun j => fA A i j * nx x j) j))
    (h4 : inr (qres (fA A) (fB B) (nx x) i)) : nres A B x i = uf (qres (fA A) (fB B) (nx x) i) := by
  have e : ∀ j, tq (rowT A x i) j = fA A i j * nx x j := fun j => tq_row i j
  have ef : tq (rowT A x i) = fun j => fA A i j * nx x j := funext e
  have hs := gsum_go x.length (row_tval h hi) (fun j hj => by rw [e]; exact h1 j hj) (fun j hj => by rw [ef]; exact h2 j hj)
  have i1 := h2 x.length (Nat.le_refl _)
  rw [← ef] at i1
  rw [row_sum h3] at hs i1
  have he : (gsum (rowT A x i) x.length).e = 0 := by rw [hs]; rfl
  rw [nres_0 he, hs]
  have := fsub_qq (a := up (qax (ra (cel A)) (nx x) i)) (b := (nb B i, 1)) (up_chk i1) (side_chk h hi)
  rw [qq_up, qq_int] at this
  have hs : fsub (uf (qax (ra (cel A)) (nx x) i)).n (uf (qax (ra (cel A)) (nx x) i)).d (B.getD i 0) 1 = pack (qres (fA A) (fB B) (nx x) i) := this
  rw [hs]; exact pack_ok h4
theorem nresid_go (hp : npoint A B x = 0) {g : Nat → Rat} (h : ∀ i, i < A.length → nres A B x i = uf (g i)) : nResidual A B x = ((List.range A.length).map fun i => up (g i), 0) := by
  have e0 : nResidual A B x = nresidual A B x := if_pos hp
  rw [e0]; exact rows_list h
theorem nval_go {g : Nat → Rat} (hr : nResidual A B x = ((List.range A.length).map fun i => up (g i), 0)) (hg : ∀ i, i < A.length → inr (g i)) (h1 : ∀ i, i < A.length → inr (g i * g i)) (h2 : ∀ i, i ≤ A.length → inr (sm (fun i => g i * g i) i)) :
    nValue A B x = uf (sm (fun i => g i * g i) A.length) := by
  rw [nVal_0 (by rw [hr]), hr]
  show gsum (sqT ((List.range A.length).map fun i => up (g i))) ((List.range A.length).map fun i => up (g i)).length = _
  rw [show ((List.range A.length).map fun i => up (g i)).length = A.length from by simp]
  have e : ∀ k, k ≤ A.length → sm (tq (sqT ((List.range A.length).map fun i => up (g i)))) k = sm (fun i => g i * g i) k := fun k hk => sm_congr k fun i hi => tq_sq (by omega)
  have := gsum_go A.length (sq_tval hg) (fun j hj => by rw [tq_sq hj]; exact h1 j hj) (fun j hj => by rw [e j hj]; exact h2 j hj)
  rw [e _ (Nat.le_refl _)] at this
  exact this
theorem ngrad_go (hF : FitX A B x) {g : Nat → Rat} (hr : nResidual A B x = ((List.range A.length).map fun i => up (g i), 0)) (hg : ∀ i, i < A.length → inr (g i)) (h1 : ∀ k, k < x.length → ∀ i, i < A.length → inr (fA A i k * g i)) (h2 : ∀ k, k < x.length → ∀ i, i ≤ A.length → inr (sm (fun i => fA A i k * g i) i)) :
    nGradient A B x = ((List.range x.length).map fun k => up (sm (fun i => fA A i k * g i) A.length), 0) := by
  rw [nGrad_0 (by rw [hr]), hr]
  refine rows_list fun k hk => ?_
  show gsum (colT A ((List.range A.length).map fun i => up (g i)) k) A.length = _
  have e : ∀ j, j ≤ A.length → sm (tq (colT A ((List.range A.length).map fun i => up (g i)) k)) j = sm (fun i => fA A i k * g i) j := fun j hj => sm_congr j fun i hi => tq_col (by omega)
  have := gsum_go A.length (col_tval hF hg hk) (fun j hj => by rw [tq_col hj]; exact h1 k hk j hj) (fun j hj => by rw [e j hj]; exact h2 k hk j hj)
  rw [e _ (Nat.le_refl _)] at this
  exact this
end
end Go.Proofs.Ytfoemacgmehpiaa

/- What is proved here: the numbers on the way to the residual, the gradient and the value of a solution have fractions. No program in sight. Condition: a valid fit, a cost from 0 to 1000. -/
namespace Go.Proofs.Ytfoemacgmehpiaa
open Go.RowKit

theorem sm_div (u : Nat → Int) (D : Int) : ∀ k, sm (fun j => ((u j : Int) : Rat) / (D : Rat)) k = ((si u k : Int) : Rat) / (D : Rat)
  | 0 => by rw [sm_zero]; show (0 : Rat) = ((0 : Int) : Rat) / _; rw [Rat.div_def]; show (0 : Rat) = 0 * _; grind
  | k + 1 => by rw [sm_succ, sm_div u D k, si_succ, Rat.intCast_add, Rat.div_def, Rat.div_def, Rat.div_def]; grind
theorem mul_div' (a n D : Int) : (a : Rat) * ((n : Rat) / (D : Rat)) = ((a * n : Int) : Rat) / (D : Rat) := by
  rw [Rat.intCast_mul, Rat.div_def, Rat.div_def]; grind
section
variable (A : List (List Int)) (B : List Int) (c : Int)
/-- The denominator, the numerators, and the residual's numerators of a solution. -/
def sD : Int := den8 (nG A) (nS A B c)
def sN (k : Nat) : Int := num8 (nG A) (nD A B c) (nS A B c) k
def sR (r : Nat) : Int := si (fun l => cel A r l * sN A B c l) 3 - nb B r * sD A B c
variable {A B c} {n : Nat}
theorem nsx_is (k : Nat) : nsx A B c k = (sN A B c k : Rat) / (sD A B c : Rat) := rfl
theorem sD_bd (h : Fit A B n) (h0 : 0 ≤ c) : 1 ≤ sD A B c ∧ sD A B c ≤ 5859375 := by
  obtain ⟨h1, h2⟩ := nS_spec h h0
  have h3 := (good8_iff.1 h2).1
  have h4 : 0 ≤ den8 (nG A) (nS A B c) := den_nn (cel A) A.length (set8 h.cols.2 h1)
  have h5 := den_small h (set8 h.cols.2 h1)
  unfold sD; omega
theorem sN_bd (h : Fit A B n) (h0 : 0 ≤ c) (h1 : c ≤ 1000) (k : Nat) : wi 200000000000 (sN A B c k) := num8_wi' h h0 h1 (nS_spec h h0).1 k
theorem rowpart (i k : Nat) : sm (fun j => fA A i j * nsx A B c j) k = (si (fun l => cel A i l * sN A B c l) k : Rat) / (sD A B c : Rat) := by
  rw [← sm_div]
  exact sm_congr k fun j _ => by rw [nsx_is]; exact mul_div' _ _ _
theorem rowpart_bd (h : Fit A B n) (h0 : 0 ≤ c) (h1 : c ≤ 1000) {i : Nat} (hi : i < A.length) {k : Nat} (hk : k ≤ 3) : wi 3000000000000 (si (fun l => cel A i l * sN A B c l) k) := by
  have := si_wi (f := fun l => cel A i l * sN A B c l) (X := 1000000000000) k fun j _ => wr_mulbd' (X := 5) (Y := 200000000000) (h.cel5 hi) (sN_bd h h0 h1 j) (by decide)
  unfold wi at *; omega
theorem sR_bd (h : Fit A B n) (h0 : 0 ≤ c) (h1 : c ≤ 1000) {i : Nat} (hi : i < A.length) : wi 4000000000000 (sR A B c i) := by
  have h2 := rowpart_bd h h0 h1 hi (k := 3) (Nat.le_refl _)
  have h3 := sD_bd h h0
  have h4 := wr_mulbd' (X := 50) (Y := 5859375) (Z := 292968750) (h.side50 hi) (y := sD A B c) (by omega) (by decide)
  unfold sR
  unfold wi at *
  omega
theorem res_is (h : Fit A B n) (h0 : 0 ≤ c) (i : Nat) : qres (fA A) (fB B) (nsx A B c) i = (sR A B c i : Rat) / (sD A B c : Rat) := by
  have hD : ((sD A B c : Int) : Rat) ≠ 0 := by have := sD_bd h h0; simp; omega
  unfold qres qax sR fB rb
  rw [rowpart, Rat.intCast_sub, Rat.intCast_mul, Rat.div_def, Rat.div_def]
  have := Rat.mul_inv_cancel _ hD
  grind
theorem colpart (h : Fit A B n) (h0 : 0 ≤ c) (k i : Nat) : sm (fun r => fA A r k * qres (fA A) (fB B) (nsx A B c) r) i = (si (fun r => cel A r k * sR A B c r) i : Rat) / (sD A B c : Rat) := by
  rw [← sm_div]
  exact sm_congr i fun j _ => by rw [res_is h h0]; exact mul_div' _ _ _
theorem colpart_bd (h : Fit A B n) (h0 : 0 ≤ c) (h1 : c ≤ 1000) (k : Nat) {i : Nat} (hi : i ≤ A.length) : wi 100000000000000 (si (fun r => cel A r k * sR A B c r) i) := by
  have := si_wi (f := fun r => cel A r k * sR A B c r) (X := 20000000000000) i fun j hj => wr_mulbd' (X := 5) (Y := 4000000000000) (h.cel5 (by omega)) (sR_bd h h0 h1 (by omega)) (by decide)
  have := h.rows
  unfold wi at *; omega
theorem sqpart (h : Fit A B n) (h0 : 0 ≤ c) (i : Nat) : sm (fun r => qres (fA A) (fB B) (nsx A B c) r * qres (fA A) (fB B) (nsx A B c) r) i = (si (fun r => sR A B c r * sR A B c r) i : Rat) / ((sD A B c * sD A B c : Int) : Rat) := by
  rw [← sm_div]
  refine sm_congr i fun j _ => ?_
  have hD : ((sD A B c : Int) : Rat) ≠ 0 := by have := sD_bd h h0; simp; omega
  rw [res_is h h0, Rat.intCast_mul, Rat.intCast_mul, Rat.div_def, Rat.div_def, Rat.inv_mul_rev]; grind
/-- The price at 0. -/
theorem val_0 (h : Fit A B n) : qval (fA A) (fB B) A.length (fun _ => 0) ≤ 12500 := by
  have h1 : qval (fA A) (fB B) A.length (fun _ => 0) = ((si (fun r => nb B r * nb B r) A.length : Int) : Rat) := by
    rw [si_cast]
    refine sm_congr A.length fun r _ => ?_
    have : qres (fA A) (fB B) (fun _ => 0) r = - ((nb B r : Int) : Rat) := by unfold qres qax fB rb; rw [sm_3]; grind
    rw [this, Rat.intCast_mul]; grind
  have h2 := si_wi (f := fun r => nb B r * nb B r) (X := 2500) A.length fun r hr => wr_mulbd' (X := 50) (Y := 50) (h.side50 hr) (h.side50 hr) (by decide)
  have h3 := h.rows
  rw [h1]
  have h4 : si (fun r => nb B r * nb B r) A.length ≤ 12500 := by unfold wi at h2; omega
  have h5 := Rat.intCast_le_intCast.2 h4
  have e : ((12500 : Int) : Rat) = 12500 := rfl
  rw [e] at h5
  exact h5
theorem sol_kkt' (h : Fit A B n) (h0 : 0 ≤ c) : qkkt (fA A) (fB B) A.length (c : Rat) (nsx A B c) := good_kkt (set8 h.cols.2 (nS_spec h h0).1) (nS_spec h h0).2
theorem cost_nn (h0 : 0 ≤ c) : (0 : Rat) ≤ (c : Rat) := by exact_mod_cast h0
/-- The solution's price is at most that of 0. -/
theorem sol_price (h : Fit A B n) (h0 : 0 ≤ c) : qprice (fA A) (fB B) A.length (c : Rat) (nsx A B c) ≤ 6250 := by
  have h1 := kkt_least (fA A) (fB B) A.length (c : Rat) (sol_kkt' h h0) (y := fun _ => 0) (fun k _ => by show (0 : Rat) ≤ 0; grind)
  have h2 := val_0 h
  have h3 : qprice (fA A) (fB B) A.length (c : Rat) (fun _ => 0) = qval (fA A) (fB B) A.length (fun _ => 0) / 2 := by
    unfold qprice; rw [sm_3]; grind
  rw [h3] at h1
  grind
theorem bright_nn (h : Fit A B n) (h0 : 0 ≤ c) : 0 ≤ sm (nsx A B c) 3 := sm_nn 3 (sol_kkt' h h0).1
theorem sol_val (h : Fit A B n) (h0 : 0 ≤ c) : qval (fA A) (fB B) A.length (nsx A B c) ≤ 12500 ∧ (c : Rat) * sm (nsx A B c) 3 ≤ 6250 := by
  have h1 := sol_price h h0
  have h2 := Rat.mul_nonneg (cost_nn h0) (bright_nn h h0)
  have h3 : 0 ≤ qval (fA A) (fB B) A.length (nsx A B c) := sm_nn A.length fun _ _ => sq_nn _
  unfold qprice at h1
  constructor <;> grind
/-- A quotient's numerator is at most so many times the denominator. -/
theorem le_of_div {M E b : Int} (hE : 0 < E) (h : (M : Rat) / (E : Rat) ≤ (b : Rat)) : M ≤ b * E := by
  have hE' : (0 : Rat) < (E : Rat) := by exact_mod_cast hE
  have h1 := Rat.mul_le_mul_of_nonneg_right h (Rat.le_of_lt hE')
  rw [Rat.div_mul_cancel (by grind)] at h1
  have h2 : (M : Rat) ≤ ((b * E : Int) : Rat) := by rw [Rat.intCast_mul]; exact h1
  exact_mod_cast h2
theorem si_sq_mono (f : Nat → Int) {i : Nat} : ∀ m, i ≤ m → si (fun r => f r * f r) i ≤ si (fun r => f r * f r) m
  | 0, h => by obtain rfl : i = 0 := by omega
               exact Int.le_refl _
  | m + 1, h => by
    rcases Nat.lt_or_ge i (m + 1) with h1 | h1
    · have h2 := si_sq_mono (i := i) f m (by omega)
      have h3 : 0 ≤ f m * f m := by
        rcases Int.le_total 0 (f m) with h | h
        · exact Int.mul_nonneg h h
        · exact Int.mul_nonneg_of_nonpos_of_nonpos h h
      rw [si_succ]; omega
    · obtain rfl : i = m + 1 := by omega
      exact Int.le_refl _
theorem sq_bd (h : Fit A B n) (h0 : 0 ≤ c) {i : Nat} (hi : i ≤ A.length) : 0 ≤ si (fun r => sR A B c r * sR A B c r) i ∧ si (fun r => sR A B c r * sR A B c r) i ≤ 429153442382812500 ∧ 1 ≤ sD A B c * sD A B c ∧ sD A B c * sD A B c ≤ 34332275390625 := by
  have h1 := (sol_val h h0).1
  have hq : qval (fA A) (fB B) A.length (nsx A B c) = (si (fun r => sR A B c r * sR A B c r) A.length : Rat) / ((sD A B c * sD A B c : Int) : Rat) := sqpart h h0 A.length
  rw [hq] at h1
  have hD := sD_bd h h0
  have hp : 0 < sD A B c * sD A B c := Int.mul_pos (by omega) (by omega)
  have h2 := wr_mulbd' (X := 5859375) (Y := 5859375) (x := sD A B c) (y := sD A B c) (Z := 34332275390625) (by omega) (by omega) (by decide)
  have h3 := le_of_div (b := 12500) hp h1
  have h4 := si_sq_mono (sR A B c) A.length hi
  exact ⟨si_sq_nn _ _, by omega, by omega, h2.2⟩
/-- What the functions return at a solution. -/
structure SolOk (A : List (List Int)) (B : List Int) (c : Int) (n : Nat) : Prop where
  point : npoint A B (nsol A B c n) = 0
  res : nResidual A B (nsol A B c n) = ((List.range A.length).map fun i => up (qres (fA A) (fB B) (nsx A B c) i), 0)
  rin : ∀ i, i < A.length → inr (qres (fA A) (fB B) (nsx A B c) i)
  val : nValue A B (nsol A B c n) = uf (qval (fA A) (fB B) A.length (nsx A B c))
  vin : inr (qval (fA A) (fB B) A.length (nsx A B c))
  grad : nGradient A B (nsol A B c n) = ((List.range n).map fun k => up (qgrd (fA A) (fB B) A.length (nsx A B c) k), 0)
  gin : ∀ k, inr (qgrd (fA A) (fB B) A.length (nsx A B c) k)
theorem sol_ok (hc : ncheck A B = 0) (h0 : 0 ≤ c) (h1 : c ≤ 1000) : SolOk A B c (A.getD 0 []).length := by
  have h := fit_of hc
  have hp := sol_point hc h0 h1
  have hF := FitX.of hp
  have hx := nx_sol h h0
  have hl : (nsol A B c (A.getD 0 []).length).length = (A.getD 0 []).length := nsol_len
  have n3 := h.cols.2
  generalize (A.getD 0 []).length = n at *
  have hD := sD_bd h h0
  have rin : ∀ i, i < A.length → inr (qres (fA A) (fB B) (nsx A B c) i) := fun i hi => by
    have := sR_bd h h0 h1 hi
    rw [res_is h h0]; unfold wi at this
    exact inr_frac (by omega) (by omega) (by omega) (by omega)
  have part : ∀ i, i < A.length → ∀ k, k ≤ 3 → inr (sm (fun j => fA A i j * nsx A B c j) k) := fun i hi k hk => by
    have := rowpart_bd h h0 h1 hi hk
    rw [rowpart]; unfold wi at this
    exact inr_frac (by omega) (by omega) (by omega) (by omega)
  have res : nResidual A B (nsol A B c n) = ((List.range A.length).map fun i => up (qres (fA A) (fB B) (nsx A B c) i), 0) := by
    refine nresid_go hp fun i hi => ?_
    rw [qres_congr hx]
    refine nres_go hF (by omega) hi (fun j hj => ?_) (fun j hj => ?_) ?_
    · rw [← hx j (by omega), nsx_is]
      have := wr_mulbd' (Z := 1000000000000) (h.cel5 hi (l := j)) (sN_bd h h0 h1 j) (by decide)
      show inr ((cel A i j : Rat) * _)
      rw [mul_div']
      exact inr_frac (by omega) (by omega) (by omega) (by omega)
    · rw [sm_congr (g := fun j => fA A i j * nsx A B c j) j fun k hk => by rw [hx k (by omega)]]
      exact part i hi j (by omega)
    · rw [← qres_congr hx]; exact rin i hi
  have gpart : ∀ k i, i ≤ A.length → inr (sm (fun r => fA A r k * qres (fA A) (fB B) (nsx A B c) r) i) := fun k i hi => by
    have := colpart_bd h h0 h1 k hi
    rw [colpart h h0]; unfold wi at this
    exact inr_frac (by omega) (by omega) (by omega) (by omega)
  have spart : ∀ i, i ≤ A.length → inr (sm (fun r => qres (fA A) (fB B) (nsx A B c) r * qres (fA A) (fB B) (nsx A B c) r) i) := fun i hi => by
    obtain ⟨b1, b2, b3, b4⟩ := sq_bd h h0 hi
    rw [sqpart h h0]
    exact inr_frac (by omega) (by omega) (by omega) (by omega)
  refine ⟨hp, res, rin, ?_, spart A.length (Nat.le_refl _), ?_, fun k => gpart k A.length (Nat.le_refl _)⟩
  · refine nval_go res rin (fun i hi => ?_) spart
    have b1 := sR_bd h h0 h1 hi
    obtain ⟨b2, b3, b4, b5⟩ := sq_bd h h0 (i := i + 1) (by omega)
    obtain ⟨b6, _⟩ := sq_bd h h0 (i := i) (by omega)
    rw [si_succ] at b3
    have b7 : 0 ≤ sR A B c i * sR A B c i := by
      rcases Int.le_total 0 (sR A B c i) with h | h
      · exact Int.mul_nonneg h h
      · exact Int.mul_nonneg_of_nonpos_of_nonpos h h
    have e : qres (fA A) (fB B) (nsx A B c) i * qres (fA A) (fB B) (nsx A B c) i = ((sR A B c i * sR A B c i : Int) : Rat) / ((sD A B c * sD A B c : Int) : Rat) := by
      rw [res_is h h0, Rat.intCast_mul, Rat.intCast_mul, Rat.div_def, Rat.div_def, Rat.inv_mul_rev]; grind
    rw [e]
    exact inr_frac (by omega) (by omega) (by omega) (by omega)
  · have := ngrad_go hF res rin (fun k hk i hi => ?_) (fun k hk i hi => gpart k i hi)
    · rw [hl] at this; exact this
    · have b1 := wr_mulbd' (X := 5) (Y := 4000000000000) (Z := 20000000000000) (h.cel5 hi (l := k)) (sR_bd h h0 h1 hi) (by decide)
      rw [res_is h h0]
      show inr ((cel A i k : Rat) * _)
      rw [mul_div']
      exact inr_frac (by omega) (by omega) (by omega) (by omega)
end
end Go.Proofs.Ytfoemacgmehpiaa
