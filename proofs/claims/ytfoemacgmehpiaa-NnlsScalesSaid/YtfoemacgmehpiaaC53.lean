/- What is proved here: contracts of functions and plain facts, several texts in one; each one says ahead what it proves, and its conditions. -/
import Derived.Test.YtfoemacgmehpiaaC14
/- What is proved here: the order of the equations changes nothing; right sides that are so many times as great have a solution that is so many times as great. No program in sight. Condition: a valid fit, a number from 1 on. -/
namespace Go.Proofs.Ytfoemacgmehpiaa
open Go.RowKit

theorem si_front (f : Nat → Int) : ∀ k, si f (k + 1) = f 0 + si (fun r => f (r + 1)) k
  | 0 => by show 0 + f 0 = f 0 + 0; omega
  | k + 1 => by rw [si_succ, si_front f k, si_succ]; omega
theorem si_rot1 (f : Nat → Int) : ∀ m, si (fun r => f ((r + 1) % m)) m = si f m
  | 0 => rfl
  | k + 1 => by
    rw [si_succ, si_front f k]
    have e : si (fun r => f ((r + 1) % (k + 1))) k = si (fun r => f (r + 1)) k := si_congr k fun r hr => by rw [Nat.mod_eq_of_lt (by omega)]
    rw [e, Nat.mod_self]; omega
theorem si_rot (f : Nat → Int) (m : Nat) : ∀ t, si (fun r => f ((r + t) % m)) m = si f m
  | 0 => si_congr m fun r hr => by rw [Nat.add_zero, Nat.mod_eq_of_lt hr]
  | t + 1 => by
    have e : (fun r => f ((r + (t + 1)) % m)) = fun r => (fun x => f ((x + t) % m)) ((r + 1) % m) := by
      funext r
      show _ = f (((r + 1) % m + t) % m)
      rw [Nat.mod_add_mod]
      congr 2; omega
    rw [e, si_rot1 (fun x => f ((x + t) % m)) m]
    exact si_rot f m t
section
variable {A : List (List Int)} {B : List Int} {n : Nat} {by' : Int}
/-- The fit with its equations turned; the first rows of it. -/
def rotA (A : List (List Int)) (t i : Nat) : List (List Int) := (List.range i).map fun r => A.getD ((r + t) % A.length) []
def rotB (A : List (List Int)) (B : List Int) (t i : Nat) : List Int := (List.range i).map fun r => B.getD ((r + t) % A.length) 0
def moreB (B : List Int) (q : Int) (i : Nat) : List Int := (List.range i).map fun r => q * B.getD r 0
theorem rotA_len (t i : Nat) : (rotA A t i).length = i := by simp [rotA]
theorem rotB_len (t i : Nat) : (rotB A B t i).length = i := by simp [rotB]
theorem moreB_len (q : Int) (i : Nat) : (moreB B q i).length = i := by simp [moreB]
theorem rotA_succ (t i : Nat) : rotA A t (i + 1) = rotA A t i ++ [A.getD ((i + t) % A.length) []] := by simp [rotA, List.range_succ]
theorem rotB_succ (t i : Nat) : rotB A B t (i + 1) = rotB A B t i ++ [B.getD ((i + t) % A.length) 0] := by simp [rotB, List.range_succ]
theorem moreB_succ (q : Int) (i : Nat) : moreB B q (i + 1) = moreB B q i ++ [q * B.getD i 0] := by simp [moreB, List.range_succ]
theorem rotA_get {t i r : Nat} (h : r < i) : (rotA A t i).getD r [] = A.getD ((r + t) % A.length) [] := by simp [rotA, List.getD, h]
theorem rotB_get {t i r : Nat} (h : r < i) : (rotB A B t i).getD r 0 = B.getD ((r + t) % A.length) 0 := by simp [rotB, List.getD, h]
theorem moreB_get {q : Int} {i r : Nat} (h : r < i) : (moreB B q i).getD r 0 = q * B.getD r 0 := by simp [moreB, List.getD, h]
/-- A fit from its conditions. -/
theorem Fit.ncheck {A : List (List Int)} {B : List Int} (h : Fit A B (A.getD 0 []).length) : ncheck A B = 0 := by
  have h1 := h.rows
  have h2 := h.right
  have h3 := h.cols
  refine ncheck_0 (by omega) (List.all_eq_true.2 fun r hr => ?_) (by omega) (List.all_eq_true.2 fun r hr => ?_) (List.all_eq_true.2 fun b hb => ?_)
  · obtain ⟨i, hi, rfl⟩ := List.getElem_of_mem hr
    have := h.wide i hi
    simp; omega
  · obtain ⟨i, hi, rfl⟩ := List.getElem_of_mem hr
    unfold rowOk
    rw [decide_eq_true (h.wide i hi), Bool.true_and]
    refine List.all_eq_true.2 fun a ha => ?_
    obtain ⟨k, hk, rfl⟩ := List.getElem_of_mem ha
    have := h.coef i hi k hk
    simp; omega
  · obtain ⟨i, hi, rfl⟩ := List.getElem_of_mem hb
    have := h.side i hi
    simp; omega
theorem nsolve_is (hc : ncheck A B = 0) : nSolve A B 0 = (nsol A B 0 (A.getD 0 []).length, nS A B 0, 0) := if_pos hc
/-- Two fits with the same square matrix and products have the same solution. -/
theorem same_solve {A' : List (List Int)} {B' : List Int} (hg : nG A' = nG A) (hd : nD A' B' 0 = nD A B 0) (n : Nat) : nS A' B' 0 = nS A B 0 ∧ nsol A' B' 0 n = nsol A B 0 n := by
  have hS : nS A' B' 0 = nS A B 0 := by unfold nS; rw [hg, hd]
  refine ⟨hS, ?_⟩
  unfold nsol
  refine List.map_congr_left fun k _ => ?_
  have : nsx A' B' 0 k = nsx A B 0 k := by
    show (num8 (nG A') (nD A' B' 0) (nS A' B' 0) k : Rat) / (den8 (nG A') (nS A' B' 0) : Rat) = (num8 (nG A) (nD A B 0) (nS A B 0) k : Rat) / (den8 (nG A) (nS A B 0) : Rat)
    rw [hg, hd, hS]
  rw [this]
theorem rot_solve (hc : ncheck A B = 0) (t : Nat) : ncheck (rotA A t A.length) (rotB A B t A.length) = 0 ∧ nSolve (rotA A t A.length) (rotB A B t A.length) 0 = (nsol A B 0 (A.getD 0 []).length, nS A B 0, 0) := by
  have h := fit_of hc
  have hm := h.rows.1
  have hlt : ∀ r, (r + t) % A.length < A.length := fun r => Nat.mod_lt _ (by omega)
  have hw : ∀ r, r < A.length → ((rotA A t A.length).getD r []).length = (A.getD 0 []).length := fun r hr => by
    rw [rotA_get hr, getD_get (hlt r)]; exact h.wide _ (hlt r)
  have hw0 := hw 0 (by omega)
  have hF : Fit (rotA A t A.length) (rotB A B t A.length) ((rotA A t A.length).getD 0 []).length := by
    have e : ∀ i (hi : i < (rotA A t A.length).length), (rotA A t A.length)[i] = A[(i + t) % A.length]'(hlt i) := fun i hi => by
      rw [rotA_len] at hi
      have := rotA_get (A := A) (t := t) hi
      rw [getD_get (by rw [rotA_len]; exact hi), getD_get (hlt i)] at this
      exact this
    refine ⟨by rw [rotA_len]; exact h.rows, by rw [rotA_len, rotB_len], by rw [hw0]; exact h.cols, fun i hi => ?_, fun i hi k hk => ?_, fun i hi => ?_⟩
    · rw [e i hi, hw0]; exact h.wide _ (hlt i)
    · have h2 : k < (A[(i + t) % A.length]'(hlt i)).length := by rw [← e i hi]; exact hk
      have h3 := h.coef _ (hlt i) k h2
      have h4 : (rotA A t A.length)[i][k] = (A[(i + t) % A.length]'(hlt i))[k] := by simp only [e i hi]
      rw [h4]; exact h3
    · have hi' : i < A.length := by rw [rotB_len] at hi; exact hi
      have hb : (i + t) % A.length < B.length := by rw [h.right]; exact hlt i
      have := rotB_get (A := A) (B := B) (t := t) hi'
      rw [getD_get hi, getD_get hb] at this
      rw [this]; exact h.side _ hb
  have hn := hF.ncheck
  refine ⟨hn, ?_⟩
  have hcel : ∀ r k, r < A.length → cel (rotA A t A.length) r k = cel A ((r + t) % A.length) k := fun r k hr => by unfold cel; rw [rotA_get hr]
  have hnb : ∀ r, r < A.length → nb (rotB A B t A.length) r = nb B ((r + t) % A.length) := fun r hr => rotB_get hr
  have hg : nG (rotA A t A.length) = nG A := by
    funext k l
    unfold nG qg
    rw [rotA_len, ← si_rot (fun r => cel A r k * cel A r l) A.length t]
    exact si_congr A.length fun r hr => by rw [hcel r k hr, hcel r l hr]
  have hd : nD (rotA A t A.length) (rotB A B t A.length) 0 = nD A B 0 := by
    funext k
    unfold nD qc
    rw [rotA_len, ← si_rot (fun r => cel A r k * nb B r) A.length t]
    congr 1
    exact si_congr A.length fun r hr => by rw [hcel r k hr, hnb r hr]
  obtain ⟨s1, s2⟩ := same_solve hg hd (A.getD 0 []).length
  rw [nsolve_is hn, hw0, s1, s2]
theorem num8_mul (g : Nat → Nat → Int) (d : Nat → Int) (q : Int) {S k : Nat} (hS : S < 8) (hk : k < 3) : num8 g (fun k => q * d k) S k = q * num8 g d S k := by
  rcases cases8 hS with rfl | rfl | rfl | rfl | rfl | rfl | rfl | rfl <;> rcases cases3 hk with rfl | rfl | rfl <;>
    first | rfl | (show (0 : Int) = q * 0; omega) | (simp only [num8, det2, det3]; grind)
theorem slp8_mul (g : Nat → Nat → Int) (d : Nat → Int) (q : Int) {S k : Nat} (hS : S < 8) : slp8 g (fun k => q * d k) S k = q * slp8 g d S k := by
  unfold slp8
  rw [num8_mul g d q hS (by decide), num8_mul g d q hS (by decide), num8_mul g d q hS (by decide)]
  grind
theorem nn_mul {q x : Int} (hq : 0 < q) : 0 ≤ q * x ↔ 0 ≤ x := by
  constructor
  · intro h
    rcases Int.lt_or_le x 0 with h1 | h1
    · have := Int.mul_neg_of_pos_of_neg hq h1; omega
    · exact h1
  · intro h; exact Int.mul_nonneg (by omega) h
theorem good8_mul (g : Nat → Nat → Int) (d : Nat → Int) {q : Int} (hq : 0 < q) {S : Nat} (hS : S < 8) : good8 g (fun k => q * d k) S = good8 g d S := by
  rw [Bool.eq_iff_iff, good8_iff, good8_iff]
  constructor
  · rintro ⟨h1, h2⟩
    refine ⟨h1, fun k hk => ?_⟩
    have := h2 k hk
    rw [num8_mul g d q hS hk, slp8_mul g d q hS, nn_mul hq, nn_mul hq] at this
    exact this
  · rintro ⟨h1, h2⟩
    refine ⟨h1, fun k hk => ?_⟩
    rw [num8_mul g d q hS hk, slp8_mul g d q hS, nn_mul hq, nn_mul hq]
    exact h2 k hk
theorem fst8_mul (g : Nat → Nat → Int) (d : Nat → Int) {q : Int} (hq : 0 < q) : fst8 g (fun k => q * d k) = fst8 g d := by
  have e : ∀ S, S < 8 → good8 g (fun k => q * d k) S = good8 g d S := fun S hS => good8_mul g d hq hS
  unfold fst8
  show (([0, 1, 2, 3, 4, 5, 6, 7] : List Nat).find? _).getD 0 = (([0, 1, 2, 3, 4, 5, 6, 7] : List Nat).find? _).getD 0
  simp only [List.find?, e 0 (by decide), e 1 (by decide), e 2 (by decide), e 3 (by decide), e 4 (by decide), e 5 (by decide), e 6 (by decide), e 7 (by decide)]
/-- The solution for right sides that are q times as great. -/
theorem more_solve (hc : ncheck A B = 0) {q : Int} (hq : 0 < q) (hm : ncheck A (moreB B q A.length) = 0) :
    nSolve A (moreB B q A.length) 0 = ((List.range (A.getD 0 []).length).map (fun k => up (nsx A B 0 k * (q : Rat))), nS A B 0, 0) ∧
    ∀ k, k < (A.getD 0 []).length → inr (nsx A B 0 k) ∧ inr (nsx A B 0 k * (q : Rat)) := by
  have h := fit_of hc
  have hF := fit_of hm
  have n3 := h.cols.2
  have hd : nD A (moreB B q A.length) 0 = fun k => q * nD A B 0 k := by
    funext k
    unfold nD qc
    have e : si (fun r => cel A r k * nb (moreB B q A.length) r) A.length = q * si (fun r => cel A r k * nb B r) A.length := by
      have e2 : ∀ (f : Nat → Int) m, si (fun r => q * f r) m = q * si f m := fun f m => by
        induction m with
        | zero => show (0 : Int) = q * 0; omega
        | succ m ih => rw [si_succ, si_succ, ih]; grind
      rw [← e2]
      exact si_congr A.length fun r hr => by
        have : nb (moreB B q A.length) r = q * nb B r := moreB_get hr
        rw [this]; grind
    rw [e]; grind
  have hS : nS A (moreB B q A.length) 0 = nS A B 0 := by unfold nS; rw [hd]; exact fst8_mul _ _ hq
  have hx : ∀ k, k < 3 → nsx A (moreB B q A.length) 0 k = nsx A B 0 k * (q : Rat) := fun k hk => by
    show (num8 (nG A) (nD A (moreB B q A.length) 0) (nS A (moreB B q A.length) 0) k : Rat) / (den8 (nG A) (nS A (moreB B q A.length) 0) : Rat) = (num8 (nG A) (nD A B 0) (nS A B 0) k : Rat) / (den8 (nG A) (nS A B 0) : Rat) * (q : Rat)
    rw [hS, hd, num8_mul _ _ q (set8 n3 (nS_spec h (Int.le_refl 0)).1) hk, Rat.intCast_mul, Rat.div_def, Rat.div_def]
    grind
  refine ⟨?_, fun k hk => ⟨(nsx_make h (Int.le_refl 0) (by decide) (by omega)).1, ?_⟩⟩
  · rw [nsolve_is hm, hS]
    congr 1
    unfold nsol
    refine List.map_congr_left fun k hk => ?_
    rw [hx k (by have := List.mem_range.1 hk; omega)]
  · rw [← hx k (by omega)]
    exact (nsx_make hF (Int.le_refl 0) (by decide) (by omega)).1
theorem mul_whole {x : Rat} {q : Int} (h0 : 0 < q) (h1 : q ≤ 50) (hx : inr x) (hy : inr (x * (q : Rat))) : fmul (up x).1 (up x).2 q 1 = uf (x * (q : Rat)) := by
  have := fmul_qq (a := up x) (b := (q, 1)) (up_chk hx) (fchk_small (by omega) (by omega))
  rw [qq_up, qq_int, pack_ok hy] at this
  exact this
end
end Go.Proofs.Ytfoemacgmehpiaa
