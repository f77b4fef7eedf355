/- What is proved here: contracts of functions and plain facts, several texts in one; each one says ahead what it proves, and its conditions. -/
import Derived.Test.YthlcmlngmcoknaaC41
/- What is proved here: the rank of the rows is that of the columns; zero right sides have a solution; how long the basis is. No program in sight. Condition: a valid system. -/
namespace Go.Proofs.Ythlcmlngmcoknaa
open Go.RowKit

theorem sys_chk {A : List (List Int)} {B : List Int} {n : Nat} (h : Sys A B n) (hn : (A.getD 0 []).length = n) : ocheck A B = 0 := by
  have r := h.rows
  have c := h.cols
  have b := h.right
  have mem : ∀ x ∈ A, x.length = n ∧ ∀ y ∈ x, -9 ≤ y ∧ y ≤ 9 := fun x hx => by
    obtain ⟨i, hi, rfl⟩ := List.getElem_of_mem hx
    refine ⟨h.wide i hi, fun y hy => ?_⟩
    obtain ⟨k, hk, rfl⟩ := List.getElem_of_mem hy
    exact h.coef i hi k hk
  refine ocheck_0 (by omega) ?_ (by omega) ?_ ?_
  · rw [List.all_eq_true]; intro x hx; have := (mem x hx).1; simp; omega
  · rw [List.all_eq_true]; intro x hx
    obtain ⟨m1, m2⟩ := mem x hx
    simp only [orow, Bool.and_eq_true, decide_eq_true_eq, List.all_eq_true]
    exact ⟨by omega, m2⟩
  · rw [List.all_eq_true]; intro y hy
    obtain ⟨i, hi, rfl⟩ := List.getElem_of_mem hy
    simp only [orgt, Bool.and_eq_true, decide_eq_true_eq]
    exact h.side i hi
/-- The columns as rows, with zero right sides. -/
def colsA (A : List (List Int)) : List (List Int) := (List.range (A.getD 0 []).length).map (ocol A)
def colsB (A : List (List Int)) : List Int := List.replicate (A.getD 0 []).length 0
section
variable {A : List (List Int)} {B : List Int}
theorem cols_len (A : List (List Int)) : (colsA A).length = (A.getD 0 []).length := by simp [colsA]
theorem cols_get {k : Nat} (hk : k < (colsA A).length) : (colsA A)[k] = ocol A k := by simp [colsA]
theorem cols_0 (h : Sys A B (A.getD 0 []).length) : ((colsA A).getD 0 []).length = A.length := by
  have h0 : 0 < (colsA A).length := by rw [cols_len]; exact h.cols.1
  rw [getD_get h0, cols_get h0, ocol_len]
theorem sys_cols (h : Sys A B (A.getD 0 []).length) : Sys (colsA A) (colsB A) A.length where
  rows := by rw [cols_len]; exact h.cols
  right := by rw [cols_len]; simp [colsB]
  cols := h.rows
  wide := fun i hi => by rw [cols_get hi, ocol_len]
  coef := fun i hi k hk => by
    have hk' : k < A.length := by rw [cols_get hi, ocol_len] at hk; exact hk
    have hi' : i < (A.getD 0 []).length := by rw [cols_len] at hi; exact hi
    have hw := h.wide k hk'
    have e : (colsA A)[i][k] = (ocol A i)[k]'(by rw [ocol_len]; exact hk') := by simp [colsA]
    have hq : i < A[k].length := by omega
    have e2 : (ocol A i)[k]'(by rw [ocol_len]; exact hk') = A[k][i] := by simp [ocol, List.getD, hq]
    rw [e, e2]
    exact h.coef k hk' i (by omega)
  side := fun i hi => by simp [colsB]
theorem chk_cols (h : ocheck A B = 0) : ocheck (colsA A) (colsB A) = 0 := sys_chk (sys_cols (sys_of h)) (cols_0 (sys_of h))
theorem cols_at (h : Sys A B (A.getD 0 []).length) {r c : Nat} (hr : r < (A.getD 0 []).length) (hc : c < A.length) : oA (colsA A) (colsB A) r c = oA A B c r := by
  have h0 := cols_0 h
  have hw := h.wide c hc
  unfold oA oM
  rw [if_pos (by omega), if_pos hr]
  unfold cel
  have hr' : r < (colsA A).length := by rw [cols_len]; exact hr
  rw [getD_get hr', cols_get hr', getD_get hc]
  unfold ocol
  simp [List.getD, hc]
theorem sys_zero (h : Sys A B (A.getD 0 []).length) : Sys A (List.replicate B.length 0) (A.getD 0 []).length where
  rows := h.rows
  right := by simpa using h.right
  cols := h.cols
  wide := h.wide
  coef := h.coef
  side := fun i hi => by simp
theorem cols_zero (_h : Sys A B (A.getD 0 []).length) {c r : Nat} (hr : r < (A.getD 0 []).length) : oA A (List.replicate B.length 0) c r = oA A B c r := by
  unfold oA oM; rw [if_pos hr, if_pos hr]
/-- The rank of the columns is that of the rows. -/
theorem rank_cols (h : ocheck A B = 0) : (ored (colsA A) (colsB A)).bnd.length = (ored A B).bnd.length := by
  have SY := sys_of h
  have l0 := cols_0 SY
  have ll := cols_len A
  refine Nat.le_antisymm ?_ ?_
  · exact rank_le (o_inv A B) (oA (colsA A) (colsB A)) (fun r c hr hc => cols_at SY hr hc) (o_inv (colsA A) (colsB A)) ll l0
  · exact rank_le (o_inv (colsA A) (colsB A)) (oA A B) (fun r c hr hc => (cols_at SY (by omega) (by omega)).symm) (o_inv A B) l0.symm ll.symm
theorem rank_zero (h : ocheck A B = 0) : (ored A (List.replicate B.length 0)).bnd.length = (ored A B).bnd.length := by
  have SY := sys_of h
  have l0 := cols_0 SY
  have ll := cols_len A
  have c2 : ∀ r c, r < (A.getD 0 []).length → c < A.length → oA (colsA A) (colsB A) r c = oA A (List.replicate B.length 0) c r := fun r c hr hc => by rw [cols_at SY hr hc, cols_zero SY hr]
  rw [← rank_cols h]
  refine Nat.le_antisymm ?_ ?_
  · exact rank_le (o_inv (colsA A) (colsB A)) (oA A (List.replicate B.length 0)) (fun r c hr hc => (c2 c r (by omega) (by omega)).symm) (o_inv A (List.replicate B.length 0)) l0.symm ll.symm
  · exact rank_le (o_inv A (List.replicate B.length 0)) (oA (colsA A) (colsB A)) (fun r c hr hc => c2 r c hr hc) (o_inv (colsA A) (colsB A)) ll l0
theorem rank_min (_h : ocheck A B = 0) : (ored A B).bnd.length ≤ A.length ∧ (ored A B).bnd.length ≤ (A.getD 0 []).length := ⟨(o_inv A B).le, (o_inv A B).lec⟩
theorem chk_zero (h : ocheck A B = 0) : ocheck A (List.replicate B.length 0) = 0 := sys_chk (sys_zero (sys_of h)) rfl
theorem zero_solv (_h : ocheck A B = 0) : solvB A.length (A.getD 0 []).length (ored A (List.replicate B.length 0)) = true := by
  rw [solvB_iff, (o_inv A (List.replicate B.length 0)).solv_iff]
  refine ⟨fun j => if j = (A.getD 0 []).length then 1 else 0, fun r hr => ?_, by simp⟩
  rw [sm_succ, sm_0 _ fun j hj => (by show oA A (List.replicate B.length 0) r j * (if j = (A.getD 0 []).length then 1 else 0) = 0; rw [if_neg (by omega)]; grind)]
  show (0 : Rat) + oA A (List.replicate B.length 0) r (A.getD 0 []).length * (if (A.getD 0 []).length = (A.getD 0 []).length then 1 else 0) = 0
  rw [if_pos rfl]
  have : oA A (List.replicate B.length 0) r (A.getD 0 []).length = 0 := by
    unfold oA oM
    rw [if_neg (by omega)]
    have e : (List.replicate B.length (0 : Int)).getD r 0 = 0 := by
      rw [List.getD_eq_getElem?_getD, List.getElem?_replicate]; split <;> rfl
    rw [e]; rfl
  rw [this]; grind
/-- The solutions of zero right sides: a basis of as many lists as there are columns, less the rank. -/
theorem zero_basis (h : ocheck A B = 0) : ∃ x b, oSolve A (List.replicate B.length 0) = (x, b, 0) ∧ b.length = (A.getD 0 []).length - (ored A B).bnd.length := by
  refine ⟨_, _, oSolve_0 (chk_zero h) (zero_solv h), ?_⟩
  rw [← rank_zero h]
  exact blist_len _ _ _
theorem oRank_cols (h : ocheck A B = 0) : oRank (colsA A) (colsB A) = (((ored A B).bnd.length : Int), 0) := by
  rw [oRank_0 (chk_cols h), rank_cols h]
end
end Go.Proofs.Ythlcmlngmcoknaa
