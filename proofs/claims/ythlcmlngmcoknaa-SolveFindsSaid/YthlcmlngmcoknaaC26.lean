/- What is proved here: contracts of functions and plain facts, several texts in one; each one says ahead what it proves, and its conditions. -/
import Derived.Test.YthlcmlngmcoknaaC17
/- What is proved here: the rank of the rows is that of the columns; zero right sides have a solution; how long the basis is. No program in sight. Condition: a valid system. -/
namespace Go.Proofs.Ythlcmlngmcoknaa
open Go.RowKit

theorem sys_chk {A : List (List Int)} {B : List Int} {n : Nat} (h : Sys A B n) (hn : (A.getD 0 []).length = n) : ocheck A B = 0 := by
  have r := h.rows
  have c := h.cols
  have b := h.right
  have mem : ∀ x ∈ A, x.length = n ∧ ∀ y ∈ x, -9 ≤ y ∧ y ≤ 9 := fun x hx => by
    obtain ⟨i, hi, rfl⟩ := List.getElem_of_mem hx
    refine ⟨h.wide i hi, fun y hy => ?_⟩
    obtain ⟨k, hk, rfl⟩ := List.getElem_of_mem hy
    exact h.coef i hi k hk
  refine ocheck_0 (by omega) ?_ (by omega) ?_ ?_
  · rw [List.all_eq_true]; intro x hx; have := (mem x hx).1; simp; omega
  · rw [List.all_eq_true]; intro x hx
    obtain ⟨m1, m2⟩ := mem x hx
    simp only [orow, Bool.and_eq_true, decide_eq_true_eq, List.all_eq_true]
    exact ⟨by omega, m2⟩
  · rw [List.all_eq_true]; intro y hy
    obtain ⟨i, hi, rfl⟩ := List.getElem_of_mem hy
    simp only [orgt, Bool.and_eq_true, decide_eq_true_eq]
    exact h.side i hi
/-- The columns as rows, with zero right sides. -/
def colsA (A : List (List Int)) : List (List Int) := (List.range (A.getD 0 []).length).map (ocol A)
def colsB (A : List (List Int)) : List Int := List.replicate (A.getD 0 []).length 0
section
variable {A : List (List Int)} {B : List Int}
theorem cols_len (A : List (List Int)) : (colsA A).length = (A.getD 0 []).length := by simp [colsA]
theorem cols_get {k : Nat} (hk : k < (colsA A).length) : (colsA A)[k] = ocol A k := by simp [colsA]
theorem cols_0 (h : Sys A B (A.getD 0 []).length) : ((colsA A).getD 0 []).length = A.length := by
  have h0 : 0 < (colsA A).length := by rw [cols_len]; exact h.cols.1
  rw [getD_get h0, cols_get h0, ocol_len]
theorem sys_cols (h : Sys A B (A.getD 0 []).length) : Sys (colsA A) (colsB A) A.length where
  rows := by rw [cols_len]; exact h.cols
  right := by rw [cols_len]; simp [colsB]
  cols := h.rows
  wide := fun i hi => by rw [cols_get hi, ocol_len]
  coef := fun i hi k hk => by
    have hk' : k < A.length := by rw [cols_get hi, ocol_len] at hk; exact hk
    have hi' : i < (A.getD 0 []).length := by rw [cols_len] at hi; exact hi
    have hw := h.wide k hk'
    have e : (colsA A)[i][k] = (ocol A i)[k]'(by rw [ocol_len]; exact hk') := by simp [colsA]
    have hq : i < A[k].length := by omega
    have e2 : (ocol A i)[k]'(by rw [ocol_len]; exact hk') = A[k][i] := by simp [ocol, List.getD, hq]
    rw [e, e2]
    exact h.coef k hk' i (by omega)
  side := fun i hi => by simp [colsB]
theorem chk_cols (h : ocheck A B = 0) : ocheck (colsA A) (colsB A) = 0 := sys_chk (sys_cols (sys_of h)) (cols_0 (sys_of h))
theorem cols_at (h : Sys A B (A.getD 0 []).length) {r c : Nat} (hr : r < (A.getD 0 []).length) (hc : c < A.length) : oA (colsA A) (colsB A) r c = oA A B c r := by
  have h0 := cols_0 h
  have hw := h.wide c hc
  unfold oA oM
  rw [if_pos (by omega), if_pos hr]
  unfold cel
  have hr' : r < (colsA A).length := by rw [cols_len]; exact hr
  rw [getD_get hr', cols_get hr', getD_get hc]
  unfold ocol
  simp [List.getD, hc]
theorem sys_zero (h : Sys A B (A.getD 0 []).length) : Sys A (List.replicate B.length 0) (A.getD 0 []).length where
  rows := h.rows
  right := by simpa using h.right
  cols := h.cols
  wide := h.wide
  coef := h.coef
  side := fun i hi => by simp
theorem cols_zero (_h : Sys A B (A.getD 0 []).length) {c r : Nat} (hr : r < (A.getD 0 []).length) : oA A (List.replicate B.length 0) c r = oA A B c r := by
  unfold oA oM; rw [if_pos hr, if_pos hr]
/-- The rank of the columns is that of the rows. -/
theorem rank_cols (h : ocheck A B = 0) : (ored (colsA A) (colsB A)).bnd.length = (ored A B).bnd.length := by
  have SY := sys_of h
  have l0 := cols_0 SY
  have ll := cols_len A
  refine Nat.le_antisymm ?_ ?_
  · exact rank_le (o_inv A B) (oA (colsA A) (colsB A)) (fun r c hr hc => cols_at SY hr hc) (o_inv (colsA A) (colsB A)) ll l0
  · exact rank_le (o_inv (colsA A) (colsB A)) (oA A B) (fun r c hr hc => (cols_at SY (by omega) (by omega)).symm) (o_inv A B) l0.symm ll.symm
theorem rank_zero (h : ocheck A B = 0) : (ored A (List.replicate B.length 0)).bnd.length = (ored A B).bnd.length := by
  have SY := sys_of h
  have l0 := cols_0 SY
  have ll := cols_len A
  have c2 : ∀ r c, r < (A.getD 0 []).length → c < A.length → oA (colsA A) (colsB A) r c = oA A (List.replicate B.length 0) c r := fun r c hr hc => by rw [cols_at SY hr hc, cols_zero SY hr]
  rw [← rank_cols h]
  refine Nat.le_antisymm ?_ ?_
  · exact rank_le (o_inv (colsA A) (colsB A)) (oA A (List.replicate B.length 0)) (fun r c hr hc => (c2 c r (by omega) (by omega)).symm) (o_inv A (List.replicate B.length 0)) l0.symm ll.symm
  · exact rank_le (o_inv A (List.replicate B.length 0)) (oA (colsA A) (colsB A)) (fun r c hr hc => c2 r c hr hc) (o_inv (colsA A) (colsB A)) ll l0
theorem rank_min (_h : ocheck A B = 0) : (ored A B).bnd.length ≤ A.length ∧ (ored A B).bnd.length ≤ (A.getD 0 []).length := ⟨(o_inv A B).le, (o_inv A B).lec⟩
theorem chk_zero (h : ocheck A B = 0) : ocheck A (List.replicate B.length 0) = 0 := sys_chk (sys_zero (sys_of h)) rfl
theorem zero_solv (_h : ocheck A B = 0) : solvB A.length (A.getD 0 []).length (ored A (List.replicate B.length 0)) = true := by
  rw [solvB_iff, (o_inv A (List.replicate B.length 0)).solv_iff]
  refine ⟨fun j => if j = (A.getD 0 []).length then 1 else 0, fun r hr => ?_, by simp⟩
  rw [sm_succ, sm_0 _ fun j hj => (by show oA A (List.replicate B.length 0) r j * (if j = (A.getD 0 []).length then 1 else 0) = 0; rw [if_neg (by omega)]; grind)]
  show (0 : Rat) + oA A (List.replicate B.length 0) r (A.getD 0 []).length * (if (A.getD 0 []).length = (A.getD 0 []).length then 1 else 0) = 0
  rw [if_pos rfl]
  have : oA A (List.replicate B.length 0) r (A.getD 0 []).length = 0 := by
    unfold oA oM
    rw [if_neg (by omega)]
    have e : (List.replicate B.length (0 : Int)).getD r 0 = 0 := by
      rw [List.getD_eq_getElem?_getD, List.getElem?_replicate]; split <;> rfl
    rw [e]; rfl
  rw [this]; grind
/-- The solutions of zero right sides: a basis of as many lists as there are columns, less the rank. -/
theorem zero_basis (h : ocheck A B = 0) : ∃ x b, oSolve A (List.replicate B.length 0) = (x, b, 0) ∧ b.length = (A.getD 0 []).length - (ored A B).bnd.length := by
  refine ⟨_, _, oSolve_0 (chk_zero h) (zero_solv h), ?_⟩
  rw [← rank_zero h]
  exact blist_len _ _ _
theorem oRank_cols (h : ocheck A B = 0) : oRank (colsA A) (colsB A) = (((ored A B).bnd.length : Int), 0) := by
  rw [oRank_0 (chk_cols h), rank_cols h]
end
end Go.Proofs.Ythlcmlngmcoknaa

/- What is proved here: a system with its equations in another order, and one with an equation added to another one, have the same solutions. No program in sight. Condition: valid systems. -/
namespace Go.Proofs.Ythlcmlngmcoknaa
open Go.RowKit

section
variable {A : List (List Int)} {B : List Int}
theorem sys_rev (h : Sys A B (A.getD 0 []).length) : Sys A.reverse B.reverse (A.getD 0 []).length where
  rows := by simpa using h.rows
  right := by simpa using h.right
  cols := h.cols
  wide := fun i hi => by
    have hi' : i < A.length := by simpa using hi
    rw [List.getElem_reverse]; exact h.wide _ _
  coef := fun i hi k hk => by
    simp only [List.getElem_reverse] at hk ⊢
    exact h.coef _ _ k hk
  side := fun i hi => by rw [List.getElem_reverse]; exact h.side _ _
theorem rev_0 (h : Sys A B (A.getD 0 []).length) : (A.reverse.getD 0 []).length = (A.getD 0 []).length := by
  have h0 : 0 < A.reverse.length := by rw [List.length_reverse]; exact h.rows.1
  rw [getD_get h0]; exact (sys_rev h).wide 0 h0
theorem chk_rev (h : ocheck A B = 0) : ocheck A.reverse B.reverse = 0 := sys_chk (sys_rev (sys_of h)) (rev_0 (sys_of h))
theorem oA_rev (h : Sys A B (A.getD 0 []).length) {r : Nat} (hr : r < A.length) (j : Nat) : oA A.reverse B.reverse r j = oA A B (A.length - 1 - r) j := by
  have h0 := rev_0 h
  have hb := h.right
  unfold oA oM
  rw [h0]
  congr 1
  split
  · unfold cel
    have h1 : r < A.reverse.length := by rw [List.length_reverse]; exact hr
    have h2 : A.length - 1 - r < A.length := by omega
    rw [getD_get h1, getD_get h2, List.getElem_reverse]
  · rw [List.getD_eq_getElem?_getD, List.getElem?_reverse (by omega), List.getD_eq_getElem?_getD, hb]
theorem solve_rev (h : ocheck A B = 0) : oSolve A.reverse B.reverse = oSolve A B := by
  have SY := sys_of h
  refine oSolve_same h (chk_rev h) (rev_0 SY) fun x => ?_
  unfold ker
  rw [List.length_reverse]
  have one : ∀ r, r < A.length → sm (fun j => oA A.reverse B.reverse r j * x j) ((A.getD 0 []).length + 1) = sm (fun j => oA A B (A.length - 1 - r) j * x j) ((A.getD 0 []).length + 1) := fun r hr => sm_congr _ fun j _ => by rw [oA_rev SY hr]
  constructor
  · intro hk r hr; rw [one r hr]; exact hk _ (by omega)
  · intro hk r hr
    have := hk (A.length - 1 - r) (by omega)
    rw [one _ (by omega), show A.length - 1 - (A.length - 1 - r) = r by omega] at this
    exact this
/-- A row with another one added, in its first columns. -/
def sumrow (A : List (List Int)) (i k m : Nat) : List Int := (List.range (A.getD i []).length).map fun c => if c < m then (A.getD i []).getD c 0 + (A.getD k []).getD c 0 else (A.getD i []).getD c 0
theorem sumrow_len (A : List (List Int)) (i k m : Nat) : (sumrow A i k m).length = (A.getD i []).length := by simp [sumrow]
theorem sumrow_0 (A : List (List Int)) (i k : Nat) : sumrow A i k 0 = A.getD i [] := by
  refine List.ext_getElem? fun c => ?_
  unfold sumrow
  rcases Nat.lt_or_ge c (A.getD i []).length with h | h
  · rw [List.getElem?_map, List.getElem?_range h]
    show some (if c < 0 then _ else _) = _
    rw [if_neg (by omega), List.getD_eq_getElem?_getD, List.getElem?_eq_getElem h]; rfl
  · rw [List.getElem?_eq_none (by simpa using h), List.getElem?_eq_none h]
theorem sumrow_get {i k m c : Nat} (hc : c < (A.getD i []).length) : (sumrow A i k m)[c]? = some (if c < m then (A.getD i []).getD c 0 + (A.getD k []).getD c 0 else (A.getD i []).getD c 0) := by
  unfold sumrow; rw [List.getElem?_map, List.getElem?_range hc]; rfl
theorem sumrow_succ {i k m : Nat} (hm : m < (A.getD i []).length) : (sumrow A i k m).set m ((A.getD i []).getD m 0 + (A.getD k []).getD m 0) = sumrow A i k (m + 1) := by
  refine List.ext_getElem? fun c => ?_
  rw [List.getElem?_set, sumrow_len]
  rcases Nat.lt_or_ge c (A.getD i []).length with h | h
  · by_cases e : m = c
    · subst e; rw [if_pos rfl, if_pos hm, sumrow_get h, if_pos (by omega)]
    · rw [if_neg e, sumrow_get h, sumrow_get h]
      by_cases h2 : c < m
      · rw [if_pos h2, if_pos (by omega)]
      · rw [if_neg h2, if_neg (by omega)]
  · rw [if_neg (by omega), List.getElem?_eq_none (by rw [sumrow_len]; exact h), List.getElem?_eq_none (by rw [sumrow_len]; exact h)]
def sumA (A : List (List Int)) (i k : Nat) : List (List Int) := A.set i (sumrow A i k (A.getD i []).length)
def sumB (B : List Int) (i k : Nat) : List Int := B.set i (B.getD i 0 + B.getD k 0)
theorem sumA_0 (h : Sys A B (A.getD 0 []).length) {i k : Nat} (_hi : i < A.length) : ((sumA A i k).getD 0 []).length = (A.getD 0 []).length := by
  have h0 := h.rows.1
  unfold sumA
  rw [List.getD_eq_getElem?_getD, List.getElem?_set]
  by_cases e : i = 0
  · subst e; rw [if_pos rfl, if_pos (by omega)]
    show (sumrow A 0 k _).length = _
    rw [sumrow_len]
  · rw [if_neg e, List.getD_eq_getElem?_getD]
theorem oA_sum (h : Sys A B (A.getD 0 []).length) {i k : Nat} (hi : i < A.length) {r : Nat} (hr : r < A.length) {j : Nat} :
    oA (sumA A i k) (sumB B i k) r j = if r = i then oA A B i j + oA A B k j else oA A B r j := by
  have h0 := sumA_0 h hi (k := k)
  have hb := h.right
  have wi : (A.getD i []).length = (A.getD 0 []).length := by rw [getD_get hi]; exact h.wide i hi
  unfold oA oM
  rw [h0]
  by_cases hjn : j < (A.getD 0 []).length
  · rw [if_pos hjn, if_pos hjn, if_pos hjn, if_pos hjn]
    unfold cel sumA
    by_cases e : r = i
    · subst e
      rw [if_pos rfl, ← Rat.intCast_add]
      congr 1
      rw [List.getD_eq_getElem?_getD (l := A.set r _), List.getElem?_set, if_pos rfl, if_pos hr]
      show (sumrow A r k (A.getD r []).length).getD j 0 = _
      rw [List.getD_eq_getElem?_getD, sumrow_get (by omega), if_pos (by omega)]; rfl
    · rw [if_neg e]
      congr 1
      rw [List.getD_eq_getElem?_getD (l := A.set i _), List.getElem?_set, if_neg (fun h => e h.symm), ← List.getD_eq_getElem?_getD]
  · rw [if_neg hjn, if_neg hjn, if_neg hjn, if_neg hjn]
    unfold sumB
    by_cases e : r = i
    · subst e
      rw [if_pos rfl, ← Rat.intCast_add]
      congr 1
      rw [List.getD_eq_getElem?_getD (l := B.set r _), List.getElem?_set, if_pos rfl, if_pos (by omega)]; rfl
    · rw [if_neg e]
      congr 1
      rw [List.getD_eq_getElem?_getD (l := B.set i _), List.getElem?_set, if_neg (fun h => e h.symm), ← List.getD_eq_getElem?_getD]
theorem solve_sum (h : ocheck A B = 0) {i k : Nat} (hi : i < A.length) (hk : k < A.length) (hik : i ≠ k) (h' : ocheck (sumA A i k) (sumB B i k) = 0) : oSolve (sumA A i k) (sumB B i k) = oSolve A B := by
  have SY := sys_of h
  refine oSolve_same h h' (sumA_0 SY hi) fun x => ?_
  unfold ker
  have hl : (sumA A i k).length = A.length := by simp [sumA]
  rw [hl]
  have one : ∀ r, r < A.length → r ≠ i → sm (fun j => oA (sumA A i k) (sumB B i k) r j * x j) ((A.getD 0 []).length + 1) = sm (fun j => oA A B r j * x j) ((A.getD 0 []).length + 1) := fun r hr e => sm_congr _ fun j _ => by rw [oA_sum SY hi hr, if_neg e]
  have two : sm (fun j => oA (sumA A i k) (sumB B i k) i j * x j) ((A.getD 0 []).length + 1) = sm (fun j => oA A B i j * x j) ((A.getD 0 []).length + 1) + sm (fun j => oA A B k j * x j) ((A.getD 0 []).length + 1) := by
    rw [← sm_add]
    refine sm_congr _ fun j _ => ?_
    rw [oA_sum SY hi hi, if_pos rfl]; grind
  constructor
  · intro hx r hr
    by_cases e : r = i
    · subst e; rw [two, hx _ hr, hx _ hk]; grind
    · rw [one r hr e]; exact hx r hr
  · intro hx r hr
    by_cases e : r = i
    · subst e
      have h1 := hx r hr
      have h2 := hx k hk
      rw [two] at h1
      rw [one k hk (fun e => hik e.symm)] at h2
      rw [h2] at h1; grind
    · have := hx r hr; rw [one r hr e] at this; exact this
/-- A sum of two small numbers. -/
theorem sum_small (h : Sys A B (A.getD 0 []).length) {i k : Nat} (hi : i < A.length) (hk : k < A.length) {c : Nat} (hc : c < (A.getD 0 []).length) :
    -18 ≤ (A.getD i []).getD c 0 + (A.getD k []).getD c 0 ∧ (A.getD i []).getD c 0 + (A.getD k []).getD c 0 ≤ 18 := by
  have one : ∀ r, r < A.length → -9 ≤ (A.getD r []).getD c 0 ∧ (A.getD r []).getD c 0 ≤ 9 := fun r hr => by
    have hw := h.wide r hr
    rw [getD_get hr, getD_get (by omega)]; exact h.coef r hr c (by omega)
  have := one i hi; have := one k hk; omega
theorem side_small (h : Sys A B (A.getD 0 []).length) {i k : Nat} (hi : i < A.length) (hk : k < A.length) : -198 ≤ B.getD i 0 + B.getD k 0 ∧ B.getD i 0 + B.getD k 0 ≤ 198 := by
  have hb := h.right
  have := h.side i (by omega); have := h.side k (by omega)
  rw [getD_get (by omega), getD_get (by omega)]; omega
end
end Go.Proofs.Ythlcmlngmcoknaa
