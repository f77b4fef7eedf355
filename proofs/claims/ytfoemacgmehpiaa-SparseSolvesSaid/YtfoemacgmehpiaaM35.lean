/- What is proved here: contracts of functions and plain facts, several texts in one; each one says ahead what it proves, and its conditions. -/
import Derived.Test.YtfoemacgmehpiaaM14
import Derived.Test.YtfoemacgmehpiaaM34
import Derived.Test.YtfoemacgmehpiaaM32
import Derived.Test.YtfoemacgmehpiaaM08
import Derived.Test.YtfoemacgmehpiaaM11
/- What is proved here: the reference's search takes the set that the program takes: the point and the gradient of each free set have no error, and the tests are those of a good set. No program in sight. Condition: a valid fit, a set of its unknowns, a cost from 0 to 1000. -/
namespace Go.Proofs.Ytfoemacgmehpiaa
open Go.RowKit

section
variable {A : List (List Int)} {B : List Int} {c : Int} {S n : Nat}
/-- The point of a set. -/
def xS (A : List (List Int)) (B : List Int) (c : Int) (S : Nat) (k : Nat) : Rat := xs8 (cel A) (nb B) A.length c S k
def xL (A : List (List Int)) (B : List Int) (c : Int) (S n : Nat) : List (Int × Int) := (List.range n).map fun k => up (xS A B c S k)
def tD (A : List (List Int)) (S : Nat) : Int := den8 (nG A) S
def tN (A : List (List Int)) (B : List Int) (c : Int) (S k : Nat) : Int := num8 (nG A) (nD A B c) S k
def tR (A : List (List Int)) (B : List Int) (c : Int) (S r : Nat) : Int := si (fun l => cel A r l * tN A B c S l) 3 - nb B r * tD A S
theorem xS_is (k : Nat) : xS A B c S k = (tN A B c S k : Rat) / (tD A S : Rat) := rfl
theorem tD_bd (h : Fit A B n) (hS : S < 2 ^ n) (hd : den8 (nG A) S ≠ 0) : 1 ≤ tD A S ∧ tD A S ≤ 5859375 := by
  have h4 : 0 ≤ den8 (nG A) S := den_nn (cel A) A.length (set8 h.cols.2 hS)
  have h5 := den_small h (set8 h.cols.2 hS)
  unfold tD; omega
theorem tN_bd (h : Fit A B n) (h0 : 0 ≤ c) (h1 : c ≤ 1000) (hS : S < 2 ^ n) (k : Nat) : wi 200000000000 (tN A B c S k) := num8_wi' h h0 h1 hS k
theorem tN_nn_of (k : Nat) (hd : 1 ≤ tD A S) : 0 ≤ xS A B c S k ↔ 0 ≤ tN A B c S k := by rw [xS_is]; exact ratDiv_nn (by omega)
theorem trow (i k : Nat) : sm (fun j => fA A i j * xS A B c S j) k = (si (fun l => cel A i l * tN A B c S l) k : Rat) / (tD A S : Rat) := by
  rw [← sm_div]
  exact sm_congr k fun j _ => by rw [xS_is]; exact mul_div' _ _ _
theorem trow_bd (h : Fit A B n) (h0 : 0 ≤ c) (h1 : c ≤ 1000) (hS : S < 2 ^ n) {i : Nat} (hi : i < A.length) {k : Nat} (hk : k ≤ 3) : wi 3000000000000 (si (fun l => cel A i l * tN A B c S l) k) := by
  have := si_wi (f := fun l => cel A i l * tN A B c S l) (X := 1000000000000) k fun j _ => wr_mulbd' (X := 5) (Y := 200000000000) (h.cel5 hi) (tN_bd h h0 h1 hS j) (by decide)
  unfold wi at *; omega
theorem tR_bd (h : Fit A B n) (h0 : 0 ≤ c) (h1 : c ≤ 1000) (hS : S < 2 ^ n) (hd : den8 (nG A) S ≠ 0) {i : Nat} (hi : i < A.length) : wi 4000000000000 (tR A B c S i) := by
  have h2 := trow_bd h h0 h1 hS hi (k := 3) (Nat.le_refl _)
  have h3 := tD_bd h hS hd
  have h4 := wr_mulbd' (X := 50) (Y := 5859375) (Z := 292968750) (h.side50 hi) (y := tD A S) (by omega) (by decide)
  unfold tR
  unfold wi at *
  omega
theorem tres_is (h : Fit A B n) (hS : S < 2 ^ n) (hd : den8 (nG A) S ≠ 0) (i : Nat) : qres (fA A) (fB B) (xS A B c S) i = (tR A B c S i : Rat) / (tD A S : Rat) := by
  have hD : ((tD A S : Int) : Rat) ≠ 0 := by have := tD_bd h hS hd; simp; omega
  unfold qres qax tR fB rb
  rw [trow, Rat.intCast_sub, Rat.intCast_mul, Rat.div_def, Rat.div_def]
  have := Rat.mul_inv_cancel _ hD
  grind
theorem tcol (h : Fit A B n) (hS : S < 2 ^ n) (hd : den8 (nG A) S ≠ 0) (k i : Nat) : sm (fun r => fA A r k * qres (fA A) (fB B) (xS A B c S) r) i = (si (fun r => cel A r k * tR A B c S r) i : Rat) / (tD A S : Rat) := by
  rw [← sm_div]
  exact sm_congr i fun j _ => by rw [tres_is h hS hd]; exact mul_div' _ _ _
theorem tcol_bd (h : Fit A B n) (h0 : 0 ≤ c) (h1 : c ≤ 1000) (hS : S < 2 ^ n) (hd : den8 (nG A) S ≠ 0) (k : Nat) {i : Nat} (hi : i ≤ A.length) : wi 100000000000000 (si (fun r => cel A r k * tR A B c S r) i) := by
  have := si_wi (f := fun r => cel A r k * tR A B c S r) (X := 20000000000000) i fun j hj => wr_mulbd' (X := 5) (Y := 4000000000000) (h.cel5 (by omega)) (tR_bd h h0 h1 hS hd (by omega)) (by decide)
  have := h.rows
  unfold wi at *; omega
theorem xL_len : (xL A B c S n).length = n := by simp [xL]
theorem xL_inr (h : Fit A B n) (h0 : 0 ≤ c) (h1 : c ≤ 1000) (hS : S < 2 ^ n) (hd : den8 (nG A) S ≠ 0) (k : Nat) : inr (xS A B c S k) := by
  have b1 := tN_bd h h0 h1 hS k
  have b2 := tD_bd h hS hd
  rw [xS_is]; unfold wi at b1
  exact inr_frac (by omega) (by omega) (by omega) (by omega)
theorem xL_val (h : Fit A B n) (h0 : 0 ≤ c) (h1 : c ≤ 1000) (hS : S < 2 ^ n) (hd : den8 (nG A) S ≠ 0) : ∀ i (hi : i < (xL A B c S n).length), fchk (xL A B c S n)[i].1 (xL A B c S n)[i].2 = 0 := fun i hi => by
  have e : (xL A B c S n)[i] = up (xS A B c S i) := by simp [xL]
  rw [e]; exact up_chk (xL_inr h h0 h1 hS hd i)
theorem xL_nx (h : Fit A B n) (hS : S < 2 ^ n) : ∀ k, k < 3 → xS A B c S k = nx (xL A B c S n) k := fun k hk => by
  rcases Nat.lt_or_ge k n with h1 | h1
  · unfold nx xL; rw [res_getD h1, qq_up]
  · rw [nx_out (by rw [xL_len]; exact h1)]
    exact xs8_sup (set8 h.cols.2 hS) k hk (bit_out hS h1)
theorem fitX_of (h : Fit A B n) (h0 : 0 ≤ c) (h1 : c ≤ 1000) (hS : S < 2 ^ n) (hd : den8 (nG A) S ≠ 0) : FitX A B (xL A B c S n) := by
  have e := xL_len (A := A) (B := B) (c := c) (S := S) (n := n)
  exact ⟨h.right, ⟨by have := h.rows; omega, by rw [e]; have := h.cols; omega⟩, by rw [e]; exact h.wide, fun i hi k hk => by have := h.coef i hi k hk; omega, fun i hi => by have := h.side i hi; omega, xL_val h h0 h1 hS hd⟩
/-- The gradient of a free set's point has no error. -/
theorem grad_free (h : Fit A B n) (h0 : 0 ≤ c) (h1 : c ≤ 1000) (hS : S < 2 ^ n) (hd : den8 (nG A) S ≠ 0) :
    ngradient A B (xL A B c S n) = ((List.range n).map fun k => up (qgrd (fA A) (fB B) A.length (xS A B c S) k), 0) ∧ ∀ k, inr (qgrd (fA A) (fB B) A.length (xS A B c S) k) := by
  have hF := fitX_of h h0 h1 hS hd
  have hx := xL_nx (c := c) h hS
  have hl := xL_len (A := A) (B := B) (c := c) (S := S) (n := n)
  have n3 := h.cols.2
  have hD := tD_bd h hS hd
  have rin : ∀ i, i < A.length → inr (qres (fA A) (fB B) (xS A B c S) i) := fun i hi => by
    have := tR_bd h h0 h1 hS hd hi
    rw [tres_is h hS hd]; unfold wi at this
    exact inr_frac (by omega) (by omega) (by omega) (by omega)
  have part : ∀ i, i < A.length → ∀ k, k ≤ 3 → inr (sm (fun j => fA A i j * xS A B c S j) k) := fun i hi k hk => by
    have := trow_bd h h0 h1 hS hi hk
    rw [trow]; unfold wi at this
    exact inr_frac (by omega) (by omega) (by omega) (by omega)
  have res : nresidual A B (xL A B c S n) = ((List.range A.length).map fun i => up (qres (fA A) (fB B) (xS A B c S) i), 0) := by
    refine rows_list fun i hi => ?_
    rw [qres_congr hx]
    refine nres_go hF (by omega) hi (fun j hj => ?_) (fun j hj => ?_) ?_
    · rw [← hx j (by omega), xS_is]
      have := wr_mulbd' (Z := 1000000000000) (h.cel5 hi (l := j)) (tN_bd h h0 h1 hS j) (by decide)
      show inr ((cel A i j : Rat) * _)
      rw [mul_div']
      exact inr_frac (by omega) (by omega) (by omega) (by omega)
    · rw [sm_congr (g := fun j => fA A i j * xS A B c S j) j fun k hk => by rw [hx k (by omega)]]
      exact part i hi j (by omega)
    · rw [← qres_congr hx]; exact rin i hi
  have gpart : ∀ k i, i ≤ A.length → inr (sm (fun r => fA A r k * qres (fA A) (fB B) (xS A B c S) r) i) := fun k i hi => by
    have := tcol_bd h h0 h1 hS hd k hi
    rw [tcol h hS hd]; unfold wi at this
    exact inr_frac (by omega) (by omega) (by omega) (by omega)
  refine ⟨?_, fun k => gpart k A.length (Nat.le_refl _)⟩
  unfold ngradient
  rw [res, if_pos rfl, hl]
  refine rows_list fun k hk => ?_
  show gsum (colT A ((List.range A.length).map fun i => up (qres (fA A) (fB B) (xS A B c S) i)) k) A.length = _
  have e : ∀ j, j ≤ A.length → sm (tq (colT A ((List.range A.length).map fun i => up (qres (fA A) (fB B) (xS A B c S) i)) k)) j = sm (fun i => fA A i k * qres (fA A) (fB B) (xS A B c S) i) j := fun j hj => sm_congr j fun i hi => tq_col (by omega)
  have := gsum_go A.length (col_tval hF rin (by rw [hl]; exact hk)) (fun j hj => ?_) (fun j hj => by rw [e j hj]; exact gpart k j hj)
  · rw [e _ (Nat.le_refl _)] at this
    exact this
  · rw [tq_col hj]
    have b1 := wr_mulbd' (X := 5) (Y := 4000000000000) (Z := 20000000000000) (h.cel5 hj (l := k)) (tR_bd h h0 h1 hS hd hj) (by decide)
    rw [tres_is h hS hd]
    show inr ((cel A j k : Rat) * _)
    rw [mul_div']
    exact inr_frac (by omega) (by omega) (by omega) (by omega)
theorem cmp_lt' (v u : Rat) : fcmp v.num v.den u.num u.den = -1 ↔ v < u := by
  have h := cmp_ge v u
  constructor
  · intro h1
    have : ¬ u ≤ v := fun h2 => by have := h.2 h2; omega
    grind
  · intro h1
    have h2 : ¬ 0 ≤ fcmp v.num v.den u.num u.den := fun h2 => by have := h.1 h2; grind
    unfold fcmp at h2 ⊢
    split at h2
    · rename_i h3; rw [if_pos h3]
    · split at h2 <;> omega
theorem least_map {g : Nat → Rat} (c : Int) : leastB ((List.range n).map fun k => up (g k)) c n = true ↔ ∀ k, k < n → ((-c : Int) : Rat) ≤ g k := by
  have key : ∀ k, k < n → (fcmp (((List.range n).map fun k => up (g k)).getD k (0, 0)).1 (((List.range n).map fun k => up (g k)).getD k (0, 0)).2 (-c) 1 = -1 ↔ g k < ((-c : Int) : Rat)) := fun k hk => by
    rw [res_getD hk]
    exact cmp_lt' (g k) ((-c : Int) : Rat)
  unfold leastB
  rw [List.all_eq_true]
  constructor
  · intro h k hk
    have h1 := h k (List.mem_range.2 hk)
    rw [Bool.not_eq_true', decide_eq_false_iff_not, key k hk] at h1
    grind
  · intro h k hk
    have hk := List.mem_range.1 hk
    rw [Bool.not_eq_true', decide_eq_false_iff_not, key k hk]
    have := h k hk
    grind
/-- The tests of the reference are those of a good set. -/
theorem good_tests (h : Fit A B n) (h0 : 0 ≤ c) (hS : S < 2 ^ n) (hd : den8 (nG A) S ≠ 0) :
    good8 (nG A) (nD A B c) S = (leastB (xL A B c S n) 0 n && leastB ((List.range n).map fun k => up (qgrd (fA A) (fB B) A.length (xS A B c S) k)) c n) := by
  have hD := tD_bd h hS hd
  have n3 := h.cols.2
  rw [Bool.eq_iff_iff, Bool.and_eq_true, good8_iff]
  have e1 : leastB (xL A B c S n) 0 n = true ↔ ∀ k, k < n → ((-0 : Int) : Rat) ≤ xS A B c S k := least_map 0
  rw [e1, least_map c]
  have sl : ∀ k, qslope (fA A) (fB B) A.length (c : Rat) (xS A B c S) k = (slp8 (nG A) (nD A B c) S k : Rat) / (den8 (nG A) S : Rat) := fun k => xs8_slope hd
  have z0 : ((-0 : Int) : Rat) = 0 := rfl
  have zc : ((-c : Int) : Rat) = -(c : Rat) := Rat.intCast_neg c
  have sn : ∀ k, 0 ≤ qslope (fA A) (fB B) A.length (c : Rat) (xS A B c S) k ↔ 0 ≤ slp8 (nG A) (nD A B c) S k := fun k => by
    rw [sl]; unfold tD at hD; exact ratDiv_nn (by omega)
  have xn' : ∀ k, 0 ≤ xS A B c S k ↔ 0 ≤ num8 (nG A) (nD A B c) S k := fun k => tN_nn_of k hD.1
  constructor
  · rintro ⟨_, h2⟩
    refine ⟨fun k hk => ?_, fun k hk => ?_⟩
    · rw [z0]; exact (xn' k).2 (h2 k (by omega)).1
    · have := (sn k).2 (h2 k (by omega)).2
      unfold qslope at this
      rw [zc]; grind
  · rintro ⟨h2, h3⟩
    refine ⟨hd, fun k hk => ?_⟩
    rcases Nat.lt_or_ge k n with h4 | h4
    · refine ⟨(xn' k).1 (by have := h2 k h4; rw [z0] at this; exact this), (sn k).1 ?_⟩
      have := h3 k h4
      rw [zc] at this
      unfold qslope; grind
    · refine ⟨?_, (sn k).1 ?_⟩
      · rw [num8_out _ _ (set8 n3 hS) hk (bit_out hS h4)]; exact Int.le_refl 0
      · unfold qslope
        rw [grd_out h h4]
        have := cost_nn h0
        grind
end
end Go.Proofs.Ytfoemacgmehpiaa

/- What is proved here: the reference's matrix of a set as a list of rows, and its determinants; the point of a set. No program in sight. Condition: at most three unknowns. -/
namespace Go.Proofs.Ytfoemacgmehpiaa
open Go.RowKit

/-- A square matrix as a list of rows. -/
def sqM (n : Nat) (f : Nat → Nat → Int) : List (List Int) := (List.range n).map fun i => (List.range n).map fun j => f i j
theorem sqM_len (n : Nat) (f : Nat → Nat → Int) : (sqM n f).length = n := by simp [sqM]
theorem sqM_wide {n : Nat} {f : Nat → Nat → Int} : ∀ i (h : i < (sqM n f).length), (sqM n f)[i].length = n := fun i h => by simp [sqM]
theorem sqM_get {n i : Nat} {f : Nat → Nat → Int} (h : i < (sqM n f).length) : (sqM n f)[i] = (List.range n).map fun j => f i j := by simp [sqM]
theorem det_sq (n : Nat) (f : Nat → Nat → Int) (hn : n ≤ 3) : detF n (sqM n f) = detM n f := by
  rcases (by omega : n = 0 ∨ n = 1 ∨ n = 2 ∨ n = 3) with rfl | rfl | rfl | rfl
  · rfl
  · show si _ 1 = f 0 0
    simp [si, sgn, sqM, detF]
  · show si _ 2 = _
    simp [si, sgn, sqM, detF, minor, mrow, List.range_succ, detM, detN, det2]
    try grind
  · show si _ 3 = _
    simp [si, sgn, sqM, detF, minor, mrow, List.range_succ, detM, detN, det3]
    try grind
theorem detM_congr {n : Nat} {f g : Nat → Nat → Int} (hn : n ≤ 3) (h : ∀ i j, i < n → j < n → f i j = g i j) : detM n f = detM n g := by
  rcases (by omega : n = 0 ∨ n = 1 ∨ n = 2 ∨ n = 3) with rfl | rfl | rfl | rfl
  · rfl
  · show f 0 0 = g 0 0
    exact h 0 0 (by decide) (by decide)
  · unfold detM detN
    simp only [h 0 0 (by decide) (by decide), h 0 1 (by decide) (by decide), h 1 0 (by decide) (by decide), h 1 1 (by decide) (by decide)]
  · unfold detM detN
    simp only [h 0 0 (by decide) (by decide), h 0 1 (by decide) (by decide), h 0 2 (by decide) (by decide), h 1 0 (by decide) (by decide), h 1 1 (by decide) (by decide), h 1 2 (by decide) (by decide), h 2 0 (by decide) (by decide), h 2 1 (by decide) (by decide), h 2 2 (by decide) (by decide)]
section
variable (A : List (List Int)) (B : List Int) (c : Int) (S n : Nat)
/-- The set's matrix, and with a column replaced by the right sides. -/
def rM : Nat → Nat → Int := fun i j => nG A (xn (ins S n) i) (xn (ins S n) j)
def rW (l : Nat) : Nat → Nat → Int := fun i j => if j = l then nD A B c (xn (ins S n) i) else rM A S n i j
variable {A B c S n}
theorem rM_det (hn : n ≤ 3) (hS : S < 2 ^ n) : detM (ins S n).length (rM A S n) = den8 (nG A) S := by
  rw [← still_den (nG A) hn hS]
  refine detM_congr (Nat.le_trans (ins_len S n) hn) fun i j hi hj => ?_
  unfold rM mfull mpart
  rw [if_pos ⟨.inl hi, hj⟩]
theorem rW_det (hn : n ≤ 3) {l : Nat} : detM (ins S n).length (rW A B c S n l) = detM (ins S n).length (wcol (mfull (nG A) (ins S n)) (nD A B c) (ins S n) (ins S n).length l) := by
  refine detM_congr (Nat.le_trans (ins_len S n) hn) fun i j hi hj => ?_
  unfold rW wcol
  by_cases h : j = l
  · rw [if_pos h, if_pos ⟨hi, h⟩]
  · rw [if_neg h, if_neg (fun h2 => h h2.2)]
    unfold rM mfull mpart
    rw [if_pos ⟨.inl hi, hj⟩]
end
end Go.Proofs.Ytfoemacgmehpiaa

/- What is proved here: a store into a row of the call's own; the numerators as determinants; the point of a set while it is filled. No program in sight. Condition: a valid fit, a set of its unknowns. -/
namespace Go.Proofs.Ytfoemacgmehpiaa
open Go.RowKit

theorem owns_oth {w : World} {B size n g : Nat} {T : TypeId} {v : Value} {cs : List Value} (h : w.ownsRow B T size v n cs) (hne : ∀ b, v.ownBlock = some b → b ≠ g) (k : Nat) (x : Value) : (w.setCell ⟨g, k, none⟩ x).ownsRow B T size v n cs := by
  obtain ⟨hl, h2⟩ := h
  refine ⟨hl, ?_⟩
  rcases h2 with h2 | ⟨b, cap, cur, h3, hg, hh, r⟩
  · exact .inl h2
  · refine .inr ⟨b, cap, cur, h3, hg, ?_, r⟩
    have hb : b ≠ g := hne b (by rw [h3]; rfl)
    rw [Below.heap_setCell _ _ _ _ (by simpa using hb)]; exact hh
theorem owns_put {w : World} {B n g cap i : Nat} {T : TypeId} {xs : List Int} (h : w.ownsRow B T 1 (.slice (some ⟨g, 0, none⟩) n cap) n (ics xs)) (hl : xs.length = n) (hi : i < n) (v : Int) :
    (w.setCell ⟨g, i, none⟩ (.int .i64 v)).ownsRow B T 1 (.slice (some ⟨g, 0, none⟩) n cap) n (ics (xs.set i v)) ∧ (∃ x, w.cell? ⟨g, i, none⟩ = some (.int .i64 x)) ∧ w.frozen? ⟨g, i, none⟩ = false ∧ g < w.heap.size ∧ B ≤ g := by
  obtain ⟨_, h2⟩ := h
  rcases h2 with ⟨h2, _⟩ | ⟨b, cap', cur, h3, hg, hh, h4, h5, h6, h7⟩
  · cases h2
  · cases h3
    have hs := (Array.getElem?_eq_some_iff.1 hh).1
    have ow : Own w g T cur.toList := by unfold Own; exact hh
    rw [Nat.mul_one] at h7
    have hil : i < cur.toList.length := by simp; omega
    have ec : cur.toList[i] = .int .i64 (xs[i]'(by omega)) := by
      have e1 : (cur.toList.take n)[i]? = (ics xs)[i]? := by rw [h7]
      rw [List.getElem?_take_of_lt hi, List.getElem?_eq_getElem hil] at e1
      simpa [ics, show i < xs.length by omega] using e1
    refine ⟨⟨by rw [ics_len]; simp; omega, .inr ⟨g, cap, (cur.toList.set i (.int .i64 v)).toArray, rfl, hg, ow.set i _, h4, h5, by simp; omega, ?_⟩⟩, ⟨_, by rw [ow.cell i hil, ec]⟩, ow.free i, hs, hg⟩
    rw [Nat.mul_one]
    show (cur.toList.set i (.int .i64 v)).take n = _
    rw [List.take_set, h7]
    simp [ics]
section
variable {A : List (List Int)} {B : List Int} {c : Int} {S n : Nat}
theorem rW_num (hn : n ≤ 3) (hS : S < 2 ^ n) {i : Nat} (hi : i < (ins S n).length) : detM (ins S n).length (rW A B c S n i) = num8 (nG A) (nD A B c) S (xn (ins S n) i) := by
  have hi3 : i < 3 := by have := ins_len S n; omega
  rcases sets hn hS with ⟨rfl, rfl⟩ | ⟨rfl, rfl⟩ | ⟨rfl, rfl⟩ | ⟨rfl, rfl⟩ | ⟨rfl, rfl⟩ | ⟨rfl, rfl⟩ | ⟨rfl, rfl⟩ | ⟨rfl, rfl⟩ | ⟨rfl, rfl⟩ | ⟨rfl, rfl⟩ | ⟨rfl, rfl⟩ | ⟨rfl, rfl⟩ | ⟨rfl, rfl⟩ | ⟨rfl, rfl⟩ | ⟨rfl, rfl⟩ <;>
    rcases cases3 hi3 with rfl | rfl | rfl <;> first | (exact absurd hi (by decide)) | rfl
/-- The point of a set while it is filled. -/
def xpt (A : List (List Int)) (B : List Int) (c : Int) (S n : Nat) : Nat → List (Int × Int)
  | 0 => List.replicate n (0, 1)
  | i + 1 => (xpt A B c S n i).set (xn (ins S n) i) (up (xs8 (cel A) (nb B) A.length c S (xn (ins S n) i)))
theorem xpt_len : ∀ i, (xpt A B c S n i).length = n
  | 0 => by simp [xpt]
  | i + 1 => by rw [xpt, List.length_set]; exact xpt_len i
theorem xpt_get {k : Nat} (hk : k < n) : ∀ i, ((∃ j, j < i ∧ xn (ins S n) j = k) → (xpt A B c S n i)[k]? = some (up (xs8 (cel A) (nb B) A.length c S k))) ∧ ((¬ ∃ j, j < i ∧ xn (ins S n) j = k) → (xpt A B c S n i)[k]? = some (0, 1))
  | 0 => ⟨fun ⟨j, h, _⟩ => absurd h (Nat.not_lt_zero j), fun _ => by simp [xpt, hk]⟩
  | i + 1 => by
    have ih := xpt_get hk i
    have hl := xpt_len (A := A) (B := B) (c := c) (S := S) (n := n) i
    rw [xpt, List.getElem?_set]
    by_cases h : xn (ins S n) i = k
    · rw [if_pos h, if_pos (by omega)]
      refine ⟨fun _ => by rw [h], fun h2 => absurd ⟨i, by omega, h⟩ h2⟩
    · rw [if_neg h]
      refine ⟨fun ⟨j, h1, h2⟩ => ih.1 ⟨j, ?_, h2⟩, fun h2 => ih.2 fun ⟨j, h1, h3⟩ => h2 ⟨j, by omega, h3⟩⟩
      rcases Nat.lt_or_ge j i with h3 | h3
      · exact h3
      · obtain rfl : j = i := by omega
        exact absurd h2 h
theorem xpt_end (hn : n ≤ 3) (hS : S < 2 ^ n) : xpt A B c S n (ins S n).length = (List.range n).map fun k => up (xs8 (cel A) (nb B) A.length c S k) := by
  apply List.ext_getElem?
  intro k
  rcases Nat.lt_or_ge k n with hk | hk
  · rw [List.getElem?_map, List.getElem?_range hk]
    have h := xpt_get (A := A) (B := B) (c := c) (S := S) hk (ins S n).length
    cases hb : S.testBit k with
    | true =>
      refine h.1 ?_
      have hm : (k : Int) ∈ ins S n := by
        unfold ins
        exact List.mem_map.2 ⟨k, List.mem_filter.2 ⟨List.mem_range.2 hk, hb⟩, rfl⟩
      obtain ⟨j, hj, e⟩ := List.getElem_of_mem hm
      refine ⟨j, hj, ?_⟩
      have := (xn_cast hj).1
      omega
    | false =>
      have e0 : xs8 (cel A) (nb B) A.length c S k = 0 := xs8_sup (set8 hn hS) k (by omega) hb
      rw [h.2 ?_]
      · show _ = some (up (xs8 (cel A) (nb B) A.length c S k))
        rw [e0]; rfl
      · rintro ⟨j, hj, e⟩
        have hm : (k : Int) ∈ ins S n := by
          have := (xn_cast hj).1
          rw [e] at this
          rw [← this]; exact List.getElem_mem hj
        unfold ins at hm
        obtain ⟨i, hi, e2⟩ := List.mem_map.1 hm
        have h3 := (List.mem_filter.1 hi).2
        have : i = k := by
          have : (i : Int) = (k : Int) := e2
          omega
        rw [this, hb] at h3
        cases h3
  · rw [List.getElem?_eq_none (by rw [xpt_len]; exact hk), List.getElem?_eq_none (by simp; exact hk)]
end
end Go.Proofs.Ytfoemacgmehpiaa
