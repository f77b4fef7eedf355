/- What is proved here: contracts of functions and plain facts, several texts in one; each one says ahead what it proves, and its conditions. -/
import Derived.Test.YtfoemacgmehpiaaC14
import Derived.Test.YtfoemacgmehpiaaC29
/- What is proved here: with the cost 0 the sparse layer returns what the layer of least squares returns; a greater cost; the dark cost. No program in sight. Condition: valid fits and costs. -/
namespace Go.Proofs.Ytfoemacgmehpiaa
open Go.RowKit

theorem rows_nil {f : Nat → FR} : ∀ m, ¬ (rowsOf f m).2 = 0 → (rowsOf f m).1 = []
  | 0, h => absurd rfl h
  | m + 1, h => by
    by_cases h1 : (rowsOf f m).2 = 0
    · by_cases h2 : (f m).e = 0
      · rw [rows_succ h1 h2] at h; exact absurd rfl h
      · rw [rows_err h1 h2]
    · rw [rows_stop h1 (m + 1) (by omega)]; exact rows_nil m h1
section
variable {A : List (List Int)} {B : List Int} {c : Int} {x : List (Int × Int)} {n : Nat}
theorem grad_nil (h : ¬ (nGradient A B x).2 = 0) : nGradient A B x = ([], (nGradient A B x).2) := by
  by_cases h1 : (nResidual A B x).2 = 0
  · rw [nGrad_0 h1] at h ⊢
    exact Prod.ext (rows_nil _ h) rfl
  · rw [nGrad_1 h1]
theorem check_0 (hc : ncheck A B = 0) : scheck A B 0 = 0 := scheck_0 hc (Int.le_refl 0) (by decide)
theorem slope_plain (hc : ncheck A B = 0) : sSlope A B 0 x = nGradient A B x := by
  have hs := check_0 hc
  by_cases hg : (nGradient A B x).2 = 0
  · obtain ⟨hp, _⟩ := grad_len hg
    obtain ⟨_, g2, g3⟩ := ngrad_val hp (point_len hp) hg
    have e : nGradient A B x = ((List.range x.length).map fun k => up (qgrd (fA A) (fB B) A.length (nx x) k), 0) := Prod.ext g3 hg
    have z : ∀ q : Rat, q + ((0 : Int) : Rat) = q := fun q => by
      have : ((0 : Int) : Rat) = 0 := rfl
      rw [this]; grind
    have := slope_go (c := 0) hs e g2 (fun k hk => by rw [z]; exact g2 k hk)
    rw [this, e]
    simp only [z]
  · rw [sSlope_g hs hg, ← grad_nil hg]
theorem opt_plain (hc : ncheck A B = 0) : sOptimal A B 0 x = nOptimal A B x := by
  unfold sOptimal nOptimal; rw [slope_plain hc]
theorem solve_plain (hc : ncheck A B = 0) : sSolve A B 0 = nSolve A B 0 := by
  unfold sSolve nSolve; rw [if_pos (check_0 hc), if_pos hc]
theorem cost_plain (hc : ncheck A B = 0) : (¬ (nValue A B x).e = 0 ∧ (sCost A B 0 x).e = (nValue A B x).e) ∨ ((nValue A B x).e = 0 ∧ (sCost A B 0 x).e = 16) ∨
    ((nValue A B x).e = 0 ∧ (sCost A B 0 x).e = 0 ∧ fadd (sCost A B 0 x).n (sCost A B 0 x).d (sCost A B 0 x).n (sCost A B 0 x).d = nValue A B x) := by
  have hs := check_0 hc
  by_cases hv : (nValue A B x).e = 0
  case neg => left; exact ⟨hv, by rw [sCost_0 hs, price_v hv]⟩
  right
  obtain ⟨hp, _⟩ := nValue_ok hv
  rcases cost_err hs hp with h | h
  · right
    refine ⟨hv, h, ?_⟩
    obtain ⟨_, i1, e1⟩ := cost_val hs hp h
    obtain ⟨i2, e2⟩ := nval_val hp (point_len hp) hv
    rw [e1, e2]
    have := add_q i1 i1
    rw [price_val] at this ⊢
    have e3 : qval (fA A) (fB B) A.length (nx x) / 2 + qval (fA A) (fB B) A.length (nx x) / 2 = qval (fA A) (fB B) A.length (nx x) := by grind
    rw [e3] at this
    exact this.trans (pack_ok i2)
  · left; exact ⟨hv, h⟩
theorem less_fact {d : Int} (h1 : scheck A B c = 0) (h2 : scheck A B d = 0) (hcd : c ≤ d) : sm (nsx A B d) 3 ≤ sm (nsx A B c) 3 ∧ qval (fA A) (fB B) A.length (nsx A B c) ≤ qval (fA A) (fB B) A.length (nsx A B d) := by
  obtain ⟨hc, c0, c1⟩ := scheck_of h1
  obtain ⟨_, d0, d1⟩ := scheck_of h2
  have hF := fit_of hc
  have k1 := sol_kkt' hF c0
  have k2 := sol_kkt' hF d0
  have p1 := kkt_least (fA A) (fB B) A.length _ k1 k2.1
  have p2 := kkt_least (fA A) (fB B) A.length _ k2 k1.1
  unfold qprice at p1 p2
  rcases Int.lt_or_eq_of_le hcd with h | h
  · have h3 : (c : Rat) < (d : Rat) := by exact_mod_cast h
    have h0 : (0 : Rat) ≤ (c : Rat) := cost_nn c0
    generalize qval (fA A) (fB B) A.length (nsx A B c) = v1 at *
    generalize qval (fA A) (fB B) A.length (nsx A B d) = v2 at *
    generalize sm (nsx A B c) 3 = b1 at *
    generalize sm (nsx A B d) 3 = b2 at *
    generalize (c : Rat) = x at *
    generalize (d : Rat) = y at *
    have h4 : (y - x) * b2 ≤ (y - x) * b1 := by grind
    have h5 : b2 ≤ b1 := Rat.le_of_mul_le_mul_left h4 (by grind)
    refine ⟨h5, ?_⟩
    have h6 : x * b2 ≤ x * b1 := Rat.mul_le_mul_of_nonneg_left h5 h0
    grind
  · subst h
    exact ⟨Rat.le_refl, Rat.le_refl⟩
theorem dkN_nn : ∀ k, 0 ≤ dkN A B k
  | 0 => Int.le_refl 0
  | k + 1 => by have := dkN_nn k; unfold dkN; omega
theorem dkN_ge : ∀ n k, k < n → qc (cel A) (nb B) A.length 0 k ≤ dkN A B n
  | 0, k, h => by omega
  | n + 1, k, h => by
    unfold dkN
    rcases Nat.lt_or_ge k n with h1 | h1
    · have := dkN_ge n k h1; omega
    · obtain rfl : k = n := by omega
      omega
theorem dkN_at : ∀ n, dkN A B n = 0 ∨ ∃ k, k < n ∧ dkN A B n = qc (cel A) (nb B) A.length 0 k
  | 0 => .inl rfl
  | n + 1 => by
    unfold dkN
    rcases Int.le_total (dkN A B n) (qc (cel A) (nb B) A.length 0 n) with h | h
    · right; exact ⟨n, by omega, by omega⟩
    · rcases dkN_at n with h1 | ⟨k, h1, h2⟩
      · left; omega
      · right; exact ⟨k, by omega, by omega⟩
theorem nD_qc (k : Nat) : nD A B c k = qc (cel A) (nb B) A.length 0 k - c := by unfold nD qc; omega
theorem qc_out (h : Fit A B n) {k : Nat} (hk : n ≤ k) : qc (cel A) (nb B) A.length 0 k = 0 := by
  unfold qc
  rw [si_0 A.length fun r hr => by rw [h.out hr hk]; simp]; rfl
theorem dark_fact (hs : scheck A B c = 0) : (dkN A B (A.getD 0 []).length ≤ c → nS A B c = 0 ∧ sm (nsx A B c) 3 = 0) ∧ (c < dkN A B (A.getD 0 []).length → nS A B c ≠ 0 ∧ 0 < sm (nsx A B c) 3) := by
  obtain ⟨hc, c0, c1⟩ := scheck_of hs
  have hF := fit_of hc
  have n3 := hF.cols.2
  have hk := sol_kkt' hF c0
  generalize (A.getD 0 []).length = n at *
  have zero : nS A B c = 0 → ∀ k, k < 3 → nsx A B c k = 0 := fun h k h3 => by
    have := xs8_sup (a := cel A) (b := nb B) (m := A.length) (c := c) (S := nS A B c) (by rw [h]; decide) k h3 (by rw [h]; simp)
    exact this
  constructor
  · intro hd
    have h0 : nS A B c = 0 := by
      refine nS_is hF (Nat.two_pow_pos n) (good8_iff.2 ⟨by show (1 : Int) ≠ 0; decide, fun k h3 => ⟨?_, ?_⟩⟩) fun T hT => absurd hT (Nat.not_lt_zero T)
      · show (0 : Int) ≤ 0; decide
      · have e : slp8 (nG A) (nD A B c) 0 k = -(nD A B c k) := by
          show -(1 : Int) * nD A B c k + (nG A k 0 * 0 + nG A k 1 * 0 + nG A k 2 * 0) = _
          omega
        rw [e, nD_qc]
        rcases Nat.lt_or_ge k n with h | h
        · have := dkN_ge (A := A) (B := B) n k h; omega
        · rw [qc_out hF h]; omega
    refine ⟨h0, ?_⟩
    exact sm_0 3 fun k h3 => zero h0 k h3
  · intro hd
    have nz : ¬ ∀ k, k < 3 → nsx A B c k = 0 := fun hz => by
      rcases dkN_at (A := A) (B := B) n with h | ⟨k, h1, h2⟩
      · omega
      · have h3 := (hk.2 k (by omega)).1
        have h4 := slope_lin (cel A) (nb B) A.length c (nsx A B c) k
        rw [hz 0 (by decide), hz 1 (by decide), hz 2 (by decide)] at h4
        have h5 : qslope (fA A) (fB B) A.length (c : Rat) (nsx A B c) k = - ((nD A B c k : Int) : Rat) := by
          refine Eq.trans h4 ?_
          show _ - ((nD A B c k : Int) : Rat) = _
          grind
        rw [h5, nD_qc] at h3
        have h6 : (0 : Int) < qc (cel A) (nb B) A.length 0 k - c := by omega
        have h7 : (0 : Rat) < ((qc (cel A) (nb B) A.length 0 k - c : Int) : Rat) := by exact_mod_cast h6
        grind
    refine ⟨fun h => nz (zero h), ?_⟩
    have h1 := bright_nn hF c0
    apply Classical.byContradiction
    intro h2
    have h3 : sm (nsx A B c) 3 = 0 := by grind
    exact nz (sm_all0 3 hk.1 h3)
end
end Go.Proofs.Ytfoemacgmehpiaa
