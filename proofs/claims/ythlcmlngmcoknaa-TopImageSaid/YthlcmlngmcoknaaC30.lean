/- What is proved here: contracts of functions and plain facts, several texts in one; each one says ahead what it proves, and its conditions. -/
import Derived.Test.YthlcmlngmcoknaaC27
import Derived.Test.YthlcmlngmcoknaaC29
import Derived.Test.YthlcmlngmcoknaaC05
import Derived.Test.YthlcmlngmcoknaaC26
import Derived.Test.YthlcmlngmcoknaaC11
import Derived.RegionTactic
import Derived.ChangeAlike
import Derived.BigRegion
import Derived.IntWalk
import Derived.Deep.DeepCutAuto
/- What is proved here: what Optimal tells, in rational numbers; the solution of a fit against other points. No program in sight. Condition: valid fits and points. -/
namespace Go.Proofs.Ythlcmlngmcoknaa
open Go.RowKit

theorem num_neg {x : Rat} : x.num < 0 ↔ x < 0 := by
  have h := Rat.num_nonneg (q := x)
  constructor
  · intro h1
    have : ¬ 0 ≤ x := fun h2 => by have := h.2 h2; omega
    grind
  · intro h1
    have : ¬ 0 ≤ x.num := fun h2 => by have := h.1 h2; grind
    omega
theorem num_pos {x : Rat} : 0 < x.num ↔ 0 < x := by
  have h := Rat.num_nonneg (q := -x)
  have e : (-x).num = -x.num := Rat.neg_num _
  rw [e] at h
  constructor
  · intro h1
    have : ¬ 0 ≤ -x := fun h2 => by have := h.2 h2; omega
    grind
  · intro h1
    have : ¬ 0 ≤ -x.num := fun h2 => by have := h.1 h2; grind
    omega
theorem cmp_le (v u : Rat) : fcmp v.num v.den u.num u.den ≤ 0 ↔ v ≤ u := by
  have h := fcmp_gt_iff (an := v.num) (ad := v.den) (bn := u.num) (bd := u.den)
  have h2 := Rat.le_iff (a := v) (b := u)
  rw [h2]
  omega
theorem cmp_ge (v u : Rat) : 0 ≤ fcmp v.num v.den u.num u.den ↔ u ≤ v := by
  rw [fcmp_ge, Rat.le_iff]
theorem cmp_eq (v u : Rat) : fcmp v.num v.den u.num u.den = 0 ↔ v = u := by
  have h1 := cmp_le v u
  have h2 := cmp_ge v u
  constructor
  · intro h
    have a := h1.1 (by omega)
    have b := h2.1 (by omega)
    grind
  · intro h
    have a := h1.2 (by grind)
    have b := h2.2 (by grind)
    omega
section
variable {A : List (List Int)} {B : List Int} {x : List (Int × Int)} {n : Nat}
theorem point_nn (hp : npoint A B x = 0) (k : Nat) : 0 ≤ nx x k := by
  obtain ⟨_, h⟩ := point_of hp
  rcases Nat.lt_or_ge k x.length with h1 | h1
  · obtain ⟨h2, h3⟩ := h k h1
    rw [nx_get h1]
    have := (Q_ok h2).1
    unfold qq
    rw [← Rat.num_nonneg, this]; exact h3
  · rw [nx_out h1]; grind
theorem nx_num (hp : npoint A B x = 0) {k : Nat} (hk : k < x.length) : x[k].1 = (nx x k).num := by
  obtain ⟨_, h⟩ := point_of hp
  rw [nx_get hk]
  exact (Q_ok (h k hk).1).1.symm
theorem point_len (hp : npoint A B x = 0) : x.length ≤ 3 := (point_of hp).1.cols.2
theorem grd_out (h : Fit A B n) {k : Nat} (hk : n ≤ k) (y : Nat → Rat) : qgrd (fA A) (fB B) A.length y k = 0 :=
  sm_0 A.length fun r hr => by
    have : fA A r k = 0 := by unfold fA ra; rw [h.out hr hk]; rfl
    rw [this]; grind
theorem slope_0 (y : Nat → Rat) (k : Nat) : qslope (fA A) (fB B) A.length ((0 : Int) : Rat) y k = qgrd (fA A) (fB B) A.length y k := by
  unfold qslope
  have : ((0 : Int) : Rat) = 0 := rfl
  rw [this]; grind
/-- A list of gradient's numbers and a point: the conditions of an optimum. -/
theorem nopt_iff (hp : npoint A B x = 0) (g : Nat → Rat) : noptB ((List.range x.length).map fun k => up (g k)) x x.length = true ↔ ∀ k, k < x.length → 0 ≤ g k ∧ (0 < g k → nx x k = 0) := by
  unfold noptB
  rw [List.all_eq_true]
  have key : ∀ k, k < x.length → ((!(decide ((((List.range x.length).map fun k => up (g k)).getD k (0, 0)).1 < 0) || (decide (0 < (((List.range x.length).map fun k => up (g k)).getD k (0, 0)).1) && decide (0 < (x.getD k (0, 0)).1)))) = true ↔ 0 ≤ g k ∧ (0 < g k → nx x k = 0)) := fun k hk => by
    have h1 : ((List.range x.length).map fun k => up (g k)).getD k (0, 0) = up (g k) := res_getD hk
    have h2 : (x.getD k (0, 0)).1 = (nx x k).num := by rw [getD_get hk]; exact nx_num hp hk
    have h3 := point_nn hp k
    rw [h1, h2]
    show ((!(decide ((g k).num < 0) || (decide (0 < (g k).num) && decide (0 < (nx x k).num)))) = true ↔ _)
    simp only [Bool.not_eq_true', Bool.or_eq_false_iff, Bool.and_eq_false_iff, decide_eq_false_iff_not, num_neg, num_pos]
    constructor
    · rintro ⟨h4, h5⟩
      refine ⟨by grind, fun h6 => ?_⟩
      rcases h5 with h5 | h5
      · exact absurd h6 h5
      · grind
    · rintro ⟨h4, h5⟩
      refine ⟨by grind, ?_⟩
      by_cases h6 : 0 < g k
      · right; rw [h5 h6]; grind
      · left; exact h6
  constructor
  · intro h k hk
    exact (key k hk).1 (h k (List.mem_range.2 hk))
  · intro h k hk
    have hk := List.mem_range.1 hk
    exact (key k hk).2 (h k hk)
theorem kkt_list (hp : npoint A B x = 0) : (∀ k, k < x.length → 0 ≤ qgrd (fA A) (fB B) A.length (nx x) k ∧ (0 < qgrd (fA A) (fB B) A.length (nx x) k → nx x k = 0)) ↔ qkkt (fA A) (fB B) A.length ((0 : Int) : Rat) (nx x) := by
  have hl := point_len hp
  constructor
  · intro h
    refine ⟨fun k _ => point_nn hp k, fun k hk => ?_⟩
    rw [slope_0]
    rcases Nat.lt_or_ge k x.length with h1 | h1
    · exact h k h1
    · rw [grd_out (point_of hp).1 h1]
      exact ⟨by grind, fun h => absurd h (by grind)⟩
  · intro h k hk
    have := h.2 k (by omega)
    rwa [slope_0] at this
/-- Optimal tells whether a point meets the conditions. -/
theorem opt_kkt (hp : npoint A B x = 0) (he : (nGradient A B x).2 = 0) : (nOptimal A B x).2 = 0 ∧ ((nOptimal A B x).1 = true ↔ qkkt (fA A) (fB B) A.length ((0 : Int) : Rat) (nx x)) := by
  obtain ⟨_, _, h3⟩ := ngrad_val hp (point_len hp) he
  rw [nOpt_0 he]
  refine ⟨rfl, ?_⟩
  show noptB (nGradient A B x).1 x (nGradient A B x).1.length = true ↔ _
  rw [h3, ← kkt_list hp]
  have hl : ((List.range x.length).map fun k => up (qgrd (ra (cel A)) (rb (nb B)) A.length (nx x) k)).length = x.length := by simp
  rw [hl]
  exact nopt_iff hp _
theorem opt_err (he : (nOptimal A B x).2 = 0) : (nGradient A B x).2 = 0 := by
  apply Classical.byContradiction
  intro h
  rw [nOpt_1 h] at he
  exact h he
/-- With the cost 0 the price is half of the value. -/
theorem price_val (y : Nat → Rat) : qprice (fA A) (fB B) A.length ((0 : Int) : Rat) y = qval (fA A) (fB B) A.length y / 2 := by
  unfold qprice
  have : ((0 : Int) : Rat) = 0 := rfl
  rw [this]; grind
theorem resid_err (hp : npoint A B x = 0) : (nResidual A B x).2 = 0 ∨ (nResidual A B x).2 = 16 := by
  have hF := FitX.of hp
  have e0 : nResidual A B x = nresidual A B x := if_pos hp
  rw [e0]
  rcases rows_err16 (f := nres A B x) (N := A.length) (fun i hi => hF.res_ok hi) A.length (Nat.le_refl _) with h | h
  · exact .inl h
  · right; unfold nresidual; rw [h]
theorem value_err (hp : npoint A B x = 0) : (nValue A B x).e = 0 ∨ (nValue A B x).e = 16 := by
  rcases resid_err hp with h | h
  · rw [nVal_0 h]
    have hF := FitX.of hp
    have e0 : nResidual A B x = nresidual A B x := if_pos hp
    rw [e0] at h ⊢
    rcases sq_ok (r := (nresidual A B x).1) (k := (nresidual A B x).1.length) (Nat.le_refl _) (resid_ok hF h).2 with h1 | h1
    · exact .inl h1.1
    · right; rw [h1]
  · rw [nVal_1 (by rw [h]; decide), h]; exact .inr rfl
theorem grad_err (hp : npoint A B x = 0) : (nGradient A B x).2 = 0 ∨ (nGradient A B x).2 = 16 := by
  rcases resid_err hp with h | h
  · rw [nGrad_0 h]
    have hF := FitX.of hp
    have e0 : nResidual A B x = nresidual A B x := if_pos hp
    rw [e0] at h ⊢
    obtain ⟨r1, r2⟩ := resid_ok hF h
    have hf : ∀ k, k < x.length → FOk (gsum (colT A (nresidual A B x).1 k) A.length) := fun k hk => gsum_FOk A.length fun j hj => by
      have hw : k < A[j].length := by rw [hF.wide j hj]; exact hk
      have h1 := hF.coef j hj k hw
      unfold colT
      rw [cel_get hj hw, getD_get (by omega)]
      exact ⟨fchk_small h1.1 h1.2, r2 j (by omega)⟩
    rcases rows_err16 (f := fun k => gsum (colT A (nresidual A B x).1 k) A.length) (N := x.length) hf x.length (Nat.le_refl _) with h | h
    · exact .inl h
    · right; rw [h]
  · rw [nGrad_1 (by rw [h]; decide), h]; exact .inr rfl
theorem opt_err16 (hp : npoint A B x = 0) : (nOptimal A B x).2 = 0 ∨ (nOptimal A B x).2 = 16 := by
  rcases grad_err hp with h | h
  · rw [nOpt_0 h]; exact .inl rfl
  · rw [nOpt_1 (by rw [h]; decide), h]; exact .inr rfl
end
section
variable {A : List (List Int)} {B : List Int} {p : List (Int × Int)}
/-- The solution against another point. -/
theorem best_fact (hc : ncheck A B = 0) (hp : npoint A B p = 0) (he : (nValue A B p).e = 0) :
    fchk (nValue A B p).n (nValue A B p).d = 0 ∧ fcmp (qval (fA A) (fB B) A.length (nsx A B 0)).num (qval (fA A) (fB B) A.length (nsx A B 0)).den (nValue A B p).n (nValue A B p).d ≤ 0 ∧
    ((nOptimal A B p).2 = 0 → ((nOptimal A B p).1 = decide (fcmp (qval (fA A) (fB B) A.length (nsx A B 0)).num (qval (fA A) (fB B) A.length (nsx A B 0)).den (nValue A B p).n (nValue A B p).d = 0))) := by
  have hF := fit_of hc
  obtain ⟨v1, v2⟩ := nval_val hp (point_len hp) he
  have hk := sol_kkt' hF (Int.le_refl 0)
  have hfe : qfeas (nx p) := fun k _ => point_nn hp k
  have h1 := kkt_least (fA A) (fB B) A.length _ hk hfe
  rw [price_val, price_val] at h1
  have h2 : qval (fA A) (fB B) A.length (nsx A B 0) ≤ qval (fA A) (fB B) A.length (nx p) := by grind
  rw [v2]
  refine ⟨up_chk v1, (cmp_le _ _).2 h2, fun ho => ?_⟩
  rw [Bool.eq_iff_iff, decide_eq_true_iff, (opt_kkt hp (opt_err ho)).2]
  refine Iff.trans ?_ (cmp_eq _ _).symm
  constructor
  · intro hq
    have := kkt_two (fA A) (fB B) A.length _ hk hq
    rw [price_val, price_val] at this
    have e : qval (fA A) (fB B) A.length (nsx A B 0) = qval (fA A) (fB B) A.length (nx p) := by grind
    exact e
  · intro hq
    have hq' : qval (fA A) (fB B) A.length (nsx A B 0) = qval (fA A) (fB B) A.length (nx p) := hq
    refine (kkt_same (fA A) (fB B) A.length _ hk hfe ?_).2
    rw [price_val, price_val, hq']
/-- The numbers of the solution and of its gradient. -/
structure SolGrad (A : List (List Int)) (B : List Int) (n : Nat) : Prop where
  opt : nOptimal A B (nsol A B 0 n) = (true, 0)
  glen : (nGradient A B (nsol A B 0 n)).1.length = n
  each : ∀ k, k < n → ∃ g : Rat, inr g ∧ (nGradient A B (nsol A B 0 n)).1[k]? = some (up g) ∧ 0 ≤ g ∧ (0 < g → (nsx A B 0 k).num = 0) ∧ (0 < (nsx A B 0 k).num → (nS A B 0).testBit k = true)
theorem sol_grad (hc : ncheck A B = 0) : SolGrad A B (A.getD 0 []).length := by
  have hF := fit_of hc
  have so := sol_ok hc (Int.le_refl 0) (by decide : (0 : Int) ≤ 1000)
  have hx := nx_sol hF (Int.le_refl 0)
  have hl : (nsol A B 0 (A.getD 0 []).length).length = (A.getD 0 []).length := nsol_len
  have n3 := hF.cols.2
  have hS := nS_spec hF (Int.le_refl 0)
  have hk := sol_kkt' hF (Int.le_refl 0)
  generalize (A.getD 0 []).length = n at *
  have ge : (nGradient A B (nsol A B 0 n)).2 = 0 := by rw [so.grad]
  refine ⟨?_, ?_, fun k hkn => ?_⟩
  · have h1 := opt_kkt so.point ge
    refine Prod.ext (h1.2.2 ?_) h1.1
    exact qkkt_congr hx hk
  · rw [so.grad]; simp
  · refine ⟨qgrd (fA A) (fB B) A.length (nsx A B 0) k, so.gin k, ?_, ?_, ?_, ?_⟩
    · rw [so.grad]; simp [hkn]
    · have := (hk.2 k (by omega)).1
      rwa [slope_0] at this
    · intro h1
      have := (hk.2 k (by omega)).2
      rw [slope_0] at this
      rw [this h1]; rfl
    · intro h1
      by_cases hb : (nS A B 0).testBit k = true
      · exact hb
      · have := xs8_sup (a := cel A) (b := nb B) (m := A.length) (c := 0) (set8 n3 hS.1) k (by omega) (by simpa using hb)
        have e : nsx A B 0 k = 0 := this
        rw [e] at h1
        exact absurd h1 (by decide)
/-- One number of the solution and of its gradient. -/
theorem sol_each (hc : ncheck A B = 0) {k : Nat} (hk : k < (A.getD 0 []).length) : ∃ gn gd xn xd : Int, fchk gn gd = 0 ∧ (nGradient A B (nsol A B 0 (A.getD 0 []).length)).1[k]? = some (gn, gd) ∧ (nsol A B 0 (A.getD 0 []).length)[k]? = some (xn, xd) ∧
    0 ≤ gn ∧ (0 < gn → xn = 0) ∧ (0 < xn → (nS A B 0).testBit k = true) ∧ 0 ≤ xn := by
  obtain ⟨g, h1, h2, h3, h4, h5⟩ := (sol_grad hc).each k hk
  have hx := nsol_get (A := A) (B := B) (c := 0) hk
  refine ⟨g.num, g.den, (nsx A B 0 k).num, (nsx A B 0 k).den, fchk_inr h1, h2, hx, Rat.num_nonneg.2 h3, fun h => h4 (num_pos.1 h), h5, ?_⟩
  exact (sol_chk (fit_of hc) (Int.le_refl 0) (by decide) _ (List.mem_of_getElem? hx)).2
end
/-- A binary digit that is set. -/
theorem bit_zero {S k : Nat} (hS : S < 8) (hk : k < 3) (h : S.testBit k = true) : (bits BinOp.and IntKind.i64 ((S : Int) / 2 ^ k) 1 == 0) = false := by
  have h1 := bit_test hS hk
  rw [h] at h1
  have h2 := eq_of_beq h1
  rw [h2]; rfl
end Go.Proofs.Ythlcmlngmcoknaa

/- What is proved here: brightness, price, slope and optimality as rational numbers; the solution of a fit with a cost against other points. No program in sight. Condition: valid fits, costs and points. -/
namespace Go.Proofs.Ythlcmlngmcoknaa
open Go.RowKit

section
variable {x : List (Int × Int)}
theorem hsum_go (hx : ∀ i (h : i < x.length), fchk x[i].1 x[i].2 = 0) : ∀ k, k ≤ x.length → (∀ j, j ≤ k → inr (sm (nx x) j)) → hsum x k = uf (sm (nx x) k)
  | 0, _, _ => rfl
  | k + 1, hk, hs => by
    have ih := hsum_go hx k (by omega) (fun j hj => hs j (by omega))
    rw [hsum_succ (by omega) (by rw [ih]; rfl), ih, sm_succ]
    have := fadd_qq (a := up (sm (nx x) k)) (b := x[k]) (up_chk (hs k (by omega))) (hx k (by omega))
    rw [qq_up, ← nx_get (by omega), pack_ok (by have := hs (k + 1) (by omega); rw [sm_succ] at this; exact this)] at this
    exact this
theorem hsum_val (hx : ∀ i (h : i < x.length), fchk x[i].1 x[i].2 = 0) : ∀ k, k ≤ x.length → (hsum x k).e = 0 → inr (sm (nx x) k) ∧ hsum x k = uf (sm (nx x) k)
  | 0, _, _ => ⟨inr_0, rfl⟩
  | k + 1, hk, he => by
    have he' : (hsum x k).e = 0 := by
      apply Classical.byContradiction
      intro h
      rw [hsum_stop h (k + 1) (by omega)] at he
      exact h he
    obtain ⟨i1, i2⟩ := hsum_val hx k (by omega) he'
    rw [hsum_succ (by omega) he', i2] at he ⊢
    have := fadd_qq (a := up (sm (nx x) k)) (b := x[k]) (up_chk i1) (hx k (by omega))
    rw [qq_up, ← nx_get (by omega), ← sm_succ] at this
    have e : fadd (uf (sm (nx x) k)).n (uf (sm (nx x) k)).d x[k].1 x[k].2 = pack (sm (nx x) (k + 1)) := this
    rw [e] at he ⊢
    exact pack_val he
theorem sm_nx3 (h3 : x.length ≤ 3) : sm (nx x) 3 = sm (nx x) x.length := sm_more 3 h3 fun _ hj => nx_out hj
theorem fv_of (hx : ∀ i (h : i < x.length), fchk x[i].1 x[i].2 = 0) : fvalid x = true := by
  unfold fvalid
  rw [List.all_eq_true]
  intro p hp
  obtain ⟨i, hi, rfl⟩ := List.getElem_of_mem hp
  simp [hx i hi]
theorem bright_val (h3 : x.length ≤ 3) (hx : ∀ i (h : i < x.length), fchk x[i].1 x[i].2 = 0) (he : (sBright x).e = 0) : inr (sm (nx x) 3) ∧ sBright x = uf (sm (nx x) 3) := by
  rw [sBright_0 (by omega) (fv_of hx)] at he ⊢
  rw [sm_nx3 h3]
  exact hsum_val hx _ (Nat.le_refl _) he
theorem bright_go (h3 : x.length ≤ 3) (hx : ∀ i (h : i < x.length), fchk x[i].1 x[i].2 = 0) (hs : ∀ j, j ≤ 3 → inr (sm (nx x) j)) : sBright x = uf (sm (nx x) 3) := by
  rw [sBright_0 (by omega) (fv_of hx), sm_nx3 h3]
  exact hsum_go hx _ (Nat.le_refl _) fun j hj => hs j (by omega)
theorem bright_err (h3 : x.length ≤ 3) (hx : ∀ i (h : i < x.length), fchk x[i].1 x[i].2 = 0) : (sBright x).e = 0 ∨ (sBright x).e = 16 := by
  rw [sBright_0 (by omega) (fv_of hx)]
  rcases hsum_FOk hx x.length (Nat.le_refl _) with h | h
  · exact .inl h.1
  · right; rw [h]
end
theorem div_half (v d : Rat) : v / d * (1 / 2) = v / (2 * d) := by
  rw [Rat.div_def v d, Rat.div_def v (2 * d), Rat.inv_mul_rev]
  have : (2 : Rat)⁻¹ = 1 / 2 := by rw [Rat.div_def]; grind
  rw [this]; grind
theorem div_join {d : Rat} (hd : d ≠ 0) (u v : Rat) : v / (2 * (d * d)) + u / d = (v + 2 * (u * d)) / (2 * (d * d)) := by
  have h2 := Rat.mul_inv_cancel _ hd
  rw [Rat.div_def, Rat.div_def, Rat.div_def, Rat.inv_mul_rev, Rat.inv_mul_rev]
  have h3 : u * d * (d⁻¹ * d⁻¹) = u * d⁻¹ := by
    have : u * d * (d⁻¹ * d⁻¹) = u * (d * d⁻¹) * d⁻¹ := by grind
    rw [this, h2]; grind
  have : (2 : Rat)⁻¹ = 1 / 2 := by rw [Rat.div_def]; grind
  rw [this]; grind
theorem qq_half : qq (1, 2) = 1 / 2 := by unfold qq; rw [Rat.divInt_eq_div]; rfl
theorem cost_chk {c : Int} (h0 : 0 ≤ c) (h1 : c ≤ 1000) : fchk c 1 = 0 := fchk_small (by omega) h1
/-- Half of a value. -/
theorem half_q {V : Rat} (h : inr V) : fmul (uf V).n (uf V).d 1 2 = pack (V * (1 / 2)) := by
  have := fmul_qq (a := up V) (b := (1, 2)) (up_chk h) (by decide)
  rw [qq_up, qq_half] at this
  exact this
theorem toll_q {S : Rat} {c : Int} (h0 : 0 ≤ c) (h1 : c ≤ 1000) (h : inr S) : fmul c 1 (uf S).n (uf S).d = pack ((c : Rat) * S) := by
  have := fmul_qq (a := (c, 1)) (b := up S) (cost_chk h0 h1) (up_chk h)
  rw [qq_up, qq_int] at this
  exact this
theorem add_q {a b : Rat} (ha : inr a) (hb : inr b) : fadd (uf a).n (uf a).d (uf b).n (uf b).d = pack (a + b) := by
  have := fadd_qq (a := up a) (b := up b) (up_chk ha) (up_chk hb)
  rw [qq_up, qq_up] at this
  exact this
theorem sprice_go {V S : Rat} {c : Int} (h0 : 0 ≤ c) (h1 : c ≤ 1000) (hV : inr V) (hS : inr S) (i1 : inr (V * (1 / 2))) (i2 : inr ((c : Rat) * S)) (i3 : inr (V * (1 / 2) + (c : Rat) * S)) : price (uf V) (uf S) c = uf (V * (1 / 2) + (c : Rat) * S) := by
  have e1 := half_q hV
  have e2 := toll_q h0 h1 hS
  rw [pack_ok i1] at e1
  rw [pack_ok i2] at e2
  rw [price_0 rfl rfl (by rw [e1]) (by rw [e2]), e1, e2]
  have := add_q i1 i2
  rw [pack_ok i3] at this
  exact this
theorem sprice_val {V S : Rat} {c : Int} (h0 : 0 ≤ c) (h1 : c ≤ 1000) (hV : inr V) (hS : inr S) (he : (price (uf V) (uf S) c).e = 0) : inr (V * (1 / 2) + (c : Rat) * S) ∧ price (uf V) (uf S) c = uf (V * (1 / 2) + (c : Rat) * S) := by
  have e1 := half_q hV
  have e2 := toll_q h0 h1 hS
  by_cases i1 : inr (V * (1 / 2))
  · by_cases i2 : inr ((c : Rat) * S)
    · by_cases i3 : inr (V * (1 / 2) + (c : Rat) * S)
      · exact ⟨i3, sprice_go h0 h1 hV hS i1 i2 i3⟩
      · exfalso
        rw [pack_ok i1] at e1
        rw [pack_ok i2] at e2
        rw [price_0 rfl rfl (by rw [e1]) (by rw [e2]), e1, e2] at he
        have := add_q i1 i2
        rw [pack_no i3] at this
        have he' : (fadd (uf (V * (1 / 2))).n (uf (V * (1 / 2))).d (uf ((c : Rat) * S)).n (uf ((c : Rat) * S)).d).e = 0 := he
        rw [this] at he'
        cases he'
    · exfalso
      rw [pack_ok i1] at e1
      rw [pack_no i2] at e2
      rw [price_m rfl rfl (by rw [e1]) (by rw [e2]; decide)] at he
      cases he
  · exfalso
    rw [pack_no i1] at e1
    rw [price_h rfl rfl (by rw [e1]; decide)] at he
    cases he
section
variable {A : List (List Int)} {B : List Int} {c : Int} {x : List (Int × Int)} {n : Nat}
theorem qprice_is (x : Nat → Rat) : qval (fA A) (fB B) A.length x * (1 / 2) + (c : Rat) * sm x 3 = qprice (fA A) (fB B) A.length (c : Rat) x := by
  unfold qprice
  have : qval (fA A) (fB B) A.length x * (1 / 2) = qval (fA A) (fB B) A.length x / 2 := by grind
  rw [this]
theorem point_vals (hp : npoint A B x = 0) : ∀ i (h : i < x.length), fchk x[i].1 x[i].2 = 0 := fun i h => ((point_of hp).2 i h).1
/-- The price without an error. -/
theorem cost_val (hs : scheck A B c = 0) (hp : npoint A B x = 0) (he : (sCost A B c x).e = 0) : (nValue A B x).e = 0 ∧ inr (qprice (fA A) (fB B) A.length (c : Rat) (nx x)) ∧ sCost A B c x = uf (qprice (fA A) (fB B) A.length (c : Rat) (nx x)) := by
  obtain ⟨_, h0, h1⟩ := scheck_of hs
  rw [sCost_0 hs] at he ⊢
  have hv : (nValue A B x).e = 0 := by
    apply Classical.byContradiction
    intro h
    rw [price_v h] at he
    exact h he
  obtain ⟨v1, v2⟩ := nval_val hp (point_len hp) hv
  have hb : (sBright x).e = 0 := by
    apply Classical.byContradiction
    intro h
    rw [price_b hv h] at he
    exact h he
  obtain ⟨b1, b2⟩ := bright_val (point_len hp) (point_vals hp) hb
  refine ⟨hv, ?_⟩
  rw [v2, b2] at he ⊢
  have := sprice_val h0 h1 v1 b1 he
  rw [← qprice_is]
  exact this
theorem cost_err (hs : scheck A B c = 0) (hp : npoint A B x = 0) : (sCost A B c x).e = 0 ∨ (sCost A B c x).e = 16 := by
  obtain ⟨_, h0, h1⟩ := scheck_of hs
  rw [sCost_0 hs]
  by_cases hv : (nValue A B x).e = 0
  case neg =>
    right
    rw [price_v hv]
    rcases value_err hp with h | h
    · exact absurd h hv
    · exact h
  by_cases hb : (sBright x).e = 0
  case neg =>
    right
    rw [price_b hv hb]
    rcases bright_err (point_len hp) (point_vals hp) with h | h
    · exact absurd h hb
    · exact h
  obtain ⟨v1, v2⟩ := nval_val hp (point_len hp) hv
  obtain ⟨b1, b2⟩ := bright_val (point_len hp) (point_vals hp) hb
  rw [v2, b2]
  have e1 := half_q v1
  have e2 := toll_q h0 h1 b1
  by_cases i1 : inr (qval (ra (cel A)) (rb (nb B)) A.length (nx x) * (1 / 2))
  case neg => right; rw [price_h rfl rfl (by rw [e1, pack_no i1]; decide)]
  by_cases i2 : inr ((c : Rat) * sm (nx x) 3)
  case neg => right; rw [price_m rfl rfl (by rw [e1, pack_ok i1]) (by rw [e2, pack_no i2]; decide)]
  rw [price_0 rfl rfl (by rw [e1, pack_ok i1]) (by rw [e2, pack_ok i2]), e1, e2, pack_ok i1, pack_ok i2]
  have := add_q i1 i2
  rcases pack_FOk (qval (ra (cel A)) (rb (nb B)) A.length (nx x) * (1 / 2) + (c : Rat) * sm (nx x) 3) with h | h
  · left; rw [← this] at h; exact h.1
  · right; rw [← this] at h
    have h' := congrArg FR.e h
    exact h'
theorem slope_q {g : Rat} {c : Int} (h0 : 0 ≤ c) (h1 : c ≤ 1000) (hg : inr g) : fadd (up g).1 (up g).2 c 1 = pack (g + (c : Rat)) := by
  have := fadd_qq (a := up g) (b := (c, 1)) (up_chk hg) (cost_chk h0 h1)
  rw [qq_up, qq_int] at this
  exact this
theorem slope_go {g : Nat → Rat} {n : Nat} (hs : scheck A B c = 0) (hg : nGradient A B x = ((List.range n).map fun k => up (g k), 0)) (i1 : ∀ k, k < n → inr (g k)) (i2 : ∀ k, k < n → inr (g k + (c : Rat))) : sSlope A B c x = ((List.range n).map fun k => up (g k + (c : Rat)), 0) := by
  obtain ⟨_, h0, h1⟩ := scheck_of hs
  rw [sSlope_0 hs (by rw [hg]), hg]
  show rowsOf (slopeN ((List.range n).map fun k => up (g k)) c) ((List.range n).map fun k => up (g k)).length = _
  rw [show ((List.range n).map fun k => up (g k)).length = n from by simp]
  refine rows_list (g := fun k => g k + (c : Rat)) fun k hk => ?_
  unfold slopeN
  rw [res_getD hk, slope_q h0 h1 (i1 k hk), pack_ok (i2 k hk)]
  rfl
/-- The slope without an error. -/
theorem slope_val (hs : scheck A B c = 0) (he : (sSlope A B c x).2 = 0) : npoint A B x = 0 ∧ (∀ k, k < x.length → inr (qslope (fA A) (fB B) A.length (c : Rat) (nx x) k)) ∧ (sSlope A B c x).1 = (List.range x.length).map fun k => up (qslope (fA A) (fB B) A.length (c : Rat) (nx x) k) := by
  obtain ⟨_, h0, h1⟩ := scheck_of hs
  obtain ⟨hp, _⟩ := slope_len he
  have hg : (nGradient A B x).2 = 0 := by
    apply Classical.byContradiction
    intro h
    rw [sSlope_g hs h] at he
    exact h he
  obtain ⟨_, g2, g3⟩ := ngrad_val hp (point_len hp) hg
  rw [sSlope_0 hs hg, g3] at he ⊢
  rw [show ((List.range x.length).map fun k => up (qgrd (ra (cel A)) (rb (nb B)) A.length (nx x) k)).length = x.length from by simp] at he ⊢
  have key : ∀ k, k < x.length → inr (qslope (fA A) (fB B) A.length (c : Rat) (nx x) k) ∧ slopeN ((List.range x.length).map fun k => up (qgrd (ra (cel A)) (rb (nb B)) A.length (nx x) k)) c k = uf (qslope (fA A) (fB B) A.length (c : Rat) (nx x) k) := fun k hk => by
    have e := (rows_each x.length he k hk).1
    unfold slopeN at e ⊢
    rw [res_getD hk, slope_q h0 h1 (g2 k hk)] at e ⊢
    exact pack_val e
  refine ⟨hp, fun k hk => (key k hk).1, ?_⟩
  rw [rows_list (g := fun k => qslope (fA A) (fB B) A.length (c : Rat) (nx x) k) fun k hk => (key k hk).2]
theorem kkt_listS (hp : npoint A B x = 0) (h0 : 0 ≤ c) : (∀ k, k < x.length → 0 ≤ qslope (fA A) (fB B) A.length (c : Rat) (nx x) k ∧ (0 < qslope (fA A) (fB B) A.length (c : Rat) (nx x) k → nx x k = 0)) ↔ qkkt (fA A) (fB B) A.length (c : Rat) (nx x) := by
  have hl := point_len hp
  constructor
  · intro h
    refine ⟨fun k _ => point_nn hp k, fun k hk => ?_⟩
    rcases Nat.lt_or_ge k x.length with h1 | h1
    · exact h k h1
    · unfold qslope
      rw [grd_out (point_of hp).1 h1]
      exact ⟨by have := cost_nn h0; grind, fun _ => nx_out h1⟩
  · intro h k hk
    exact h.2 k (by omega)
/-- Optimal tells whether a point meets the conditions. -/
theorem sopt_kkt (hs : scheck A B c = 0) (he : (sSlope A B c x).2 = 0) : (sOptimal A B c x).2 = 0 ∧ ((sOptimal A B c x).1 = true ↔ qkkt (fA A) (fB B) A.length (c : Rat) (nx x)) := by
  obtain ⟨hp, _, h3⟩ := slope_val hs he
  rw [sOpt_0 he]
  refine ⟨rfl, ?_⟩
  show noptB (sSlope A B c x).1 x (sSlope A B c x).1.length = true ↔ _
  rw [h3, ← kkt_listS hp (scheck_of hs).2.1]
  have hl : ((List.range x.length).map fun k => up (qslope (fA A) (fB B) A.length (c : Rat) (nx x) k)).length = x.length := by simp
  rw [hl]
  exact nopt_iff hp _
theorem sopt_err (he : (sOptimal A B c x).2 = 0) : (sSlope A B c x).2 = 0 := by
  apply Classical.byContradiction
  intro h
  rw [sOpt_1 h] at he
  exact h he
theorem slope_err (hs : scheck A B c = 0) (hp : npoint A B x = 0) : (sSlope A B c x).2 = 0 ∨ (sSlope A B c x).2 = 16 := by
  obtain ⟨_, h0, h1⟩ := scheck_of hs
  rcases grad_err hp with h | h
  · rw [sSlope_0 hs h]
    have hv := grad_val h
    rcases rows_err16 (f := slopeN (nGradient A B x).1 c) (N := (nGradient A B x).1.length) (fun k hk => slopeN_FOk hv h0 h1 hk) _ (Nat.le_refl _) with h | h
    · exact .inl h
    · right; rw [h]
  · right; rw [sSlope_g hs (by rw [h]; decide), h]
theorem sopt_err16 (hs : scheck A B c = 0) (hp : npoint A B x = 0) : (sOptimal A B c x).2 = 0 ∨ (sOptimal A B c x).2 = 16 := by
  rcases slope_err hs hp with h | h
  · rw [sOpt_0 h]; exact .inl rfl
  · rw [sOpt_1 (by rw [h]; decide), h]; exact .inr rfl
end
section
variable {A : List (List Int)} {B : List Int} {c : Int} {p : List (Int × Int)} {n : Nat}
theorem nsx_sum (k : Nat) : sm (nsx A B c) k = ((si (sN A B c) k : Int) : Rat) / (sD A B c : Rat) := by
  rw [← sm_div]; rfl
theorem sN_sum (h : Fit A B n) (h0 : 0 ≤ c) (h1 : c ≤ 1000) {k : Nat} (hk : k ≤ 3) : wi 600000000000 (si (sN A B c) k) := by
  have := si_wi (f := sN A B c) (X := 200000000000) k fun j _ => sN_bd h h0 h1 j
  unfold wi at *; omega
/-- What the functions of the sparse layer return at a solution. -/
structure SolS (A : List (List Int)) (B : List Int) (c : Int) (n : Nat) : Prop where
  bright : sBright (nsol A B c n) = uf (sm (nsx A B c) 3)
  bin : inr (sm (nsx A B c) 3)
  cost : sCost A B c (nsol A B c n) = uf (qprice (fA A) (fB B) A.length (c : Rat) (nsx A B c))
  cin : inr (qprice (fA A) (fB B) A.length (c : Rat) (nsx A B c))
  slope : sSlope A B c (nsol A B c n) = ((List.range n).map fun k => up (qslope (fA A) (fB B) A.length (c : Rat) (nsx A B c) k), 0)
  sin : ∀ k, inr (qslope (fA A) (fB B) A.length (c : Rat) (nsx A B c) k)
  opt : sOptimal A B c (nsol A B c n) = (true, 0)
theorem sol_s (hs : scheck A B c = 0) : SolS A B c (A.getD 0 []).length := by
  obtain ⟨hc, h0, h1⟩ := scheck_of hs
  have h := fit_of hc
  have so := sol_ok hc h0 h1
  have hx := nx_sol h h0
  have hl : (nsol A B c (A.getD 0 []).length).length = (A.getD 0 []).length := nsol_len
  have n3 := h.cols.2
  have hk := sol_kkt' h h0
  generalize (A.getD 0 []).length = n at *
  have hD := sD_bd h h0
  have hsum : ∀ j, j ≤ 3 → inr (sm (nsx A B c) j) := fun j hj => by
    have := sN_sum h h0 h1 hj
    rw [nsx_sum]; unfold wi at this
    exact inr_frac (by omega) (by omega) (by omega) (by omega)
  have bright : sBright (nsol A B c n) = uf (sm (nsx A B c) 3) := by
    rw [sm_congr 3 fun k hk => hx k hk]
    refine bright_go (by omega) (point_vals so.point) fun j hj => ?_
    rw [← sm_congr j fun k hk => hx k (by omega)]
    exact hsum j hj
  have sin : ∀ k, inr (qslope (fA A) (fB B) A.length (c : Rat) (nsx A B c) k) := fun k => by
    have b1 := colpart_bd h h0 h1 k (Nat.le_refl _)
    have e : qslope (fA A) (fB B) A.length (c : Rat) (nsx A B c) k = ((si (fun r => cel A r k * sR A B c r) A.length + c * sD A B c : Int) : Rat) / (sD A B c : Rat) := by
      unfold qslope qgrd
      rw [colpart h h0, Rat.intCast_add, Rat.intCast_mul]
      have hD' : ((sD A B c : Int) : Rat) ≠ 0 := by simp; omega
      have := Rat.mul_inv_cancel _ hD'
      rw [Rat.div_def, Rat.div_def]
      grind
    have b2 := wr_mulbd' (X := 1000) (Y := 5859375) (Z := 5859375000) (x := c) (y := sD A B c) (by omega) (by omega) (by decide)
    rw [e]; unfold wi at b1
    exact inr_frac (by omega) (by omega) (by omega) (by omega)
  have slope : sSlope A B c (nsol A B c n) = ((List.range n).map fun k => up (qslope (fA A) (fB B) A.length (c : Rat) (nsx A B c) k), 0) :=
    slope_go hs so.grad (fun k _ => so.gin k) fun k _ => sin k
  have hM := sq_bd h h0 (Nat.le_refl A.length)
  have eV : qval (fA A) (fB B) A.length (nsx A B c) * (1 / 2) = ((si (fun r => sR A B c r * sR A B c r) A.length : Int) : Rat) / ((2 * (sD A B c * sD A B c) : Int) : Rat) := by
    have hq : qval (fA A) (fB B) A.length (nsx A B c) = (si (fun r => sR A B c r * sR A B c r) A.length : Rat) / ((sD A B c * sD A B c : Int) : Rat) := sqpart h h0 A.length
    rw [hq, div_half, Rat.intCast_mul 2]; rfl
  have iV : inr (qval (fA A) (fB B) A.length (nsx A B c) * (1 / 2)) := by
    rw [eV]; exact inr_frac (by omega) (by omega) (by omega) (by omega)
  have eS : (c : Rat) * sm (nsx A B c) 3 = ((c * si (sN A B c) 3 : Int) : Rat) / (sD A B c : Rat) := by
    rw [nsx_sum]; exact mul_div' _ _ _
  have bS := sN_sum h h0 h1 (k := 3) (Nat.le_refl _)
  have iS : inr ((c : Rat) * sm (nsx A B c) 3) := by
    have b2 := wr_mulbd' (X := 1000) (Y := 600000000000) (Z := 600000000000000) (x := c) (y := si (sN A B c) 3) (by omega) bS (by decide)
    rw [eS]; exact inr_frac (by omega) (by omega) (by omega) (by omega)
  have bT : c * si (sN A B c) 3 ≤ 6250 * sD A B c := by
    have := (sol_val h h0).2
    rw [eS] at this
    exact le_of_div (by omega) this
  have bT0 : 0 ≤ c * si (sN A B c) 3 := by
    have h5 : 0 ≤ sm (nsx A B c) 3 := bright_nn h h0
    have h6 : (0 : Rat) < (sD A B c : Rat) := by exact_mod_cast (by omega : 0 < sD A B c)
    have h7 := Rat.mul_nonneg (Rat.mul_nonneg (cost_nn h0) h5) (Rat.le_of_lt h6)
    rw [eS, Rat.div_mul_cancel (by grind)] at h7
    exact_mod_cast h7
  have iP : inr (qval (fA A) (fB B) A.length (nsx A B c) * (1 / 2) + (c : Rat) * sm (nsx A B c) 3) := by
    have e : qval (fA A) (fB B) A.length (nsx A B c) * (1 / 2) + (c : Rat) * sm (nsx A B c) 3 = ((si (fun r => sR A B c r * sR A B c r) A.length + 2 * (c * si (sN A B c) 3 * sD A B c) : Int) : Rat) / ((2 * (sD A B c * sD A B c) : Int) : Rat) := by
      have hD' : ((sD A B c : Int) : Rat) ≠ 0 := by simp; omega
      rw [eV, eS, Rat.intCast_mul 2, Rat.intCast_mul (sD A B c)]
      refine (div_join hD' _ _).trans ?_
      rw [Rat.intCast_add, Rat.intCast_mul 2, Rat.intCast_mul _ (sD A B c)]; rfl
    rw [e]
    obtain ⟨m1, m2, m3, m4⟩ := hM
    have t1 : 0 ≤ c * si (sN A B c) 3 * sD A B c := Int.mul_nonneg bT0 (by omega)
    have t2 : c * si (sN A B c) 3 * sD A B c ≤ 6250 * sD A B c * sD A B c := Int.mul_le_mul_of_nonneg_right bT (by omega)
    have t3 : 6250 * sD A B c * sD A B c = 6250 * (sD A B c * sD A B c) := by grind
    exact inr_frac (by omega) (by omega) (by omega) (by omega)
  have cost : sCost A B c (nsol A B c n) = uf (qprice (fA A) (fB B) A.length (c : Rat) (nsx A B c)) := by
    rw [sCost_0 hs, so.val, bright, sprice_go h0 h1 so.vin (hsum 3 (Nat.le_refl _)) iV iS iP, qprice_is]
  refine ⟨bright, hsum 3 (Nat.le_refl _), cost, by rw [← qprice_is]; exact iP, slope, sin, ?_⟩
  have h1 := sopt_kkt (x := nsol A B c n) hs (by rw [slope])
  exact Prod.ext (h1.2.2 (qkkt_congr hx hk)) h1.1
/-- One number of the solution and of its slope. -/
theorem sols_each (hs : scheck A B c = 0) {k : Nat} (hk : k < (A.getD 0 []).length) : ∃ gn gd xn xd : Int, fchk gn gd = 0 ∧ (sSlope A B c (nsol A B c (A.getD 0 []).length)).1[k]? = some (gn, gd) ∧ (nsol A B c (A.getD 0 []).length)[k]? = some (xn, xd) ∧
    0 ≤ gn ∧ (0 < gn → xn = 0) ∧ (0 < xn → (nS A B c).testBit k = true) ∧ 0 ≤ xn := by
  obtain ⟨hc, h0, h1⟩ := scheck_of hs
  have hF := fit_of hc
  have ss := sol_s hs
  have hS := nS_spec hF h0
  have hkk := sol_kkt' hF h0
  have hx := nsol_get (A := A) (B := B) (c := c) hk
  have n3 := hF.cols.2
  have k3 : k < 3 := by omega
  refine ⟨(qslope (fA A) (fB B) A.length (c : Rat) (nsx A B c) k).num, (qslope (fA A) (fB B) A.length (c : Rat) (nsx A B c) k).den, (nsx A B c k).num, (nsx A B c k).den, fchk_inr (ss.sin k), ?_, hx, Rat.num_nonneg.2 (hkk.2 k k3).1, fun h => ?_, fun h => ?_, ?_⟩
  · rw [ss.slope]
    show ((List.range (A.getD 0 []).length).map fun k => up (qslope (fA A) (fB B) A.length (c : Rat) (nsx A B c) k))[k]? = _
    rw [List.getElem?_map, List.getElem?_range hk]; rfl
  · rw [(hkk.2 k k3).2 (num_pos.1 h)]; rfl
  · by_cases hb : (nS A B c).testBit k = true
    · exact hb
    · have := xs8_sup (a := cel A) (b := nb B) (m := A.length) (c := c) (set8 n3 hS.1) k k3 (by simpa using hb)
      have e : nsx A B c k = 0 := this
      rw [e] at h
      exact absurd h (by decide)
  · exact (sol_chk hF h0 h1 _ (List.mem_of_getElem? hx)).2
/-- The solution against another point. -/
theorem best_factS (hs : scheck A B c = 0) (hp : npoint A B p = 0) (he : (sCost A B c p).e = 0) :
    fchk (sCost A B c p).n (sCost A B c p).d = 0 ∧ fcmp (qprice (fA A) (fB B) A.length (c : Rat) (nsx A B c)).num (qprice (fA A) (fB B) A.length (c : Rat) (nsx A B c)).den (sCost A B c p).n (sCost A B c p).d ≤ 0 ∧
    ((sOptimal A B c p).2 = 0 → ((sOptimal A B c p).1 = decide (fcmp (qprice (fA A) (fB B) A.length (c : Rat) (nsx A B c)).num (qprice (fA A) (fB B) A.length (c : Rat) (nsx A B c)).den (sCost A B c p).n (sCost A B c p).d = 0))) := by
  obtain ⟨hc, h0, h1⟩ := scheck_of hs
  have hF := fit_of hc
  obtain ⟨_, v1, v2⟩ := cost_val hs hp he
  have hk := sol_kkt' hF h0
  have hfe : qfeas (nx p) := fun k _ => point_nn hp k
  have h2 := kkt_least (fA A) (fB B) A.length _ hk hfe
  rw [v2]
  refine ⟨up_chk v1, (cmp_le _ _).2 h2, fun ho => ?_⟩
  rw [Bool.eq_iff_iff, decide_eq_true_iff, (sopt_kkt hs (sopt_err ho)).2]
  refine Iff.trans ?_ (cmp_eq _ _).symm
  constructor
  · intro hq
    exact (kkt_two (fA A) (fB B) A.length _ hk hq).symm
  · intro hq
    have hq' : qprice (fA A) (fB B) A.length (c : Rat) (nsx A B c) = qprice (fA A) (fB B) A.length (c : Rat) (nx p) := hq
    exact (kkt_same (fA A) (fB B) A.length _ hk hfe hq'.symm).2
end
end Go.Proofs.Ythlcmlngmcoknaa

/- What is proved here: what witnesses, their worth and gaps are as rational numbers; no witness that is feasible is worth more than the price of a point. No program in sight. Condition: valid fits, costs, points and witnesses. -/
namespace Go.Proofs.Ythlcmlngmcoknaa
open Go.RowKit

section
variable (A : Nat → Nat → Rat) (b : Nat → Rat) (m : Nat) (c : Rat)
/-- The sum of a column's products with a witness; the worth of a witness. -/
def qcol (y : Nat → Rat) (k : Nat) : Rat := sm (fun r => A r k * y r) m
def qworth (y : Nat → Rat) : Rat := sm (fun r => y r * b r) m - sm (fun r => y r * y r) m * (1 / 2)
variable {A b m c}
theorem price_worth (x y : Nat → Rat) : qprice A b m c x = qworth b m y + sm (fun r => (qres A b x r + y r) * (qres A b x r + y r)) m / 2 + sm (fun k => (c - qcol A m y k) * x k) 3 := by
  have h1 := val_rows (fun r => qres A b x r) y m
  have h2 := dot_rows A y (x 0) (x 1) (x 2) m
  have h3 : sm (fun r => qres A b x r * y r) m = sm (fun r => y r * (A r 0 * x 0 + A r 1 * x 1 + A r 2 * x 2)) m - sm (fun r => y r * b r) m := by
    have e : sm (fun r => y r * (A r 0 * x 0 + A r 1 * x 1 + A r 2 * x 2)) m = sm (fun r => qres A b x r * y r + y r * b r) m := sm_congr m fun r _ => by
      unfold qres qax; rw [sm_3]; grind
    rw [e, sm_add]; grind
  unfold qprice qworth qcol
  rw [h1, h3, h2, sm_3, sm_3]
  unfold qval
  grind
theorem weak_dual {x y : Nat → Rat} (hx : qfeas x) (hf : ∀ k, k < 3 → qcol A m y k ≤ c) : qworth b m y ≤ qprice A b m c x := by
  have h1 := price_worth (A := A) (b := b) (m := m) (c := c) x y
  have h2 : 0 ≤ sm (fun r => (qres A b x r + y r) * (qres A b x r + y r)) m := sm_nn m fun _ _ => sq_nn _
  have h3 : 0 ≤ sm (fun k => (c - qcol A m y k) * x k) 3 := sm_nn 3 fun k hk => mul_nn (by have := hf k hk; grind) (hx k hk)
  grind
/-- The opposite residual of an optimum is a witness with the gap 0. -/
theorem strong_dual {x : Nat → Rat} (hk : qkkt A b m c x) : (∀ k, k < 3 → qcol A m (fun r => - qres A b x r) k ≤ c) ∧ qprice A b m c x = qworth b m (fun r => - qres A b x r) := by
  have hc : ∀ k, qcol A m (fun r => - qres A b x r) k = - qgrd A b m x k := fun k => by
    unfold qcol qgrd
    have : sm (fun r => A r k * - qres A b x r) m = sm (fun r => (-1) * (A r k * qres A b x r)) m := sm_congr m fun r _ => by grind
    rw [this, sm_mul]; grind
  refine ⟨fun k h => ?_, ?_⟩
  · have := (hk.2 k h).1
    unfold qslope at this
    rw [hc]; grind
  · rw [price_worth (A := A) (b := b) (m := m) (c := c) x (fun r => - qres A b x r)]
    have e1 : sm (fun r => (qres A b x r + - qres A b x r) * (qres A b x r + - qres A b x r)) m = 0 := sm_0 m fun r _ => by grind
    have e2 : sm (fun k => (c - qcol A m (fun r => - qres A b x r) k) * x k) 3 = 0 := sm_0 3 fun k h => by
      rw [hc]
      have h1 := hk.2 k h
      unfold qslope at h1
      by_cases h2 : 0 < qgrd A b m x k + c
      · rw [h1.2 h2]; grind
      · have : c - - qgrd A b m x k = 0 := by grind
        rw [this]; grind
    rw [e1, e2]; grind
end
theorem inr_neg {x : Rat} (h : inr x) : inr (-x) := by
  unfold inr at *
  rw [Rat.neg_num, Int.natAbs_neg]
  exact h
theorem cmp_lt (v u : Rat) : fcmp v.num v.den u.num u.den = -1 ↔ v < u := by
  have h := cmp_ge v u
  constructor
  · intro h1
    have : ¬ u ≤ v := fun h2 => by have := h.2 h2; omega
    grind
  · intro h1
    have h2 : ¬ 0 ≤ fcmp v.num v.den u.num u.den := fun h2 => by have := h.1 h2; grind
    unfold fcmp at h2 ⊢
    split at h2
    · rename_i h3; rw [if_pos h3]
    · split at h2 <;> omega
theorem cmp_int_lt (c : Int) (u : Rat) : fcmp c 1 u.num u.den = -1 ↔ (c : Rat) < u := cmp_lt (c : Rat) u
section
variable {A : List (List Int)} {B : List Int} {c : Int} {x y : List (Int × Int)} {n : Nat}
theorem tq_colY (k i : Nat) : tq (colT A y k) i = fA A i k * nx y i := by
  unfold tq colT nx
  rw [qq_int]; rfl
theorem colY_tval (h : FitY A y n) {k : Nat} (hk : k < n) : tval (colT A y k) A.length := fun j hj => by
  have h2 : j < y.length := by rw [h.len]; exact hj
  have h3 : k < A[j].length := by rw [h.wide j hj]; exact hk
  unfold colT
  rw [cel_get hj h3, getD_get h2]
  exact ⟨fchk_small (h.coef j hj k h3).1 (h.coef j hj k h3).2, h.val j h2⟩
/-- The sums of the columns without an error. -/
theorem dsums_val (h : FitY A y n) (he : (dsums A y n).2 = 0) : (∀ k, k < n → inr (qcol (fA A) A.length (nx y) k)) ∧ dsums A y n = ((List.range n).map fun k => up (qcol (fA A) A.length (nx y) k), 0) := by
  have key : ∀ k, k < n → inr (qcol (fA A) A.length (nx y) k) ∧ gsum (colT A y k) A.length = uf (qcol (fA A) A.length (nx y) k) := fun k hk => by
    have := gsum_val A.length (colY_tval h hk) (rows_each n he k hk).1
    have e : sm (tq (colT A y k)) A.length = qcol (fA A) A.length (nx y) k := sm_congr A.length fun i _ => tq_colY k i
    rw [e] at this
    exact this
  refine ⟨fun k hk => (key k hk).1, ?_⟩
  exact rows_list fun k hk => (key k hk).2
theorem feas_iff {g : Nat → Rat} {n : Nat} : feasB ((List.range n).map fun k => up (g k)) c n = true ↔ ∀ k, k < n → g k ≤ (c : Rat) := by
  unfold feasB
  rw [List.all_eq_true]
  constructor
  · intro h k hk
    have h1 := h k (List.mem_range.2 hk)
    rw [res_getD hk] at h1
    have h2 : ¬ fcmp c 1 (g k).num (g k).den = -1 := by
      have h3 : decide (fcmp c 1 (up (g k)).1 (up (g k)).2 = -1) = false := by rwa [Bool.not_eq_true'] at h1
      exact of_decide_eq_false h3
    rw [cmp_int_lt] at h2
    grind
  · intro h k hk
    have hk := List.mem_range.1 hk
    rw [res_getD hk]
    have h2 : ¬ fcmp c 1 (g k).num (g k).den = -1 := by
      rw [cmp_int_lt]; have := h k hk; grind
    have h3 : decide (fcmp c 1 (up (g k)).1 (up (g k)).2 = -1) = false := decide_eq_false h2
    rw [h3]; rfl
theorem feas_list {g : Nat → Rat} {n : Nat} : feasB ((List.range n).map fun k => up (g k)) c ((List.range n).map fun k => up (g k)).length = true ↔ ∀ k, k < n → g k ≤ (c : Rat) := by
  rw [show ((List.range n).map fun k => up (g k)).length = n from by simp]
  exact feas_iff
theorem dfeas_err (hs : scheck A B c = 0) (hw : witB A.length y = true) : (dfeas A B c y).2 = 0 ∨ (dfeas A B c y).2 = 16 := by
  have hd := dcheck_0 hs hw
  by_cases h : (dsums A y (A.getD 0 []).length).2 = 0
  · rw [dfeas_0 hd h]; exact .inl rfl
  · rw [dfeas_1 hd h, dsums_16 (FitY.ofC (scheck_of hs).1 hw) h]; exact .inr rfl
/-- Feasible tells whether no sum is greater than the cost. -/
theorem dfeas_val (hs : scheck A B c = 0) (hw : witB A.length y = true) (he : (dfeas A B c y).2 = 0) : (dfeas A B c y).1 = true ↔ ∀ k, k < 3 → qcol (fA A) A.length (nx y) k ≤ (c : Rat) := by
  have hd := dcheck_0 hs hw
  obtain ⟨hc, h0, _⟩ := scheck_of hs
  have hF := fit_of hc
  have n3 := hF.cols.2
  have hY := FitY.ofC hc hw
  generalize hn : (A.getD 0 []).length = n at *
  have h0' : (dsums A y n).2 = 0 := by
    apply Classical.byContradiction
    intro h
    rw [dfeas_1 hd (by rw [hn]; exact h)] at he
    rw [hn] at he
    exact h he
  rw [dfeas_0 hd (by rw [hn]; exact h0'), hn, (dsums_val hY h0').2]
  refine feas_list.trans ⟨fun h k hk => ?_, fun h k hk => h k (by omega)⟩
  rcases Nat.lt_or_ge k n with h1 | h1
  · exact h k h1
  · have : qcol (fA A) A.length (nx y) k = 0 := sm_0 A.length fun r hr => by
      have : fA A r k = 0 := by unfold fA ra; rw [hF.out hr h1]; rfl
      rw [this]; grind
    rw [this]; exact cost_nn h0
theorem tq_prod (i : Nat) (hi : i < B.length) : tq (prodT y (rights B)) i = nx y i * fB B i := by
  unfold tq prodT nx fB rb
  have : (rights B).getD i (0, 0) = (B[i], 1) := by
    rw [List.getD_eq_getElem?_getD, rights_get hi]; rfl
  rw [this, qq_int, nb_get hi]
theorem tq_sqY (i : Nat) : tq (prodT y y) i = nx y i * nx y i := rfl
theorem prod_tval {a b : List (Int × Int)} {n : Nat} (ha : n ≤ a.length) (hb : n ≤ b.length) (va : ∀ i (h : i < a.length), fchk a[i].1 a[i].2 = 0) (vb : ∀ i (h : i < b.length), fchk b[i].1 b[i].2 = 0) : tval (prodT a b) n := fun j hj => by
  unfold prodT
  rw [getD_get (by omega), getD_get (by omega)]
  exact ⟨va j (by omega), vb j (by omega)⟩
theorem sub_q {a b : Rat} (ha : inr a) (hb : inr b) : fsub (uf a).n (uf a).d (uf b).n (uf b).d = pack (a - b) := by
  have := fsub_qq (a := up a) (b := up b) (up_chk ha) (up_chk hb)
  rw [qq_up, qq_up] at this
  exact this
theorem pack_err (q : Rat) : (pack q).e = 0 ∨ (pack q).e = 16 := by
  rcases pack_FOk q with h | h
  · exact .inl h.1
  · right; rw [h]
theorem wit_vals (hw : witB A.length y = true) : ∀ i (h : i < y.length), fchk y[i].1 y[i].2 = 0 := (witB_of hw).2
theorem rights_ok (h : Fit A B n) : ∀ i (h : i < (rights B).length), fchk (rights B)[i].1 (rights B)[i].2 = 0 := rights_val fun i hi => by have := h.side i hi; omega
theorem FOk.err {r : FR} (h : FOk r) : r.e = 0 ∨ r.e = 16 := by
  rcases h with h | h
  · exact .inl h.1
  · right; rw [h]
/-- The worth of a witness, and its error. -/
theorem dworth_val (hc : ncheck A B = 0) (hw : witB A.length y = true) : ((dworth A B y).e = 0 ∨ (dworth A B y).e = 16) ∧ ((dworth A B y).e = 0 → inr (qworth (fB B) A.length (nx y)) ∧ dworth A B y = uf (qworth (fB B) A.length (nx y))) := by
  have hs : scheck A B 0 = 0 := scheck_0 hc (Int.le_refl 0) (by decide)
  have hd := dcheck_0 hs hw
  have hF := fit_of hc
  obtain ⟨wl, wv⟩ := witB_of hw
  have rv := rights_ok hF
  have rl : (rights B).length = y.length := by rw [rights_len, hF.right, wl]
  have g1 := prod_ok (a := y) (b := rights B) (k := y.length) (Nat.le_refl _) (by omega) wv rv
  have s1 := prod_ok (a := y) (b := y) (k := y.length) (Nat.le_refl _) (Nat.le_refl _) wv wv
  rw [dworth_0 hd]
  by_cases e1 : (gsum (prodT y (rights B)) y.length).e = 0
  case neg =>
    rw [dval_g e1]
    refine ⟨?_, fun h => absurd h e1⟩
    exact g1.err
  by_cases e2 : (gsum (prodT y y) y.length).e = 0
  case neg =>
    rw [dval_s e1 e2]
    refine ⟨?_, fun h => absurd h e2⟩
    exact s1.err
  obtain ⟨i1, v1⟩ := gsum_val y.length (prod_tval (Nat.le_refl _) (by omega) wv rv) e1
  obtain ⟨i2, v2⟩ := gsum_val y.length (prod_tval (Nat.le_refl _) (Nat.le_refl _) wv wv) e2
  have t1 : sm (tq (prodT y (rights B))) y.length = sm (fun r => nx y r * fB B r) A.length := by
    rw [wl]; exact sm_congr A.length fun i hi => tq_prod i (by rw [hF.right]; exact hi)
  have t2 : sm (tq (prodT y y)) y.length = sm (fun r => nx y r * nx y r) A.length := by
    rw [wl]; rfl
  rw [t1] at i1 v1
  rw [t2] at i2 v2
  rw [v1, v2]
  have hh := half_q i2
  by_cases i3 : inr (sm (fun r => nx y r * nx y r) A.length * (1 / 2))
  case neg =>
    rw [pack_no i3] at hh
    rw [dval_h rfl rfl (by rw [hh]; decide)]
    exact ⟨.inr rfl, fun h => by cases h⟩
  rw [pack_ok i3] at hh
  rw [dval_0 rfl rfl (by rw [hh]), hh]
  have hq := sub_q i1 i3
  have e : fsub (uf (sm (fun r => nx y r * fB B r) A.length)).n (uf (sm (fun r => nx y r * fB B r) A.length)).d (sm (fun r => nx y r * nx y r) A.length * (1 / 2)).num (sm (fun r => nx y r * nx y r) A.length * (1 / 2)).den = pack (qworth (fB B) A.length (nx y)) := hq
  rw [e]
  exact ⟨pack_err _, fun h => pack_val h⟩
theorem both_of (h1 : pointB (A.getD 0 []).length x = true) (h2 : witB A.length y = true) : bothB A x y = true := by unfold bothB; rw [h1, h2]; rfl
theorem point_iff (hc : ncheck A B = 0) : npoint A B x = 0 ↔ pointB (A.getD 0 []).length x = true := by
  constructor
  · intro h
    apply Classical.byContradiction
    intro h1
    rw [npoint_2 hc (by simpa using h1)] at h; cases h
  · exact npoint_0 hc
/-- The gap of a point and a witness. -/
theorem dgap_val (hs : scheck A B c = 0) (hp : npoint A B x = 0) (hw : witB A.length y = true) :
    ((dgap A B c x y).e = 0 ∨ (dgap A B c x y).e = 16) ∧ ((dgap A B c x y).e = 0 → (sCost A B c x).e = 0 ∧ (dworth A B y).e = 0 ∧ inr (qprice (fA A) (fB B) A.length (c : Rat) (nx x) - qworth (fB B) A.length (nx y)) ∧ dgap A B c x y = uf (qprice (fA A) (fB B) A.length (c : Rat) (nx x) - qworth (fB B) A.length (nx y))) ∧
    ((sCost A B c x).e = 0 → (dworth A B y).e = 0 → dgap A B c x y = pack (qprice (fA A) (fB B) A.length (c : Rat) (nx x) - qworth (fB B) A.length (nx y))) := by
  obtain ⟨hc, h0, h1⟩ := scheck_of hs
  have hb := both_of ((point_iff hc).1 hp) hw
  obtain ⟨w1, w2⟩ := dworth_val hc hw
  by_cases e1 : (sCost A B c x).e = 0
  case neg =>
    rw [dgap_p hs hb e1]
    refine ⟨cost_err hs hp, fun h => absurd h e1, fun h => absurd h e1⟩
  by_cases e2 : (dworth A B y).e = 0
  case neg =>
    rw [dgap_w hs hb e1 e2]
    refine ⟨w1, fun h => absurd h e2, fun _ h => absurd h e2⟩
  obtain ⟨_, i1, v1⟩ := cost_val hs hp e1
  obtain ⟨i2, v2⟩ := w2 e2
  have e : dgap A B c x y = pack (qprice (fA A) (fB B) A.length (c : Rat) (nx x) - qworth (fB B) A.length (nx y)) := by
    rw [dgap_0 hs hb e1 e2, v1, v2]; exact sub_q i1 i2
  rw [e]
  refine ⟨pack_err _, fun h => ⟨e1, e2, pack_val h⟩, fun _ _ => rfl⟩
/-- DualBounds: a feasible witness, a point, the solution. -/
theorem bounds_fact (hs : scheck A B c = 0) (hw : witB A.length y = true) (h1 : (dfeas A B c y).2 = 0) (h2 : (dworth A B y).e = 0) (h3 : (dfeas A B c y).1 = true) :
    fchk (dworth A B y).n (dworth A B y).d = 0 ∧ fcmp (dworth A B y).n (dworth A B y).d (qprice (fA A) (fB B) A.length (c : Rat) (nsx A B c)).num (qprice (fA A) (fB B) A.length (c : Rat) (nsx A B c)).den ≤ 0 ∧
    (npoint A B x = 0 → (sCost A B c x).e = 0 → (dgap A B c x y).e = 0 → fchk (sCost A B c x).n (sCost A B c x).d = 0 ∧ fcmp (dworth A B y).n (dworth A B y).d (sCost A B c x).n (sCost A B c x).d ≤ 0 ∧ 0 ≤ (dgap A B c x y).n ∧ fsub (sCost A B c x).n (sCost A B c x).d (dworth A B y).n (dworth A B y).d = dgap A B c x y) := by
  obtain ⟨hc, h0, _⟩ := scheck_of hs
  have hf := (dfeas_val hs hw h1).1 h3
  obtain ⟨i1, v1⟩ := (dworth_val hc hw).2 h2
  have hk := sol_kkt' (fit_of hc) h0
  refine ⟨by rw [v1]; exact up_chk i1, ?_, fun hp e1 e2 => ?_⟩
  · rw [v1]; exact (cmp_le _ _).2 (weak_dual hk.1 hf)
  · obtain ⟨_, i2, v2⟩ := cost_val hs hp e1
    obtain ⟨_, _, i3, v3⟩ := (dgap_val hs hp hw).2.1 e2
    have hwd := weak_dual (b := fB B) (c := (c : Rat)) (x := nx x) (fun k _ => point_nn hp k) hf
    rw [v1, v2, v3]
    refine ⟨up_chk i2, (cmp_le _ _).2 hwd, num_nn (by grind), ?_⟩
    exact (sub_q i2 i1).trans (pack_ok i3)
end
end Go.Proofs.Ythlcmlngmcoknaa

/- What is proved here: the witness of the solution has the gap 0; a point with a feasible witness and the gap 0 is optimal; the witness of a point is feasible. No program in sight. Condition: valid fits, costs, points and witnesses. -/
namespace Go.Proofs.Ythlcmlngmcoknaa
open Go.RowKit

section
variable {A : List (List Int)} {B : List Int} {c : Int} {x y : List (Int × Int)} {n : Nat}
theorem negs_map (g : Nat → Rat) (m : Nat) : negs ((List.range m).map fun i => up (g i)) = (List.range m).map fun i => up (- g i) := by
  unfold negs
  rw [List.map_map]
  refine List.map_congr_left fun i _ => ?_
  show (-(g i).num, ((g i).den : Int)) = _
  unfold up
  rw [Rat.neg_num, Rat.neg_den]
theorem nx_map {g : Nat → Rat} {m i : Nat} (hi : i < m) : nx ((List.range m).map fun i => up (g i)) i = g i := by
  unfold nx; rw [res_getD hi, qq_up]
theorem map_chk {g : Nat → Rat} {m : Nat} (hg : ∀ i, i < m → inr (g i)) : ∀ i (h : i < ((List.range m).map fun i => up (g i)).length), fchk ((List.range m).map fun i => up (g i))[i].1 ((List.range m).map fun i => up (g i))[i].2 = 0 := fun i h => by
  simp at h
  have e : ((List.range m).map fun i => up (g i))[i] = up (g i) := by simp
  rw [e]; exact up_chk (hg i h)
theorem wit_map {g : Nat → Rat} {m : Nat} (hg : ∀ i, i < m → inr (g i)) : witB m ((List.range m).map fun i => up (g i)) = true := by
  rw [witB_ok (fv_of (map_chk hg))]
  simp
theorem most_mem {l : List (Int × Int)} : ∀ k, k < l.length → ∃ j, j ≤ k ∧ mostN l k = l.getD j (0, 0)
  | 0, h => ⟨0, Nat.le_refl _, rfl⟩
  | k + 1, h => by
    unfold mostN
    split
    · exact ⟨k + 1, Nat.le_refl _, rfl⟩
    · obtain ⟨j, h1, h2⟩ := most_mem (l := l) k (by omega)
      exact ⟨j, by omega, h2⟩
theorem most_ub {g : Nat → Rat} {n : Nat} : ∀ k, k < n → ∃ q : Rat, mostN ((List.range n).map fun k => up (g k)) k = up q ∧ (∃ j, j ≤ k ∧ q = g j) ∧ ∀ j, j ≤ k → g j ≤ q
  | 0, h => by
    refine ⟨g 0, res_getD h, ⟨0, Nat.le_refl _, rfl⟩, fun j hj => ?_⟩
    obtain rfl : j = 0 := by omega
    exact Rat.le_refl
  | k + 1, h => by
    obtain ⟨q, h1, ⟨i, h2, h3⟩, h4⟩ := most_ub (g := g) (n := n) k (by omega)
    unfold mostN
    rw [h1, res_getD h]
    by_cases hc : fcmp (up q).1 (up q).2 (up (g (k + 1))).1 (up (g (k + 1))).2 = -1
    · rw [if_pos hc]
      have h5 : q < g (k + 1) := (cmp_lt q (g (k + 1))).1 hc
      refine ⟨g (k + 1), rfl, ⟨k + 1, Nat.le_refl _, rfl⟩, fun j hj => ?_⟩
      rcases Nat.lt_or_ge j (k + 1) with h6 | h6
      · have := h4 j (by omega); grind
      · obtain rfl : j = k + 1 := by omega
        exact Rat.le_refl
    · rw [if_neg hc]
      have h5 : ¬ q < g (k + 1) := fun h => hc ((cmp_lt q (g (k + 1))).2 h)
      refine ⟨q, rfl, ⟨i, by omega, h3⟩, fun j hj => ?_⟩
      rcases Nat.lt_or_ge j (k + 1) with h6 | h6
      · exact h4 j (by omega)
      · obtain rfl : j = k + 1 := by omega
        grind
theorem col_out (h : Fit A B n) {k : Nat} (hk : n ≤ k) (y : Nat → Rat) : qcol (fA A) A.length y k = 0 :=
  sm_0 A.length fun r hr => by
    have : fA A r k = 0 := by unfold fA ra; rw [h.out hr hk]; rfl
    rw [this]; grind
theorem qcol_congr {m : Nat} {u v : Nat → Rat} (h : ∀ i, i < m → u i = v i) (k : Nat) : qcol (fA A) m u k = qcol (fA A) m v k := sm_congr m fun r hr => by rw [h r hr]
theorem qworth_congr {m : Nat} {u v : Nat → Rat} (h : ∀ i, i < m → u i = v i) : qworth (fB B) m u = qworth (fB B) m v := by
  unfold qworth
  rw [sm_congr (f := fun r => u r * fB B r) m fun r hr => by rw [h r hr], sm_congr (f := fun r => u r * u r) m fun r hr => by rw [h r hr]]
theorem sm_neg (f : Nat → Rat) (k : Nat) : sm (fun i => - f i) k = - sm f k := by
  have := sm_mul (-1) f k
  have e : sm (fun i => -1 * f i) k = sm (fun i => - f i) k := sm_congr k fun i _ => by grind
  rw [← e, this]; grind
/-- What the functions return at the witness of the solution. -/
theorem tight_fact (hs : scheck A B c = 0) :
    (nResidual A B (nsol A B c (A.getD 0 []).length)).2 = 0 ∧ (∀ i (h : i < (nResidual A B (nsol A B c (A.getD 0 []).length)).1.length), fchk (nResidual A B (nsol A B c (A.getD 0 []).length)).1[i].1 (nResidual A B (nsol A B c (A.getD 0 []).length)).1[i].2 = 0) ∧
    dMake A B c (nsol A B c (A.getD 0 []).length) = (negs (nResidual A B (nsol A B c (A.getD 0 []).length)).1, 0) ∧
    dgap A B c (nsol A B c (A.getD 0 []).length) (negs (nResidual A B (nsol A B c (A.getD 0 []).length)).1) = ⟨0, 1, 0⟩ ∧
    daccept A B c (nsol A B c (A.getD 0 []).length) (negs (nResidual A B (nsol A B c (A.getD 0 []).length)).1) 0 1 = (true, 0) := by
  obtain ⟨hc, h0, h1⟩ := scheck_of hs
  have hF := fit_of hc
  have so := sol_ok hc h0 h1
  have ss := sol_s hs
  have hk := sol_kkt' hF h0
  have hl : (nsol A B c (A.getD 0 []).length).length = (A.getD 0 []).length := nsol_len
  have n3 := hF.cols
  have hpb := (point_iff hc).1 so.point
  have hx := nx_sol hF h0
  generalize hn : (A.getD 0 []).length = n at *
  have r0 : nResidual A B (nsol A B c n) = ((List.range A.length).map fun i => up (qres (fA A) (fB B) (nsx A B c) i), 0) := so.res
  rw [r0]
  generalize hr : qres (fA A) (fB B) (nsx A B c) = R at *
  have srin : ∀ i, i < A.length → inr (R i) := by rw [← hr]; exact so.rin
  show (0 : Int) = 0 ∧ _
  refine ⟨rfl, map_chk srin, ?_⟩
  show dMake A B c (nsol A B c n) = (negs ((List.range A.length).map fun i => up (R i)), 0) ∧ dgap A B c (nsol A B c n) (negs ((List.range A.length).map fun i => up (R i))) = ⟨0, 1, 0⟩ ∧ daccept A B c (nsol A B c n) (negs ((List.range A.length).map fun i => up (R i))) 0 1 = (true, 0)
  have hm : dMake A B c (nsol A B c n) = dwit A c (negs ((List.range A.length).map fun i => up (R i))) n := by
    rw [dMake_0 hs (by rw [r0]), r0, hl]
  rw [hm, negs_map]
  have rn : ∀ i, i < A.length → inr (- R i) := fun i hi => inr_neg (srin i hi)
  generalize hZ : ((List.range A.length).map fun i => up (- R i)) = Z at *
  have zl : Z.length = A.length := by rw [← hZ]; simp
  have zv : ∀ i (h : i < Z.length), fchk Z[i].1 Z[i].2 = 0 := by rw [← hZ]; exact map_chk rn
  have zx : ∀ i, i < A.length → nx Z i = - R i := fun i hi => by rw [← hZ]; exact nx_map hi
  have zw : witB A.length Z = true := by rw [← hZ]; exact wit_map rn
  have hY := FitY.ofC hc zw
  rw [hn] at hY
  have hD := sD_bd hF h0
  have key : ∀ k, k < n → gsum (colT A Z k) A.length = uf (qcol (fA A) A.length (nx Z) k) := fun k hkn => by
    have e : ∀ i, i ≤ A.length → sm (tq (colT A Z k)) i = - sm (fun r => fA A r k * R r) i := fun i hi => by
      rw [← sm_neg]
      exact sm_congr i fun r hr2 => by rw [tq_colY, zx r (by omega)]; grind
    have := gsum_go A.length (colY_tval hY hkn) (fun j hj => ?_) (fun j hj => ?_)
    · have e2 : sm (tq (colT A Z k)) A.length = qcol (fA A) A.length (nx Z) k := sm_congr A.length fun i _ => tq_colY k i
      rw [e2] at this; exact this
    · rw [tq_colY, zx j hj]
      have b1 := wr_mulbd' (X := 5) (Y := 4000000000000) (Z := 20000000000000) (hF.cel5 hj (l := k)) (sR_bd hF h0 h1 hj) (by decide)
      have e3 : fA A j k * - R j = - (((cel A j k * sR A B c j : Int) : Rat) / (sD A B c : Rat)) := by
        rw [← mul_div', ← res_is hF h0, hr]
        show (cel A j k : Rat) * - R j = _
        grind
      rw [e3]
      exact inr_neg (inr_frac (by omega) (by omega) (by omega) (by omega))
    · rw [e j hj, ← hr, colpart hF h0]
      have := colpart_bd hF h0 h1 k hj
      unfold wi at this
      exact inr_neg (inr_frac (by omega) (by omega) (by omega) (by omega))
  have ds : dsums A Z n = ((List.range n).map fun k => up (qcol (fA A) A.length (nx Z) k), 0) := rows_list fun k hk => key k hk
  have sd := strong_dual (b := fB B) hk
  rw [hr] at sd
  have qc : ∀ k, k < 3 → qcol (fA A) A.length (nx Z) k ≤ (c : Rat) := fun k h3 => by
    rw [qcol_congr zx]; exact sd.1 k h3
  have qw : qworth (fB B) A.length (nx Z) = qprice (fA A) (fB B) A.length (c : Rat) (nsx A B c) := by
    rw [qworth_congr zx]; exact sd.2.symm
  have e1 : dwit A c Z n = (Z, 0) := by
    rw [dwit_0 (by rw [ds]), ds]
    obtain ⟨q, h1, ⟨j, h2, h3⟩, _⟩ := most_ub (g := fun k => qcol (fA A) A.length (nx Z) k) (n := n) (n - 1) (by omega)
    show dpart c Z (mostN ((List.range n).map fun k => up (qcol (fA A) A.length (nx Z) k)) (n - 1)) = _
    rw [h1]
    refine dpart_0 fun h => ?_
    have h4 : (c : Rat) < q := (cmp_int_lt c q).1 h
    have h5 := qc j (by omega)
    rw [← h3] at h5
    grind
  have f1 : dfeas A B c Z = (true, 0) := by
    rw [dfeas_0 (dcheck_0 hs zw) (by rw [hn, ds]), hn, ds]
    exact Prod.ext (feas_list.2 fun k hk => qc k (by omega)) rfl
  have w0 : (dworth A B Z).e = 0 := by
    have wd := dcheck_0 (scheck_0 hc (Int.le_refl 0) (by decide)) zw
    rw [dworth_0 wd, zl]
    have rv := rights_ok hF
    have g1 := gsum_go (t := prodT Z (rights B)) A.length (prod_tval (by omega) (by rw [rights_len, hF.right]; exact Nat.le_refl _) zv rv) (fun j hj => ?_) (fun j hj => ?_)
    · have g2 := gsum_go (t := prodT Z Z) A.length (prod_tval (by omega) (by omega) zv zv) (fun j hj => ?_) (fun j hj => ?_)
      · rw [g1, g2]
        have e : sm (tq (prodT Z Z)) A.length = qval (fA A) (fB B) A.length (nsx A B c) := sm_congr A.length fun i hi => by
          rw [tq_sqY, zx i hi, ← hr]; grind
        have hM := sq_bd hF h0 (Nat.le_refl A.length)
        have iS : inr (sm (tq (prodT Z Z)) A.length) := by rw [e]; exact so.vin
        have hh := half_q iS
        have iH : inr (sm (tq (prodT Z Z)) A.length * (1 / 2)) := by
          rw [e]
          have eV : qval (fA A) (fB B) A.length (nsx A B c) * (1 / 2) = ((si (fun r => sR A B c r * sR A B c r) A.length : Int) : Rat) / ((2 * (sD A B c * sD A B c) : Int) : Rat) := by
            have hq : qval (fA A) (fB B) A.length (nsx A B c) = (si (fun r => sR A B c r * sR A B c r) A.length : Rat) / ((sD A B c * sD A B c : Int) : Rat) := sqpart hF h0 A.length
            rw [hq, div_half, Rat.intCast_mul 2]; rfl
          rw [eV]; exact inr_frac (by omega) (by omega) (by omega) (by omega)
        rw [pack_ok iH] at hh
        rw [dval_0 rfl rfl (by rw [hh]), hh]
        have iG : inr (sm (tq (prodT Z (rights B))) A.length) := by
          have e2 : sm (tq (prodT Z (rights B))) A.length = - (((si (fun r => sR A B c r * nb B r) A.length : Int) : Rat) / (sD A B c : Rat)) := by
            rw [← sm_div, ← sm_neg]
            exact sm_congr A.length fun r hr2 => by
              rw [tq_prod r (by rw [hF.right]; exact hr2), zx r hr2, ← hr, res_is hF h0, Rat.intCast_mul, Rat.div_def, Rat.div_def]
              show _ = - (_ * fB B r * _)
              grind
          rw [e2]
          have := si_wi (f := fun r => sR A B c r * nb B r) (X := 200000000000000) A.length fun r hr2 => wr_mulbd' (X := 4000000000000) (Y := 50) (sR_bd hF h0 h1 hr2) (hF.side50 hr2) (by decide)
          have hr5 := hF.rows
          unfold wi at this
          exact inr_neg (inr_frac (by omega) (by omega) (by omega) (by omega))
        have hq := sub_q iG iH
        have e3 : sm (tq (prodT Z (rights B))) A.length - sm (tq (prodT Z Z)) A.length * (1 / 2) = qworth (fB B) A.length (nx Z) := by
          have : sm (tq (prodT Z (rights B))) A.length = sm (fun r => nx Z r * fB B r) A.length := sm_congr A.length fun i hi => tq_prod i (by rw [hF.right]; exact hi)
          rw [this]; rfl
        rw [e3, qw, pack_ok ss.cin] at hq
        have hq' := congrArg FR.e hq
        exact hq'
      · rw [tq_sqY, zx j hj, ← hr]
        have b1 := sR_bd hF h0 h1 hj
        obtain ⟨b2, b3, b4, b5⟩ := sq_bd hF h0 (i := j + 1) (by omega)
        obtain ⟨b6, _⟩ := sq_bd hF h0 (i := j) (by omega)
        rw [si_succ] at b3
        have b7 : 0 ≤ sR A B c j * sR A B c j := by
          rcases Int.le_total 0 (sR A B c j) with h | h
          · exact Int.mul_nonneg h h
          · exact Int.mul_nonneg_of_nonpos_of_nonpos h h
        have e : - qres (fA A) (fB B) (nsx A B c) j * - qres (fA A) (fB B) (nsx A B c) j = ((sR A B c j * sR A B c j : Int) : Rat) / ((sD A B c * sD A B c : Int) : Rat) := by
          rw [res_is hF h0, Rat.intCast_mul, Rat.intCast_mul, Rat.div_def, Rat.div_def, Rat.inv_mul_rev]; grind
        rw [e]
        exact inr_frac (by omega) (by omega) (by omega) (by omega)
      · have e : sm (tq (prodT Z Z)) j = sm (fun r => qres (fA A) (fB B) (nsx A B c) r * qres (fA A) (fB B) (nsx A B c) r) j := sm_congr j fun i hi => by
          rw [tq_sqY, zx i (by omega), hr]; grind
        obtain ⟨b1, b2, b3, b4⟩ := sq_bd hF h0 hj
        rw [e, sqpart hF h0]
        exact inr_frac (by omega) (by omega) (by omega) (by omega)
    · rw [tq_prod j (by rw [hF.right]; exact hj), zx j hj, ← hr]
      have b1 := wr_mulbd' (X := 4000000000000) (Y := 50) (Z := 200000000000000) (sR_bd hF h0 h1 hj) (hF.side50 hj) (by decide)
      have e : - qres (fA A) (fB B) (nsx A B c) j * fB B j = - (((sR A B c j * nb B j : Int) : Rat) / (sD A B c : Rat)) := by
        rw [res_is hF h0, Rat.intCast_mul, Rat.div_def, Rat.div_def]
        show - _ * fB B j = - (_ * fB B j * _)
        grind
      rw [e]
      exact inr_neg (inr_frac (by omega) (by omega) (by omega) (by omega))
    · have e2 : sm (tq (prodT Z (rights B))) j = - (((si (fun r => sR A B c r * nb B r) j : Int) : Rat) / (sD A B c : Rat)) := by
        rw [← sm_div, ← sm_neg]
        exact sm_congr j fun r hr2 => by
          rw [tq_prod r (by rw [hF.right]; omega), zx r (by omega), ← hr, res_is hF h0, Rat.intCast_mul, Rat.div_def, Rat.div_def]
          show _ = - (_ * fB B r * _)
          grind
      rw [e2]
      have := si_wi (f := fun r => sR A B c r * nb B r) (X := 200000000000000) j fun r hr2 => wr_mulbd' (X := 4000000000000) (Y := 50) (sR_bd hF h0 h1 (by omega)) (hF.side50 (by omega)) (by decide)
      have hr5 := hF.rows
      unfold wi at this
      exact inr_neg (inr_frac (by omega) (by omega) (by omega) (by omega))
  have g0 : dgap A B c (nsol A B c n) Z = ⟨0, 1, 0⟩ := by
    rw [(dgap_val hs so.point zw).2.2 (by rw [ss.cost]; rfl) w0, qw, qprice_congr fun k hk => (hx k hk).symm]
    have : qprice (fA A) (fB B) A.length (c : Rat) (nsx A B c) - qprice (fA A) (fB B) A.length (c : Rat) (nsx A B c) = 0 := by grind
    rw [this]; rfl
  refine ⟨e1, g0, ?_⟩
  have hb := both_of (x := nsol A B c n) (y := Z) (by rw [hn]; exact hpb) zw
  rw [dacc_0 hs hb (by decide) (by rw [f1]) (by rw [g0]), f1, g0]
  rfl
end
end Go.Proofs.Ythlcmlngmcoknaa

/- What is proved here: a point with a feasible witness and the gap 0 is optimal; the witness of a point is feasible, and accepted with its gap alone. No program in sight. Condition: valid fits, costs, points and witnesses. -/
namespace Go.Proofs.Ythlcmlngmcoknaa
open Go.RowKit

section
variable {A : List (List Int)} {B : List Int} {c : Int} {x y : List (Int × Int)} {n : Nat}
/-- Accept, with its parts known. -/
theorem acc_val (hs : scheck A B c = 0) (hp : npoint A B x = 0) (hw : witB A.length y = true) {gn gd : Int} (hg : fchk gn gd = 0) :
    ((daccept A B c x y gn gd).2 = 0 ∨ (daccept A B c x y gn gd).2 = 16) ∧ ((daccept A B c x y gn gd).2 = 0 → (dfeas A B c y).2 = 0 ∧ (dgap A B c x y).e = 0) ∧
    ((dfeas A B c y).2 = 0 → (dgap A B c x y).e = 0 → daccept A B c x y gn gd = ((dfeas A B c y).1 && (decide ((dgap A B c x y).n = gn) && decide ((dgap A B c x y).d = gd)), 0)) := by
  have hb := both_of ((point_iff (scheck_of hs).1).1 hp) hw
  by_cases e1 : (dfeas A B c y).2 = 0
  case neg =>
    rw [dacc_f hs hb hg e1]
    exact ⟨dfeas_err hs hw, fun h => absurd h e1, fun h => absurd h e1⟩
  by_cases e2 : (dgap A B c x y).e = 0
  case neg =>
    rw [dacc_g hs hb hg e1 e2]
    exact ⟨(dgap_val hs hp hw).1, fun h => absurd h e2, fun _ h => absurd h e2⟩
  have := dacc_0 hs hb hg e1 e2
  rw [this]
  exact ⟨.inl rfl, fun _ => ⟨e1, e2⟩, fun _ _ => rfl⟩
theorem num_0 {q : Rat} (h : q.num = 0) : q = 0 := Rat.num_eq_zero.1 h
/-- A certificate with the gap 0. -/
theorem zero_fact (hs : scheck A B c = 0) (hp : npoint A B x = 0) (hw : witB A.length y = true) :
    ((daccept A B c x y 0 1).2 = 0 ∨ (daccept A B c x y 0 1).2 = 16) ∧ ((daccept A B c x y 0 1).2 = 0 → (daccept A B c x y 0 1).1 = true → sOptimal A B c x = (true, 0) ∨ (sOptimal A B c x).2 = 16) := by
  obtain ⟨hc, h0, h1⟩ := scheck_of hs
  obtain ⟨a1, a2, a3⟩ := acc_val hs hp hw (gn := 0) (gd := 1) (by decide)
  refine ⟨a1, fun b1 b2 => ?_⟩
  obtain ⟨e1, e2⟩ := a2 b1
  rw [a3 e1 e2] at b2
  simp only [Bool.and_eq_true, decide_eq_true_eq] at b2
  obtain ⟨f1, f2, _⟩ := b2
  have hf := (dfeas_val hs hw e1).1 f1
  obtain ⟨_, _, i3, v3⟩ := (dgap_val hs hp hw).2.1 e2
  rw [v3] at f2
  have z := num_0 f2
  have hk := sol_kkt' (fit_of hc) h0
  have hfe : qfeas (nx x) := fun k _ => point_nn hp k
  have w1 := weak_dual (b := fB B) (c := (c : Rat)) hk.1 hf
  have w2 := kkt_least (fA A) (fB B) A.length _ hk hfe
  have same : qprice (fA A) (fB B) A.length (c : Rat) (nx x) = qprice (fA A) (fB B) A.length (c : Rat) (nsx A B c) := by grind
  have hq := (kkt_same (fA A) (fB B) A.length _ hk hfe same).2
  rcases sopt_err16 hs hp with h | h
  · left
    have h2 := sopt_kkt hs (sopt_err h)
    exact Prod.ext (h2.2.2 hq) h
  · exact .inr h
theorem rows_map {f : Nat → FR} {m : Nat} (hf : ∀ i, i < m → FOk (f i)) : ((rowsOf f m).2 = 0 ∨ rowsOf f m = ([], 16)) := rows_err16 hf m (Nat.le_refl _)
theorem resid_list (hp : npoint A B x = 0) (he : (nResidual A B x).2 = 0) : (∀ i, i < A.length → inr (qres (fA A) (fB B) (nx x) i)) ∧ nResidual A B x = ((List.range A.length).map fun i => up (qres (fA A) (fB B) (nx x) i), 0) := by
  have e0 : nResidual A B x = nresidual A B x := if_pos hp
  rw [e0] at he ⊢
  obtain ⟨h1, h2⟩ := nresid_val (FitX.of hp) (point_len hp) he
  exact ⟨h1, Prod.ext h2 he⟩
theorem div_q {c : Int} {q : Rat} (h0 : 0 ≤ c) (h1 : c ≤ 1000) (hq : inr q) (hz : q ≠ 0) : fdiv c 1 (up q).1 (up q).2 = pack ((c : Rat) / q) := by
  have hn : ¬ (up q).1 = 0 := fun h => hz (num_0 h)
  have := fdiv_1 (fboth_of (cost_chk h0 h1) (up_chk hq)) hn
  rw [this]
  show pack (qq (c, 1) / qq (up q)) = _
  rw [qq_int, qq_up]
theorem mul_q {a b : Rat} (ha : inr a) (hb : inr b) : fmul (up a).1 (up a).2 (uf b).n (uf b).d = pack (a * b) := by
  have := fmul_qq (a := up a) (b := up b) (up_chk ha) (up_chk hb)
  rw [qq_up, qq_up] at this
  exact this
/-- The witness of a point. -/
theorem made_fact (hs : scheck A B c = 0) (hp : npoint A B x = 0) : ((dMake A B c x).2 = 0 ∨ (dMake A B c x).2 = 16) ∧
    ((dMake A B c x).2 = 0 → witB A.length (dMake A B c x).1 = true ∧ ((dfeas A B c (dMake A B c x).1).2 = 0 → (dfeas A B c (dMake A B c x).1).1 = true)) := by
  obtain ⟨hc, h0, h1⟩ := scheck_of hs
  have hF := fit_of hc
  have n3 := hF.cols
  have hxl : x.length = (A.getD 0 []).length := (pointB_of ((point_iff hc).1 hp)).1
  by_cases hr : (nResidual A B x).2 = 0
  case neg =>
    rw [dMake_r hs hr]
    exact ⟨resid_err hp, fun h => absurd h hr⟩
  obtain ⟨ri, rl⟩ := resid_list hp hr
  rw [dMake_0 hs hr, rl, hxl]
  generalize hn : (A.getD 0 []).length = n at *
  show ((dwit A c (negs ((List.range A.length).map fun i => up (qres (fA A) (fB B) (nx x) i))) n).2 = 0 ∨ _) ∧ _
  have key : ∀ Z, Z = (List.range A.length).map (fun i => up (- qres (fA A) (fB B) (nx x) i)) → ((dwit A c Z n).2 = 0 ∨ (dwit A c Z n).2 = 16) ∧ ((dwit A c Z n).2 = 0 → witB A.length (dwit A c Z n).1 = true ∧ ((dfeas A B c (dwit A c Z n).1).2 = 0 → (dfeas A B c (dwit A c Z n).1).1 = true)) := by
    intro Z hZ
    have rn : ∀ i, i < A.length → inr (- qres (fA A) (fB B) (nx x) i) := fun i hi => inr_neg (ri i hi)
    have zl : Z.length = A.length := by rw [hZ]; simp
    have zx : ∀ i, i < A.length → nx Z i = - qres (fA A) (fB B) (nx x) i := fun i hi => by rw [hZ]; exact nx_map hi
    have zw : witB A.length Z = true := by rw [hZ]; exact wit_map rn
    have hY := FitY.ofC hc zw
    rw [hn] at hY
    by_cases hd : (dsums A Z n).2 = 0
    case neg =>
      rw [dwit_1 hd]
      refine ⟨?_, fun h => absurd h hd⟩
      rw [dsums_16 hY hd]; exact .inr rfl
    obtain ⟨d1, d2⟩ := dsums_val hY hd
    rw [dwit_0 hd, d2]
    obtain ⟨q, m1, ⟨j, m2, m3⟩, m4⟩ := most_ub (g := fun k => qcol (fA A) A.length (nx Z) k) (n := n) (n - 1) (by omega)
    have iq : inr q := by rw [m3]; exact d1 j (by omega)
    show ((dpart c Z (mostN ((List.range n).map fun k => up (qcol (fA A) A.length (nx Z) k)) (n - 1))).2 = 0 ∨ _) ∧ _
    rw [m1]
    by_cases hq : fcmp c 1 (up q).1 (up q).2 = -1
    case neg =>
      have hq' : ¬ (c : Rat) < q := fun h => hq ((cmp_int_lt c q).2 h)
      rw [dpart_0 hq]
      refine ⟨.inl rfl, fun _ => ⟨zw, fun he => (dfeas_val hs zw he).2 fun k h3 => ?_⟩⟩
      rcases Nat.lt_or_ge k n with h4 | h4
      · have := m4 k (by omega); grind
      · show qcol (fA A) A.length (nx Z) k ≤ (c : Rat)
        rw [col_out hF h4]; exact cost_nn h0
    have hq' : (c : Rat) < q := (cmp_int_lt c q).1 hq
    have c0 := cost_nn h0
    have qz : q ≠ 0 := by grind
    have dq := div_q h0 h1 iq qz
    by_cases hf : inr ((c : Rat) / q)
    case neg =>
      rw [pack_no hf] at dq
      rw [dpart_1 hq (by rw [dq]; decide)]
      exact ⟨.inr rfl, fun h => by cases h⟩
    rw [pack_ok hf] at dq
    have fz : (fdiv c 1 (up q).1 (up q).2).e = 0 := by rw [dq]
    rw [dpart_2 hq fz]
    have zi : ∀ i, i < A.length → Z.getD i (0, 0) = up (- qres (fA A) (fB B) (nx x) i) := fun i hi => by rw [hZ]; exact res_getD hi
    have each : ∀ i, i < A.length → dmulN Z (fdiv c 1 (up q).1 (up q).2) i = pack (- qres (fA A) (fB B) (nx x) i * ((c : Rat) / q)) := fun i hi => by
      unfold dmulN
      rw [zi i hi, dq]
      exact mul_q (rn i hi) hf
    have hok : ∀ i, i < Z.length → FOk (dmulN Z (fdiv c 1 (up q).1 (up q).2) i) := fun i hi => by rw [each i (by omega)]; exact pack_FOk _
    rcases rows_err16 hok Z.length (Nat.le_refl _) with hz | hz
    case inr => rw [hz]; exact ⟨.inr rfl, fun h => by cases h⟩
    refine ⟨.inl hz, fun _ => ?_⟩
    have each2 : ∀ i, i < A.length → inr (- qres (fA A) (fB B) (nx x) i * ((c : Rat) / q)) ∧ dmulN Z (fdiv c 1 (up q).1 (up q).2) i = uf (- qres (fA A) (fB B) (nx x) i * ((c : Rat) / q)) := fun i hi => by
      have h1 := (rows_each Z.length hz i (by omega)).1
      rw [each i hi] at h1 ⊢
      exact pack_val h1
    have hl := rows_list (f := dmulN Z (fdiv c 1 (up q).1 (up q).2)) (m := Z.length) fun i hi => (each2 i (by omega)).2
    rw [hl, zl]
    show witB A.length ((List.range A.length).map fun i => up (- qres (fA A) (fB B) (nx x) i * ((c : Rat) / q))) = true ∧ ((dfeas A B c ((List.range A.length).map fun i => up (- qres (fA A) (fB B) (nx x) i * ((c : Rat) / q)))).2 = 0 → (dfeas A B c ((List.range A.length).map fun i => up (- qres (fA A) (fB B) (nx x) i * ((c : Rat) / q)))).1 = true)
    have yw := wit_map (m := A.length) (g := fun i => - qres (fA A) (fB B) (nx x) i * ((c : Rat) / q)) fun i hi => (each2 i hi).1
    refine ⟨yw, fun he => (dfeas_val hs yw he).2 fun k h3 => ?_⟩
    have e : qcol (fA A) A.length (nx ((List.range A.length).map fun i => up (- qres (fA A) (fB B) (nx x) i * ((c : Rat) / q)))) k = ((c : Rat) / q) * qcol (fA A) A.length (nx Z) k := by
      unfold qcol
      rw [← sm_mul]
      exact sm_congr A.length fun i hi => by
        rw [nx_map (g := fun i => - qres (fA A) (fB B) (nx x) i * ((c : Rat) / q)) hi, zx i hi]; grind
    rw [e]
    have f0 : 0 ≤ (c : Rat) / q := by
      rw [Rat.div_def]
      exact Rat.mul_nonneg c0 (Rat.le_of_lt (Rat.inv_pos.2 (by grind)))
    rcases Nat.lt_or_ge k n with h4 | h4
    · have h5 : qcol (fA A) A.length (nx Z) k ≤ q := m4 k (by omega)
      have h6 := Rat.mul_le_mul_of_nonneg_left h5 f0
      rw [Rat.div_mul_cancel qz] at h6
      exact h6
    · rw [col_out hF h4]; grind
  rw [negs_map]
  exact key _ rfl
/-- A witness that is feasible, with its gap. -/
theorem gap_fact (hs : scheck A B c = 0) (hp : npoint A B x = 0) (hw : witB A.length y = true) (e1 : (dfeas A B c y).2 = 0) (f1 : (dfeas A B c y).1 = true) (e2 : (dgap A B c x y).e = 0) :
    fchk (dgap A B c x y).n (dgap A B c x y).d = 0 ∧ daccept A B c x y (dgap A B c x y).n (dgap A B c x y).d = (true, 0) ∧ 0 ≤ (dgap A B c x y).n ∧
    (∀ gn gd, fchk gn gd = 0 → daccept A B c x y gn gd = (decide ((dgap A B c x y).n = gn) && decide ((dgap A B c x y).d = gd), 0)) ∧
    (sCost A B c x).e = 0 ∧ fchk (sCost A B c x).n (sCost A B c x).d = 0 ∧
    ∀ m : FR, fsub (sCost A B c x).n (sCost A B c x).d (uf (qprice (fA A) (fB B) A.length (c : Rat) (nsx A B c))).n (uf (qprice (fA A) (fB B) A.length (c : Rat) (nsx A B c))).d = m → (m.e = 0 ∨ m.e = 16) ∧ (m.e = 0 → fchk m.n m.d = 0 ∧ fcmp m.n m.d (dgap A B c x y).n (dgap A B c x y).d ≤ 0) := by
  obtain ⟨hc, h0, h1⟩ := scheck_of hs
  obtain ⟨p1, p2, i3, v3⟩ := (dgap_val hs hp hw).2.1 e2
  obtain ⟨_, i2, v2⟩ := cost_val hs hp p1
  have hf := (dfeas_val hs hw e1).1 f1
  have hk := sol_kkt' (fit_of hc) h0
  have wd := weak_dual (b := fB B) (c := (c : Rat)) (x := nx x) (fun k _ => point_nn hp k) hf
  have wk := weak_dual (b := fB B) (c := (c : Rat)) hk.1 hf
  have ic := (sol_s hs).cin
  have gc : fchk (dgap A B c x y).n (dgap A B c x y).d = 0 := by rw [v3]; exact up_chk i3
  have acc := fun gn gd (hg : fchk gn gd = 0) => (acc_val hs hp hw hg).2.2 e1 e2
  refine ⟨gc, ?_, ?_, fun gn gd hg => ?_, p1, ?_, fun m hm => ?_⟩
  · rw [acc _ _ gc, f1]; simp
  · rw [v3]; exact num_nn (by grind)
  · rw [acc _ _ hg, f1]; rfl
  · rw [v2]; exact up_chk i2
  · rw [v2, sub_q i2 ic] at hm
    subst hm
    refine ⟨pack_err _, fun h => ?_⟩
    obtain ⟨j1, j2⟩ := pack_val h
    rw [j2, v3]
    refine ⟨up_chk j1, (cmp_le _ _).2 (by grind)⟩
end
end Go.Proofs.Ythlcmlngmcoknaa

/- What is proved here: the witness that Make makes of a point bounds how far its price is from the least one. No program in sight. -/
namespace Go.Proofs.Ythlcmlngmcoknaa
open Go.RowKit

section
variable {A : List (List Int)} {B : List Int} {c : Int} {x y : List (Int × Int)} {n : Nat}
/-- The witness of a point is feasible, whatever the walk of Feasible says. -/
theorem made_math (hs : scheck A B c = 0) (hp : npoint A B x = 0) : ((dMake A B c x).2 = 0 ∨ (dMake A B c x).2 = 16) ∧
    ((dMake A B c x).2 = 0 → witB A.length (dMake A B c x).1 = true ∧ ∀ k, k < 3 → qcol (fA A) A.length (nx (dMake A B c x).1) k ≤ (c : Rat)) := by
  obtain ⟨hc, h0, h1⟩ := scheck_of hs
  have hF := fit_of hc
  have n3 := hF.cols
  have hxl : x.length = (A.getD 0 []).length := (pointB_of ((point_iff hc).1 hp)).1
  by_cases hr : (nResidual A B x).2 = 0
  case neg =>
    rw [dMake_r hs hr]
    exact ⟨resid_err hp, fun h => absurd h hr⟩
  obtain ⟨ri, rl⟩ := resid_list hp hr
  rw [dMake_0 hs hr, rl, hxl]
  generalize hn : (A.getD 0 []).length = n at *
  show ((dwit A c (negs ((List.range A.length).map fun i => up (qres (fA A) (fB B) (nx x) i))) n).2 = 0 ∨ _) ∧ _
  have key : ∀ Z, Z = (List.range A.length).map (fun i => up (- qres (fA A) (fB B) (nx x) i)) → ((dwit A c Z n).2 = 0 ∨ (dwit A c Z n).2 = 16) ∧ ((dwit A c Z n).2 = 0 → witB A.length (dwit A c Z n).1 = true ∧ ∀ k, k < 3 → qcol (fA A) A.length (nx (dwit A c Z n).1) k ≤ (c : Rat)) := by
    intro Z hZ
    have rn : ∀ i, i < A.length → inr (- qres (fA A) (fB B) (nx x) i) := fun i hi => inr_neg (ri i hi)
    have zl : Z.length = A.length := by rw [hZ]; simp
    have zx : ∀ i, i < A.length → nx Z i = - qres (fA A) (fB B) (nx x) i := fun i hi => by rw [hZ]; exact nx_map hi
    have zw : witB A.length Z = true := by rw [hZ]; exact wit_map rn
    have hY := FitY.ofC hc zw
    rw [hn] at hY
    by_cases hd : (dsums A Z n).2 = 0
    case neg =>
      rw [dwit_1 hd]
      refine ⟨?_, fun h => absurd h hd⟩
      rw [dsums_16 hY hd]; exact .inr rfl
    obtain ⟨d1, d2⟩ := dsums_val hY hd
    rw [dwit_0 hd, d2]
    obtain ⟨q, m1, ⟨j, m2, m3⟩, m4⟩ := most_ub (g := fun k => qcol (fA A) A.length (nx Z) k) (n := n) (n - 1) (by omega)
    have iq : inr q := by rw [m3]; exact d1 j (by omega)
    show ((dpart c Z (mostN ((List.range n).map fun k => up (qcol (fA A) A.length (nx Z) k)) (n - 1))).2 = 0 ∨ _) ∧ _
    rw [m1]
    by_cases hq : fcmp c 1 (up q).1 (up q).2 = -1
    case neg =>
      have hq' : ¬ (c : Rat) < q := fun h => hq ((cmp_int_lt c q).2 h)
      rw [dpart_0 hq]
      refine ⟨.inl rfl, fun _ => ⟨zw, fun k h3 => ?_⟩⟩
      show qcol (fA A) A.length (nx Z) k ≤ (c : Rat)
      rcases Nat.lt_or_ge k n with h4 | h4
      · have := m4 k (by omega); grind
      · show qcol (fA A) A.length (nx Z) k ≤ (c : Rat)
        rw [col_out hF h4]; exact cost_nn h0
    have hq' : (c : Rat) < q := (cmp_int_lt c q).1 hq
    have c0 := cost_nn h0
    have qz : q ≠ 0 := by grind
    have dq := div_q h0 h1 iq qz
    by_cases hf : inr ((c : Rat) / q)
    case neg =>
      rw [pack_no hf] at dq
      rw [dpart_1 hq (by rw [dq]; decide)]
      exact ⟨.inr rfl, fun h => by cases h⟩
    rw [pack_ok hf] at dq
    have fz : (fdiv c 1 (up q).1 (up q).2).e = 0 := by rw [dq]
    rw [dpart_2 hq fz]
    have zi : ∀ i, i < A.length → Z.getD i (0, 0) = up (- qres (fA A) (fB B) (nx x) i) := fun i hi => by rw [hZ]; exact res_getD hi
    have each : ∀ i, i < A.length → dmulN Z (fdiv c 1 (up q).1 (up q).2) i = pack (- qres (fA A) (fB B) (nx x) i * ((c : Rat) / q)) := fun i hi => by
      unfold dmulN
      rw [zi i hi, dq]
      exact mul_q (rn i hi) hf
    have hok : ∀ i, i < Z.length → FOk (dmulN Z (fdiv c 1 (up q).1 (up q).2) i) := fun i hi => by rw [each i (by omega)]; exact pack_FOk _
    rcases rows_err16 hok Z.length (Nat.le_refl _) with hz | hz
    case inr => rw [hz]; exact ⟨.inr rfl, fun h => by cases h⟩
    refine ⟨.inl hz, fun _ => ?_⟩
    have each2 : ∀ i, i < A.length → inr (- qres (fA A) (fB B) (nx x) i * ((c : Rat) / q)) ∧ dmulN Z (fdiv c 1 (up q).1 (up q).2) i = uf (- qres (fA A) (fB B) (nx x) i * ((c : Rat) / q)) := fun i hi => by
      have h1 := (rows_each Z.length hz i (by omega)).1
      rw [each i hi] at h1 ⊢
      exact pack_val h1
    have hl := rows_list (f := dmulN Z (fdiv c 1 (up q).1 (up q).2)) (m := Z.length) fun i hi => (each2 i (by omega)).2
    rw [hl, zl]
    show witB A.length ((List.range A.length).map fun i => up (- qres (fA A) (fB B) (nx x) i * ((c : Rat) / q))) = true ∧ ∀ k, k < 3 → qcol (fA A) A.length (nx ((List.range A.length).map fun i => up (- qres (fA A) (fB B) (nx x) i * ((c : Rat) / q)))) k ≤ (c : Rat)
    have yw := wit_map (m := A.length) (g := fun i => - qres (fA A) (fB B) (nx x) i * ((c : Rat) / q)) fun i hi => (each2 i hi).1
    refine ⟨yw, fun k h3 => ?_⟩
    have e : qcol (fA A) A.length (nx ((List.range A.length).map fun i => up (- qres (fA A) (fB B) (nx x) i * ((c : Rat) / q)))) k = ((c : Rat) / q) * qcol (fA A) A.length (nx Z) k := by
      unfold qcol
      rw [← sm_mul]
      exact sm_congr A.length fun i hi => by
        rw [nx_map (g := fun i => - qres (fA A) (fB B) (nx x) i * ((c : Rat) / q)) hi, zx i hi]; grind
    rw [e]
    have f0 : 0 ≤ (c : Rat) / q := by
      rw [Rat.div_def]
      exact Rat.mul_nonneg c0 (Rat.le_of_lt (Rat.inv_pos.2 (by grind)))
    rcases Nat.lt_or_ge k n with h4 | h4
    · have h5 : qcol (fA A) A.length (nx Z) k ≤ q := m4 k (by omega)
      have h6 := Rat.mul_le_mul_of_nonneg_left h5 f0
      rw [Rat.div_mul_cancel qz] at h6
      exact h6
    · rw [col_out hF h4]; grind
  rw [negs_map]
  exact key _ rfl
/-- A witness that is feasible, with its gap: the price of the point is at most its gap greater than that of the solution, and not less. -/
theorem gap_math (hs : scheck A B c = 0) (hp : npoint A B x = 0) (hw : witB A.length y = true) (hf : ∀ k, k < 3 → qcol (fA A) A.length (nx y) k ≤ (c : Rat)) (e2 : (dgap A B c x y).e = 0) :
    fchk (dgap A B c x y).n (dgap A B c x y).d = 0 ∧ fchk (sCost A B c x).n (sCost A B c x).d = 0 ∧
    ∀ m : FR, fsub (sCost A B c x).n (sCost A B c x).d (uf (qprice (fA A) (fB B) A.length (c : Rat) (nsx A B c))).n (uf (qprice (fA A) (fB B) A.length (c : Rat) (nsx A B c))).d = m → (m.e = 0 ∨ m.e = 16) ∧ (m.e = 0 → fchk m.n m.d = 0 ∧ fcmp m.n m.d (dgap A B c x y).n (dgap A B c x y).d ≤ 0 ∧ 0 ≤ m.n) := by
  obtain ⟨hc, h0, h1⟩ := scheck_of hs
  obtain ⟨p1, p2, i3, v3⟩ := (dgap_val hs hp hw).2.1 e2
  obtain ⟨_, i2, v2⟩ := cost_val hs hp p1
  have hk := sol_kkt' (fit_of hc) h0
  have wk := weak_dual (b := fB B) (c := (c : Rat)) hk.1 hf
  have hl := kkt_least (fA A) (fB B) A.length _ hk (fun k _ => point_nn hp k)
  have ic := (sol_s hs).cin
  have gc : fchk (dgap A B c x y).n (dgap A B c x y).d = 0 := by rw [v3]; exact up_chk i3
  refine ⟨gc, by rw [v2]; exact up_chk i2, fun m hm => ?_⟩
  rw [v2, sub_q i2 ic] at hm
  subst hm
  refine ⟨pack_err _, fun h => ?_⟩
  obtain ⟨j1, j2⟩ := pack_val h
  rw [j2, v3]
  refine ⟨up_chk j1, (cmp_le _ _).2 (by grind), num_nn (by grind)⟩
end
end Go.Proofs.Ythlcmlngmcoknaa

/- What is proved here: equations of at most three unknowns solved by sweeps over whole numbers: the pivots are minors, the results the numerators of the set's point. No program in sight. Condition: the numbers of a fit and a cost. -/
namespace Go.Proofs.Ythlcmlngmcoknaa
open Go.RowKit

/-- The rows at the start: the square matrix, and behind it the right sides. -/
def sp0 (g : Nat → Nat → Int) (d : Nat → Int) (r c : Nat) : Int := if c < 3 then g r c else d r
/-- One sweep over the rows of a set. -/
def swp (S : Nat) (f : Nat → Nat → Int) (den : Int) (p r c : Nat) : Int := if S.testBit r = true ∧ r ≠ p then (f r c * f p p - f r p * f p c).tdiv den else f r c
/-- The rows and the denominator after the first k unknowns. -/
def spr (S : Nat) (g : Nat → Nat → Int) (d : Nat → Int) : Nat → (Nat → Nat → Int) × Int
  | 0 => (sp0 g d, 1)
  | k + 1 => if S.testBit k = true then (swp S (spr S g d k).1 (spr S g d k).2 k, (spr S g d k).1 k k) else spr S g d k
theorem spr_yes {S : Nat} {g : Nat → Nat → Int} {d : Nat → Int} {k : Nat} (h : S.testBit k = true) : spr S g d (k + 1) = (swp S (spr S g d k).1 (spr S g d k).2 k, (spr S g d k).1 k k) := if_pos h
theorem spr_no {S : Nat} {g : Nat → Nat → Int} {d : Nat → Int} {k : Nat} (h : S.testBit k = false) : spr S g d (k + 1) = spr S g d k := if_neg (by rw [h]; decide)
/-- A minor of two rows. -/
def m2 (f : Nat → Nat → Int) (i j a b : Nat) : Int := f i a * f j b - f i b * f j a
/-- A minor of three rows. -/
def m3 (f : Nat → Nat → Int) (a b c : Nat) : Int := f 0 a * (f 1 b * f 2 c - f 1 c * f 2 b) - f 0 b * (f 1 a * f 2 c - f 1 c * f 2 a) + f 0 c * (f 1 a * f 2 b - f 1 b * f 2 a)
theorem tdiv_exact {M N X : Int} (hM : M ≠ 0) (h : X = M * N) : X.tdiv M = N := by rw [h, Int.mul_tdiv_cancel_left _ hM]
section
variable (f : Nat → Nat → Int)
/-- After the first pivot i, the row j. -/
theorem sw1 (S i j c : Nat) (hj : S.testBit j = true) (hne : j ≠ i) : swp S f 1 i j c = m2 f i j i c := by
  unfold swp m2
  rw [if_pos ⟨hj, hne⟩, Int.tdiv_one]; grind
theorem sw_same (S : Nat) (den : Int) (p c : Nat) : swp S f den p p c = f p c := by unfold swp; rw [if_neg (by simp)]
/-- After the pivots i and j: the row i. -/
theorem sw2_i (S i j c : Nat) (hi : S.testBit i = true) (hj : S.testBit j = true) (hne : i ≠ j) (h0 : f i i ≠ 0) : swp S (swp S f 1 i) (f i i) j i c = m2 f i j c j := by
  show (if S.testBit i = true ∧ i ≠ j then _ else _) = _
  rw [if_pos ⟨hi, hne⟩, sw_same, sw_same, sw1 f S i j j hj (Ne.symm hne), sw1 f S i j c hj (Ne.symm hne)]
  refine tdiv_exact h0 ?_
  unfold m2; grind
theorem sw2_j (S i j c : Nat) (hj : S.testBit j = true) (hne : i ≠ j) : swp S (swp S f 1 i) (f i i) j j c = m2 f i j i c := by
  rw [sw_same, sw1 f S i j c hj (Ne.symm hne)]
/-- After the pivots 0 and 1: the row 2. -/
theorem sw2_2 (c : Nat) (h0 : f 0 0 ≠ 0) : swp 7 (swp 7 f 1 0) (f 0 0) 1 2 c = m3 f 0 1 c := by
  show (if (7 : Nat).testBit 2 = true ∧ 2 ≠ 1 then _ else _) = _
  rw [if_pos (by decide), sw1 f 7 0 2 c (by decide) (by decide), sw1 f 7 0 1 1 (by decide) (by decide), sw1 f 7 0 2 1 (by decide) (by decide), sw1 f 7 0 1 c (by decide) (by decide)]
  refine tdiv_exact h0 ?_
  unfold m2 m3; grind
/-- After all three pivots. -/
theorem sw3 (h0 : f 0 0 ≠ 0) (h1 : m2 f 0 1 0 1 ≠ 0) (c : Nat) :
    swp 7 (swp 7 (swp 7 f 1 0) (f 0 0) 1) (m2 f 0 1 0 1) 2 0 c = m3 f c 1 2 ∧ swp 7 (swp 7 (swp 7 f 1 0) (f 0 0) 1) (m2 f 0 1 0 1) 2 1 c = m3 f 0 c 2 ∧ swp 7 (swp 7 (swp 7 f 1 0) (f 0 0) 1) (m2 f 0 1 0 1) 2 2 c = m3 f 0 1 c := by
  refine ⟨?_, ?_, ?_⟩
  · show (if (7 : Nat).testBit 0 = true ∧ 0 ≠ 2 then _ else _) = _
    rw [if_pos (by decide), sw2_2 f c h0, sw2_2 f 2 h0, sw2_i f 7 0 1 c (by decide) (by decide) (by decide) h0, sw2_i f 7 0 1 2 (by decide) (by decide) (by decide) h0]
    refine tdiv_exact h1 ?_
    unfold m2 m3; grind
  · show (if (7 : Nat).testBit 1 = true ∧ 1 ≠ 2 then _ else _) = _
    rw [if_pos (by decide), sw2_2 f c h0, sw2_2 f 2 h0, sw2_j f 7 0 1 c (by decide) (by decide), sw2_j f 7 0 1 2 (by decide) (by decide)]
    refine tdiv_exact h1 ?_
    unfold m2 m3; grind
  · rw [sw_same, sw2_2 f c h0]
end
end Go.Proofs.Ythlcmlngmcoknaa

/- What is proved here: the sweeps of a fit's set: nothing is too great, a pivot that is 0 makes the set not free, and what comes out is the set's point. No program in sight. Condition: the numbers of a valid fit and a cost. -/
namespace Go.Proofs.Ythlcmlngmcoknaa
open Go.RowKit

/-- A sweep whose numbers are not too great. -/
def swOk (S : Nat) (f : Nat → Nat → Int) (k : Nat) : Prop := ∀ r, r < 3 → S.testBit r = true → r ≠ k → ∀ c, c < 4 → wi 3000000000000000000 (f r c * f k k) ∧ wi 3000000000000000000 (f r k * f k c)
/-- The pivots before k are not 0. -/
def pivs (S : Nat) (g : Nat → Nat → Int) (d : Nat → Int) (k : Nat) : Prop := ∀ j, j < k → S.testBit j = true → (spr S g d j).1 j j ≠ 0
theorem m2_wi {f : Nat → Nat → Int} (h : ∀ r c, wi 3000 (f r c)) (i j a b : Nat) : wi 18000000 (m2 f i j a b) := by
  have h1 := wr_mulbd' (Z := 9000000) (h i a) (h j b) (by decide)
  have h2 := wr_mulbd' (Z := 9000000) (h i b) (h j a) (by decide)
  unfold wi m2; omega
theorem m3_wi {f : Nat → Nat → Int} (h : ∀ r c, wi 3000 (f r c)) (a b c : Nat) : wi 162000000000 (m3 f a b c) := by
  have h1 := wr_mulbd' (Z := 54000000000) (h 0 a) (m2_wi h 1 2 b c) (by decide)
  have h2 := wr_mulbd' (Z := 54000000000) (h 0 b) (m2_wi h 1 2 a c) (by decide)
  have h3 := wr_mulbd' (Z := 54000000000) (h 0 c) (m2_wi h 1 2 a b) (by decide)
  unfold m2 at h1 h2 h3
  unfold wi m3; omega
theorem prod_wi {x y X Y : Int} (hx : wi X x) (hy : wi Y y) (h : X * Y ≤ 3000000000000000000) : wi 3000000000000000000 (x * y) := wi_mono (wr_mulbd hx hy) h
section
variable {g : Nat → Nat → Int} {d : Nat → Int}
theorem sp0_wi (hg : ∀ k l, wi 3000 (g k l)) (hd : ∀ k, wi 3000 (d k)) (r c : Nat) : wi 3000 (sp0 g d r c) := by
  unfold sp0; split
  · exact hg _ _
  · exact hd _
theorem sp0_g {r c : Nat} (h : c < 3) : sp0 g d r c = g r c := if_pos h
theorem sp0_d {r : Nat} : sp0 g d r 3 = d r := rfl
/-- One sweep, of the rows i and j. -/
theorem ok_first (hg : ∀ k l, wi 3000 (g k l)) (hd : ∀ k, wi 3000 (d k)) (S k : Nat) : swOk S (sp0 g d) k := fun r _ _ _ c _ =>
  ⟨prod_wi (sp0_wi hg hd r c) (sp0_wi hg hd k k) (by decide), prod_wi (sp0_wi hg hd r k) (sp0_wi hg hd k c) (by decide)⟩
theorem ok_second (hg : ∀ k l, wi 3000 (g k l)) (hd : ∀ k, wi 3000 (d k)) (S i k : Nat) (hi : S.testBit k = true) (hne : k ≠ i) : swOk S (swp S (sp0 g d) 1 i) k := fun r h3 hr hrk c h4 => by
  have w0 := sp0_wi hg hd
  have e1 := fun c => sw1 (sp0 g d) S i k c hi hne
  by_cases hri : r = i
  · subst hri
    rw [sw_same, sw_same, e1, e1]
    exact ⟨prod_wi (w0 _ _) (m2_wi w0 _ _ _ _) (by decide), prod_wi (w0 _ _) (m2_wi w0 _ _ _ _) (by decide)⟩
  · have e2 := fun c => sw1 (sp0 g d) S i r c hr hri
    rw [e1, e1, e2, e2]
    exact ⟨prod_wi (m2_wi w0 _ _ _ _) (m2_wi w0 _ _ _ _) (by decide), prod_wi (m2_wi w0 _ _ _ _) (m2_wi w0 _ _ _ _) (by decide)⟩
theorem ok_third (hg : ∀ k l, wi 3000 (g k l)) (hd : ∀ k, wi 3000 (d k)) (h0 : sp0 g d 0 0 ≠ 0) : swOk 7 (swp 7 (swp 7 (sp0 g d) 1 0) (sp0 g d 0 0) 1) 2 := fun r h3 hr hrk c h4 => by
  have w0 := sp0_wi hg hd
  have e2 := fun c => sw2_2 (sp0 g d) c h0
  have ei := fun c => sw2_i (sp0 g d) 7 0 1 c (by decide) (by decide) (by decide) h0
  have ej := fun c => sw2_j (sp0 g d) 7 0 1 c (by decide) (by decide)
  rcases (by omega : r = 0 ∨ r = 1) with rfl | rfl
  · rw [ei, ei, e2, e2]
    exact ⟨prod_wi (m2_wi w0 _ _ _ _) (m3_wi w0 _ _ _) (by decide), prod_wi (m2_wi w0 _ _ _ _) (m3_wi w0 _ _ _) (by decide)⟩
  · rw [ej, ej, e2, e2]
    exact ⟨prod_wi (m2_wi w0 _ _ _ _) (m3_wi w0 _ _ _) (by decide), prod_wi (m2_wi w0 _ _ _ _) (m3_wi w0 _ _ _) (by decide)⟩
/-- No step of the sweeps is too great. -/
theorem spr_ok (hg : ∀ k l, wi 3000 (g k l)) (hd : ∀ k, wi 3000 (d k)) {S k : Nat} (hS : S < 8) (hk : k < 3) (hb : S.testBit k = true) (hp : pivs S g d k) : swOk S (spr S g d k).1 k := by
  have first := ok_first hg hd
  have second := ok_second hg hd
  rcases cases8 hS with rfl | rfl | rfl | rfl | rfl | rfl | rfl | rfl <;> rcases cases3 hk with rfl | rfl | rfl <;> first | (exact absurd hb (by decide)) | skip
  · exact first 1 0
  · rw [spr_no (by decide)]; exact first 2 1
  · exact first 3 0
  · rw [spr_yes (by decide)]; exact second 3 0 1 (by decide) (by decide)
  · rw [spr_no (by decide), spr_no (by decide)]; exact first 4 2
  · exact first 5 0
  · rw [spr_no (by decide), spr_yes (by decide)]; exact second 5 0 2 (by decide) (by decide)
  · rw [spr_no (by decide)]; exact first 6 1
  · rw [spr_yes (by decide), spr_no (by decide)]; exact second 6 1 2 (by decide) (by decide)
  · exact first 7 0
  · rw [spr_yes (by decide)]; exact second 7 0 1 (by decide) (by decide)
  · have h0 : sp0 g d 0 0 ≠ 0 := hp 0 (by omega) (by decide)
    rw [spr_yes (by decide), spr_yes (by decide)]; exact ok_third hg hd h0
theorem spr_end {S : Nat} (hS : S < 8) (hp : pivs S g d 3) : (spr S g d 3).2 = den8 g S ∧ ∀ p, p < 3 → S.testBit p = true → (spr S g d 3).1 p 3 = num8 g d S p := by
  rcases cases8 hS with rfl | rfl | rfl | rfl | rfl | rfl | rfl | rfl
  · exact ⟨rfl, fun p hp hb => by rcases cases3 hp with rfl | rfl | rfl <;> exact absurd hb (by decide)⟩
  · rw [spr_no (by decide), spr_no (by decide), spr_yes (by decide)]
    refine ⟨rfl, fun p hp hb => ?_⟩
    rcases cases3 hp with rfl | rfl | rfl <;> first | (exact absurd hb (by decide)) | skip
    show swp 1 (sp0 g d) 1 0 0 3 = _
    rw [sw_same]; rfl
  · rw [spr_no (by decide), spr_yes (by decide), spr_no (by decide)]
    refine ⟨rfl, fun p hp hb => ?_⟩
    rcases cases3 hp with rfl | rfl | rfl <;> first | (exact absurd hb (by decide)) | skip
    show swp 2 (sp0 g d) 1 1 1 3 = _
    rw [sw_same]; rfl
  · have h0 : sp0 g d 0 0 ≠ 0 := hp 0 (by omega) (by decide)
    rw [spr_no (by decide), spr_yes (by decide), spr_yes (by decide)]
    refine ⟨?_, fun p hp hb => ?_⟩
    · show swp 3 (sp0 g d) 1 0 1 1 = _
      rw [sw1 _ 3 0 1 1 (by decide) (by decide)]; simp [m2, sp0, den8, det2]
    · rcases cases3 hp with rfl | rfl | rfl <;> first | (exact absurd hb (by decide)) | skip
      · show swp 3 (swp 3 (sp0 g d) 1 0) (sp0 g d 0 0) 1 0 3 = _
        rw [sw2_i _ 3 0 1 3 (by decide) (by decide) (by decide) h0]; simp [m2, sp0, num8, det2]
      · show swp 3 (swp 3 (sp0 g d) 1 0) (sp0 g d 0 0) 1 1 3 = _
        rw [sw2_j _ 3 0 1 3 (by decide) (by decide)]; simp [m2, sp0, num8, det2]
  · rw [spr_yes (by decide), spr_no (by decide), spr_no (by decide)]
    refine ⟨rfl, fun p hp hb => ?_⟩
    rcases cases3 hp with rfl | rfl | rfl <;> first | (exact absurd hb (by decide)) | skip
    show swp 4 (sp0 g d) 1 2 2 3 = _
    rw [sw_same]; rfl
  · have h0 : sp0 g d 0 0 ≠ 0 := hp 0 (by omega) (by decide)
    rw [spr_yes (by decide), spr_no (by decide), spr_yes (by decide)]
    refine ⟨?_, fun p hp hb => ?_⟩
    · show swp 5 (sp0 g d) 1 0 2 2 = _
      rw [sw1 _ 5 0 2 2 (by decide) (by decide)]; simp [m2, sp0, den8, det2]
    · rcases cases3 hp with rfl | rfl | rfl <;> first | (exact absurd hb (by decide)) | skip
      · show swp 5 (swp 5 (sp0 g d) 1 0) (sp0 g d 0 0) 2 0 3 = _
        rw [sw2_i _ 5 0 2 3 (by decide) (by decide) (by decide) h0]; simp [m2, sp0, num8, det2]
      · show swp 5 (swp 5 (sp0 g d) 1 0) (sp0 g d 0 0) 2 2 3 = _
        rw [sw2_j _ 5 0 2 3 (by decide) (by decide)]; simp [m2, sp0, num8, det2]
  · have h0' := hp 1 (by omega) (by decide)
    rw [spr_no (by decide)] at h0'
    have h0 : sp0 g d 1 1 ≠ 0 := h0'
    rw [spr_yes (by decide), spr_yes (by decide), spr_no (by decide)]
    refine ⟨?_, fun p hp hb => ?_⟩
    · show swp 6 (sp0 g d) 1 1 2 2 = _
      rw [sw1 _ 6 1 2 2 (by decide) (by decide)]; simp [m2, sp0, den8, det2]
    · rcases cases3 hp with rfl | rfl | rfl <;> first | (exact absurd hb (by decide)) | skip
      · show swp 6 (swp 6 (sp0 g d) 1 1) (sp0 g d 1 1) 2 1 3 = _
        rw [sw2_i _ 6 1 2 3 (by decide) (by decide) (by decide) h0]; simp [m2, sp0, num8, det2]
      · show swp 6 (swp 6 (sp0 g d) 1 1) (sp0 g d 1 1) 2 2 3 = _
        rw [sw2_j _ 6 1 2 3 (by decide) (by decide)]; simp [m2, sp0, num8, det2]
  · have h0 : sp0 g d 0 0 ≠ 0 := hp 0 (by omega) (by decide)
    have h1 := hp 1 (by omega) (by decide)
    rw [spr_yes (by decide)] at h1
    have h1' : m2 (sp0 g d) 0 1 0 1 ≠ 0 := by
      have e := sw1 (sp0 g d) 7 0 1 1 (by decide) (by decide)
      intro h
      exact h1 (e.trans h)
    have e1 : swp 7 (sp0 g d) 1 0 1 1 = m2 (sp0 g d) 0 1 0 1 := sw1 _ 7 0 1 1 (by decide) (by decide)
    rw [spr_yes (by decide), spr_yes (by decide), spr_yes (by decide)]
    have e3 : (swp 7 (spr 7 g d 0).1 (spr 7 g d 0).2 0) 1 1 = m2 (sp0 g d) 0 1 0 1 := e1
    refine ⟨?_, fun p hp hb => ?_⟩
    · show swp 7 (swp 7 (sp0 g d) 1 0) (sp0 g d 0 0) 1 2 2 = _
      rw [sw2_2 _ 2 h0]; simp [m3, sp0, den8, det3]
    · have h3 := sw3 (sp0 g d) h0 h1' 3
      rw [← e1] at h3
      rcases cases3 hp with rfl | rfl | rfl
      · refine h3.1.trans ?_
        simp [m3, sp0, num8, det3]
      · refine h3.2.1.trans ?_
        simp [m3, sp0, num8, det3]
      · refine h3.2.2.trans ?_
        simp [m3, sp0, num8, det3]
end
section
variable (a : Nat → Nat → Int) (m : Nat)
/-- Where the first two unknowns are not free, all three are not. -/
theorem pair7 (h0 : det2 (qg a m 0 0) (qg a m 0 1) (qg a m 1 0) (qg a m 1 1) = 0) : den8 (qg a m) 7 = 0 := by
  obtain ⟨v, hv, ⟨k, hk, nk⟩, hz⟩ := null8 a m (S := 3) (by omega) h0
  have v2 : v 2 = 0 := hv 2 (by omega) (by decide)
  obtain ⟨_, hz⟩ := null_dot a m hz
  have e0 := hz 0
  have e1 := hz 1
  have e2 := hz 2
  rw [v2] at e0 e1 e2
  have hk' : k = 0 ∨ k = 1 := by
    rcases cases3 hk with h | h | h
    · exact .inl h
    · exact .inr h
    · subst h; exact absurd v2 nk
  show det3 _ _ _ _ _ _ _ _ _ = 0
  unfold det3
  generalize qg a m = g at *
  rcases hk' with rfl | rfl
  · have h1 : (g 0 0 * (g 1 1 * g 2 2 - g 1 2 * g 2 1) - g 0 1 * (g 1 0 * g 2 2 - g 1 2 * g 2 0) + g 0 2 * (g 1 0 * g 2 1 - g 1 1 * g 2 0)) * v 0 = 0 := by grind
    rcases Int.mul_eq_zero.1 h1 with h | h
    · exact h
    · exact absurd h nk
  · have h1 : (g 0 0 * (g 1 1 * g 2 2 - g 1 2 * g 2 1) - g 0 1 * (g 1 0 * g 2 2 - g 1 2 * g 2 0) + g 0 2 * (g 1 0 * g 2 1 - g 1 1 * g 2 0)) * v 1 = 0 := by grind
    rcases Int.mul_eq_zero.1 h1 with h | h
    · exact h
    · exact absurd h nk
/-- A pivot that is 0 makes the set not free. -/
theorem spr_zero {d : Nat → Int} {S k : Nat} (hS : S < 8) (hk : k < 3) (hb : S.testBit k = true) (hp : pivs S (qg a m) d k) (hz : (spr S (qg a m) d k).1 k k = 0) : den8 (qg a m) S = 0 := by
  have dg := fun i (h : qg a m i i = 0) l => diag_0 a m h l
  have sy := fun k l => qg_comm a m k l
  have p7 := pair7 a m
  have s0 : ∀ r c, c < 3 → sp0 (qg a m) d r c = qg a m r c := fun r c h => sp0_g h
  generalize qg a m = g at *
  have z := fun i (h : g i i = 0) => dg i h
  rcases cases8 hS with rfl | rfl | rfl | rfl | rfl | rfl | rfl | rfl <;> rcases cases3 hk with rfl | rfl | rfl <;> first | (exact absurd hb (by decide)) | skip
  · exact hz
  · rw [spr_no (by decide)] at hz; exact hz
  · have h : g 0 0 = 0 := hz
    have := z 0 h; show det2 _ _ _ _ = 0; unfold det2; simp [this]
  · rw [spr_yes (by decide)] at hz
    have h : swp 3 (sp0 g d) 1 0 1 1 = 0 := hz
    rw [sw1 _ 3 0 1 1 (by decide) (by decide)] at h
    show det2 _ _ _ _ = 0
    simp [m2, sp0] at h; unfold det2; exact h
  · rw [spr_no (by decide), spr_no (by decide)] at hz; exact hz
  · have h : g 0 0 = 0 := hz
    have := z 0 h; show det2 _ _ _ _ = 0; unfold det2; simp [this]
  · rw [spr_no (by decide), spr_yes (by decide)] at hz
    have h : swp 5 (sp0 g d) 1 0 2 2 = 0 := hz
    rw [sw1 _ 5 0 2 2 (by decide) (by decide)] at h
    show det2 _ _ _ _ = 0
    simp [m2, sp0] at h; unfold det2; exact h
  · rw [spr_no (by decide)] at hz
    have h : g 1 1 = 0 := hz
    have := z 1 h; show det2 _ _ _ _ = 0; unfold det2; simp [this]
  · rw [spr_yes (by decide), spr_no (by decide)] at hz
    have h : swp 6 (sp0 g d) 1 1 2 2 = 0 := hz
    rw [sw1 _ 6 1 2 2 (by decide) (by decide)] at h
    show det2 _ _ _ _ = 0
    simp [m2, sp0] at h; unfold det2; exact h
  · have h : g 0 0 = 0 := hz
    have h1 := z 0 h
    have h2 : ∀ l, g l 0 = 0 := fun l => by rw [sy]; exact h1 l
    show det3 _ _ _ _ _ _ _ _ _ = 0; unfold det3; simp [h1, h2]
  · rw [spr_yes (by decide)] at hz
    have h : swp 7 (sp0 g d) 1 0 1 1 = 0 := hz
    rw [sw1 _ 7 0 1 1 (by decide) (by decide)] at h
    refine p7 ?_
    simp [m2, sp0] at h; unfold det2; exact h
  · have h0 : sp0 g d 0 0 ≠ 0 := hp 0 (by omega) (by decide)
    rw [spr_yes (by decide), spr_yes (by decide)] at hz
    have h : swp 7 (swp 7 (sp0 g d) 1 0) (sp0 g d 0 0) 1 2 2 = 0 := hz
    rw [sw2_2 _ 2 h0] at h
    show det3 _ _ _ _ _ _ _ _ _ = 0
    simp [m3, sp0] at h; unfold det3; exact h
/-- No pivot is negative. -/
theorem piv_nn {d : Nat → Int} {S k : Nat} (hS : S < 8) (hk : k < 3) (hb : S.testBit k = true) (hp : pivs S (qg a m) d k) : 0 ≤ (spr S (qg a m) d k).1 k k := by
  have dg := fun i => diag_nn a m i
  have p01 := pair_nn a m 0 1 (by omega) (by omega)
  have p02 := pair_nn a m 0 2 (by omega) (by omega)
  have p12 := pair_nn a m 1 2 (by omega) (by omega)
  have t7 := den_nn a m (S := 7) (by omega)
  generalize qg a m = g at *
  rcases cases8 hS with rfl | rfl | rfl | rfl | rfl | rfl | rfl | rfl <;> rcases cases3 hk with rfl | rfl | rfl <;> first | (exact absurd hb (by decide)) | skip
  · exact dg 0
  · rw [spr_no (by decide)]; exact dg 1
  · exact dg 0
  · rw [spr_yes (by decide)]
    show 0 ≤ swp 3 (sp0 g d) 1 0 1 1
    rw [sw1 _ 3 0 1 1 (by decide) (by decide)]
    unfold det2 at p01; simpa [m2, sp0] using p01
  · rw [spr_no (by decide), spr_no (by decide)]; exact dg 2
  · exact dg 0
  · rw [spr_no (by decide), spr_yes (by decide)]
    show 0 ≤ swp 5 (sp0 g d) 1 0 2 2
    rw [sw1 _ 5 0 2 2 (by decide) (by decide)]
    unfold det2 at p02; simpa [m2, sp0] using p02
  · rw [spr_no (by decide)]; exact dg 1
  · rw [spr_yes (by decide), spr_no (by decide)]
    show 0 ≤ swp 6 (sp0 g d) 1 1 2 2
    rw [sw1 _ 6 1 2 2 (by decide) (by decide)]
    unfold det2 at p12; simpa [m2, sp0] using p12
  · exact dg 0
  · rw [spr_yes (by decide)]
    show 0 ≤ swp 7 (sp0 g d) 1 0 1 1
    rw [sw1 _ 7 0 1 1 (by decide) (by decide)]
    unfold det2 at p01; simpa [m2, sp0] using p01
  · have h0 : sp0 g d 0 0 ≠ 0 := hp 0 (by omega) (by decide)
    rw [spr_yes (by decide), spr_yes (by decide)]
    show 0 ≤ swp 7 (swp 7 (sp0 g d) 1 0) (sp0 g d 0 0) 1 2 2
    rw [sw2_2 _ 2 h0]
    have t7' : 0 ≤ det3 (g 0 0) (g 0 1) (g 0 2) (g 1 0) (g 1 1) (g 1 2) (g 2 0) (g 2 1) (g 2 2) := t7
    unfold det3 at t7'; simpa [m3, sp0] using t7'
theorem spr_pos {d : Nat → Int} {S : Nat} (hS : S < 8) : ∀ k, k ≤ 3 → pivs S (qg a m) d k → 1 ≤ (spr S (qg a m) d k).2
  | 0, _, _ => by show (1 : Int) ≤ 1; omega
  | k + 1, hk, hp => by
    by_cases hb : S.testBit k = true
    · rw [spr_yes hb]
      have h1 := piv_nn a m hS (by omega) hb (fun j hj hb' => hp j (by omega) hb')
      have h2 := hp k (by omega) hb
      show 1 ≤ (spr S (qg a m) d k).1 k k
      omega
    · rw [spr_no (by simpa using hb)]
      exact spr_pos hS k (by omega) fun j hj hb' => hp j (by omega) hb'
theorem spr_same {S n : Nat} {g : Nat → Nat → Int} {d : Nat → Int} (hS : S < 2 ^ n) : ∀ k, n ≤ k → spr S g d k = spr S g d n
  | 0, h => by obtain rfl : n = 0 := by omega
               rfl
  | k + 1, h => by
    rcases Nat.lt_or_ge n (k + 1) with h1 | h1
    · rw [spr_no (bit_out hS (by omega)), spr_same hS k (by omega)]
    · obtain rfl : n = k + 1 := by omega
      rfl
end
end Go.Proofs.Ythlcmlngmcoknaa

/- What is proved here: the contract of nnls.still. Condition: numbers within 3000, at most three unknowns, a set of them. -/
namespace Go.Proofs.Ythlcmlngmcoknaa
open Go.RowKit

/-- What a set's point is: numerators and denominator, all 0 where the set is not free. -/
def stN (g : Nat → Nat → Int) (d : Nat → Int) (S k : Nat) : Int := if den8 g S = 0 then 0 else num8 g d S k
def still_post (w : World) (g : Nat → Nat → Int) (d : Nat → Int) (S : Nat) (e : Ending) (w' : World) : Prop :=
  e = .returned (.tuple #[.agg (lcs (stN g d S)).toArray, .int .i64 (den8 g S)]) ∧ Below w.heap.size w w'
set_option maxRecDepth 100000 in
set_option maxHeartbeats 4000000 in
theorem nstill_any (g : Nat → Nat → Int) (d : Nat → Int) (n S : Nat) (w : World) (hn : n ≤ 3) (hS : S < 2 ^ n) (hg : ∀ k l, wi 3000 (g k l)) (hd : ∀ k, wi 3000 (d k)) :
    Calls Try.prog 112 #[.agg (mcs g).toArray, .agg (lcs d).toArray, .int .i64 n, .int .i64 S] w (still_post w g d S) := by
  have HG := Lib.hid hg
  have HD := Lib.hid hd
  have HS := Lib.hid hS
  clear hg hd hS
  rw [mcs_is, lcs_is]
  have oG := ((Own.new w 161 [.int .i64 (g 0 0), .int .i64 (g 0 1), .int .i64 (g 0 2), .int .i64 (g 1 0), .int .i64 (g 1 1), .int .i64 (g 1 2), .int .i64 (g 2 0), .int .i64 (g 2 1), .int .i64 (g 2 2)]).alloc (.cells #[.int .i64 (d 0), .int .i64 (d 1), .int .i64 (d 2)] 159)).alloc (.cells #[.int .i64 0, .int .i64 0, .int .i64 0] 159)
  have oD := (own_second w 159 [.int .i64 (d 0), .int .i64 (d 1), .int .i64 (d 2)] (.cells #[.int .i64 (g 0 0), .int .i64 (g 0 1), .int .i64 (g 0 2), .int .i64 (g 1 0), .int .i64 (g 1 1), .int .i64 (g 1 2), .int .i64 (g 2 0), .int .i64 (g 2 1), .int .i64 (g 2 2)] 161)).alloc (.cells #[.int .i64 0, .int .i64 0, .int .i64 0] 159)
  have oU := own_third w 159 [.int .i64 0, .int .i64 0, .int .i64 0] (.cells #[.int .i64 (g 0 0), .int .i64 (g 0 1), .int .i64 (g 0 2), .int .i64 (g 1 0), .int .i64 (g 1 1), .int .i64 (g 1 2), .int .i64 (g 2 0), .int .i64 (g 2 1), .int .i64 (g 2 2)] 161) (.cells #[.int .i64 (d 0), .int .i64 (d 1), .int .i64 (d 2)] 159)
  have hy := ba3 w (.cells #[.int .i64 (g 0 0), .int .i64 (g 0 1), .int .i64 (g 0 2), .int .i64 (g 1 0), .int .i64 (g 1 1), .int .i64 (g 1 2), .int .i64 (g 2 0), .int .i64 (g 2 1), .int .i64 (g 2 2)] 161) (.cells #[.int .i64 (d 0), .int .i64 (d 1), .int .i64 (d 2)] 159) (.cells #[.int .i64 0, .int .i64 0, .int .i64 0] 159)
  have HY := Lib.hid hy
  clear hy
  go_enter Try.func112, Try.ntmps112
  go_wp2
  generalize ((w.alloc (.cells #[.int .i64 (g 0 0), .int .i64 (g 0 1), .int .i64 (g 0 2), .int .i64 (g 1 0), .int .i64 (g 1 1), .int .i64 (g 1 2), .int .i64 (g 2 0), .int .i64 (g 2 1), .int .i64 (g 2 2)] 161)).alloc (.cells #[.int .i64 (d 0), .int .i64 (d 1), .int .i64 (d 2)] 159)).alloc (.cells #[.int .i64 0, .int .i64 0, .int .i64 0] 159) = y at *
  obtain ⟨z, hz⟩ : ∃ z, z = w.heap.size := ⟨_, rfl⟩
  rw [← hz] at oG oD oU ⊢
  have HZ := Lib.hid hz
  clear hz
  rw [← mcs_is] at oG
  rw [← lcs_is] at oD
  have OG := Lib.hid oG
  have OD := Lib.hid oD
  have OU : Hid (Own y (z + 1 + 1) 159 (lcs fun _ => 0)) := oU
  clear oG oD oU
  go_loopw [10, 11] (fun ov i wr => ∃ k : Nat, k ≤ n ∧ i = .int .i64 k ∧ wr.ownsRow y.heap.size 3 1 ov (ins S k).length (ics (ins S k)) ∧ Below y.heap.size y wr) (fun _ i _ => n - (intOf i).toNat)
  case atStart => exact ⟨0, Nat.zero_le _, rfl, World.ownsRow_nil _ _ _ _, Below.refl _ _⟩
  case round =>
    obtain ⟨k, hk, rfl, ow, hW⟩ := hrel
    rename World => W
    by_cases hlt : k < n
    · have hzs := hW.size
      have hl := ins_len S k
      have hbt := bit_test (S := S) (k := k) (set8 hn HS.out) (by omega)
      by_cases hb : S.testBit k = true
      · have EI := Lib.hid (ins_yes hb)
        rw [hb] at hbt
        clear hb
        go_wp2_with (at_builtin; refine wpList_app _ rfl _ _ _ rfl y.heap.size 3 1 8 (.int .i64 0) Try.underlying23 Try.infoInt rfl (by omega) (by omega) _ (ins S k).length _ rfl (ow.alloc _) (by omega) (by simp; omega) W.heap.size [.int .i64 k] (0, 0) rfl (heap_alloc_new W _) rfl (by simp [Value.oneCell']) ?_; intro gq cap w2 hown hgq hbw)
        go_wp2
        go_roundw
        case rel =>
          refine ⟨k + 1, by omega, by go_num, ?_, (hW.alloc hzs _).trans hbw⟩
          rw [EI.out]
          simpa [ics] using hown
        case measure => simp [intOf]; try omega
      · have EI := Lib.hid (ins_no (show S.testBit k = false by simpa using hb))
        rw [show S.testBit k = false by simpa using hb] at hbt
        clear hb
        go_wp2
        go_roundw
        case rel =>
          refine ⟨k + 1, by omega, by go_num, ?_, hW⟩
          rw [EI.out]; exact ow
        case measure => simp [intOf]; try omega
    · obtain rfl : k = n := by omega
      have hl := ins_len S k
      have sI : SI W _ (ins S k) := owns_sl ow (by omega)
      have hfv := owns_frv ow
      have HX := Lib.hid (fun i (hi : i < (ins S k).length) => xn_cast hi)
      have hL : (ins S k).length ≤ 3 := by omega
      have DEN := Lib.hid (still_den g hn HS.out)
      have NUM := Lib.hid (fun q (hq : q < 3) => still_num g d (k := q) hn HS.out hq)
      clear ow
      generalize ins S k = xs at *
      obtain ⟨adi, capi, e, hi1, hi2, _⟩ := sI.open
      subst e
      have SI0 := Lib.hid sI
      have HFV := Lib.hid hfv
      have OGW := Lib.hid (OG.out.below hW)
      have ODW := Lib.hid (OD.out.below hW)
      have OUW := Lib.hid (OU.out.below hW)
      have hBW := Lib.hid (below_to HY.out hW)
      have hzs := hW.size
      have HZ2 : z + 1 + 1 < y.heap.size := OU.out.lt
      clear sI hfv hW OG OD OU
      have oM := Own.new W 161 (mcs fun _ _ => 0)
      have hM := ba1 W (.cells (mcs fun _ _ => 0).toArray 161)
      rw [← mpart_0 (g := g) (xs := xs)] at oM
      go_wp2
      go_loopw [38] (fun i wr => ∃ i' : Nat, i' ≤ xs.length ∧ i = .int .i64 i' ∧ Own wr W.heap.size 161 (mcs (mpart g xs i' 0)) ∧ Below W.heap.size W wr) (fun i _ => xs.length - (intOf i).toNat)
      case atStart => exact ⟨0, Nat.zero_le _, rfl, oM, hM⟩
      case round =>
        clear oM hM
        obtain ⟨i, hi, rfl, oM, hM⟩ := hrel
        rename World => W1
        by_cases hil : i < xs.length
        · obtain ⟨_, _, e, _, _, H⟩ := (SI0.out.below hM).open
          cases e
          obtain ⟨b, off, rfl, c1⟩ := H.out i hil
          clear H
          obtain ⟨x1, x2⟩ := HX.out i hil
          rw [x1] at c1
          clear x1
          go_wp2
          go_loopw [45] (fun j wr => ∃ j' : Nat, j' ≤ xs.length ∧ j = .int .i64 j' ∧ Own wr W.heap.size 161 (mcs (mpart g xs i j')) ∧ Below W.heap.size W wr) (fun j _ => xs.length - (intOf j).toNat)
          case atStart => exact ⟨0, Nat.zero_le _, rfl, oM, hM⟩
          case round =>
            clear oM hM c1
            obtain ⟨j, hj, rfl, oM, hM⟩ := hrel
            rename World => W2
            by_cases hjl : j < xs.length
            · obtain ⟨_, _, e, _, _, H⟩ := (SI0.out.below hM).open
              cases e
              obtain ⟨b, off, e, c1⟩ := H.out j hjl
              cases e
              clear H
              obtain ⟨x1, x3⟩ := HX.out j hjl
              rw [x1] at c1
              clear x1
              have oG := OGW.out.below hM
              obtain ⟨rG, fG⟩ := oG.rules
              have zG := oG.lt
              obtain ⟨rM, fM⟩ := oM.rules
              have zM := oM.lt
              have g0 := mcs_get g (k := xn xs i) (l := xn xs j) (by omega) (by omega)
              obtain ⟨vm, m0⟩ : ∃ v, (mcs (mpart g xs i j))[i * 3 + j]? = some v := ⟨_, mcs_get _ (by omega) (by omega)⟩
              go_wp2_with fail
              have gl := @grow_lt
              refine wp_region_st [.t [0, 1, 2, 3, 4, 5, 6, 7, 8]] [9] (by kernel_rfl) (by kernel_rfl) (fun _ _ _ _ _ h => h) ?_
              refine wpX_t ?_
              try simp only [opsAt, List.getElem?_toArray, List.getElem?_cons_zero, List.getElem?_cons_succ, Option.getD_some]
              repeat (go_big_quiet_step (fail))
              refine wpQuiet_nil ?_
              refine wpX_nil ?_
              try simp only [opsAt, List.getElem?_toArray, List.getElem?_cons_zero, List.getElem?_cons_succ, Option.getD_some]
              clear gl
              go_wp2
              go_roundw
              case rel =>
                refine ⟨j + 1, by omega, by go_num, ?_, hM.drew.setCell (p := ⟨W.heap.size, i * 3 + j, none⟩) (by simp) _⟩
                have o2 := oM.drew.set (i * 3 + j) (.int .i64 (g (xn xs i) (xn xs j)))
                rw [mcs_set _ (by omega) (by omega), mpart_put hjl] at o2
                exact o2
              case measure => simp [intOf]; try omega
            · obtain rfl : j = xs.length := by omega
              rw [mpart_row] at oM
              go_wp2
              go_roundw
              case rel => exact ⟨i + 1, by omega, by go_num, oM, hM⟩
              case measure => simp [intOf]; try omega
        · obtain rfl : i = xs.length := by omega
          have MW : Hid (∀ i j, wi 3000 (mfull g xs i j)) := fun i j => mpart_wi HG.out _ _ _ _
          have oM' : Own W1 W.heap.size 161 (mcs (mfull g xs)) := oM
          clear oM
          have oM := oM'
          rw [mcs_is] at oM
          obtain ⟨rM, fM⟩ := oM.rules
          have zM := oM.lt
          go_wp2_with fail
          refine (ndetM_any xs.length (mfull g xs) _ _ hL MW.out DEN.out).mono ?_
          rintro e W2 ⟨rfl, hq⟩
          clear rM fM zM oM
          have hM2 := below_to hM hq
          have oM2 := Lib.hid (oM'.below hq)
          clear hM hq oM'
          by_cases hz : den8 g S = 0
          · have oU := OUW.out.below hM2
            rw [hz]
            rw [lcs_is] at oU
            obtain ⟨rU, fU⟩ := oU.rules
            have zU := oU.lt
            have hfin : Hid (Below z w W2) := by
              show Below z w W2
              have h1 := hBW.out
              rw [← HZ.out] at h1
              exact h1.trans (hM2.mono (by omega))
            go_wp2
            have oz := ((oU.set 0 (.int .i64 0)).set 1 (.int .i64 0)).set 2 (.int .i64 0)
            have bz := ((hfin.out.setCell (p := ⟨z + 1 + 1, 0, none⟩) (by simp; omega) (.int .i64 0)).setCell (p := ⟨z + 1 + 1, 1, none⟩) (by simp; omega) (.int .i64 0)).setCell (p := ⟨z + 1 + 1, 2, none⟩) (by simp; omega) (.int .i64 0)
            refine bp_gen' (fun X => Own X (z + 1 + 1) 159 _ ∧ Below z w X) ⟨oz, bz⟩ ?_
            rintro wz ⟨q1, q2⟩
            obtain ⟨r1, f1⟩ := q1.rules
            refine bodyPost_ret (v := .tuple #[.agg #[.int .i64 0, .int .i64 0, .int .i64 0], .int .i64 0]) (by simp [results, Try.results112, go_sem, r1]) rfl ⟨?_, by rw [← HZ.out]; exact q2⟩
            rw [lcs_is, hz]
            simp [stN, hz]
          have HNZ := Lib.hid hz
          have q0 : (den8 g S == 0) = false := by simpa using hz
          clear hz
          have oD := ODW.out.below hM2
          have oU : Own W2 (z + 1 + 1) 159 (lcs (npart g d xs 0)) := OUW.out.below hM2
          have sI := SI0.out.below hM2
          have oM := oM2.out
          have hF : Below z w W2 := by
            have h1 := hBW.out
            rw [← HZ.out] at h1
            exact h1.trans (hM2.mono (by omega))
          clear OUW ODW SI0 hM2 oM2 OGW hBW
          go_wp2
          go_loopw [70] (fun i wr => ∃ l : Nat, l ≤ xs.length ∧ i = .int .i64 l ∧ Own wr (z + 1) 159 (lcs d) ∧ Own wr (z + 1 + 1) 159 (lcs (npart g d xs l)) ∧ Own wr W.heap.size 161 (mcs (mfull g xs)) ∧ SI wr (.slice adi xs.length capi) xs ∧ Below z w wr) (fun i _ => xs.length - (intOf i).toNat)
          case atStart => exact ⟨0, Nat.zero_le _, rfl, oD, oU, oM, sI, hF⟩
          case round =>
            clear oD oU oM sI hF
            obtain ⟨l, hl', rfl, oD, oU, oM, sI, hF⟩ := hrel
            rename World => W3
            by_cases hll : l < xs.length
            · obtain ⟨_, _, e, _, _, H⟩ := sI.open
              cases e
              obtain ⟨b, off, rfl, c1⟩ := H.out l hll
              clear H
              obtain ⟨x1, x2⟩ := HX.out l hll
              rw [x1] at c1
              clear x1
              have SI3 := Lib.hid sI
              have OD3 := Lib.hid oD
              have OU3 := Lib.hid oU
              have OM3 := Lib.hid oM
              have HF3 := Lib.hid hF
              clear sI oD oU hF
              rw [mcs_is] at oM
              obtain ⟨rM, fM⟩ := oM.rules
              have zM := oM.lt
              have oQ := Own.new W3 161 (mcs (mfull g xs))
              have hQ := ba1 W3 (.cells (mcs (mfull g xs)).toArray 161)
              rw [← wcol_0 (M := mfull g xs) (d := d) (xs := xs) (j := l)] at oQ
              go_wp2
              clear rM fM oM
              go_loopw [78] (fun i wr => ∃ i' : Nat, i' ≤ xs.length ∧ i = .int .i64 i' ∧ Own wr W3.heap.size 161 (mcs (wcol (mfull g xs) d xs i' l)) ∧ Below W3.heap.size W3 wr) (fun i _ => xs.length - (intOf i).toNat)
              case atStart => exact ⟨0, Nat.zero_le _, rfl, oQ, hQ⟩
              case round =>
                clear oQ hQ c1
                obtain ⟨i, hi', rfl, oQ, hQ⟩ := hrel
                rename World => W4
                by_cases hil' : i < xs.length
                · obtain ⟨_, _, e, _, _, H⟩ := (SI3.out.below hQ).open
                  cases e
                  obtain ⟨b, off, e, c1⟩ := H.out i hil'
                  cases e
                  clear H
                  obtain ⟨x1, x3⟩ := HX.out i hil'
                  rw [x1] at c1
                  clear x1
                  have oD := OD3.out.below hQ
                  obtain ⟨rD, fD⟩ := oD.rules
                  have zD := oD.lt
                  obtain ⟨rQ, fQ⟩ := oQ.rules
                  have zQ := oQ.lt
                  have d0 := lcs_get d (k := xn xs i) (by omega)
                  obtain ⟨vm, m0⟩ : ∃ v, (mcs (wcol (mfull g xs) d xs i l))[i * 3 + l]? = some v := ⟨_, mcs_get _ (by omega) (by omega)⟩
                  go_wp2_with fail
                  have gl := @grow_lt
                  refine wp_region_st [.t [0, 1, 2, 3, 4, 5, 6]] [7] (by kernel_rfl) (by kernel_rfl) (fun _ _ _ _ _ h => h) ?_
                  refine wpX_t ?_
                  try simp only [opsAt, List.getElem?_toArray, List.getElem?_cons_zero, List.getElem?_cons_succ, Option.getD_some]
                  repeat (go_big_quiet_step (fail))
                  refine wpQuiet_nil ?_
                  refine wpX_nil ?_
                  try simp only [opsAt, List.getElem?_toArray, List.getElem?_cons_zero, List.getElem?_cons_succ, Option.getD_some]
                  clear gl
                  go_wp2
                  go_roundw
                  case rel =>
                    refine ⟨i + 1, by omega, by go_num, ?_, hQ.drew.setCell (p := ⟨W3.heap.size, i * 3 + l, none⟩) (by simp) _⟩
                    have o2 := oQ.drew.set (i * 3 + l) (.int .i64 (d (xn xs i)))
                    rw [mcs_set _ (by omega) (by omega), wcol_put] at o2
                    exact o2
                  case measure => simp [intOf]; try omega
                · obtain rfl : i = xs.length := by omega
                  have NW : Hid (∀ i j, wi 3000 (wcol (mfull g xs) d xs xs.length l i j)) := fun i j => wcol_wi MW.out HD.out _ _ _ _
                  have ED : Hid (lput (npart g d xs l) (xn xs l) (detM xs.length (wcol (mfull g xs) d xs xs.length l)) = npart g d xs (l + 1)) := rfl
                  have oU := OU3.out.below hQ
                  have oD := OD3.out.below hQ
                  have oM := OM3.out.below hQ
                  have sI := SI3.out.below hQ
                  have hF := HF3.out.trans (hQ.mono (by have := HF3.out.size; have := OM3.out.lt; omega))
                  have qM := oQ
                  rw [mcs_is] at qM
                  obtain ⟨rQ, fQ⟩ := qM.rules
                  have zQ := qM.lt
                  go_wp2_with fail
                  refine (ndetM_any xs.length (wcol (mfull g xs) d xs xs.length l) _ _ hL NW.out rfl).mono ?_
                  rintro e W5 ⟨rfl, hq⟩
                  clear rQ fQ zQ qM oQ hQ
                  have hz4 := oM.lt
                  replace oU := oU.below hq
                  replace oD := oD.below hq
                  replace oM := oM.below hq
                  replace sI := sI.below hq
                  replace hF := hF.trans (hq.mono (by omega))
                  clear hq
                  obtain ⟨rU, fU⟩ := oU.rules
                  have zU := oU.lt
                  obtain ⟨vm, m0⟩ : ∃ v, (lcs (npart g d xs l))[xn xs l]? = some v := ⟨_, lcs_get _ (by omega)⟩
                  go_wp2
                  go_roundw
                  case rel =>
                    refine ⟨l + 1, by omega, by go_num, oD.other (by omega) _ _, ?_, oM.other (by omega) _ _, sI.low HFV.out (by simp; omega) _, hF.setCell (p := ⟨z + 1 + 1, xn xs l, none⟩) (by simp; omega) _⟩
                    have o2 := oU.set (xn xs l) (.int .i64 (detM xs.length (wcol (mfull g xs) d xs xs.length l)))
                    rw [lcs_set _ (by omega), ED.out] at o2
                    exact o2
                  case measure => simp [intOf]; try omega
            · obtain rfl : l = xs.length := by omega
              rw [lcs_congr NUM.out, lcs_is] at oU
              obtain ⟨rU, fU⟩ := oU.rules
              have zU := oU.lt
              go_wp2
              have oz := ((oU.set 0 (.int .i64 (num8 g d S 0))).set 1 (.int .i64 (num8 g d S 1))).set 2 (.int .i64 (num8 g d S 2))
              have bz := ((hF.setCell (p := ⟨z + 1 + 1, 0, none⟩) (by simp; omega) (.int .i64 (num8 g d S 0))).setCell (p := ⟨z + 1 + 1, 1, none⟩) (by simp; omega) (.int .i64 (num8 g d S 1))).setCell (p := ⟨z + 1 + 1, 2, none⟩) (by simp; omega) (.int .i64 (num8 g d S 2))
              refine bp_gen' (fun X => Own X (z + 1 + 1) 159 _ ∧ Below z w X) ⟨oz, bz⟩ ?_
              rintro wz ⟨q1, q2⟩
              obtain ⟨r1, f1⟩ := q1.rules
              refine bodyPost_ret (v := .tuple #[.agg #[.int .i64 (num8 g d S 0), .int .i64 (num8 g d S 1), .int .i64 (num8 g d S 2)], .int .i64 (den8 g S)]) (by simp [results, Try.results112, go_sem, r1]) rfl ⟨?_, by rw [← HZ.out]; exact q2⟩
              rw [lcs_is]
              simp only [stN, if_neg HNZ.out]
theorem nstill_ex (g : Nat → Nat → Int) (d : Nat → Int) (n S : Nat) (w : World) (hn : n ≤ 3) (hS : S < 2 ^ n) (hg : ∀ k l, wi 3000 (g k l)) (hd : ∀ k, wi 3000 (d k)) :
    Calls Try.prog 112 #[.agg #[.int .i64 (g 0 0), .int .i64 (g 0 1), .int .i64 (g 0 2), .int .i64 (g 1 0), .int .i64 (g 1 1), .int .i64 (g 1 2), .int .i64 (g 2 0), .int .i64 (g 2 1), .int .i64 (g 2 2)], .agg #[.int .i64 (d 0), .int .i64 (d 1), .int .i64 (d 2)], .int .i64 n, .int .i64 S] w (still_post w g d S) := nstill_any g d n S w hn hS hg hd
end Go.Proofs.Ythlcmlngmcoknaa
