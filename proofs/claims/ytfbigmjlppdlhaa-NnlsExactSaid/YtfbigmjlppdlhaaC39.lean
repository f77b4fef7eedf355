/- What is proved here: contracts of functions and plain facts, several texts in one; each one says ahead what it proves, and its conditions. -/
import Derived.Test.YtfbigmjlppdlhaaC34
import Derived.Test.YtfbigmjlppdlhaaC38
import Derived.Test.YtfbigmjlppdlhaaC33
import Derived.Test.YtfbigmjlppdlhaaC06
import Derived.RegionTactic
import Derived.ChangeAlike
import Derived.BigRegion
import Derived.IntWalk
import Derived.Deep.DeepCutAuto
import Derived.Test.YtfbigmjlppdlhaaC18
/- What is proved here: what Optimal tells, in rational numbers; the solution of a fit against other points. No program in sight. Condition: valid fits and points. -/
namespace Go.Proofs.Ytfbigmjlppdlhaa
open Go.RowKit

theorem num_neg {x : Rat} : x.num < 0 ↔ x < 0 := by
  have h := Rat.num_nonneg (q := x)
  constructor
  · intro h1
    have : ¬ 0 ≤ x := fun h2 => by have := h.2 h2; omega
    grind
  · intro h1
    have : ¬ 0 ≤ x.num := fun h2 => by have := h.1 h2; grind
    omega
theorem num_pos {x : Rat} : 0 < x.num ↔ 0 < x := by
  have h := Rat.num_nonneg (q := -x)
  have e : (-x).num = -x.num := Rat.neg_num _
  rw [e] at h
  constructor
  · intro h1
    have : ¬ 0 ≤ -x := fun h2 => by have := h.2 h2; omega
    grind
  · intro h1
    have : ¬ 0 ≤ -x.num := fun h2 => by have := h.1 h2; grind
    omega
theorem cmp_le (v u : Rat) : fcmp v.num v.den u.num u.den ≤ 0 ↔ v ≤ u := by
  have h := fcmp_gt_iff (an := v.num) (ad := v.den) (bn := u.num) (bd := u.den)
  have h2 := Rat.le_iff (a := v) (b := u)
  rw [h2]
  omega
theorem cmp_ge (v u : Rat) : 0 ≤ fcmp v.num v.den u.num u.den ↔ u ≤ v := by
  rw [fcmp_ge, Rat.le_iff]
theorem cmp_eq (v u : Rat) : fcmp v.num v.den u.num u.den = 0 ↔ v = u := by
  have h1 := cmp_le v u
  have h2 := cmp_ge v u
  constructor
  · intro h
    have a := h1.1 (by omega)
    have b := h2.1 (by omega)
    grind
  · intro h
    have a := h1.2 (by grind)
    have b := h2.2 (by grind)
    omega
section
variable {A : List (List Int)} {B : List Int} {x : List (Int × Int)} {n : Nat}
theorem point_nn (hp : npoint A B x = 0) (k : Nat) : 0 ≤ nx x k := by
  obtain ⟨_, h⟩ := point_of hp
  rcases Nat.lt_or_ge k x.length with h1 | h1
  · obtain ⟨h2, h3⟩ := h k h1
    rw [nx_get h1]
    have := (Q_ok h2).1
    unfold qq
    rw [← Rat.num_nonneg, this]; exact h3
  · rw [nx_out h1]; grind
theorem nx_num (hp : npoint A B x = 0) {k : Nat} (hk : k < x.length) : x[k].1 = (nx x k).num := by
  obtain ⟨_, h⟩ := point_of hp
  rw [nx_get hk]
  exact (Q_ok (h k hk).1).1.symm
theorem point_len (hp : npoint A B x = 0) : x.length ≤ 3 := (point_of hp).1.cols.2
theorem grd_out (h : Fit A B n) {k : Nat} (hk : n ≤ k) (y : Nat → Rat) : qgrd (fA A) (fB B) A.length y k = 0 :=
  sm_0 A.length fun r hr => by
    have : fA A r k = 0 := by unfold fA ra; rw [h.out hr hk]; rfl
    rw [this]; grind
theorem slope_0 (y : Nat → Rat) (k : Nat) : qslope (fA A) (fB B) A.length ((0 : Int) : Rat) y k = qgrd (fA A) (fB B) A.length y k := by
  unfold qslope
  have : ((0 : Int) : Rat) = 0 := rfl
  rw [this]; grind
/-- A list of gradient's numbers and a point: the conditions of an optimum. -/
theorem nopt_iff (hp : npoint A B x = 0) (g : Nat → Rat) : noptB ((List.range x.length).map fun k => up (g k)) x x.length = true ↔ ∀ k, k < x.length → 0 ≤ g k ∧ (0 < g k → nx x k = 0) := by
  unfold noptB
  rw [List.all_eq_true]
  have key : ∀ k, k < x.length → ((!(decide ((((List.range x.length).map fun k => up (g k)).getD k (0, 0)).1 < 0) || (decide (0 < (((List.range x.length).map fun k => up (g k)).getD k (0, 0)).1) && decide (0 < (x.getD k (0, 0)).1)))) = true ↔ 0 ≤ g k ∧ (0 < g k → nx x k = 0)) := fun k hk => by
    have h1 : ((List.range x.length).map fun k => up (g k)).getD k (0, 0) = up (g k) := res_getD hk
    have h2 : (x.getD k (0, 0)).1 = (nx x k).num := by rw [getD_get hk]; exact nx_num hp hk
    have h3 := point_nn hp k
    rw [h1, h2]
    show ((!(decide ((g k).num < 0) || (decide (0 < (g k).num) && decide (0 < (nx x k).num)))) = true ↔ _)
    simp only [Bool.not_eq_true', Bool.or_eq_false_iff, Bool.and_eq_false_iff, decide_eq_false_iff_not, num_neg, num_pos]
    constructor
    · rintro ⟨h4, h5⟩
      refine ⟨by grind, fun h6 => ?_⟩
      rcases h5 with h5 | h5
      · exact absurd h6 h5
      · grind
    · rintro ⟨h4, h5⟩
      refine ⟨by grind, ?_⟩
      by_cases h6 : 0 < g k
      · right; rw [h5 h6]; grind
      · left; exact h6
  constructor
  · intro h k hk
    exact (key k hk).1 (h k (List.mem_range.2 hk))
  · intro h k hk
    have hk := List.mem_range.1 hk
    exact (key k hk).2 (h k hk)
theorem kkt_list (hp : npoint A B x = 0) : (∀ k, k < x.length → 0 ≤ qgrd (fA A) (fB B) A.length (nx x) k ∧ (0 < qgrd (fA A) (fB B) A.length (nx x) k → nx x k = 0)) ↔ qkkt (fA A) (fB B) A.length ((0 : Int) : Rat) (nx x) := by
  have hl := point_len hp
  constructor
  · intro h
    refine ⟨fun k _ => point_nn hp k, fun k hk => ?_⟩
    rw [slope_0]
    rcases Nat.lt_or_ge k x.length with h1 | h1
    · exact h k h1
    · rw [grd_out (point_of hp).1 h1]
      exact ⟨by grind, fun h => absurd h (by grind)⟩
  · intro h k hk
    have := h.2 k (by omega)
    rwa [slope_0] at this
/-- Optimal tells whether a point meets the conditions. -/
theorem opt_kkt (hp : npoint A B x = 0) (he : (nGradient A B x).2 = 0) : (nOptimal A B x).2 = 0 ∧ ((nOptimal A B x).1 = true ↔ qkkt (fA A) (fB B) A.length ((0 : Int) : Rat) (nx x)) := by
  obtain ⟨_, _, h3⟩ := ngrad_val hp (point_len hp) he
  rw [nOpt_0 he]
  refine ⟨rfl, ?_⟩
  show noptB (nGradient A B x).1 x (nGradient A B x).1.length = true ↔ _
  rw [h3, ← kkt_list hp]
  have hl : ((List.range x.length).map fun k => up (qgrd (ra (cel A)) (rb (nb B)) A.length (nx x) k)).length = x.length := by simp
  rw [hl]
  exact nopt_iff hp _
theorem opt_err (he : (nOptimal A B x).2 = 0) : (nGradient A B x).2 = 0 := by
  apply Classical.byContradiction
  intro h
  rw [nOpt_1 h] at he
  exact h he
/-- With the cost 0 the price is half of the value. -/
theorem price_val (y : Nat → Rat) : qprice (fA A) (fB B) A.length ((0 : Int) : Rat) y = qval (fA A) (fB B) A.length y / 2 := by
  unfold qprice
  have : ((0 : Int) : Rat) = 0 := rfl
  rw [this]; grind
theorem resid_err (hp : npoint A B x = 0) : (nResidual A B x).2 = 0 ∨ (nResidual A B x).2 = 16 := by
  have hF := FitX.of hp
  have e0 : nResidual A B x = nresidual A B x := if_pos hp
  rw [e0]
  rcases rows_err16 (f := nres A B x) (N := A.length) (fun i hi => hF.res_ok hi) A.length (Nat.le_refl _) with h | h
  · exact .inl h
  · right; unfold nresidual; rw [h]
theorem value_err (hp : npoint A B x = 0) : (nValue A B x).e = 0 ∨ (nValue A B x).e = 16 := by
  rcases resid_err hp with h | h
  · rw [nVal_0 h]
    have hF := FitX.of hp
    have e0 : nResidual A B x = nresidual A B x := if_pos hp
    rw [e0] at h ⊢
    rcases sq_ok (r := (nresidual A B x).1) (k := (nresidual A B x).1.length) (Nat.le_refl _) (resid_ok hF h).2 with h1 | h1
    · exact .inl h1.1
    · right; rw [h1]
  · rw [nVal_1 (by rw [h]; decide), h]; exact .inr rfl
theorem grad_err (hp : npoint A B x = 0) : (nGradient A B x).2 = 0 ∨ (nGradient A B x).2 = 16 := by
  rcases resid_err hp with h | h
  · rw [nGrad_0 h]
    have hF := FitX.of hp
    have e0 : nResidual A B x = nresidual A B x := if_pos hp
    rw [e0] at h ⊢
    obtain ⟨r1, r2⟩ := resid_ok hF h
    have hf : ∀ k, k < x.length → FOk (gsum (colT A (nresidual A B x).1 k) A.length) := fun k hk => gsum_FOk A.length fun j hj => by
      have hw : k < A[j].length := by rw [hF.wide j hj]; exact hk
      have h1 := hF.coef j hj k hw
      unfold colT
      rw [cel_get hj hw, getD_get (by omega)]
      exact ⟨fchk_small h1.1 h1.2, r2 j (by omega)⟩
    rcases rows_err16 (f := fun k => gsum (colT A (nresidual A B x).1 k) A.length) (N := x.length) hf x.length (Nat.le_refl _) with h | h
    · exact .inl h
    · right; rw [h]
  · rw [nGrad_1 (by rw [h]; decide), h]; exact .inr rfl
theorem opt_err16 (hp : npoint A B x = 0) : (nOptimal A B x).2 = 0 ∨ (nOptimal A B x).2 = 16 := by
  rcases grad_err hp with h | h
  · rw [nOpt_0 h]; exact .inl rfl
  · rw [nOpt_1 (by rw [h]; decide), h]; exact .inr rfl
end
section
variable {A : List (List Int)} {B : List Int} {p : List (Int × Int)}
/-- The solution against another point. -/
theorem best_fact (hc : ncheck A B = 0) (hp : npoint A B p = 0) (he : (nValue A B p).e = 0) :
    fchk (nValue A B p).n (nValue A B p).d = 0 ∧ fcmp (qval (fA A) (fB B) A.length (nsx A B 0)).num (qval (fA A) (fB B) A.length (nsx A B 0)).den (nValue A B p).n (nValue A B p).d ≤ 0 ∧
    ((nOptimal A B p).2 = 0 → ((nOptimal A B p).1 = decide (fcmp (qval (fA A) (fB B) A.length (nsx A B 0)).num (qval (fA A) (fB B) A.length (nsx A B 0)).den (nValue A B p).n (nValue A B p).d = 0))) := by
  have hF := fit_of hc
  obtain ⟨v1, v2⟩ := nval_val hp (point_len hp) he
  have hk := sol_kkt' hF (Int.le_refl 0)
  have hfe : qfeas (nx p) := fun k _ => point_nn hp k
  have h1 := kkt_least (fA A) (fB B) A.length _ hk hfe
  rw [price_val, price_val] at h1
  have h2 : qval (fA A) (fB B) A.length (nsx A B 0) ≤ qval (fA A) (fB B) A.length (nx p) := by grind
  rw [v2]
  refine ⟨up_chk v1, (cmp_le _ _).2 h2, fun ho => ?_⟩
  rw [Bool.eq_iff_iff, decide_eq_true_iff, (opt_kkt hp (opt_err ho)).2]
  refine Iff.trans ?_ (cmp_eq _ _).symm
  constructor
  · intro hq
    have := kkt_two (fA A) (fB B) A.length _ hk hq
    rw [price_val, price_val] at this
    have e : qval (fA A) (fB B) A.length (nsx A B 0) = qval (fA A) (fB B) A.length (nx p) := by grind
    exact e
  · intro hq
    have hq' : qval (fA A) (fB B) A.length (nsx A B 0) = qval (fA A) (fB B) A.length (nx p) := hq
    refine (kkt_same (fA A) (fB B) A.length _ hk hfe ?_).2
    rw [price_val, price_val, hq']
/-- The numbers of the solution and of its gradient. -/
structure SolGrad (A : List (List Int)) (B : List Int) (n : Nat) : Prop where
  opt : nOptimal A B (nsol A B 0 n) = (true, 0)
  glen : (nGradient A B (nsol A B 0 n)).1.length = n
  each : ∀ k, k < n → ∃ g : Rat, inr g ∧ (nGradient A B (nsol A B 0 n)).1[k]? = some (up g) ∧ 0 ≤ g ∧ (0 < g → (nsx A B 0 k).num = 0) ∧ (0 < (nsx A B 0 k).num → (nS A B 0).testBit k = true)
theorem sol_grad (hc : ncheck A B = 0) : SolGrad A B (A.getD 0 []).length := by
  have hF := fit_of hc
  have so := sol_ok hc (Int.le_refl 0) (by decide : (0 : Int) ≤ 1000)
  have hx := nx_sol hF (Int.le_refl 0)
  have hl : (nsol A B 0 (A.getD 0 []).length).length = (A.getD 0 []).length := nsol_len
  have n3 := hF.cols.2
  have hS := nS_spec hF (Int.le_refl 0)
  have hk := sol_kkt' hF (Int.le_refl 0)
  generalize (A.getD 0 []).length = n at *
  have ge : (nGradient A B (nsol A B 0 n)).2 = 0 := by rw [so.grad]
  refine ⟨?_, ?_, fun k hkn => ?_⟩
  · have h1 := opt_kkt so.point ge
    refine Prod.ext (h1.2.2 ?_) h1.1
    exact qkkt_congr hx hk
  · rw [so.grad]; simp
  · refine ⟨qgrd (fA A) (fB B) A.length (nsx A B 0) k, so.gin k, ?_, ?_, ?_, ?_⟩
    · rw [so.grad]; simp [hkn]
    · have := (hk.2 k (by omega)).1
      rwa [slope_0] at this
    · intro h1
      have := (hk.2 k (by omega)).2
      rw [slope_0] at this
      rw [this h1]; rfl
    · intro h1
      by_cases hb : (nS A B 0).testBit k = true
      · exact hb
      · have := xs8_sup (a := cel A) (b := nb B) (m := A.length) (c := 0) (set8 n3 hS.1) k (by omega) (by simpa using hb)
        have e : nsx A B 0 k = 0 := this
        rw [e] at h1
        exact absurd h1 (by decide)
/-- One number of the solution and of its gradient. -/
theorem sol_each (hc : ncheck A B = 0) {k : Nat} (hk : k < (A.getD 0 []).length) : ∃ gn gd xn xd : Int, fchk gn gd = 0 ∧ (nGradient A B (nsol A B 0 (A.getD 0 []).length)).1[k]? = some (gn, gd) ∧ (nsol A B 0 (A.getD 0 []).length)[k]? = some (xn, xd) ∧
    0 ≤ gn ∧ (0 < gn → xn = 0) ∧ (0 < xn → (nS A B 0).testBit k = true) ∧ 0 ≤ xn := by
  obtain ⟨g, h1, h2, h3, h4, h5⟩ := (sol_grad hc).each k hk
  have hx := nsol_get (A := A) (B := B) (c := 0) hk
  refine ⟨g.num, g.den, (nsx A B 0 k).num, (nsx A B 0 k).den, fchk_inr h1, h2, hx, Rat.num_nonneg.2 h3, fun h => h4 (num_pos.1 h), h5, ?_⟩
  exact (sol_chk (fit_of hc) (Int.le_refl 0) (by decide) _ (List.mem_of_getElem? hx)).2
end
/-- A binary digit that is set. -/
theorem bit_zero {S k : Nat} (hS : S < 8) (hk : k < 3) (h : S.testBit k = true) : (bits BinOp.and IntKind.i64 ((S : Int) / 2 ^ k) 1 == 0) = false := by
  have h1 := bit_test hS hk
  rw [h] at h1
  have h2 := eq_of_beq h1
  rw [h2]; rfl
end Go.Proofs.Ytfbigmjlppdlhaa

/- What is proved here: the contract of nnls.still. Condition: numbers within 3000, at most three unknowns, a set of them. -/
namespace Go.Proofs.Ytfbigmjlppdlhaa
open Go.RowKit

/-- What a set's point is: numerators and denominator, all 0 where the set is not free. -/
def stN (g : Nat → Nat → Int) (d : Nat → Int) (S k : Nat) : Int := if den8 g S = 0 then 0 else num8 g d S k
def still_post (w : World) (g : Nat → Nat → Int) (d : Nat → Int) (S : Nat) (e : Ending) (w' : World) : Prop :=
  e = .returned (.tuple #[.agg (lcs (stN g d S)).toArray, .int .i64 (den8 g S)]) ∧ Below w.heap.size w w'
set_option maxRecDepth 100000 in
set_option maxHeartbeats 4000000 in
theorem nstill_any (g : Nat → Nat → Int) (d : Nat → Int) (n S : Nat) (w : World) (hn : n ≤ 3) (hS : S < 2 ^ n) (hg : ∀ k l, wi 3000 (g k l)) (hd : ∀ k, wi 3000 (d k)) :
    Calls Try.prog 96 #[.agg (mcs g).toArray, .agg (lcs d).toArray, .int .i64 n, .int .i64 S] w (still_post w g d S) := by
  have HG := Lib.hid hg
  have HD := Lib.hid hd
  have HS := Lib.hid hS
  clear hg hd hS
  rw [mcs_is, lcs_is]
  have oG := ((Own.new w 99 [.int .i64 (g 0 0), .int .i64 (g 0 1), .int .i64 (g 0 2), .int .i64 (g 1 0), .int .i64 (g 1 1), .int .i64 (g 1 2), .int .i64 (g 2 0), .int .i64 (g 2 1), .int .i64 (g 2 2)]).alloc (.cells #[.int .i64 (d 0), .int .i64 (d 1), .int .i64 (d 2)] 97)).alloc (.cells #[.int .i64 0, .int .i64 0, .int .i64 0] 97)
  have oD := (own_second w 97 [.int .i64 (d 0), .int .i64 (d 1), .int .i64 (d 2)] (.cells #[.int .i64 (g 0 0), .int .i64 (g 0 1), .int .i64 (g 0 2), .int .i64 (g 1 0), .int .i64 (g 1 1), .int .i64 (g 1 2), .int .i64 (g 2 0), .int .i64 (g 2 1), .int .i64 (g 2 2)] 99)).alloc (.cells #[.int .i64 0, .int .i64 0, .int .i64 0] 97)
  have oU := own_third w 97 [.int .i64 0, .int .i64 0, .int .i64 0] (.cells #[.int .i64 (g 0 0), .int .i64 (g 0 1), .int .i64 (g 0 2), .int .i64 (g 1 0), .int .i64 (g 1 1), .int .i64 (g 1 2), .int .i64 (g 2 0), .int .i64 (g 2 1), .int .i64 (g 2 2)] 99) (.cells #[.int .i64 (d 0), .int .i64 (d 1), .int .i64 (d 2)] 97)
  have hy := ba3 w (.cells #[.int .i64 (g 0 0), .int .i64 (g 0 1), .int .i64 (g 0 2), .int .i64 (g 1 0), .int .i64 (g 1 1), .int .i64 (g 1 2), .int .i64 (g 2 0), .int .i64 (g 2 1), .int .i64 (g 2 2)] 99) (.cells #[.int .i64 (d 0), .int .i64 (d 1), .int .i64 (d 2)] 97) (.cells #[.int .i64 0, .int .i64 0, .int .i64 0] 97)
  have HY := Lib.hid hy
  clear hy
  go_enter Try.func96, Try.ntmps96
  go_wp2
  generalize ((w.alloc (.cells #[.int .i64 (g 0 0), .int .i64 (g 0 1), .int .i64 (g 0 2), .int .i64 (g 1 0), .int .i64 (g 1 1), .int .i64 (g 1 2), .int .i64 (g 2 0), .int .i64 (g 2 1), .int .i64 (g 2 2)] 99)).alloc (.cells #[.int .i64 (d 0), .int .i64 (d 1), .int .i64 (d 2)] 97)).alloc (.cells #[.int .i64 0, .int .i64 0, .int .i64 0] 97) = y at *
  obtain ⟨z, hz⟩ : ∃ z, z = w.heap.size := ⟨_, rfl⟩
  rw [← hz] at oG oD oU ⊢
  have HZ := Lib.hid hz
  clear hz
  rw [← mcs_is] at oG
  rw [← lcs_is] at oD
  have OG := Lib.hid oG
  have OD := Lib.hid oD
  have OU : Hid (Own y (z + 1 + 1) 97 (lcs fun _ => 0)) := oU
  clear oG oD oU
  go_loopw [10, 11] (fun ov i wr => ∃ k : Nat, k ≤ n ∧ i = .int .i64 k ∧ wr.ownsRow y.heap.size 3 1 ov (ins S k).length (ics (ins S k)) ∧ Below y.heap.size y wr) (fun _ i _ => n - (intOf i).toNat)
  case atStart => exact ⟨0, Nat.zero_le _, rfl, World.ownsRow_nil _ _ _ _, Below.refl _ _⟩
  case round =>
    obtain ⟨k, hk, rfl, ow, hW⟩ := hrel
    rename World => W
    by_cases hlt : k < n
    · have hzs := hW.size
      have hl := ins_len S k
      have hbt := bit_test (S := S) (k := k) (set8 hn HS.out) (by omega)
      by_cases hb : S.testBit k = true
      · have EI := Lib.hid (ins_yes hb)
        rw [hb] at hbt
        clear hb
        go_wp2_with (at_builtin; refine wpList_app _ rfl _ _ _ rfl y.heap.size 3 1 8 (.int .i64 0) Try.underlying23 Try.infoInt rfl (by omega) (by omega) _ (ins S k).length _ rfl (ow.alloc _) (by omega) (by simp; omega) W.heap.size [.int .i64 k] (0, 0) rfl (heap_alloc_new W _) rfl (by simp [Value.oneCell']) ?_; intro gq cap w2 hown hgq hbw)
        go_wp2
        go_roundw
        case rel =>
          refine ⟨k + 1, by omega, by go_num, ?_, (hW.alloc hzs _).trans hbw⟩
          rw [EI.out]
          simpa [ics] using hown
        case measure => simp [intOf]; try omega
      · have EI := Lib.hid (ins_no (show S.testBit k = false by simpa using hb))
        rw [show S.testBit k = false by simpa using hb] at hbt
        clear hb
        go_wp2
        go_roundw
        case rel =>
          refine ⟨k + 1, by omega, by go_num, ?_, hW⟩
          rw [EI.out]; exact ow
        case measure => simp [intOf]; try omega
    · obtain rfl : k = n := by omega
      have hl := ins_len S k
      have sI : SI W _ (ins S k) := owns_sl ow (by omega)
      have hfv := owns_frv ow
      have HX := Lib.hid (fun i (hi : i < (ins S k).length) => xn_cast hi)
      have hL : (ins S k).length ≤ 3 := by omega
      have DEN := Lib.hid (still_den g hn HS.out)
      have NUM := Lib.hid (fun q (hq : q < 3) => still_num g d (k := q) hn HS.out hq)
      clear ow
      generalize ins S k = xs at *
      obtain ⟨adi, capi, e, hi1, hi2, _⟩ := sI.open
      subst e
      have SI0 := Lib.hid sI
      have HFV := Lib.hid hfv
      have OGW := Lib.hid (OG.out.below hW)
      have ODW := Lib.hid (OD.out.below hW)
      have OUW := Lib.hid (OU.out.below hW)
      have hBW := Lib.hid (below_to HY.out hW)
      have hzs := hW.size
      have HZ2 : z + 1 + 1 < y.heap.size := OU.out.lt
      clear sI hfv hW OG OD OU
      have oM := Own.new W 99 (mcs fun _ _ => 0)
      have hM := ba1 W (.cells (mcs fun _ _ => 0).toArray 99)
      rw [← mpart_0 (g := g) (xs := xs)] at oM
      go_wp2
      go_loopw [38] (fun i wr => ∃ i' : Nat, i' ≤ xs.length ∧ i = .int .i64 i' ∧ Own wr W.heap.size 99 (mcs (mpart g xs i' 0)) ∧ Below W.heap.size W wr) (fun i _ => xs.length - (intOf i).toNat)
      case atStart => exact ⟨0, Nat.zero_le _, rfl, oM, hM⟩
      case round =>
        clear oM hM
        obtain ⟨i, hi, rfl, oM, hM⟩ := hrel
        rename World => W1
        by_cases hil : i < xs.length
        · obtain ⟨_, _, e, _, _, H⟩ := (SI0.out.below hM).open
          cases e
          obtain ⟨b, off, rfl, c1⟩ := H.out i hil
          clear H
          obtain ⟨x1, x2⟩ := HX.out i hil
          rw [x1] at c1
          clear x1
          go_wp2
          go_loopw [45] (fun j wr => ∃ j' : Nat, j' ≤ xs.length ∧ j = .int .i64 j' ∧ Own wr W.heap.size 99 (mcs (mpart g xs i j')) ∧ Below W.heap.size W wr) (fun j _ => xs.length - (intOf j).toNat)
          case atStart => exact ⟨0, Nat.zero_le _, rfl, oM, hM⟩
          case round =>
            clear oM hM c1
            obtain ⟨j, hj, rfl, oM, hM⟩ := hrel
            rename World => W2
            by_cases hjl : j < xs.length
            · obtain ⟨_, _, e, _, _, H⟩ := (SI0.out.below hM).open
              cases e
              obtain ⟨b, off, e, c1⟩ := H.out j hjl
              cases e
              clear H
              obtain ⟨x1, x3⟩ := HX.out j hjl
              rw [x1] at c1
              clear x1
              have oG := OGW.out.below hM
              obtain ⟨rG, fG⟩ := oG.rules
              have zG := oG.lt
              obtain ⟨rM, fM⟩ := oM.rules
              have zM := oM.lt
              have g0 := mcs_get g (k := xn xs i) (l := xn xs j) (by omega) (by omega)
              obtain ⟨vm, m0⟩ : ∃ v, (mcs (mpart g xs i j))[i * 3 + j]? = some v := ⟨_, mcs_get _ (by omega) (by omega)⟩
              go_wp2_with fail
              have gl := @grow_lt
              refine wp_region_st [.t [0, 1, 2, 3, 4, 5, 6, 7, 8]] [9] (by kernel_rfl) (by kernel_rfl) (fun _ _ _ _ _ h => h) ?_
              refine wpX_t ?_
              try simp only [opsAt, List.getElem?_toArray, List.getElem?_cons_zero, List.getElem?_cons_succ, Option.getD_some]
              repeat (go_big_quiet_step (fail))
              refine wpQuiet_nil ?_
              refine wpX_nil ?_
              try simp only [opsAt, List.getElem?_toArray, List.getElem?_cons_zero, List.getElem?_cons_succ, Option.getD_some]
              clear gl
              go_wp2
              go_roundw
              case rel =>
                refine ⟨j + 1, by omega, by go_num, ?_, hM.drew.setCell (p := ⟨W.heap.size, i * 3 + j, none⟩) (by simp) _⟩
                have o2 := oM.drew.set (i * 3 + j) (.int .i64 (g (xn xs i) (xn xs j)))
                rw [mcs_set _ (by omega) (by omega), mpart_put hjl] at o2
                exact o2
              case measure => simp [intOf]; try omega
            · obtain rfl : j = xs.length := by omega
              rw [mpart_row] at oM
              go_wp2
              go_roundw
              case rel => exact ⟨i + 1, by omega, by go_num, oM, hM⟩
              case measure => simp [intOf]; try omega
        · obtain rfl : i = xs.length := by omega
          have MW : Hid (∀ i j, wi 3000 (mfull g xs i j)) := fun i j => mpart_wi HG.out _ _ _ _
          have oM' : Own W1 W.heap.size 99 (mcs (mfull g xs)) := oM
          clear oM
          have oM := oM'
          rw [mcs_is] at oM
          obtain ⟨rM, fM⟩ := oM.rules
          have zM := oM.lt
          go_wp2_with fail
          refine (ndetM_any xs.length (mfull g xs) _ _ hL MW.out DEN.out).mono ?_
          rintro e W2 ⟨rfl, hq⟩
          clear rM fM zM oM
          have hM2 := below_to hM hq
          have oM2 := Lib.hid (oM'.below hq)
          clear hM hq oM'
          by_cases hz : den8 g S = 0
          · have oU := OUW.out.below hM2
            rw [hz]
            rw [lcs_is] at oU
            obtain ⟨rU, fU⟩ := oU.rules
            have zU := oU.lt
            have hfin : Hid (Below z w W2) := by
              show Below z w W2
              have h1 := hBW.out
              rw [← HZ.out] at h1
              exact h1.trans (hM2.mono (by omega))
            go_wp2
            have oz := ((oU.set 0 (.int .i64 0)).set 1 (.int .i64 0)).set 2 (.int .i64 0)
            have bz := ((hfin.out.setCell (p := ⟨z + 1 + 1, 0, none⟩) (by simp; omega) (.int .i64 0)).setCell (p := ⟨z + 1 + 1, 1, none⟩) (by simp; omega) (.int .i64 0)).setCell (p := ⟨z + 1 + 1, 2, none⟩) (by simp; omega) (.int .i64 0)
            refine bp_gen' (fun X => Own X (z + 1 + 1) 97 _ ∧ Below z w X) ⟨oz, bz⟩ ?_
            rintro wz ⟨q1, q2⟩
            obtain ⟨r1, f1⟩ := q1.rules
            refine bodyPost_ret (v := .tuple #[.agg #[.int .i64 0, .int .i64 0, .int .i64 0], .int .i64 0]) (by simp [results, Try.results96, go_sem, r1]) rfl ⟨?_, by rw [← HZ.out]; exact q2⟩
            rw [lcs_is, hz]
            simp [stN, hz]
          have HNZ := Lib.hid hz
          have q0 : (den8 g S == 0) = false := by simpa using hz
          clear hz
          have oD := ODW.out.below hM2
          have oU : Own W2 (z + 1 + 1) 97 (lcs (npart g d xs 0)) := OUW.out.below hM2
          have sI := SI0.out.below hM2
          have oM := oM2.out
          have hF : Below z w W2 := by
            have h1 := hBW.out
            rw [← HZ.out] at h1
            exact h1.trans (hM2.mono (by omega))
          clear OUW ODW SI0 hM2 oM2 OGW hBW
          go_wp2
          go_loopw [70] (fun i wr => ∃ l : Nat, l ≤ xs.length ∧ i = .int .i64 l ∧ Own wr (z + 1) 97 (lcs d) ∧ Own wr (z + 1 + 1) 97 (lcs (npart g d xs l)) ∧ Own wr W.heap.size 99 (mcs (mfull g xs)) ∧ SI wr (.slice adi xs.length capi) xs ∧ Below z w wr) (fun i _ => xs.length - (intOf i).toNat)
          case atStart => exact ⟨0, Nat.zero_le _, rfl, oD, oU, oM, sI, hF⟩
          case round =>
            clear oD oU oM sI hF
            obtain ⟨l, hl', rfl, oD, oU, oM, sI, hF⟩ := hrel
            rename World => W3
            by_cases hll : l < xs.length
            · obtain ⟨_, _, e, _, _, H⟩ := sI.open
              cases e
              obtain ⟨b, off, rfl, c1⟩ := H.out l hll
              clear H
              obtain ⟨x1, x2⟩ := HX.out l hll
              rw [x1] at c1
              clear x1
              have SI3 := Lib.hid sI
              have OD3 := Lib.hid oD
              have OU3 := Lib.hid oU
              have OM3 := Lib.hid oM
              have HF3 := Lib.hid hF
              clear sI oD oU hF
              rw [mcs_is] at oM
              obtain ⟨rM, fM⟩ := oM.rules
              have zM := oM.lt
              have oQ := Own.new W3 99 (mcs (mfull g xs))
              have hQ := ba1 W3 (.cells (mcs (mfull g xs)).toArray 99)
              rw [← wcol_0 (M := mfull g xs) (d := d) (xs := xs) (j := l)] at oQ
              go_wp2
              clear rM fM oM
              go_loopw [78] (fun i wr => ∃ i' : Nat, i' ≤ xs.length ∧ i = .int .i64 i' ∧ Own wr W3.heap.size 99 (mcs (wcol (mfull g xs) d xs i' l)) ∧ Below W3.heap.size W3 wr) (fun i _ => xs.length - (intOf i).toNat)
              case atStart => exact ⟨0, Nat.zero_le _, rfl, oQ, hQ⟩
              case round =>
                clear oQ hQ c1
                obtain ⟨i, hi', rfl, oQ, hQ⟩ := hrel
                rename World => W4
                by_cases hil' : i < xs.length
                · obtain ⟨_, _, e, _, _, H⟩ := (SI3.out.below hQ).open
                  cases e
                  obtain ⟨b, off, e, c1⟩ := H.out i hil'
                  cases e
                  clear H
                  obtain ⟨x1, x3⟩ := HX.out i hil'
                  rw [x1] at c1
                  clear x1
                  have oD := OD3.out.below hQ
                  obtain ⟨rD, fD⟩ := oD.rules
                  have zD := oD.lt
                  obtain ⟨rQ, fQ⟩ := oQ.rules
                  have zQ := oQ.lt
                  have d0 := lcs_get d (k := xn xs i) (by omega)
                  obtain ⟨vm, m0⟩ : ∃ v, (mcs (wcol (mfull g xs) d xs i l))[i * 3 + l]? = some v := ⟨_, mcs_get _ (by omega) (by omega)⟩
                  go_wp2_with fail
                  have gl := @grow_lt
                  refine wp_region_st [.t [0, 1, 2, 3, 4, 5, 6]] [7] (by kernel_rfl) (by kernel_rfl) (fun _ _ _ _ _ h => h) ?_
                  refine wpX_t ?_
                  try simp only [opsAt, List.getElem?_toArray, List.getElem?_cons_zero, List.getElem?_cons_succ, Option.getD_some]
                  repeat (go_big_quiet_step (fail))
                  refine wpQuiet_nil ?_
                  refine wpX_nil ?_
                  try simp only [opsAt, List.getElem?_toArray, List.getElem?_cons_zero, List.getElem?_cons_succ, Option.getD_some]
                  clear gl
                  go_wp2
                  go_roundw
                  case rel =>
                    refine ⟨i + 1, by omega, by go_num, ?_, hQ.drew.setCell (p := ⟨W3.heap.size, i * 3 + l, none⟩) (by simp) _⟩
                    have o2 := oQ.drew.set (i * 3 + l) (.int .i64 (d (xn xs i)))
                    rw [mcs_set _ (by omega) (by omega), wcol_put] at o2
                    exact o2
                  case measure => simp [intOf]; try omega
                · obtain rfl : i = xs.length := by omega
                  have NW : Hid (∀ i j, wi 3000 (wcol (mfull g xs) d xs xs.length l i j)) := fun i j => wcol_wi MW.out HD.out _ _ _ _
                  have ED : Hid (lput (npart g d xs l) (xn xs l) (detM xs.length (wcol (mfull g xs) d xs xs.length l)) = npart g d xs (l + 1)) := rfl
                  have oU := OU3.out.below hQ
                  have oD := OD3.out.below hQ
                  have oM := OM3.out.below hQ
                  have sI := SI3.out.below hQ
                  have hF := HF3.out.trans (hQ.mono (by have := HF3.out.size; have := OM3.out.lt; omega))
                  have qM := oQ
                  rw [mcs_is] at qM
                  obtain ⟨rQ, fQ⟩ := qM.rules
                  have zQ := qM.lt
                  go_wp2_with fail
                  refine (ndetM_any xs.length (wcol (mfull g xs) d xs xs.length l) _ _ hL NW.out rfl).mono ?_
                  rintro e W5 ⟨rfl, hq⟩
                  clear rQ fQ zQ qM oQ hQ
                  have hz4 := oM.lt
                  replace oU := oU.below hq
                  replace oD := oD.below hq
                  replace oM := oM.below hq
                  replace sI := sI.below hq
                  replace hF := hF.trans (hq.mono (by omega))
                  clear hq
                  obtain ⟨rU, fU⟩ := oU.rules
                  have zU := oU.lt
                  obtain ⟨vm, m0⟩ : ∃ v, (lcs (npart g d xs l))[xn xs l]? = some v := ⟨_, lcs_get _ (by omega)⟩
                  go_wp2
                  go_roundw
                  case rel =>
                    refine ⟨l + 1, by omega, by go_num, oD.other (by omega) _ _, ?_, oM.other (by omega) _ _, sI.low HFV.out (by simp; omega) _, hF.setCell (p := ⟨z + 1 + 1, xn xs l, none⟩) (by simp; omega) _⟩
                    have o2 := oU.set (xn xs l) (.int .i64 (detM xs.length (wcol (mfull g xs) d xs xs.length l)))
                    rw [lcs_set _ (by omega), ED.out] at o2
                    exact o2
                  case measure => simp [intOf]; try omega
            · obtain rfl : l = xs.length := by omega
              rw [lcs_congr NUM.out, lcs_is] at oU
              obtain ⟨rU, fU⟩ := oU.rules
              have zU := oU.lt
              go_wp2
              have oz := ((oU.set 0 (.int .i64 (num8 g d S 0))).set 1 (.int .i64 (num8 g d S 1))).set 2 (.int .i64 (num8 g d S 2))
              have bz := ((hF.setCell (p := ⟨z + 1 + 1, 0, none⟩) (by simp; omega) (.int .i64 (num8 g d S 0))).setCell (p := ⟨z + 1 + 1, 1, none⟩) (by simp; omega) (.int .i64 (num8 g d S 1))).setCell (p := ⟨z + 1 + 1, 2, none⟩) (by simp; omega) (.int .i64 (num8 g d S 2))
              refine bp_gen' (fun X => Own X (z + 1 + 1) 97 _ ∧ Below z w X) ⟨oz, bz⟩ ?_
              rintro wz ⟨q1, q2⟩
              obtain ⟨r1, f1⟩ := q1.rules
              refine bodyPost_ret (v := .tuple #[.agg #[.int .i64 (num8 g d S 0), .int .i64 (num8 g d S 1), .int .i64 (num8 g d S 2)], .int .i64 (den8 g S)]) (by simp [results, Try.results96, go_sem, r1]) rfl ⟨?_, by rw [← HZ.out]; exact q2⟩
              rw [lcs_is]
              simp only [stN, if_neg HNZ.out]
theorem nstill_ex (g : Nat → Nat → Int) (d : Nat → Int) (n S : Nat) (w : World) (hn : n ≤ 3) (hS : S < 2 ^ n) (hg : ∀ k l, wi 3000 (g k l)) (hd : ∀ k, wi 3000 (d k)) :
    Calls Try.prog 96 #[.agg #[.int .i64 (g 0 0), .int .i64 (g 0 1), .int .i64 (g 0 2), .int .i64 (g 1 0), .int .i64 (g 1 1), .int .i64 (g 1 2), .int .i64 (g 2 0), .int .i64 (g 2 1), .int .i64 (g 2 2)], .agg #[.int .i64 (d 0), .int .i64 (d 1), .int .i64 (d 2)], .int .i64 n, .int .i64 S] w (still_post w g d S) := nstill_any g d n S w hn hS hg hd
end Go.Proofs.Ytfbigmjlppdlhaa

/- What is proved here: the contract of nnls.Solve. Condition: a system that can be read. -/
namespace Go.Proofs.Ytfbigmjlppdlhaa
open Go.RowKit

theorem norm_is {w : World} {A : List (List Int)} {B : List Int} {e : Ending} {w' : World} (h : norm_post w A B e w') :
    e = .returned (.tuple #[.agg #[.int .i64 (nG A 0 0), .int .i64 (nG A 0 1), .int .i64 (nG A 0 2), .int .i64 (nG A 1 0), .int .i64 (nG A 1 1), .int .i64 (nG A 1 2), .int .i64 (nG A 2 0), .int .i64 (nG A 2 1), .int .i64 (nG A 2 2)], .agg #[.int .i64 (nD A B 0 0), .int .i64 (nD A B 0 1), .int .i64 (nD A B 0 2)]]) ∧ Below w.heap.size w w' := h
set_option maxRecDepth 100000 in
set_option maxHeartbeats 4000000 in
theorem nsolve_any (A : List (List Int)) (B : List Int) (va vb : Value) (w : World) (hA : SS w va A) (hB : SI w vb B) :
    Calls Try.prog 45 #[.agg #[va, vb]] w (solve_post w (nSolve A B 0)) := by
  go_enter Try.func45, Try.ntmps45
  have oS := Own.new w 25 [va, vb]
  have hy := ba1 w (.cells #[va, vb] 25)
  replace hA := hA.below hy
  replace hB := hB.below hy
  obtain ⟨rS, fS⟩ := oS.rules
  have zS := oS.lt
  go_wp2_with fail
  refine (ncheck_any A B _ _ _ hA hB).mono ?_
  rintro e y1 ⟨rfl, hq⟩
  clear rS fS zS
  replace oS := oS.below hq
  replace hA := hA.below hq
  replace hB := hB.below hq
  replace hy := below_to hy hq
  clear hq
  obtain ⟨rS, fS⟩ := oS.rules
  have zS := oS.lt
  by_cases h0 : ncheck A B = 0
  case neg =>
    have HV : Hid (nSolve A B 0 = ([], 0, ncheck A B)) := if_neg h0
    have q0 : (ncheck A B != 0) = true := by simpa using h0
    clear hA hB h0
    go_wp2
    refine bodyPost_ret (v := .tuple #[.slice none 0 0, .int .i64 0, .int .i64 (ncheck A B)]) (by simp [results, Try.results45, go_sem]) rfl ⟨.slice none 0 0, by rw [HV.out]; try rfl, by rw [HV.out]; exact sf_nil _, hy⟩
  have HF := Lib.hid (fit_of h0)
  have HV : Hid (nSolve A B 0 = (nsol A B 0 (A.getD 0 []).length, nS A B 0, 0)) := if_pos h0
  rw [h0]
  clear h0
  have hr := HF.out.rows.1
  have n1 := HF.out.cols.1
  have n3 := HF.out.cols.2
  have hw0 := HF.out.wide 0 (by omega)
  obtain ⟨ada, capa, e, ha1, ha2, H⟩ := hA.open
  subst e
  obtain ⟨b, off, ad', cap', rfl, c1, c2, c3, _⟩ := H.out 0 hr
  clear H
  rw [hw0] at c1 c2 c3
  rw [Nat.add_zero] at c1
  have HW0 := Lib.hid hw0
  clear hw0
  generalize (A.getD 0 []).length = n at *
  have rows1 : (0 : Int) < A.length := by omega
  go_wp2_with fail
  refine (nnorm_any A B n _ _ _ hA hB HF.out).mono ?_
  rintro e y2 hp
  obtain ⟨rfl, hq⟩ := norm_is hp
  clear hp rS fS zS oS hA hB c1 c2 c3
  replace hy := below_to hy hq
  clear hq
  have oG := own_first y2 99 (mcs (nG A)) (.cells (lcs (nD A B 0)).toArray 97)
  have oC := own_second y2 97 (lcs (nD A B 0)) (.cells (mcs (nG A)).toArray 99)
  have hW := ba2 y2 (.cells (mcs (nG A)).toArray 99) (.cells (lcs (nD A B 0)).toArray 97)
  have HY := Lib.hid hy
  have NG : Hid (∀ k l, wi 3000 (nG A k l)) := nG_wi HF.out
  have ND : Hid (∀ k, wi 3000 (nD A B 0 k)) := nD_wi HF.out (by decide) (by decide)
  clear hy
  go_wp2
  rw [mcs_is, lcs_is] at *
  generalize ((y2.alloc (.cells #[.int .i64 (nG A 0 0), .int .i64 (nG A 0 1), .int .i64 (nG A 0 2), .int .i64 (nG A 1 0), .int .i64 (nG A 1 1), .int .i64 (nG A 1 2), .int .i64 (nG A 2 0), .int .i64 (nG A 2 1), .int .i64 (nG A 2 2)] 99)).alloc (.cells #[.int .i64 (nD A B 0 0), .int .i64 (nD A B 0 1), .int .i64 (nD A B 0 2)] 97)) = y at *
  have HB := Lib.hid (below_to HY.out hW)
  obtain ⟨z, hz⟩ : ∃ z, z = y2.heap.size := ⟨_, rfl⟩
  rw [← hz] at oG oC ⊢
  clear hz hW HY
  have OG := Lib.hid oG
  have OC := Lib.hid oC
  clear oG oC
  go_loopw [3] (fun i wr => ∃ T : Nat, T ≤ 2 ^ n ∧ i = .int .i64 T ∧ Hid (∀ S, S < T → good8 (nG A) (nD A B 0) S = false) ∧ Below y.heap.size y wr) (fun i _ => 2 ^ n - (intOf i).toNat)
  case atStart => exact ⟨0, Nat.zero_le _, rfl, fun S hS => absurd hS (Nat.not_lt_zero S), Below.refl _ _⟩
  case round =>
    obtain ⟨T, hT, rfl, hv, hW⟩ := hrel
    rename World => W
    have pw := pow_wrap n3
    by_cases hlt : T < 2 ^ n
    · have t1 : (T : Int) < wrap64 (2 ^ n) := by rw [pw]; omega
      have t2 : decide ((T : Int) < wrap64 (2 ^ n)) = true := by simpa using t1
      have HT := Lib.hid hlt
      have T8 : T < 8 := set8 n3 hlt
      clear hlt pw
      have oG := OG.out.below hW
      have oC := OC.out.below hW
      obtain ⟨rG, fG⟩ := oG.rules
      have zG := oG.lt
      obtain ⟨rC, fC⟩ := oC.rules
      have zC := oC.lt
      go_wp2_with fail
      refine (nstill_ex (nG A) (nD A B 0) n T _ n3 HT.out NG.out ND.out).mono ?_
      rintro e W1 ⟨rfl, hq⟩
      rw [lcs_is]
      clear rG fG zG rC fC zC t1 t2 oG oC
      replace hW := below_to hW hq
      clear hq
      by_cases hd : den8 (nG A) T = 0
      · have HN : Hid (good8 (nG A) (nD A B 0) T = false) := by
          show _ = _
          cases h : good8 (nG A) (nD A B 0) T
          · rfl
          · exact absurd hd (good8_iff.1 h).1
        rw [hd]
        clear hd
        go_wp2
        go_roundw
        case rel =>
          refine ⟨T + 1, HT.out, by go_num, fun S hS => ?_, below_to hW (ba1 _ _)⟩
          rcases Nat.lt_or_ge S T with h | h
          · exact hv.out S h
          · obtain rfl : S = T := by omega
            exact HN.out
        case measure => have := HT.out; simp [intOf]; try omega
      · have qd : (den8 (nG A) T == 0) = false := by simpa using hd
        have EN : stN (nG A) (nD A B 0) T = num8 (nG A) (nD A B 0) T := by funext k; unfold stN; rw [if_neg hd]
        rw [EN]
        have NU : Hid (∀ k, wi 200000000000 (num8 (nG A) (nD A B 0) T k)) := num8_wi' HF.out (by decide) (by decide) HT.out
        have NDen := Lib.hid (den8_wi HF.out HT.out)
        have GI := Lib.hid (good_is HF.out HT.out hd (Int.le_refl 0))
        clear EN
        have oN := Own.new W1 97 (lcs (num8 (nG A) (nD A B 0) T))
        rw [lcs_is] at oN
        have hN := ba1 W1 (.cells #[.int .i64 (num8 (nG A) (nD A B 0) T 0), .int .i64 (num8 (nG A) (nD A B 0) T 1), .int .i64 (num8 (nG A) (nD A B 0) T 2)] 97)
        go_upto_region 10 with fail
        generalize W1.alloc (.cells #[.int .i64 (num8 (nG A) (nD A B 0) T 0), .int .i64 (num8 (nG A) (nD A B 0) T 1), .int .i64 (num8 (nG A) (nD A B 0) T 2)] 97) = W2 at *
        replace hW := below_to hW hN
        obtain ⟨p, hp⟩ : ∃ p, p = W1.heap.size := ⟨_, rfl⟩
        rw [← hp] at oN ⊢
        clear hp hN
        have oG := OG.out.below hW
        have oC := OC.out.below hW
        obtain ⟨rG, fG⟩ := oG.rules
        have zG := oG.lt
        obtain ⟨rC, fC⟩ := oC.rules
        have zC := oC.lt
        obtain ⟨rN, fN⟩ := oN.rules
        have zN := oN.lt
        have HD := Lib.hid hd
        clear hd
        by_cases hg : good8 (nG A) (nD A B 0) T = true
        case neg =>
          have hg' : good8 (nG A) (nD A B 0) T = false := by simpa using hg
          have HN := Lib.hid hg'
          have hb := GI.out.trans hg'
          clear hg hg'
          go_wp2_with fail
          refine (nbest_ex (nG A) (nD A B 0) (num8 (nG A) (nD A B 0) T) (den8 (nG A) T) n false _ n3 NG.out ND.out NU.out NDen.out hb).mono ?_
          rintro e W3 ⟨rfl, hq⟩
          replace hW := below_to hW hq
          clear hq rG fG zG rC fC zC rN fN zN oG oC oN hb
          go_wp2
          go_roundw
          case rel =>
            refine ⟨T + 1, HT.out, by go_num, fun S hS => ?_, hW⟩
            rcases Nat.lt_or_ge S T with h | h
            · exact hv.out S h
            · obtain rfl : S = T := by omega
              exact HN.out
          case measure => have := HT.out; simp [intOf]; try omega
        have hb := GI.out.trans hg
        have HS : Hid (nS A B 0 = T) := nS_is HF.out HT.out hg hv.out
        clear hg
        go_wp2_with fail
        refine (nbest_ex (nG A) (nD A B 0) (num8 (nG A) (nD A B 0) T) (den8 (nG A) T) n true _ n3 NG.out ND.out NU.out NDen.out hb).mono ?_
        rintro e W3 ⟨rfl, hq⟩
        replace hW := below_to hW hq
        replace oN := oN.below hq
        clear hq rG fG zG rC fC zC rN fN zN oG oC hb
        have ON := Lib.hid oN
        clear oN
        have MK := mk_fracs n n rfl (by omega)
        have oX := Own.new W3 34 (fcs (List.replicate n (0, 0)))
        have hX := ba1 W3 (.cells (fcs (List.replicate n (0, 0))).toArray 34)
        have HB3 := Lib.hid (below_to HB.out hW)
        go_wp2
        clear MK
        go_loopw [2, 3, 55] (fun x s i wr => ∃ k : Nat, k ≤ n ∧ x = .slice (some ⟨W3.heap.size, 0, none⟩) n n ∧ s = .int .i64 T ∧ i = .int .i64 k ∧ Own wr W3.heap.size 34 (fcs ((nsol A B 0 n).take k ++ List.replicate (n - k) (0, 0))) ∧ Below W3.heap.size W3 wr) (fun _ _ i _ => n - (intOf i).toNat)
        case atStart => exact ⟨0, Nat.zero_le _, rfl, rfl, rfl, by simpa using oX, hX⟩
        case round =>
          clear oX hX hW
          obtain ⟨k, hk, rfl, rfl, rfl, oX, hX⟩ := hrel
          rename World => W4
          by_cases hkn : k < n
          · obtain ⟨i1, i2⟩ := nsx_make HF.out (Int.le_refl 0) (by decide) (k := k) (by omega)
            rw [HS.out] at i2
            have I1 := Lib.hid i1
            have I2 := Lib.hid i2
            have NK := NU.out k
            have ND' := NDen.out
            have oN := ON.out.below hX
            have n0 := lcs_get (num8 (nG A) (nD A B 0) T) (k := k) (by omega)
            rw [← lcs_is] at oN
            obtain ⟨rN, fN⟩ := oN.rules
            have zN := oN.lt
            clear i1 i2
            go_wp2_with fail
            refine (make_any _ _ _ (by unfold wi at NK; exact ⟨by omega, by omega⟩) (by unfold wi at ND'; exact ⟨by omega, by omega⟩)).mono ?_
            rintro e W5 ⟨rfl, hq⟩
            rw [I2.out]
            have HG := Lib.hid (nsol_get (A := A) (B := B) (c := 0) hkn)
            unfold uf
            unfold up at HG
            generalize (nsx A B 0 k).num = xn at *
            generalize ((nsx A B 0 k).den : Int) = xd at *
            clear rN fN zN oN n0
            replace oX := oX.below hq
            replace hX := below_to hX hq
            clear hq
            have OX := Lib.hid oX
            obtain ⟨v1, v2, g1, g2⟩ := fcs_some ((nsol A B 0 n).take k ++ List.replicate (n - k) (0, 0)) k (by have := nsol_len (A := A) (B := B) (c := 0) (n := n); simp; omega)
            obtain ⟨rX, fX⟩ := oX.rules
            have zX := oX.lt
            go_wp2
            go_roundw
            case rel =>
              refine ⟨k + 1, by omega, rfl, rfl, by go_num, ?_, ?_⟩
              · have o2 := (OX.out.set (k * 2) (.int .i64 xn)).set (k * 2 + 1) (.int .i64 xd)
                rw [fcs_set _ k (xn, xd), take_fill _ k n _ nsol_len hkn HG.out] at o2
                exact o2
              · repeat (refine Below.setCell ?_ (by simp) _)
                exact hX
            case measure => simp [intOf]; try omega
          · obtain rfl : k = n := by omega
            have hf : SF W4 (.slice (some ⟨W3.heap.size, 0, none⟩) k k) (nsol A B 0 k) := by
              unfold SF
              rw [nsol_len]
              exact oX.sl (n := k) k (Nat.le_refl _) (by omega) _ ⟨[], by rw [Nat.sub_self, List.take_of_length_le (by rw [nsol_len]; exact Nat.le_refl _)]; simp⟩
            have hB4 := below_to HB3.out hX
            clear oX hX
            go_wp2
            refine bodyPost_ret (v := .tuple #[.slice (some ⟨W3.heap.size, 0, none⟩) k k, .int .i64 T, .int .i64 0]) (by simp [results, Try.results45, go_sem]) rfl ⟨.slice (some ⟨W3.heap.size, 0, none⟩) k k, by rw [HV.out, HS.out]; try rfl, by rw [HV.out]; exact hf, hB4⟩
    · exfalso
      obtain ⟨h1, h2⟩ := nS_spec HF.out (Int.le_refl 0)
      have := hv.out (nS A B 0) (by omega)
      rw [h2] at this
      cases this
end Go.Proofs.Ytfbigmjlppdlhaa
