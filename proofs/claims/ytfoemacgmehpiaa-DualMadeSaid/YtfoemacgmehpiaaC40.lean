/- What is proved here: contracts of functions and plain facts, several texts in one; each one says ahead what it proves, and its conditions. -/
import Derived.Test.YtfoemacgmehpiaaC14
import Derived.Test.YtfoemacgmehpiaaC39
/- What is proved here: what witnesses, their worth and gaps are as rational numbers; no witness that is feasible is worth more than the price of a point. No program in sight. Condition: valid fits, costs, points and witnesses. -/
namespace Go.Proofs.Ytfoemacgmehpiaa
open Go.RowKit

section
variable (A : Nat → Nat → Rat) (b : Nat → Rat) (m : Nat) (c : Rat)
/-- The sum of a column's products with a witness; the worth of a witness. -/
def qcol (y : Nat → Rat) (k : Nat) : Rat := sm (fun r => A r k * y r) m
def qworth (y : Nat → Rat) : Rat := sm (fun r => y r * b r) m - sm (fun r => y r * y r) m * (1 / 2)
variable {A b m c}
theorem price_worth (x y : Nat → Rat) : qprice A b m c x = qworth b m y + sm (fun r => (qres A b x r + y r) * (qres A b x r + y r)) m / 2 + sm (fun k => (c - qcol A m y k) * x k) 3 := by
  have h1 := val_rows (fun r => qres A b x r) y m
  have h2 := dot_rows A y (x 0) (x 1) (x 2) m
  have h3 : sm (fun r => qres A b x r * y r) m = sm (fun r => y r * (A r 0 * x 0 + A r 1 * x 1 + A r 2 * x 2)) m - sm (fun r => y r * b r) m := by
    have e : sm (fun r => y r * (A r 0 * x 0 + A r 1 * x 1 + A r 2 * x 2)) m = sm (fun r => qres A b x r * y r + y r * b r) m := sm_congr m fun r _ => by
      unfold qres qax; rw [sm_3]; grind
    rw [e, sm_add]; grind
  unfold qprice qworth qcol
  rw [h1, h3, h2, sm_3, sm_3]
  unfold qval
  grind
theorem weak_dual {x y : Nat → Rat} (hx : qfeas x) (hf : ∀ k, k < 3 → qcol A m y k ≤ c) : qworth b m y ≤ qprice A b m c x := by
  have h1 := price_worth (A := A) (b := b) (m := m) (c := c) x y
  have h2 : 0 ≤ sm (fun r => (qres A b x r + y r) * (qres A b x r + y r)) m := sm_nn m fun _ _ => sq_nn _
  have h3 : 0 ≤ sm (fun k => (c - qcol A m y k) * x k) 3 := sm_nn 3 fun k hk => mul_nn (by have := hf k hk; grind) (hx k hk)
  grind
/-- The opposite residual of an optimum is a witness with the gap 0. -/
theorem strong_dual {x : Nat → Rat} (hk : qkkt A b m c x) : (∀ k, k < 3 → qcol A m (fun r => - qres A b x r) k ≤ c) ∧ qprice A b m c x = qworth b m (fun r => - qres A b x r) := by
  have hc : ∀ k, qcol A m (fun r => - qres A b x r) k = - qgrd A b m x k := fun k => by
    unfold qcol qgrd
    have : sm (fun r => A r k * - qres A b x r) m = sm (fun r => (-1) * (A r k * qres A b x r)) m := sm_congr m fun r _ => by grind
    rw [this, sm_mul]; grind
  refine ⟨fun k h => ?_, ?_⟩
  · have := (hk.2 k h).1
    unfold qslope at this
    rw [hc]; grind
  · rw [price_worth (A := A) (b := b) (m := m) (c := c) x (fun r => - qres A b x r)]
    have e1 : sm (fun r => (qres A b x r + - qres A b x r) * (qres A b x r + - qres A b x r)) m = 0 := sm_0 m fun r _ => by grind
    have e2 : sm (fun k => (c - qcol A m (fun r => - qres A b x r) k) * x k) 3 = 0 := sm_0 3 fun k h => by
      rw [hc]
      have h1 := hk.2 k h
      unfold qslope at h1
      by_cases h2 : 0 < qgrd A b m x k + c
      · rw [h1.2 h2]; grind
      · have : c - - qgrd A b m x k = 0 := by grind
        rw [this]; grind
    rw [e1, e2]; grind
end
theorem inr_neg {x : Rat} (h : inr x) : inr (-x) := by
  unfold inr at *
  rw [Rat.neg_num, Int.natAbs_neg]
  exact h
theorem cmp_lt (v u : Rat) : fcmp v.num v.den u.num u.den = -1 ↔ v < u := by
  have h := cmp_ge v u
  constructor
  · intro h1
    have : ¬ u ≤ v := fun h2 => by have := h.2 h2; omega
    grind
  · intro h1
    have h2 : ¬ 0 ≤ fcmp v.num v.den u.num u.den := fun h2 => by have := h.1 h2; grind
    unfold fcmp at h2 ⊢
    split at h2
    · rename_i h3; rw [if_pos h3]
    · split at h2 <;> omega
theorem cmp_int_lt (c : Int) (u : Rat) : fcmp c 1 u.num u.den = -1 ↔ (c : Rat) < u := cmp_lt (c : Rat) u
section
variable {A : List (List Int)} {B : List Int} {c : Int} {x y : List (Int × Int)} {n : Nat}
theorem tq_colY (k i : Nat) : tq (colT A y k) i = fA A i k * nx y i := by
  unfold tq colT nx
  rw [qq_int]; rfl
theorem colY_tval (h : FitY A y n) {k : Nat} (hk : k < n) : tval (colT A y k) A.length := fun j hj => by
  have h2 : j < y.length := by rw [h.len]; exact hj
  have h3 : k < A[j].length := by rw [h.wide j hj]; exact hk
  unfold colT
  rw [cel_get hj h3, getD_get h2]
  exact ⟨fchk_small (h.coef j hj k h3).1 (h.coef j hj k h3).2, h.val j h2⟩
/-- The sums of the columns without an error. -/
theorem dsums_val (h : FitY A y n) (he : (dsums A y n).2 = 0) : (∀ k, k < n → inr (qcol (fA A) A.length (nx y) k)) ∧ dsums A y n = ((List.range n).map fun k => up (qcol (fA A) A.length (nx y) k), 0) := by
  have key : ∀ k, k < n → inr (qcol (fA A) A.length (nx y) k) ∧ gsum (colT A y k) A.length = uf (qcol (fA A) A.length (nx y) k) := fun k hk => by
    have := gsum_val A.length (colY_tval h hk) (rows_each n he k hk).1
    have e : sm (tq (colT A y k)) A.length = qcol (fA A) A.length (nx y) k := sm_congr A.length fun i _ => tq_colY k i
    rw [e] at this
    exact this
  refine ⟨fun k hk => (key k hk).1, ?_⟩
  exact rows_list fun k hk => (key k hk).2
theorem feas_iff {g : Nat → Rat} {n : Nat} : feasB ((List.range n).map fun k => up (g k)) c n = true ↔ ∀ k, k < n → g k ≤ (c : Rat) := by
  unfold feasB
  rw [List.all_eq_true]
  constructor
  · intro h k hk
    have h1 := h k (List.mem_range.2 hk)
    rw [res_getD hk] at h1
    have h2 : ¬ fcmp c 1 (g k).num (g k).den = -1 := by
      have h3 : decide (fcmp c 1 (up (g k)).1 (up (g k)).2 = -1) = false := by rwa [Bool.not_eq_true'] at h1
      exact of_decide_eq_false h3
    rw [cmp_int_lt] at h2
    grind
  · intro h k hk
    have hk := List.mem_range.1 hk
    rw [res_getD hk]
    have h2 : ¬ fcmp c 1 (g k).num (g k).den = -1 := by
      rw [cmp_int_lt]; have := h k hk; grind
    have h3 : decide (fcmp c 1 (up (g k)).1 (up (g k)).2 = -1) = false := decide_eq_false h2
    rw [h3]; rfl
theorem feas_list {g : Nat → Rat} {n : Nat} : feasB ((List.range n).map fun k => up (g k)) c ((List.range n).map fun k => up (g k)).length = true ↔ ∀ k, k < n → g k ≤ (c : Rat) := by
  rw [show ((List.range n).map fun k => up (g k)).length = n from by simp]
  exact feas_iff
theorem dfeas_err (hs : scheck A B c = 0) (hw : witB A.length y = true) : (dfeas A B c y).2 = 0 ∨ (dfeas A B c y).2 = 16 := by
  have hd := dcheck_0 hs hw
  by_cases h : (dsums A y (A.getD 0 []).length).2 = 0
  · rw [dfeas_0 hd h]; exact .inl rfl
  · rw [dfeas_1 hd h, dsums_16 (FitY.ofC (scheck_of hs).1 hw) h]; exact .inr rfl
/-- Feasible tells whether no sum is greater than the cost. -/
theorem dfeas_val (hs : scheck A B c = 0) (hw : witB A.length y = true) (he : (dfeas A B c y).2 = 0) : (dfeas A B c y).1 = true ↔ ∀ k, k < 3 → qcol (fA A) A.length (nx y) k ≤ (c : Rat) := by
  have hd := dcheck_0 hs hw
  obtain ⟨hc, h0, _⟩ := scheck_of hs
  have hF := fit_of hc
  have n3 := hF.cols.2
  have hY := FitY.ofC hc hw
  generalize hn : (A.getD 0 []).length = n at *
  have h0' : (dsums A y n).2 = 0 := by
    apply Classical.byContradiction
    intro h
    rw [dfeas_1 hd (by rw [hn]; exact h)] at he
    rw [hn] at he
    exact h he
  rw [dfeas_0 hd (by rw [hn]; exact h0'), hn, (dsums_val hY h0').2]
  refine feas_list.trans ⟨fun h k hk => ?_, fun h k hk => h k (by omega)⟩
  rcases Nat.lt_or_ge k n with h1 | h1
  · exact h k h1
  · have : qcol (fA A) A.length (nx y) k = 0 := sm_0 A.length fun r hr => by
      have : fA A r k = 0 := by unfold fA ra; rw [hF.out hr h1]; rfl
      rw [this]; grind
    rw [this]; exact cost_nn h0
theorem tq_prod (i : Nat) (hi : i < B.length) : tq (prodT y (rights B)) i = nx y i * fB B i := by
  unfold tq prodT nx fB rb
  have : (rights B).getD i (0, 0) = (B[i], 1) := by
    rw [List.getD_eq_getElem?_getD, rights_get hi]; rfl
  rw [this, qq_int, nb_get hi]
theorem tq_sqY (i : Nat) : tq (prodT y y) i = nx y i * nx y i := rfl
theorem prod_tval {a b : List (Int × Int)} {n : Nat} (ha : n ≤ a.length) (hb : n ≤ b.length) (va : ∀ i (h : i < a.length), fchk a[i].1 a[i].2 = 0) (vb : ∀ i (h : i < b.length), fchk b[i].1 b[i].2 = 0) : tval (prodT a b) n := fun j hj => by
  unfold prodT
  rw [getD_get (by omega), getD_get (by omega)]
  exact ⟨va j (by omega), vb j (by omega)⟩
theorem sub_q {a b : Rat} (ha : inr a) (hb : inr b) : fsub (uf a).n (uf a).d (uf b).n (uf b).d = pack (a - b) := by
  have := fsub_qq (a := up a) (b := up b) (up_chk ha) (up_chk hb)
  rw [qq_up, qq_up] at this
  exact this
theorem pack_err (q : Rat) : (pack q).e = 0 ∨ (pack q).e = 16 := by
  rcases pack_FOk q with h | h
  · exact .inl h.1
  · right; rw [h]
theorem wit_vals (hw : witB A.length y = true) : ∀ i (h : i < y.length), fchk y[i].1 y[i].2 = 0 := (witB_of hw).2
theorem rights_ok (h : Fit A B n) : ∀ i (h : i < (rights B).length), fchk (rights B)[i].1 (rights B)[i].2 = 0 := rights_val fun i hi => by have := h.side i hi; omega
theorem FOk.err {r : FR} (h : FOk r) : r.e = 0 ∨ r.e = 16 := by
  rcases h with h | h
  · exact .inl h.1
  · right; rw [h]
/-- The worth of a witness, and its error. -/
theorem dworth_val (hc : ncheck A B = 0) (hw : witB A.length y = true) : ((dworth A B y).e = 0 ∨ (dworth A B y).e = 16) ∧ ((dworth A B y).e = 0 → inr (qworth (fB B) A.length (nx y)) ∧ dworth A B y = uf (qworth (fB B) A.length (nx y))) := by
  have hs : scheck A B 0 = 0 := scheck_0 hc (Int.le_refl 0) (by decide)
  have hd := dcheck_0 hs hw
  have hF := fit_of hc
  obtain ⟨wl, wv⟩ := witB_of hw
  have rv := rights_ok hF
  have rl : (rights B).length = y.length := by rw [rights_len, hF.right, wl]
  have g1 := prod_ok (a := y) (b := rights B) (k := y.length) (Nat.le_refl _) (by omega) wv rv
  have s1 := prod_ok (a := y) (b := y) (k := y.length) (Nat.le_refl _) (Nat.le_refl _) wv wv
  rw [dworth_0 hd]
  by_cases e1 : (gsum (prodT y (rights B)) y.length).e = 0
  case neg =>
    rw [dval_g e1]
    refine ⟨?_, fun h => absurd h e1⟩
    exact g1.err
  by_cases e2 : (gsum (prodT y y) y.length).e = 0
  case neg =>
    rw [dval_s e1 e2]
    refine ⟨?_, fun h => absurd h e2⟩
    exact s1.err
  obtain ⟨i1, v1⟩ := gsum_val y.length (prod_tval (Nat.le_refl _) (by omega) wv rv) e1
  obtain ⟨i2, v2⟩ := gsum_val y.length (prod_tval (Nat.le_refl _) (Nat.le_refl _) wv wv) e2
  have t1 : sm (tq (prodT y (rights B))) y.length = sm (fun r => nx y r * fB B r) A.length := by
    rw [wl]; exact sm_congr A.length fun i hi => tq_prod i (by rw [hF.right]; exact hi)
  have t2 : sm (tq (prodT y y)) y.length = sm (fun r => nx y r * nx y r) A.length := by
    rw [wl]; rfl
  rw [t1] at i1 v1
  rw [t2] at i2 v2
  rw [v1, v2]
  have hh := half_q i2
  by_cases i3 : inr (sm (fun r => nx y r * nx y r) A.length * (1 / 2))
  case neg =>
    rw [pack_no i3] at hh
    rw [dval_h rfl rfl (by rw [hh]; decide)]
    exact ⟨.inr rfl, fun h => by cases h⟩
  rw [pack_ok i3] at hh
  rw [dval_0 rfl rfl (by rw [hh]), hh]
  have hq := sub_q i1 i3
  have e : fsub (uf (sm (fun r => nx y r * fB B r) A.length)).n (uf (sm (fun r => nx y r * fB B r) A.length)).d (sm (fun r => nx y r * nx y r) A.length * (1 / 2)).num (sm (fun r => nx y r * nx y r) A.length * (1 / 2)).den = pack (qworth (fB B) A.length (nx y)) := hq
  rw [e]
  exact ⟨pack_err _, fun h => pack_val h⟩
theorem both_of (h1 : pointB (A.getD 0 []).length x = true) (h2 : witB A.length y = true) : bothB A x y = true := by unfold bothB; rw [h1, h2]; rfl
theorem point_iff (hc : ncheck A B = 0) : npoint A B x = 0 ↔ pointB (A.getD 0 []).length x = true := by
  constructor
  · intro h
    apply Classical.byContradiction
    intro h1
    rw [npoint_2 hc (by simpa using h1)] at h; cases h
  · exact npoint_0 hc
/-- The gap of a point and a witness. -/
theorem dgap_val (hs : scheck A B c = 0) (hp : npoint A B x = 0) (hw : witB A.length y = true) :
    ((dgap A B c x y).e = 0 ∨ (dgap A B c x y).e = 16) ∧ ((dgap A B c x y).e = 0 → (sCost A B c x).e = 0 ∧ (dworth A B y).e = 0 ∧ inr (qprice (fA A) (fB B) A.length (c : Rat) (nx x) - qworth (fB B) A.length (nx y)) ∧ dgap A B c x y = uf (qprice (fA A) (fB B) A.length (c : Rat) (nx x) - qworth (fB B) A.length (nx y))) ∧
    ((sCost A B c x).e = 0 → (dworth A B y).e = 0 → dgap A B c x y = pack (qprice (fA A) (fB B) A.length (c : Rat) (nx x) - qworth (fB B) A.length (nx y))) := by
  obtain ⟨hc, h0, h1⟩ := scheck_of hs
  have hb := both_of ((point_iff hc).1 hp) hw
  obtain ⟨w1, w2⟩ := dworth_val hc hw
  by_cases e1 : (sCost A B c x).e = 0
  case neg =>
    rw [dgap_p hs hb e1]
    refine ⟨cost_err hs hp, fun h => absurd h e1, fun h => absurd h e1⟩
  by_cases e2 : (dworth A B y).e = 0
  case neg =>
    rw [dgap_w hs hb e1 e2]
    refine ⟨w1, fun h => absurd h e2, fun _ h => absurd h e2⟩
  obtain ⟨_, i1, v1⟩ := cost_val hs hp e1
  obtain ⟨i2, v2⟩ := w2 e2
  have e : dgap A B c x y = pack (qprice (fA A) (fB B) A.length (c : Rat) (nx x) - qworth (fB B) A.length (nx y)) := by
    rw [dgap_0 hs hb e1 e2, v1, v2]; exact sub_q i1 i2
  rw [e]
  refine ⟨pack_err _, fun h => ⟨e1, e2, pack_val h⟩, fun _ _ => rfl⟩
/-- DualBounds: a feasible witness, a point, the solution. -/
theorem bounds_fact (hs : scheck A B c = 0) (hw : witB A.length y = true) (h1 : (dfeas A B c y).2 = 0) (h2 : (dworth A B y).e = 0) (h3 : (dfeas A B c y).1 = true) :
    fchk (dworth A B y).n (dworth A B y).d = 0 ∧ fcmp (dworth A B y).n (dworth A B y).d (qprice (fA A) (fB B) A.length (c : Rat) (nsx A B c)).num (qprice (fA A) (fB B) A.length (c : Rat) (nsx A B c)).den ≤ 0 ∧
    (npoint A B x = 0 → (sCost A B c x).e = 0 → (dgap A B c x y).e = 0 → fchk (sCost A B c x).n (sCost A B c x).d = 0 ∧ fcmp (dworth A B y).n (dworth A B y).d (sCost A B c x).n (sCost A B c x).d ≤ 0 ∧ 0 ≤ (dgap A B c x y).n ∧ fsub (sCost A B c x).n (sCost A B c x).d (dworth A B y).n (dworth A B y).d = dgap A B c x y) := by
  obtain ⟨hc, h0, _⟩ := scheck_of hs
  have hf := (dfeas_val hs hw h1).1 h3
  obtain ⟨i1, v1⟩ := (dworth_val hc hw).2 h2
  have hk := sol_kkt' (fit_of hc) h0
  refine ⟨by rw [v1]; exact up_chk i1, ?_, fun hp e1 e2 => ?_⟩
  · rw [v1]; exact (cmp_le _ _).2 (weak_dual hk.1 hf)
  · obtain ⟨_, i2, v2⟩ := cost_val hs hp e1
    obtain ⟨_, _, i3, v3⟩ := (dgap_val hs hp hw).2.1 e2
    have hwd := weak_dual (b := fB B) (c := (c : Rat)) (x := nx x) (fun k _ => point_nn hp k) hf
    rw [v1, v2, v3]
    refine ⟨up_chk i2, (cmp_le _ _).2 hwd, num_nn (by grind), ?_⟩
    exact (sub_q i2 i1).trans (pack_ok i3)
end
end Go.Proofs.Ytfoemacgmehpiaa
