/- What is proved here: contracts of functions and plain facts, several texts in one; each one says ahead what it proves, and its conditions. -/
import Derived.Test.YtfoemacgmehpiaaC40
/- What is proved here: the witness of the solution has the gap 0; a point with a feasible witness and the gap 0 is optimal; the witness of a point is feasible. No program in sight. Condition: valid fits, costs, points and witnesses. -/
namespace Go.Proofs.Ytfoemacgmehpiaa
open Go.RowKit

section
variable {A : List (List Int)} {B : List Int} {c : Int} {x y : List (Int × Int)} {n : Nat}
theorem negs_map (g : Nat → Rat) (m : Nat) : negs ((List.range m).map fun i => up (g i)) = (List.range m).map fun i => up (- g i) := by
  unfold negs
  rw [List.map_map]
  refine List.map_congr_left fun i _ => ?_
  show (-(g i).num, ((g i).den : Int)) = _
  unfold up
  rw [Rat.neg_num, Rat.neg_den]
theorem nx_map {g : Nat → Rat} {m i : Nat} (hi : i < m) : nx ((List.range m).map fun i => up (g i)) i = g i := by
  unfold nx; rw [res_getD hi, qq_up]
theorem map_chk {g : Nat → Rat} {m : Nat} (hg : ∀ i, i < m → inr (g i)) : ∀ i (h : i < ((List.range m).map fun i => up (g i)).length), fchk ((List.range m).map fun i => up (g i))[i].1 ((List.range m).map fun i => up (g i))[i].2 = 0 := fun i h => by
  simp at h
  have e : ((List.range m).map fun i => up (g i))[i] = up (g i) := by simp
  rw [e]; exact up_chk (hg i h)
theorem wit_map {g : Nat → Rat} {m : Nat} (hg : ∀ i, i < m → inr (g i)) : witB m ((List.range m).map fun i => up (g i)) = true := by
  rw [witB_ok (fv_of (map_chk hg))]
  simp
theorem most_mem {l : List (Int × Int)} : ∀ k, k < l.length → ∃ j, j ≤ k ∧ mostN l k = l.getD j (0, 0)
  | 0, h => ⟨0, Nat.le_refl _, rfl⟩
  | k + 1, h => by
    unfold mostN
    split
    · exact ⟨k + 1, Nat.le_refl _, rfl⟩
    · obtain ⟨j, h1, h2⟩ := most_mem (l := l) k (by omega)
      exact ⟨j, by omega, h2⟩
theorem most_ub {g : Nat → Rat} {n : Nat} : ∀ k, k < n → ∃ q : Rat, mostN ((List.range n).map fun k => up (g k)) k = up q ∧ (∃ j, j ≤ k ∧ q = g j) ∧ ∀ j, j ≤ k → g j ≤ q
  | 0, h => by
    refine ⟨g 0, res_getD h, ⟨0, Nat.le_refl _, rfl⟩, fun j hj => ?_⟩
    obtain rfl : j = 0 := by omega
    exact Rat.le_refl
  | k + 1, h => by
    obtain ⟨q, h1, ⟨i, h2, h3⟩, h4⟩ := most_ub (g := g) (n := n) k (by omega)
    unfold mostN
    rw [h1, res_getD h]
    by_cases hc : fcmp (up q).1 (up q).2 (up (g (k + 1))).1 (up (g (k + 1))).2 = -1
    · rw [if_pos hc]
      have h5 : q < g (k + 1) := (cmp_lt q (g (k + 1))).1 hc
      refine ⟨g (k + 1), rfl, ⟨k + 1, Nat.le_refl _, rfl⟩, fun j hj => ?_⟩
      rcases Nat.lt_or_ge j (k + 1) with h6 | h6
      · have := h4 j (by omega); grind
      · obtain rfl : j = k + 1 := by omega
        exact Rat.le_refl
    · rw [if_neg hc]
      have h5 : ¬ q < g (k + 1) := fun h => hc ((cmp_lt q (g (k + 1))).2 h)
      refine ⟨q, rfl, ⟨i, by omega, h3⟩, fun j hj => ?_⟩
      rcases Nat.lt_or_ge j (k + 1) with h6 | h6
      · exact h4 j (by omega)
      · obtain rfl : j = k + 1 := by omega
        grind
theorem col_out (h : Fit A B n) {k : Nat} (hk : n ≤ k) (y : Nat → Rat) : qcol (fA A) A.length y k = 0 :=
  sm_0 A.length fun r hr => by
    have : fA A r k = 0 := by unfold fA ra; rw [h.out hr hk]; rfl
    rw [this]; grind
theorem qcol_congr {m : Nat} {u v : Nat → Rat} (h : ∀ i, i < m → u i = v i) (k : Nat) : qcol (fA A) m u k = qcol (fA A) m v k := sm_congr m fun r hr => by rw [h r hr]
theorem qworth_congr {m : Nat} {u v : Nat → Rat} (h : ∀ i, i < m → u i = v i) : qworth (fB B) m u = qworth (fB B) m v := by
  unfold qworth
  rw [sm_congr (f := fun r => u r * fB B r) m fun r hr => by rw [h r hr], sm_congr (f := fun r => u r * u r) m fun r hr => by rw [h r hr]]
theorem sm_neg (f : Nat → Rat) (k : Nat) : sm (fun i => - f i) k = - sm f k := by
  have := sm_mul (-1) f k
  have e : sm (fun i => -1 * f i) k = sm (fun i => - f i) k := sm_congr k fun i _ => by grind
  rw [← e, this]; grind
/-- What the functions return at the witness of the solution. -/
theorem tight_fact (hs : scheck A B c = 0) :
    (nResidual A B (nsol A B c (A.getD 0 []).length)).2 = 0 ∧ (∀ i (h : i < (nResidual A B (nsol A B c (A.getD 0 []).length)).1.length), fchk (nResidual A B (nsol A B c (A.getD 0 []).length)).1[i].1 (nResidual A B (nsol A B c (A.getD 0 []).length)).1[i].2 = 0) ∧
    dMake A B c (nsol A B c (A.getD 0 []).length) = (negs (nResidual A B (nsol A B c (A.getD 0 []).length)).1, 0) ∧
    dgap A B c (nsol A B c (A.getD 0 []).length) (negs (nResidual A B (nsol A B c (A.getD 0 []).length)).1) = ⟨0, 1, 0⟩ ∧
    daccept A B c (nsol A B c (A.getD 0 []).length) (negs (nResidual A B (nsol A B c (A.getD 0 []).length)).1) 0 1 = (true, 0) := by
  obtain ⟨hc, h0, h1⟩ := scheck_of hs
  have hF := fit_of hc
  have so := sol_ok hc h0 h1
  have ss := sol_s hs
  have hk := sol_kkt' hF h0
  have hl : (nsol A B c (A.getD 0 []).length).length = (A.getD 0 []).length := nsol_len
  have n3 := hF.cols
  have hpb := (point_iff hc).1 so.point
  have hx := nx_sol hF h0
  generalize hn : (A.getD 0 []).length = n at *
  have r0 : nResidual A B (nsol A B c n) = ((List.range A.length).map fun i => up (qres (fA A) (fB B) (nsx A B c) i), 0) := so.res
  rw [r0]
  generalize hr : qres (fA A) (fB B) (nsx A B c) = R at *
  have srin : ∀ i, i < A.length → inr (R i) := by rw [← hr]; exact so.rin
  show (0 : Int) = 0 ∧ _
  refine ⟨rfl, map_chk srin, ?_⟩
  show dMake A B c (nsol A B c n) = (negs ((List.range A.length).map fun i => up (R i)), 0) ∧ dgap A B c (nsol A B c n) (negs ((List.range A.length).map fun i => up (R i))) = ⟨0, 1, 0⟩ ∧ daccept A B c (nsol A B c n) (negs ((List.range A.length).map fun i => up (R i))) 0 1 = (true, 0)
  have hm : dMake A B c (nsol A B c n) = dwit A c (negs ((List.range A.length).map fun i => up (R i))) n := by
    rw [dMake_0 hs (by rw [r0]), r0, hl]
  rw [hm, negs_map]
  have rn : ∀ i, i < A.length → inr (- R i) := fun i hi => inr_neg (srin i hi)
  generalize hZ : ((List.range A.length).map fun i => up (- R i)) = Z at *
  have zl : Z.length = A.length := by rw [← hZ]; simp
  have zv : ∀ i (h : i < Z.length), fchk Z[i].1 Z[i].2 = 0 := by rw [← hZ]; exact map_chk rn
  have zx : ∀ i, i < A.length → nx Z i = - R i := fun i hi => by rw [← hZ]; exact nx_map hi
  have zw : witB A.length Z = true := by rw [← hZ]; exact wit_map rn
  have hY := FitY.ofC hc zw
  rw [hn] at hY
  have hD := sD_bd hF h0
  have key : ∀ k, k < n → gsum (colT A Z k) A.length = uf (qcol (fA A) A.length (nx Z) k) := fun k hkn => by
    have e : ∀ i, i ≤ A.length → sm (tq (colT A Z k)) i = - sm (fun r => fA A r k * R r) i := fun i hi => by
      rw [← sm_neg]
      exact sm_congr i fun r hr2 => by rw [tq_colY, zx r (by omega)]; grind
    have := gsum_go A.length (colY_tval hY hkn) (fun j hj => ?_) (fun j hj => ?_)
    · have e2 : sm (tq (colT A Z k)) A.length = qcol (fA A) A.length (nx Z) k := sm_congr A.length fun i _ => tq_colY k i
      rw [e2] at this; exact this
    · rw [tq_colY, zx j hj]
      have b1 := wr_mulbd' (X := 5) (Y := 4000000000000) (Z := 20000000000000) (hF.cel5 hj (l := k)) (sR_bd hF h0 h1 hj) (by decide)
      have e3 : fA A j k * - R j = - (((cel A j k * sR A B c j : Int) : Rat) / (sD A B c : Rat)) := by
        rw [← mul_div', ← res_is hF h0, hr]
        show (cel A j k : Rat) * - R j = _
        grind
      rw [e3]
      exact inr_neg (inr_frac (by omega) (by omega) (by omega) (by omega))
    · rw [e j hj, ← hr, colpart hF h0]
      have := colpart_bd hF h0 h1 k hj
      unfold wi at this
      exact inr_neg (inr_frac (by omega) (by omega) (by omega) (by omega))
  have ds : dsums A Z n = ((List.range n).map fun k => up (qcol (fA A) A.length (nx Z) k), 0) := rows_list fun k hk => key k hk
  have sd := strong_dual (b := fB B) hk
  rw [hr] at sd
  have qc : ∀ k, k < 3 → qcol (fA A) A.length (nx Z) k ≤ (c : Rat) := fun k h3 => by
    rw [qcol_congr zx]; exact sd.1 k h3
  have qw : qworth (fB B) A.length (nx Z) = qprice (fA A) (fB B) A.length (c : Rat) (nsx A B c) := by
    rw [qworth_congr zx]; exact sd.2.symm
  have e1 : dwit A c Z n = (Z, 0) := by
    rw [dwit_0 (by rw [ds]), ds]
    obtain ⟨q, h1, ⟨j, h2, h3⟩, _⟩ := most_ub (g := fun k => qcol (fA A) A.length (nx Z) k) (n := n) (n - 1) (by omega)
    show dpart c Z (mostN ((List.range n).map fun k => up (qcol (fA A) A.length (nx Z) k)) (n - 1)) = _
    rw [h1]
    refine dpart_0 fun h => ?_
    have h4 : (c : Rat) < q := (cmp_int_lt c q).1 h
    have h5 := qc j (by omega)
    rw [← h3] at h5
    grind
  have f1 : dfeas A B c Z = (true, 0) := by
    rw [dfeas_0 (dcheck_0 hs zw) (by rw [hn, ds]), hn, ds]
    exact Prod.ext (feas_list.2 fun k hk => qc k (by omega)) rfl
  have w0 : (dworth A B Z).e = 0 := by
    have wd := dcheck_0 (scheck_0 hc (Int.le_refl 0) (by decide)) zw
    rw [dworth_0 wd, zl]
    have rv := rights_ok hF
    have g1 := gsum_go (t := prodT Z (rights B)) A.length (prod_tval (by omega) (by rw [rights_len, hF.right]; exact Nat.le_refl _) zv rv) (fun j hj => ?_) (fun j hj => ?_)
    · have g2 := gsum_go (t := prodT Z Z) A.length (prod_tval (by omega) (by omega) zv zv) (fun j hj => ?_) (fun j hj => ?_)
      · rw [g1, g2]
        have e : sm (tq (prodT Z Z)) A.length = qval (fA A) (fB B) A.length (nsx A B c) := sm_congr A.length fun i hi => by
          rw [tq_sqY, zx i hi, ← hr]; grind
        have hM := sq_bd hF h0 (Nat.le_refl A.length)
        have iS : inr (sm (tq (prodT Z Z)) A.length) := by rw [e]; exact so.vin
        have hh := half_q iS
        have iH : inr (sm (tq (prodT Z Z)) A.length * (1 / 2)) := by
          rw [e]
          have eV : qval (fA A) (fB B) A.length (nsx A B c) * (1 / 2) = ((si (fun r => sR A B c r * sR A B c r) A.length : Int) : Rat) / ((2 * (sD A B c * sD A B c) : Int) : Rat) := by
            have hq : qval (fA A) (fB B) A.length (nsx A B c) = (si (fun r => sR A B c r * sR A B c r) A.length : Rat) / ((sD A B c * sD A B c : Int) : Rat) := sqpart hF h0 A.length
            rw [hq, div_half, Rat.intCast_mul 2]; rfl
          rw [eV]; exact inr_frac (by omega) (by omega) (by omega) (by omega)
        rw [pack_ok iH] at hh
        rw [dval_0 rfl rfl (by rw [hh]), hh]
        have iG : inr (sm (tq (prodT Z (rights B))) A.length) := by
          have e2 : sm (tq (prodT Z (rights B))) A.length = - (((si (fun r => sR A B c r * nb B r) A.length : Int) : Rat) / (sD A B c : Rat)) := by
            rw [← sm_div, ← sm_neg]
            exact sm_congr A.length fun r hr2 => by
              rw [tq_prod r (by rw [hF.right]; exact hr2), zx r hr2, ← hr, res_is hF h0, Rat.intCast_mul, Rat.div_def, Rat.div_def]
              show _ = - (_ * fB B r * _)
              grind
          rw [e2]
          have := si_wi (f := fun r => sR A B c r * nb B r) (X := 200000000000000) A.length fun r hr2 => wr_mulbd' (X := 4000000000000) (Y := 50) (sR_bd hF h0 h1 hr2) (hF.side50 hr2) (by decide)
          have hr5 := hF.rows
          unfold wi at this
          exact inr_neg (inr_frac (by omega) (by omega) (by omega) (by omega))
        have hq := sub_q iG iH
        have e3 : sm (tq (prodT Z (rights B))) A.length - sm (tq (prodT Z Z)) A.length * (1 / 2) = qworth (fB B) A.length (nx Z) := by
          have : sm (tq (prodT Z (rights B))) A.length = sm (fun r => nx Z r * fB B r) A.length := sm_congr A.length fun i hi => tq_prod i (by rw [hF.right]; exact hi)
          rw [this]; rfl
        rw [e3, qw, pack_ok ss.cin] at hq
        have hq' := congrArg FR.e hq
        exact hq'
      · rw [tq_sqY, zx j hj, ← hr]
        have b1 := sR_bd hF h0 h1 hj
        obtain ⟨b2, b3, b4, b5⟩ := sq_bd hF h0 (i := j + 1) (by omega)
        obtain ⟨b6, _⟩ := sq_bd hF h0 (i := j) (by omega)
        rw [si_succ] at b3
        have b7 : 0 ≤ sR A B c j * sR A B c j := by
          rcases Int.le_total 0 (sR A B c j) with h | h
          · exact Int.mul_nonneg h h
          · exact Int.mul_nonneg_of_nonpos_of_nonpos h h
        have e : - qres (fA A) (fB B) (nsx A B c) j * - qres (fA A) (fB B) (nsx A B c) j = ((sR A B c j * sR A B c j : Int) : Rat) / ((sD A B c * sD A B c : Int) : Rat) := by
          rw [res_is hF h0, Rat.intCast_mul, Rat.intCast_mul, Rat.div_def, Rat.div_def, Rat.inv_mul_rev]; grind
        rw [e]
        exact inr_frac (by omega) (by omega) (by omega) (by omega)
      · have e : sm (tq (prodT Z Z)) j = sm (fun r => qres (fA A) (fB B) (nsx A B c) r * qres (fA A) (fB B) (nsx A B c) r) j := sm_congr j fun i hi => by
          rw [tq_sqY, zx i (by omega), hr]; grind
        obtain ⟨b1, b2, b3, b4⟩ := sq_bd hF h0 hj
        rw [e, sqpart hF h0]
        exact inr_frac (by omega) (by omega) (by omega) (by omega)
    · rw [tq_prod j (by rw [hF.right]; exact hj), zx j hj, ← hr]
      have b1 := wr_mulbd' (X := 4000000000000) (Y := 50) (Z := 200000000000000) (sR_bd hF h0 h1 hj) (hF.side50 hj) (by decide)
      have e : - qres (fA A) (fB B) (nsx A B c) j * fB B j = - (((sR A B c j * nb B j : Int) : Rat) / (sD A B c : Rat)) := by
        rw [res_is hF h0, Rat.intCast_mul, Rat.div_def, Rat.div_def]
        show - _ * fB B j = - (_ * fB B j * _)
        grind
      rw [e]
      exact inr_neg (inr_frac (by omega) (by omega) (by omega) (by omega))
    · have e2 : sm (tq (prodT Z (rights B))) j = - (((si (fun r => sR A B c r * nb B r) j : Int) : Rat) / (sD A B c : Rat)) := by
        rw [← sm_div, ← sm_neg]
        exact sm_congr j fun r hr2 => by
          rw [tq_prod r (by rw [hF.right]; omega), zx r (by omega), ← hr, res_is hF h0, Rat.intCast_mul, Rat.div_def, Rat.div_def]
          show _ = - (_ * fB B r * _)
          grind
      rw [e2]
      have := si_wi (f := fun r => sR A B c r * nb B r) (X := 200000000000000) j fun r hr2 => wr_mulbd' (X := 4000000000000) (Y := 50) (sR_bd hF h0 h1 (by omega)) (hF.side50 (by omega)) (by decide)
      have hr5 := hF.rows
      unfold wi at this
      exact inr_neg (inr_frac (by omega) (by omega) (by omega) (by omega))
  have g0 : dgap A B c (nsol A B c n) Z = ⟨0, 1, 0⟩ := by
    rw [(dgap_val hs so.point zw).2.2 (by rw [ss.cost]; rfl) w0, qw, qprice_congr fun k hk => (hx k hk).symm]
    have : qprice (fA A) (fB B) A.length (c : Rat) (nsx A B c) - qprice (fA A) (fB B) A.length (c : Rat) (nsx A B c) = 0 := by grind
    rw [this]; rfl
  refine ⟨e1, g0, ?_⟩
  have hb := both_of (x := nsol A B c n) (y := Z) (by rw [hn]; exact hpb) zw
  rw [dacc_0 hs hb (by decide) (by rw [f1]) (by rw [g0]), f1, g0]
  rfl
end
end Go.Proofs.Ytfoemacgmehpiaa

/- What is proved here: a point with a feasible witness and the gap 0 is optimal; the witness of a point is feasible, and accepted with its gap alone. No program in sight. Condition: valid fits, costs, points and witnesses. -/
namespace Go.Proofs.Ytfoemacgmehpiaa
open Go.RowKit

section
variable {A : List (List Int)} {B : List Int} {c : Int} {x y : List (Int × Int)} {n : Nat}
/-- Accept, with its parts known. -/
theorem acc_val (hs : scheck A B c = 0) (hp : npoint A B x = 0) (hw : witB A.length y = true) {gn gd : Int} (hg : fchk gn gd = 0) :
    ((daccept A B c x y gn gd).2 = 0 ∨ (daccept A B c x y gn gd).2 = 16) ∧ ((daccept A B c x y gn gd).2 = 0 → (dfeas A B c y).2 = 0 ∧ (dgap A B c x y).e = 0) ∧
    ((dfeas A B c y).2 = 0 → (dgap A B c x y).e = 0 → daccept A B c x y gn gd = ((dfeas A B c y).1 && (decide ((dgap A B c x y).n = gn) && decide ((dgap A B c x y).d = gd)), 0)) := by
  have hb := both_of ((point_iff (scheck_of hs).1).1 hp) hw
  by_cases e1 : (dfeas A B c y).2 = 0
  case neg =>
    rw [dacc_f hs hb hg e1]
    exact ⟨dfeas_err hs hw, fun h => absurd h e1, fun h => absurd h e1⟩
  by_cases e2 : (dgap A B c x y).e = 0
  case neg =>
    rw [dacc_g hs hb hg e1 e2]
    exact ⟨(dgap_val hs hp hw).1, fun h => absurd h e2, fun _ h => absurd h e2⟩
  have := dacc_0 hs hb hg e1 e2
  rw [this]
  exact ⟨.inl rfl, fun _ => ⟨e1, e2⟩, fun _ _ => rfl⟩
theorem num_0 {q : Rat} (h : q.num = 0) : q = 0 := Rat.num_eq_zero.1 h
/-- A certificate with the gap 0. -/
theorem zero_fact (hs : scheck A B c = 0) (hp : npoint A B x = 0) (hw : witB A.length y = true) :
    ((daccept A B c x y 0 1).2 = 0 ∨ (daccept A B c x y 0 1).2 = 16) ∧ ((daccept A B c x y 0 1).2 = 0 → (daccept A B c x y 0 1).1 = true → sOptimal A B c x = (true, 0) ∨ (sOptimal A B c x).2 = 16) := by
  obtain ⟨hc, h0, h1⟩ := scheck_of hs
  obtain ⟨a1, a2, a3⟩ := acc_val hs hp hw (gn := 0) (gd := 1) (by decide)
  refine ⟨a1, fun b1 b2 => ?_⟩
  obtain ⟨e1, e2⟩ := a2 b1
  rw [a3 e1 e2] at b2
  simp only [Bool.and_eq_true, decide_eq_true_eq] at b2
  obtain ⟨f1, f2, _⟩ := b2
  have hf := (dfeas_val hs hw e1).1 f1
  obtain ⟨_, _, i3, v3⟩ := (dgap_val hs hp hw).2.1 e2
  rw [v3] at f2
  have z := num_0 f2
  have hk := sol_kkt' (fit_of hc) h0
  have hfe : qfeas (nx x) := fun k _ => point_nn hp k
  have w1 := weak_dual (b := fB B) (c := (c : Rat)) hk.1 hf
  have w2 := kkt_least (fA A) (fB B) A.length _ hk hfe
  have same : qprice (fA A) (fB B) A.length (c : Rat) (nx x) = qprice (fA A) (fB B) A.length (c : Rat) (nsx A B c) := by grind
  have hq := (kkt_same (fA A) (fB B) A.length _ hk hfe same).2
  rcases sopt_err16 hs hp with h | h
  · left
    have h2 := sopt_kkt hs (sopt_err h)
    exact Prod.ext (h2.2.2 hq) h
  · exact .inr h
theorem rows_map {f : Nat → FR} {m : Nat} (hf : ∀ i, i < m → FOk (f i)) : ((rowsOf f m).2 = 0 ∨ rowsOf f m = ([], 16)) := rows_err16 hf m (Nat.le_refl _)
theorem resid_list (hp : npoint A B x = 0) (he : (nResidual A B x).2 = 0) : (∀ i, i < A.length → inr (qres (fA A) (fB B) (nx x) i)) ∧ nResidual A B x = ((List.range A.length).map fun i => up (qres (fA A) (fB B) (nx x) i), 0) := by
  have e0 : nResidual A B x = nresidual A B x := if_pos hp
  rw [e0] at he ⊢
  obtain ⟨h1, h2⟩ := nresid_val (FitX.of hp) (point_len hp) he
  exact ⟨h1, Prod.ext h2 he⟩
theorem div_q {c : Int} {q : Rat} (h0 : 0 ≤ c) (h1 : c ≤ 1000) (hq : inr q) (hz : q ≠ 0) : fdiv c 1 (up q).1 (up q).2 = pack ((c : Rat) / q) := by
  have hn : ¬ (up q).1 = 0 := fun h => hz (num_0 h)
  have := fdiv_1 (fboth_of (cost_chk h0 h1) (up_chk hq)) hn
  rw [this]
  show pack (qq (c, 1) / qq (up q)) = _
  rw [qq_int, qq_up]
theorem mul_q {a b : Rat} (ha : inr a) (hb : inr b) : fmul (up a).1 (up a).2 (uf b).n (uf b).d = pack (a * b) := by
  have := fmul_qq (a := up a) (b := up b) (up_chk ha) (up_chk hb)
  rw [qq_up, qq_up] at this
  exact this
/-- The witness of a point. -/
theorem made_fact (hs : scheck A B c = 0) (hp : npoint A B x = 0) : ((dMake A B c x).2 = 0 ∨ (dMake A B c x).2 = 16) ∧
    ((dMake A B c x).2 = 0 → witB A.length (dMake A B c x).1 = true ∧ ((dfeas A B c (dMake A B c x).1).2 = 0 → (dfeas A B c (dMake A B c x).1).1 = true)) := by
  obtain ⟨hc, h0, h1⟩ := scheck_of hs
  have hF := fit_of hc
  have n3 := hF.cols
  have hxl : x.length = (A.getD 0 []).length := (pointB_of ((point_iff hc).1 hp)).1
  by_cases hr : (nResidual A B x).2 = 0
  case neg =>
    rw [dMake_r hs hr]
    exact ⟨resid_err hp, fun h => absurd h hr⟩
  obtain ⟨ri, rl⟩ := resid_list hp hr
  rw [dMake_0 hs hr, rl, hxl]
  generalize hn : (A.getD 0 []).length = n at *
  show ((dwit A c (negs ((List.range A.length).map fun i => up (qres (fA A) (fB B) (nx x) i))) n).2 = 0 ∨ _) ∧ _
  have key : ∀ Z, Z = (List.range A.length).map (fun i => up (- qres (fA A) (fB B) (nx x) i)) → ((dwit A c Z n).2 = 0 ∨ (dwit A c Z n).2 = 16) ∧ ((dwit A c Z n).2 = 0 → witB A.length (dwit A c Z n).1 = true ∧ ((dfeas A B c (dwit A c Z n).1).2 = 0 → (dfeas A B c (dwit A c Z n).1).1 = true)) := by
    intro Z hZ
    have rn : ∀ i, i < A.length → inr (- qres (fA A) (fB B) (nx x) i) := fun i hi => inr_neg (ri i hi)
    have zl : Z.length = A.length := by rw [hZ]; simp
    have zx : ∀ i, i < A.length → nx Z i = - qres (fA A) (fB B) (nx x) i := fun i hi => by rw [hZ]; exact nx_map hi
    have zw : witB A.length Z = true := by rw [hZ]; exact wit_map rn
    have hY := FitY.ofC hc zw
    rw [hn] at hY
    by_cases hd : (dsums A Z n).2 = 0
    case neg =>
      rw [dwit_1 hd]
      refine ⟨?_, fun h => absurd h hd⟩
      rw [dsums_16 hY hd]; exact .inr rfl
    obtain ⟨d1, d2⟩ := dsums_val hY hd
    rw [dwit_0 hd, d2]
    obtain ⟨q, m1, ⟨j, m2, m3⟩, m4⟩ := most_ub (g := fun k => qcol (fA A) A.length (nx Z) k) (n := n) (n - 1) (by omega)
    have iq : inr q := by rw [m3]; exact d1 j (by omega)
    show ((dpart c Z (mostN ((List.range n).map fun k => up (qcol (fA A) A.length (nx Z) k)) (n - 1))).2 = 0 ∨ _) ∧ _
    rw [m1]
    by_cases hq : fcmp c 1 (up q).1 (up q).2 = -1
    case neg =>
      have hq' : ¬ (c : Rat) < q := fun h => hq ((cmp_int_lt c q).2 h)
      rw [dpart_0 hq]
      refine ⟨.inl rfl, fun _ => ⟨zw, fun he => (dfeas_val hs zw he).2 fun k h3 => ?_⟩⟩
      rcases Nat.lt_or_ge k n with h4 | h4
      · have := m4 k (by omega); grind
      · show qcol (fA A) A.length (nx Z) k ≤ (c : Rat)
        rw [col_out hF h4]; exact cost_nn h0
    have hq' : (c : Rat) < q := (cmp_int_lt c q).1 hq
    have c0 := cost_nn h0
    have qz : q ≠ 0 := by grind
    have dq := div_q h0 h1 iq qz
    by_cases hf : inr ((c : Rat) / q)
    case neg =>
      rw [pack_no hf] at dq
      rw [dpart_1 hq (by rw [dq]; decide)]
      exact ⟨.inr rfl, fun h => by cases h⟩
    rw [pack_ok hf] at dq
    have fz : (fdiv c 1 (up q).1 (up q).2).e = 0 := by rw [dq]
    rw [dpart_2 hq fz]
    have zi : ∀ i, i < A.length → Z.getD i (0, 0) = up (- qres (fA A) (fB B) (nx x) i) := fun i hi => by rw [hZ]; exact res_getD hi
    have each : ∀ i, i < A.length → dmulN Z (fdiv c 1 (up q).1 (up q).2) i = pack (- qres (fA A) (fB B) (nx x) i * ((c : Rat) / q)) := fun i hi => by
      unfold dmulN
      rw [zi i hi, dq]
      exact mul_q (rn i hi) hf
    have hok : ∀ i, i < Z.length → FOk (dmulN Z (fdiv c 1 (up q).1 (up q).2) i) := fun i hi => by rw [each i (by omega)]; exact pack_FOk _
    rcases rows_err16 hok Z.length (Nat.le_refl _) with hz | hz
    case inr => rw [hz]; exact ⟨.inr rfl, fun h => by cases h⟩
    refine ⟨.inl hz, fun _ => ?_⟩
    have each2 : ∀ i, i < A.length → inr (- qres (fA A) (fB B) (nx x) i * ((c : Rat) / q)) ∧ dmulN Z (fdiv c 1 (up q).1 (up q).2) i = uf (- qres (fA A) (fB B) (nx x) i * ((c : Rat) / q)) := fun i hi => by
      have h1 := (rows_each Z.length hz i (by omega)).1
      rw [each i hi] at h1 ⊢
      exact pack_val h1
    have hl := rows_list (f := dmulN Z (fdiv c 1 (up q).1 (up q).2)) (m := Z.length) fun i hi => (each2 i (by omega)).2
    rw [hl, zl]
    show witB A.length ((List.range A.length).map fun i => up (- qres (fA A) (fB B) (nx x) i * ((c : Rat) / q))) = true ∧ ((dfeas A B c ((List.range A.length).map fun i => up (- qres (fA A) (fB B) (nx x) i * ((c : Rat) / q)))).2 = 0 → (dfeas A B c ((List.range A.length).map fun i => up (- qres (fA A) (fB B) (nx x) i * ((c : Rat) / q)))).1 = true)
    have yw := wit_map (m := A.length) (g := fun i => - qres (fA A) (fB B) (nx x) i * ((c : Rat) / q)) fun i hi => (each2 i hi).1
    refine ⟨yw, fun he => (dfeas_val hs yw he).2 fun k h3 => ?_⟩
    have e : qcol (fA A) A.length (nx ((List.range A.length).map fun i => up (- qres (fA A) (fB B) (nx x) i * ((c : Rat) / q)))) k = ((c : Rat) / q) * qcol (fA A) A.length (nx Z) k := by
      unfold qcol
      rw [← sm_mul]
      exact sm_congr A.length fun i hi => by
        rw [nx_map (g := fun i => - qres (fA A) (fB B) (nx x) i * ((c : Rat) / q)) hi, zx i hi]; grind
    rw [e]
    have f0 : 0 ≤ (c : Rat) / q := by
      rw [Rat.div_def]
      exact Rat.mul_nonneg c0 (Rat.le_of_lt (Rat.inv_pos.2 (by grind)))
    rcases Nat.lt_or_ge k n with h4 | h4
    · have h5 : qcol (fA A) A.length (nx Z) k ≤ q := m4 k (by omega)
      have h6 := Rat.mul_le_mul_of_nonneg_left h5 f0
      rw [Rat.div_mul_cancel qz] at h6
      exact h6
    · rw [col_out hF h4]; grind
  rw [negs_map]
  exact key _ rfl
/-- A witness that is feasible, with its gap. -/
theorem gap_fact (hs : scheck A B c = 0) (hp : npoint A B x = 0) (hw : witB A.length y = true) (e1 : (dfeas A B c y).2 = 0) (f1 : (dfeas A B c y).1 = true) (e2 : (dgap A B c x y).e = 0) :
    fchk (dgap A B c x y).n (dgap A B c x y).d = 0 ∧ daccept A B c x y (dgap A B c x y).n (dgap A B c x y).d = (true, 0) ∧ 0 ≤ (dgap A B c x y).n ∧
    (∀ gn gd, fchk gn gd = 0 → daccept A B c x y gn gd = (decide ((dgap A B c x y).n = gn) && decide ((dgap A B c x y).d = gd), 0)) ∧
    (sCost A B c x).e = 0 ∧ fchk (sCost A B c x).n (sCost A B c x).d = 0 ∧
    ∀ m : FR, fsub (sCost A B c x).n (sCost A B c x).d (uf (qprice (fA A) (fB B) A.length (c : Rat) (nsx A B c))).n (uf (qprice (fA A) (fB B) A.length (c : Rat) (nsx A B c))).d = m → (m.e = 0 ∨ m.e = 16) ∧ (m.e = 0 → fchk m.n m.d = 0 ∧ fcmp m.n m.d (dgap A B c x y).n (dgap A B c x y).d ≤ 0) := by
  obtain ⟨hc, h0, h1⟩ := scheck_of hs
  obtain ⟨p1, p2, i3, v3⟩ := (dgap_val hs hp hw).2.1 e2
  obtain ⟨_, i2, v2⟩ := cost_val hs hp p1
  have hf := (dfeas_val hs hw e1).1 f1
  have hk := sol_kkt' (fit_of hc) h0
  have wd := weak_dual (b := fB B) (c := (c : Rat)) (x := nx x) (fun k _ => point_nn hp k) hf
  have wk := weak_dual (b := fB B) (c := (c : Rat)) hk.1 hf
  have ic := (sol_s hs).cin
  have gc : fchk (dgap A B c x y).n (dgap A B c x y).d = 0 := by rw [v3]; exact up_chk i3
  have acc := fun gn gd (hg : fchk gn gd = 0) => (acc_val hs hp hw hg).2.2 e1 e2
  refine ⟨gc, ?_, ?_, fun gn gd hg => ?_, p1, ?_, fun m hm => ?_⟩
  · rw [acc _ _ gc, f1]; simp
  · rw [v3]; exact num_nn (by grind)
  · rw [acc _ _ hg, f1]; rfl
  · rw [v2]; exact up_chk i2
  · rw [v2, sub_q i2 ic] at hm
    subst hm
    refine ⟨pack_err _, fun h => ?_⟩
    obtain ⟨j1, j2⟩ := pack_val h
    rw [j2, v3]
    refine ⟨up_chk j1, (cmp_le _ _).2 (by grind)⟩
end
end Go.Proofs.Ytfoemacgmehpiaa
