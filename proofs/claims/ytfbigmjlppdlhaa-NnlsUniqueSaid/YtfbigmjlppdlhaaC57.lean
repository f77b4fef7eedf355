/- What is proved here: contracts of functions and plain facts, several texts in one; each one says ahead what it proves, and its conditions. -/
import Derived.Test.YtfbigmjlppdlhaaC39
/- What is proved here: two optimal points of a fit, and the points between them. No program in sight. Condition: a valid fit, an optimal point of it. -/
namespace Go.Proofs.Ytfbigmjlppdlhaa
open Go.RowKit

/-- A point between two that meet the conditions meets them. -/
theorem kkt_mid {A : Nat → Nat → Rat} {b : Nat → Rat} {m : Nat} {c : Rat} {x p : Nat → Rat} (hx : qkkt A b m c x) (hp : qkkt A b m c p) : qkkt A b m c (fun k => (x k + p k) * qq (1, 2)) := by
  have h2 : qq (1, 2) = 1 / 2 := by unfold qq; rw [Rat.divInt_eq_div]; rfl
  have e := kkt_two A b m c hx hp
  obtain ⟨h3, _⟩ := kkt_same A b m c hx hp.1 e
  have hr : ∀ r, r < m → qres A b (fun k => (x k + p k) * qq (1, 2)) r = qres A b x r := fun r hr => by
    have e1 := h3 r hr
    have e2 : qax A (fun k => (x k + p k) * qq (1, 2)) r = (qax A x r + qax A p r) * (1 / 2) := by
      unfold qax; rw [sm_3, sm_3, sm_3, h2]; grind
    unfold qres
    rw [e2, e1]; grind
  have hr' : ∀ r, r < m → qres A b p r = qres A b x r := fun r hr => by unfold qres; rw [h3 r hr]
  have hs : ∀ k, qslope A b m c (fun k => (x k + p k) * qq (1, 2)) k = qslope A b m c x k := fun k => by
    unfold qslope qgrd
    rw [sm_congr (g := fun r => A r k * qres A b x r) m fun r h => by rw [hr r h]]
  have hs' : ∀ k, qslope A b m c p k = qslope A b m c x k := fun k => by
    unfold qslope qgrd
    rw [sm_congr (g := fun r => A r k * qres A b x r) m fun r h => by rw [hr' r h]]
  refine ⟨fun k hk => ?_, fun k hk => ?_⟩
  · have a := hx.1 k hk
    have b := hp.1 k hk
    show 0 ≤ (x k + p k) * qq (1, 2)
    rw [h2]; grind
  · rw [hs]
    obtain ⟨a1, a2⟩ := hx.2 k hk
    obtain ⟨b1, b2⟩ := hp.2 k hk
    rw [hs'] at b2
    refine ⟨a1, fun h => ?_⟩
    show (x k + p k) * qq (1, 2) = 0
    rw [a2 h, b2 h]; grind
section
variable {A : List (List Int)} {B : List Int} {p : List (Int × Int)}
theorem uniq_fact (hc : ncheck A B = 0) (hp : npoint A B p = 0) (ho : nOptimal A B p = (true, 0)) :
    p.length = (A.getD 0 []).length ∧ nResidual A B p = ((nResidual A B (nsol A B 0 (A.getD 0 []).length)).1, 0) := by
  have hF := fit_of hc
  have so := sol_ok hc (Int.le_refl 0) (by decide : (0 : Int) ≤ 1000)
  have hg := opt_err (A := A) (B := B) (x := p) (by rw [ho])
  obtain ⟨h0, _, _⟩ := ngrad_val hp (point_len hp) hg
  have hk := (opt_kkt hp hg).2.1 (by rw [ho])
  have hs := sol_kkt' hF (Int.le_refl 0)
  have e := kkt_two (fA A) (fB B) A.length _ hs hk
  obtain ⟨h3, _⟩ := kkt_same (fA A) (fB B) A.length _ hs hk.1 e
  have hl : p.length = (A.getD 0 []).length := ((pointB_of (n := (A.getD 0 []).length) (x := p) (by
    unfold npoint at hp
    rw [if_pos hc] at hp
    apply Classical.byContradiction
    intro h
    rw [if_neg h] at hp
    cases hp)).1)
  refine ⟨hl, ?_⟩
  have e0 : nResidual A B p = nresidual A B p := if_pos hp
  refine Prod.ext ?_ h0
  rw [e0] at h0
  rw [so.res, e0]
  show (nresidual A B p).1 = (List.range A.length).map fun i => up (qres (fA A) (fB B) (nsx A B 0) i)
  rw [(nresid_val (FitX.of hp) (point_len hp) h0).2]
  refine List.map_congr_left fun i hi => ?_
  have hi := List.mem_range.1 hi
  have : qres (ra (cel A)) (rb (nb B)) (nx p) i = qres (fA A) (fB B) (nsx A B 0) i := by
    have := h3 i hi
    unfold qres
    unfold fA at this
    rw [this]; rfl
  rw [this]
/-- The points between, as far as they are made. -/
def mids (A : List (List Int)) (B : List Int) (p : List (Int × Int)) (k : Nat) : List (Int × Int) := (List.range k).map fun j => up ((nsx A B 0 j + nx p j) * qq (1, 2))
theorem mids_succ (k : Nat) : mids A B p (k + 1) = mids A B p k ++ [up ((nsx A B 0 k + nx p k) * qq (1, 2))] := by
  unfold mids; rw [List.range_succ, List.map_append]; rfl
theorem mids_len (k : Nat) : (mids A B p k).length = k := by simp [mids]
theorem mids_fact (hc : ncheck A B = 0) (hp : npoint A B p = 0) (ho : nOptimal A B p = (true, 0)) (hi : ∀ k, k < (A.getD 0 []).length → inr ((nsx A B 0 k + nx p k) * qq (1, 2))) :
    FI (mids A B p (A.getD 0 []).length) ∧ (nOptimal A B (mids A B p (A.getD 0 []).length) = (true, 0) ∨ (nOptimal A B (mids A B p (A.getD 0 []).length)).2 = 16) := by
  have hF := fit_of hc
  have hg := opt_err (A := A) (B := B) (x := p) (by rw [ho])
  have hk := (opt_kkt hp hg).2.1 (by rw [ho])
  have hs := sol_kkt' hF (Int.le_refl 0)
  have hm := kkt_mid hs hk
  have hl := (uniq_fact hc hp ho).1
  have n3 := hF.cols.2
  have hsup : ∀ k, k < 3 → (A.getD 0 []).length ≤ k → nsx A B 0 k = 0 := fun k h3 hk => by
    rw [nx_sol hF (Int.le_refl 0) k h3]; exact nx_out (by rw [nsol_len]; exact hk)
  have hx : ∀ k, k < 3 → (fun k => (nsx A B 0 k + nx p k) * qq (1, 2)) k = nx (mids A B p (A.getD 0 []).length) k := fun k h3 => by
    rcases Nat.lt_or_ge k (A.getD 0 []).length with h | h
    · unfold nx mids
      rw [res_getD h, qq_up]; rfl
    · rw [nx_out (by rw [mids_len]; exact h)]
      show (nsx A B 0 k + nx p k) * qq (1, 2) = 0
      rw [hsup k h3 h, nx_out (by rw [hl]; exact h)]; grind
  have hv : ∀ q ∈ mids A B p (A.getD 0 []).length, fchk q.1 q.2 = 0 ∧ 0 ≤ q.1 := fun q hq => by
    unfold mids at hq
    obtain ⟨k, hk, rfl⟩ := List.mem_map.1 hq
    have hk' := List.mem_range.1 hk
    refine ⟨up_chk (hi k hk'), num_nn (hm.1 k (by omega))⟩
  have hpt := Fit.check hc (mids A B p (A.getD 0 []).length) (mids_len _) hv
  refine ⟨fun q hq => fr_i64 (hv q hq).1, ?_⟩
  have hm' := qkkt_congr hx hm
  rcases opt_err16 hpt with h | h
  · left
    exact Prod.ext ((opt_kkt hpt (opt_err h)).2.2 hm') h
  · exact .inr h
/-- A number between two, as frac.Add and frac.Mul give it. -/
theorem mid_ok {x p : Rat} {s m : FR} (hx : inr x) (hp : inr p) (hs : fadd (up x).1 (up x).2 (up p).1 (up p).2 = s) (hm : fmul s.n s.d 1 2 = m) (h1 : s.e = 0) (h2 : m.e = 0) : inr ((x + p) * qq (1, 2)) ∧ (m.n, m.d) = up ((x + p) * qq (1, 2)) := by
  have e1 := fadd_qq (a := up x) (b := up p) (up_chk hx) (up_chk hp)
  rw [qq_up, qq_up, hs] at e1
  rw [e1] at h1
  obtain ⟨i1, v1⟩ := pack_val h1
  rw [v1] at e1
  have e2 := fmul_qq (a := up (x + p)) (b := (1, 2)) (up_chk i1) (by decide)
  rw [qq_up] at e2
  have e3 : fmul s.n s.d 1 2 = pack ((x + p) * qq (1, 2)) := by rw [e1]; exact e2
  rw [e3] at hm
  rw [← hm] at h2
  obtain ⟨i2, v2⟩ := pack_val h2
  refine ⟨i2, ?_⟩
  rw [← hm, v2]; rfl
end
end Go.Proofs.Ytfbigmjlppdlhaa
