/- What is proved here: contracts of functions and plain facts, several texts in one; each one says ahead what it proves, and its conditions. -/
import Derived.Test.YtfbigmjlppdlhaaC39
/- What is proved here: a fit that a point with whole numbers solves: its solution has the value 0, and the gradient 0. No program in sight. Condition: a valid fit. -/
namespace Go.Proofs.Ytfbigmjlppdlhaa
open Go.RowKit

/-- The sum of the products of two lists of numbers, of the first k. -/
def dsum (a p : List Int) (k : Nat) : Int := si (fun j => a.getD j 0 * p.getD j 0) k
/-- The right sides that a point gives. -/
def exB (A : List (List Int)) (p : List Int) (i : Nat) : List Int := (List.range i).map fun r => dsum (A.getD r []) p (min (A.getD r []).length p.length)
theorem exB_succ (A : List (List Int)) (p : List Int) (i : Nat) : exB A p (i + 1) = exB A p i ++ [dsum (A.getD i []) p (min (A.getD i []).length p.length)] := by
  unfold exB; rw [List.range_succ, List.map_append]; rfl
theorem exB_len (A : List (List Int)) (p : List Int) (i : Nat) : (exB A p i).length = i := by simp [exB]
/-- A number of the point and of a row that the law takes. -/
def exOk (a p : Int) : Bool := !(decide (a < -5)) && !(decide (5 < a)) && !(decide (p < 0)) && !(decide (50 < p))
section
variable {A : List (List Int)} {p : List Int}
theorem exact_fact (hc : ncheck A (exB A p A.length) = 0) (hl : (A.getD 0 []).length = p.length) (hp : ∀ j, j < p.length → 0 ≤ p.getD j 0) :
    nValue A (exB A p A.length) (nsol A (exB A p A.length) 0 (A.getD 0 []).length) = ⟨0, 1, 0⟩ ∧
    nGradient A (exB A p A.length) (nsol A (exB A p A.length) 0 (A.getD 0 []).length) = ((List.range p.length).map fun _ => (0, 1), 0) := by
  have hF := fit_of hc
  have so := sol_ok hc (Int.le_refl 0) (by decide : (0 : Int) ≤ 1000)
  have hk := sol_kkt' hF (Int.le_refl 0)
  have n3 := hF.cols.2
  obtain ⟨x, hx⟩ : ∃ x : Nat → Rat, x = fun j => ((p.getD j 0 : Int) : Rat) := ⟨_, rfl⟩
  have hr : ∀ r, r < A.length → qres (fA A) (fB (exB A p A.length)) x r = 0 := fun r hr => by
    have hw : A[r].length = p.length := by rw [hF.wide r hr, hl]
    have e1 : nb (exB A p A.length) r = dsum A[r] p p.length := by
      unfold nb exB
      simp only [List.getD, List.getElem?_map, List.getElem?_range hr, Option.map_some, Option.getD_some, List.getElem?_eq_getElem hr]
      rw [hw, Nat.min_self]
    have e2 : qax (fA A) x r = ((dsum A[r] p p.length : Int) : Rat) := by
      unfold qax dsum
      rw [si_cast, hx, sm_more (n := p.length) 3 (by omega) (fun j hj => by simp only; rw [show p.getD j 0 = 0 by simp [List.getD, List.getElem?_eq_none hj]]; show _ * (0 : Rat) = 0; grind)]
      refine sm_congr p.length fun j hj => ?_
      rw [Rat.intCast_mul]
      unfold fA ra
      simp only
      rw [show cel A r j = A[r].getD j 0 by simp [cel, List.getD, hr]]
    unfold qres fB rb
    rw [e1, e2]; grind
  have hf : qfeas x := fun k hk => by
    rw [hx]
    show (0 : Rat) ≤ ((p.getD k 0 : Int) : Rat)
    have : 0 ≤ p.getD k 0 := by
      rcases Nat.lt_or_ge k p.length with h | h
      · exact hp k h
      · simp [List.getD, List.getElem?_eq_none h]
    exact_mod_cast this
  have v0 : qval (fA A) (fB (exB A p A.length)) A.length x = 0 := sm_0 A.length fun r hr' => by rw [hr r hr']; grind
  have h1 := kkt_least (fA A) (fB (exB A p A.length)) A.length _ hk hf
  rw [price_val, price_val, v0] at h1
  have h2 : 0 ≤ qval (fA A) (fB (exB A p A.length)) A.length (nsx A (exB A p A.length) 0) := sm_nn A.length fun _ _ => sq_nn _
  have h3 : qval (fA A) (fB (exB A p A.length)) A.length (nsx A (exB A p A.length) 0) = 0 := by grind
  have h4 := sm_all0 A.length (fun _ _ => sq_nn _) h3
  have h5 : ∀ r, r < A.length → qres (fA A) (fB (exB A p A.length)) (nsx A (exB A p A.length) 0) r = 0 := fun r hr => sq_0 (h4 r hr)
  have h6 : ∀ k, qgrd (fA A) (fB (exB A p A.length)) A.length (nsx A (exB A p A.length) 0) k = 0 := fun k => sm_0 A.length fun r hr => by rw [h5 r hr]; grind
  refine ⟨by rw [so.val, h3]; rfl, ?_⟩
  rw [so.grad, hl]
  refine Prod.ext (List.map_congr_left fun k _ => ?_) rfl
  rw [h6 k]; rfl
theorem dsum_bd {a p : List Int} {k : Nat} (hk : k ≤ 3) (h : ∀ j, j < k → exOk (a.getD j 0) (p.getD j 0) = true) : wi 750 (dsum a p k) := by
  have := si_wi (f := fun j => a.getD j 0 * p.getD j 0) (X := 250) k fun j hj => by
    have h1 := h j hj
    unfold exOk at h1
    simp only [Bool.and_eq_true, Bool.not_eq_true', decide_eq_false_iff_not] at h1
    exact wr_mulbd' (X := 5) (Y := 50) (by omega) (by omega) (by decide)
  unfold dsum
  unfold wi at *; omega
theorem dsum_succ (a p : List Int) (k : Nat) : dsum a p (k + 1) = dsum a p k + a.getD k 0 * p.getD k 0 := rfl
end
end Go.Proofs.Ytfbigmjlppdlhaa
