/- What is proved here: contracts of functions and plain facts, several texts in one; each one says ahead what it proves, and its conditions. -/

/- What is proved here: least squares with a cost over three unknowns that are not negative, in rational numbers: the price of a point from that of another one, optimal points, and that a free set gives an optimal point. No program in sight, no condition. -/
namespace Go.Proofs.Ythlcmlngmcoknaa

/-- The sum of the first numbers. -/
def sm (f : Nat → Rat) : Nat → Rat
  | 0 => 0
  | n + 1 => sm f n + f n
theorem sm_zero (f : Nat → Rat) : sm f 0 = 0 := rfl
theorem sm_succ (f : Nat → Rat) (n : Nat) : sm f (n + 1) = sm f n + f n := rfl
theorem sm_3 (f : Nat → Rat) : sm f 3 = f 0 + f 1 + f 2 := by
  rw [sm_succ, sm_succ, sm_succ, sm_zero]; grind
theorem sm_congr {f g : Nat → Rat} : ∀ n, (∀ i, i < n → f i = g i) → sm f n = sm g n
  | 0, _ => rfl
  | n + 1, h => by rw [sm_succ, sm_succ, sm_congr n fun i hi => h i (by omega), h n (by omega)]
theorem sm_mul (c : Rat) (f : Nat → Rat) : ∀ n, sm (fun i => c * f i) n = c * sm f n
  | 0 => by rw [sm_zero, sm_zero]; grind
  | n + 1 => by rw [sm_succ, sm_succ, sm_mul c f n]; grind
theorem sm_add (f g : Nat → Rat) : ∀ n, sm (fun i => f i + g i) n = sm f n + sm g n
  | 0 => by rw [sm_zero, sm_zero, sm_zero]; grind
  | n + 1 => by rw [sm_succ, sm_succ, sm_succ, sm_add f g n]; grind
theorem sm_nn {f : Nat → Rat} : ∀ n, (∀ i, i < n → 0 ≤ f i) → 0 ≤ sm f n
  | 0, _ => by rw [sm_zero]; grind
  | n + 1, h => by
    have := sm_nn n fun i hi => h i (by omega)
    have := h n (by omega)
    rw [sm_succ]; grind
theorem sm_all0 {f : Nat → Rat} : ∀ n, (∀ i, i < n → 0 ≤ f i) → sm f n = 0 → ∀ i, i < n → f i = 0
  | 0, _, _, i, hi => by omega
  | n + 1, h, h0, i, hi => by
    rw [sm_succ] at h0
    have h1 := sm_nn n fun i hi => h i (by omega)
    have h2 := h n (by omega)
    rcases Nat.lt_or_ge i n with h3 | h3
    · exact sm_all0 n (fun i hi => h i (by omega)) (by grind) i h3
    · obtain rfl : i = n := by omega
      grind
theorem sm_0 {f : Nat → Rat} (n : Nat) (h : ∀ i, i < n → f i = 0) : sm f n = 0 := by
  rw [sm_congr (g := fun _ => (0 : Rat) * 0) n (fun i hi => by rw [h i hi]; grind), sm_mul]; grind
theorem sq_nn (x : Rat) : 0 ≤ x * x := by
  rcases Rat.le_total (a := 0) (b := x) with h | h
  · exact Rat.mul_nonneg h h
  · have := Rat.mul_nonneg (a := -x) (b := -x) (by grind) (by grind); grind
theorem sq_0 {x : Rat} (h : x * x = 0) : x = 0 := by
  rcases Rat.mul_eq_zero.1 h with h | h <;> exact h

section
variable (A : Nat → Nat → Rat) (b : Nat → Rat) (m : Nat) (c : Rat)
/-- A row's sum of products. -/
def qax (x : Nat → Rat) (r : Nat) : Rat := sm (fun k => A r k * x k) 3
def qres (x : Nat → Rat) (r : Nat) : Rat := qax A x r - b r
def qgrd (x : Nat → Rat) (k : Nat) : Rat := sm (fun r => A r k * qres A b x r) m
def qslope (x : Nat → Rat) (k : Nat) : Rat := qgrd A b m x k + c
def qval (x : Nat → Rat) : Rat := sm (fun r => qres A b x r * qres A b x r) m
def qprice (x : Nat → Rat) : Rat := qval A b m x / 2 + c * sm x 3
/-- A point of three unknowns. -/
def qfeas (x : Nat → Rat) : Prop := ∀ k, k < 3 → 0 ≤ x k
/-- The conditions of an optimum. -/
def qkkt (x : Nat → Rat) : Prop := qfeas x ∧ ∀ k, k < 3 → 0 ≤ qslope A b m c x k ∧ (0 < qslope A b m c x k → x k = 0)
/-- How far two points' rows are apart. -/
def qdist (x y : Nat → Rat) : Rat := sm (fun r => (qax A y r - qax A x r) * (qax A y r - qax A x r)) m

theorem qax_sub (x y : Nat → Rat) (r : Nat) : qax A y r - qax A x r = A r 0 * (y 0 - x 0) + A r 1 * (y 1 - x 1) + A r 2 * (y 2 - x 2) := by
  unfold qax; rw [sm_3, sm_3]; grind
theorem qax_move (x v : Nat → Rat) (t : Rat) (r : Nat) : qax A (fun k => x k + t * v k) r = qax A x r + t * qax A v r := by
  unfold qax; rw [sm_3, sm_3, sm_3]; grind
theorem dot_rows (f : Nat → Rat) (e0 e1 e2 : Rat) : ∀ n, sm (fun r => f r * (A r 0 * e0 + A r 1 * e1 + A r 2 * e2)) n = sm (fun r => A r 0 * f r) n * e0 + sm (fun r => A r 1 * f r) n * e1 + sm (fun r => A r 2 * f r) n * e2
  | 0 => by rw [sm_zero, sm_zero, sm_zero, sm_zero]; grind
  | n + 1 => by rw [sm_succ, sm_succ, sm_succ, sm_succ, dot_rows f e0 e1 e2 n]; grind
theorem val_rows (f d : Nat → Rat) : ∀ n, sm (fun r => (f r + d r) * (f r + d r)) n = sm (fun r => f r * f r) n + 2 * sm (fun r => f r * d r) n + sm (fun r => d r * d r) n
  | 0 => by rw [sm_zero, sm_zero, sm_zero, sm_zero]; grind
  | n + 1 => by rw [sm_succ, sm_succ, sm_succ, sm_succ, val_rows f d n]; grind
/-- The price of a point from that of another one. -/
theorem price_from (x y : Nat → Rat) : qprice A b m c y = qprice A b m c x + sm (fun k => qslope A b m c x k * (y k - x k)) 3 + qdist A m x y / 2 := by
  have h1 := val_rows (qres A b x) (fun r => qax A y r - qax A x r) m
  have h2 : qval A b m y = sm (fun r => (qres A b x r + (qax A y r - qax A x r)) * (qres A b x r + (qax A y r - qax A x r))) m := by
    unfold qval
    refine sm_congr m fun i _ => ?_
    unfold qres; grind
  have h3 : sm (fun r => qres A b x r * (qax A y r - qax A x r)) m = sm (fun r => qres A b x r * (A r 0 * (y 0 - x 0) + A r 1 * (y 1 - x 1) + A r 2 * (y 2 - x 2))) m :=
    sm_congr m fun i _ => by rw [qax_sub]
  have h4 := dot_rows A (qres A b x) (y 0 - x 0) (y 1 - x 1) (y 2 - x 2) m
  have h5 : qdist A m x y = sm (fun r => (qax A y r - qax A x r) * (qax A y r - qax A x r)) m := rfl
  have h6 : qval A b m x = sm (fun r => qres A b x r * qres A b x r) m := rfl
  unfold qprice qslope qgrd
  rw [sm_3, sm_3, sm_3, h2, h1, h3, h4, h5, h6]
  grind
theorem dist_nn (x y : Nat → Rat) : 0 ≤ qdist A m x y := sm_nn m fun _ _ => sq_nn _
theorem dist_0 {x y : Nat → Rat} (h : qdist A m x y = 0) : ∀ r, r < m → qax A y r = qax A x r := fun r hr => by
  have := sq_0 (sm_all0 m (fun _ _ => sq_nn _) h r hr)
  grind
theorem mul_nn {a b : Rat} (h1 : 0 ≤ a) (h2 : 0 ≤ b) : 0 ≤ a * b := Rat.mul_nonneg h1 h2
/-- No point has a lesser price than one that meets the conditions. -/
theorem kkt_least {x y : Nat → Rat} (hx : qkkt A b m c x) (hy : qfeas y) : qprice A b m c x ≤ qprice A b m c y := by
  have h1 := price_from A b m c x y
  have h2 : 0 ≤ sm (fun k => qslope A b m c x k * (y k - x k)) 3 := sm_nn 3 fun k hk => by
    obtain ⟨h3, h4⟩ := hx.2 k hk
    have h5 := mul_nn h3 (hy k hk)
    by_cases h6 : 0 < qslope A b m c x k
    · rw [h4 h6]; grind
    · have : qslope A b m c x k = 0 := by grind
      rw [this]; grind
  have h3 := dist_nn A m x y
  grind
/-- A point with the same price as one that meets the conditions has the same rows' sums, and meets them too. -/
theorem kkt_same {x y : Nat → Rat} (hx : qkkt A b m c x) (hy : qfeas y) (hp : qprice A b m c y = qprice A b m c x) : (∀ r, r < m → qax A y r = qax A x r) ∧ qkkt A b m c y := by
  have h1 := price_from A b m c x y
  have hk : ∀ k, k < 3 → 0 ≤ qslope A b m c x k * (y k - x k) := fun k hk => by
    obtain ⟨h3, h4⟩ := hx.2 k hk
    have h5 := mul_nn h3 (hy k hk)
    by_cases h6 : 0 < qslope A b m c x k
    · rw [h4 h6]; grind
    · have : qslope A b m c x k = 0 := by grind
      rw [this]; grind
  have h2 := sm_nn 3 hk
  have h3 := dist_nn A m x y
  have h4 : qdist A m x y = 0 := by grind
  have h5 : sm (fun k => qslope A b m c x k * (y k - x k)) 3 = 0 := by grind
  have h6 := dist_0 A m h4
  have h7 := sm_all0 3 hk h5
  have h8 : ∀ k, qslope A b m c y k = qslope A b m c x k := fun k => by
    unfold qslope qgrd
    rw [sm_congr (g := fun r => A r k * qres A b x r) m fun r hr => by unfold qres; rw [h6 r hr]]
  refine ⟨h6, hy, fun k hk => ?_⟩
  rw [h8 k]
  obtain ⟨h9, h10⟩ := hx.2 k hk
  refine ⟨h9, fun h11 => ?_⟩
  have h12 := h7 k hk
  rw [h10 h11] at h12
  rcases Rat.mul_eq_zero.1 h12 with h | h <;> grind
/-- Two points that meet the conditions have the same price. -/
theorem kkt_two {x y : Nat → Rat} (hx : qkkt A b m c x) (hy : qkkt A b m c y) : qprice A b m c y = qprice A b m c x := by
  have h1 := kkt_least A b m c hx hy.1
  have h2 := kkt_least A b m c hy hx.1
  grind

theorem slope_dot (x v : Nat → Rat) : sm (fun k => qslope A b m c x k * v k) 3 = sm (fun r => qres A b x r * qax A v r) m + c * sm v 3 := by
  have h3 : sm (fun r => qres A b x r * qax A v r) m = sm (fun r => qres A b x r * (A r 0 * v 0 + A r 1 * v 1 + A r 2 * v 2)) m :=
    sm_congr m fun i _ => by unfold qax; rw [sm_3]
  rw [h3, dot_rows A (qres A b x) (v 0) (v 1) (v 2) m, sm_3, sm_3]
  unfold qslope qgrd
  grind
/-- The price behind a step. -/
theorem price_step (x v : Nat → Rat) (t : Rat) : qprice A b m c (fun k => x k + t * v k) = qprice A b m c x + t * sm (fun k => qslope A b m c x k * v k) 3 + t * t * sm (fun r => qax A v r * qax A v r) m / 2 := by
  rw [price_from A b m c x]
  have h1 : qdist A m x (fun k => x k + t * v k) = t * t * sm (fun r => qax A v r * qax A v r) m := by
    rw [← sm_mul]
    unfold qdist
    refine sm_congr m fun r _ => ?_
    rw [qax_move]; grind
  rw [h1, sm_3, sm_3]
  grind
/-- Where the slope is negative, there is a step up that makes the price less. -/
theorem step_up {x : Nat → Rat} {k : Nat} (hx : qfeas x) (hk : k < 3) (hs : qslope A b m c x k < 0) : ∃ y, qfeas y ∧ (∀ j, j ≠ k → y j = x j) ∧ qprice A b m c y < qprice A b m c x := by
  obtain ⟨v, hv⟩ : ∃ v : Nat → Rat, v = fun j => if j = k then 1 else 0 := ⟨_, rfl⟩
  obtain ⟨g, hg⟩ : ∃ g, g = sm (fun r => qax A v r * qax A v r) m := ⟨_, rfl⟩
  obtain ⟨s, h0⟩ : ∃ s, s = -qslope A b m c x k := ⟨_, rfl⟩
  have g0 : 0 ≤ g := by rw [hg]; exact sm_nn m fun _ _ => sq_nn _
  have s0 : 0 < s := by grind
  have hd : sm (fun j => qslope A b m c x j * v j) 3 = -s := by
    rw [sm_3, hv, h0]
    rcases (by omega : k = 0 ∨ k = 1 ∨ k = 2) with rfl | rfl | rfl <;> simp <;> grind
  have i0 : 0 < (g + 1)⁻¹ := Rat.inv_pos.2 (by grind)
  have i1 : (g + 1)⁻¹ * (g + 1) = 1 := Rat.inv_mul_cancel _ (by grind)
  obtain ⟨u, hu⟩ : ∃ u, u = (g + 1)⁻¹ := ⟨_, rfl⟩
  rw [← hu] at i0 i1
  clear hu
  have ps := price_step A b m c x v (s * u)
  rw [hd, ← hg] at ps
  refine ⟨fun j => x j + s * u * v j, fun j hj => ?_, fun j hj => ?_, ?_⟩
  · have h1 := hx j hj
    have h2 : 0 ≤ v j := by rw [hv]; simp only; split <;> grind
    have h3 := mul_nn (mul_nn (Rat.le_of_lt s0) (Rat.le_of_lt i0)) h2
    grind
  · show x j + s * u * v j = x j
    rw [hv]; simp only [if_neg hj]; grind
  · rw [ps]
    have h1 : 0 < s * s * u := Rat.mul_pos (Rat.mul_pos s0 s0) i0
    have h2 : s * u * (s * u) * g = s * s * u * (1 - u) := by
      have : u * g = 1 - u := by grind
      have e : s * u * (s * u) * g = s * s * u * (u * g) := by grind
      rw [e, this]
    have h3 : 0 < s * s * u * u := Rat.mul_pos h1 i0
    rw [h2]
    grind
end
/-- A step that goes on until a first number is 0. -/
theorem ratio_test {x v : Nat → Rat} : ∀ n, (∀ k, k < n → 0 ≤ x k) → (∃ j, j < n ∧ v j < 0) → ∃ t, 0 ≤ t ∧ ∃ j, j < n ∧ v j < 0 ∧ x j + t * v j = 0 ∧ ∀ i, i < n → 0 ≤ x i + t * v i
  | 0, _, ⟨j, hj, _⟩ => by omega
  | n + 1, hx, hv => by
    have xn := hx n (by omega)
    by_cases h0 : v n < 0
    · obtain ⟨u, hu⟩ : ∃ u, u = x n * (-(v n))⁻¹ := ⟨_, rfl⟩
      have i0 : 0 < (-(v n))⁻¹ := Rat.inv_pos.2 (by grind)
      have i1 : (-(v n))⁻¹ * (-(v n)) = 1 := Rat.inv_mul_cancel _ (by grind)
      have u0 : 0 ≤ u := by rw [hu]; exact Rat.mul_nonneg xn (Rat.le_of_lt i0)
      have u1 : x n + u * v n = 0 := by
        have : u * v n = - (x n * ((-(v n))⁻¹ * (-(v n)))) := by rw [hu]; grind
        rw [this, i1]; grind
      have hat : (∀ i, i < n → 0 ≤ x i + u * v i) → ∃ t, 0 ≤ t ∧ ∃ j, j < n + 1 ∧ v j < 0 ∧ x j + t * v j = 0 ∧ ∀ i, i < n + 1 → 0 ≤ x i + t * v i := fun h =>
        ⟨u, u0, n, by omega, h0, u1, fun i hi => by
          rcases Nat.lt_or_ge i n with h1 | h1
          · exact h i h1
          · obtain rfl : i = n := by omega
            grind⟩
      by_cases h1 : ∃ j, j < n ∧ v j < 0
      · obtain ⟨t, t0, j, hj, vj, e, h2⟩ := ratio_test n (fun k hk => hx k (by omega)) h1
        by_cases h3 : 0 ≤ x n + t * v n
        · refine ⟨t, t0, j, by omega, vj, e, fun i hi => ?_⟩
          rcases Nat.lt_or_ge i n with h4 | h4
          · exact h2 i h4
          · obtain rfl : i = n := by omega
            exact h3
        · refine hat fun i hi => ?_
          have h4 : u ≤ t := by
            rcases Rat.le_total (a := u) (b := t) with h | h
            · exact h
            · exfalso
              have := Rat.mul_nonneg (a := u - t) (b := -(v n)) (by grind) (by grind)
              grind
          by_cases h5 : v i < 0
          · have := Rat.mul_nonneg (a := t - u) (b := -(v i)) (by grind) (by grind)
            have := h2 i hi
            grind
          · have := Rat.mul_nonneg (a := u) (b := v i) u0 (by grind)
            have := hx i (by omega)
            grind
      · refine hat fun i hi => ?_
        have h5 : ¬ v i < 0 := fun h => h1 ⟨i, hi, h⟩
        have := Rat.mul_nonneg (a := u) (b := v i) u0 (by grind)
        have := hx i (by omega)
        grind
    · have h1 : ∃ j, j < n ∧ v j < 0 := by
        obtain ⟨j, hj, h⟩ := hv
        rcases Nat.lt_or_ge j n with h2 | h2
        · exact ⟨j, h2, h⟩
        · obtain rfl : j = n := by omega
          exact absurd h h0
      obtain ⟨t, t0, j, hj, vj, e, h2⟩ := ratio_test n (fun k hk => hx k (by omega)) h1
      refine ⟨t, t0, j, by omega, vj, e, fun i hi => ?_⟩
      rcases Nat.lt_or_ge i n with h4 | h4
      · exact h2 i h4
      · obtain rfl : i = n := by omega
        have := Rat.mul_nonneg (a := t) (b := v i) t0 (by grind)
        grind

/-- The number x has nothing outside the set S. -/
def qsup (S : Nat) (x : Nat → Rat) : Prop := ∀ k, k < 3 → S.testBit k = false → x k = 0
theorem cases8 {S : Nat} (h : S < 8) : S = 0 ∨ S = 1 ∨ S = 2 ∨ S = 3 ∨ S = 4 ∨ S = 5 ∨ S = 6 ∨ S = 7 := by omega
theorem cases3 {k : Nat} (h : k < 3) : k = 0 ∨ k = 1 ∨ k = 2 := by omega
theorem less_set (T : Nat) (hT : T < 8) (j : Nat) (hj : j < 3) (hb : T.testBit j = true) : T - 2 ^ j < T ∧ ∀ k, k < 3 → (T - 2 ^ j).testBit k = false → k = j ∨ T.testBit k = false := by
  rcases cases8 hT with rfl | rfl | rfl | rfl | rfl | rfl | rfl | rfl <;> rcases cases3 hj with rfl | rfl | rfl <;>
    first | (exact absurd hb (by decide)) | exact ⟨by decide, fun k hk => by rcases cases3 hk with rfl | rfl | rfl <;> decide⟩
theorem more_set (T : Nat) (hT : T < 8) (j : Nat) (hj : j < 3) (hb : T.testBit j = false) : T + 2 ^ j < 8 ∧ ∀ k, k < 3 → (T + 2 ^ j).testBit k = false → k ≠ j ∧ T.testBit k = false := by
  rcases cases8 hT with rfl | rfl | rfl | rfl | rfl | rfl | rfl | rfl <;> rcases cases3 hj with rfl | rfl | rfl <;>
    first | (exact absurd hb (by decide)) | exact ⟨by decide, fun k hk => by rcases cases3 hk with rfl | rfl | rfl <;> decide⟩
theorem fin_min {P : Nat → Prop} (f : Nat → Rat) : ∀ N, (∃ S, S < N ∧ P S) → ∃ S, S < N ∧ P S ∧ ∀ T, T < N → P T → f S ≤ f T
  | 0, ⟨S, hS, _⟩ => by omega
  | N + 1, h => by
    by_cases h1 : ∃ S, S < N ∧ P S
    · obtain ⟨S, hS, pS, h2⟩ := fin_min f N h1
      by_cases h3 : P N ∧ f N < f S
      · refine ⟨N, by omega, h3.1, fun T hT pT => ?_⟩
        rcases Nat.lt_or_ge T N with h4 | h4
        · have := h2 T h4 pT
          grind
        · obtain rfl : T = N := by omega
          grind
      · refine ⟨S, by omega, pS, fun T hT pT => ?_⟩
        rcases Nat.lt_or_ge T N with h4 | h4
        · exact h2 T h4 pT
        · obtain rfl : T = N := by omega
          have : ¬ f T < f S := fun h => h3 ⟨pT, h⟩
          grind
    · obtain ⟨S, hS, pS⟩ := h
      have e : S = N := by
        rcases Nat.lt_or_ge S N with h4 | h4
        · exact absurd ⟨S, h4, pS⟩ h1
        · omega
      subst e
      refine ⟨S, hS, pS, fun T hT pT => ?_⟩
      rcases Nat.lt_or_ge T S with h4 | h4
      · exact absurd ⟨T, h4, pT⟩ h1
      · obtain rfl : T = S := by omega
        grind
section
variable {A : Nat → Nat → Rat} {b : Nat → Rat} {m : Nat} {c : Rat} {fr : Nat → Prop} {X : Nat → Nat → Rat}
/-- From any point there is a free set whose point is one, and has no greater price. -/
theorem descend (hX : ∀ S, S < 8 → fr S → qsup S (X S) ∧ ∀ k, k < 3 → S.testBit k = true → qslope A b m c (X S) k = 0)
    (hN : ∀ S, S < 8 → ¬ fr S → ∃ v : Nat → Rat, qsup S v ∧ (∃ k, k < 3 ∧ v k ≠ 0) ∧ ∀ r, r < m → qax A v r = 0) (hc : 0 ≤ c) :
    ∀ N T, T ≤ N → T < 8 → ∀ x, qfeas x → qsup T x → ∃ S, S < 8 ∧ fr S ∧ qfeas (X S) ∧ qprice A b m c (X S) ≤ qprice A b m c x := by
  intro N
  induction N with
  | zero =>
    intro T hT h8 x hx sx
    obtain rfl : T = 0 := by omega
    by_cases hf : fr 0
    · have h0 : ∀ k, k < 3 → X 0 k = 0 := fun k hk => (hX 0 (by omega) hf).1 k hk (by simp)
      have e : ∀ k, k < 3 → X 0 k = x k := fun k hk => by rw [h0 k hk, sx k hk (by simp)]
      refine ⟨0, by omega, hf, fun k hk => by rw [e k hk]; exact hx k hk, ?_⟩
      have h1 := price_from A b m c x (X 0)
      have h2 : sm (fun k => qslope A b m c x k * (X 0 k - x k)) 3 = 0 := sm_0 3 fun k hk => by rw [e k hk]; grind
      have h3 : qdist A m x (X 0) = 0 := sm_0 m fun r _ => by rw [qax_sub, e 0 (by omega), e 1 (by omega), e 2 (by omega)]; grind
      rw [h2, h3] at h1
      grind
    · obtain ⟨v, sv, ⟨k, hk, nk⟩, _⟩ := hN 0 (by omega) hf
      exact absurd (sv k hk (by simp)) nk
  | succ N ih =>
    intro T hT h8 x hx sx
    by_cases hf : fr T
    · obtain ⟨sz, hz⟩ := hX T h8 hf
      have pz := price_from A b m c (X T) x
      have z1 : sm (fun k => qslope A b m c (X T) k * (x k - X T k)) 3 = 0 := sm_0 3 fun k hk => by
        by_cases h : T.testBit k = true
        · rw [hz k hk h]; grind
        · have h' : T.testBit k = false := by simpa using h
          rw [sz k hk h', sx k hk h']; grind
      by_cases hfz : qfeas (X T)
      · refine ⟨T, h8, hf, hfz, ?_⟩
        have := dist_nn A m (X T) x
        grind
      · have hj : ∃ j, j < 3 ∧ X T j - x j < 0 := by
          apply Classical.byContradiction
          intro hno
          refine hfz fun k hk => ?_
          have h1 : ¬ (X T k - x k < 0) := fun h => hno ⟨k, hk, h⟩
          have := hx k hk
          grind
        obtain ⟨t, t0, j, j3, vj, e, hfe⟩ := ratio_test (v := fun k => X T k - x k) 3 hx hj
        have t1 : t ≤ 1 := by
          have hi : ∃ i, i < 3 ∧ X T i < 0 := by
            apply Classical.byContradiction
            intro hno
            refine hfz fun k hk => ?_
            have h1 : ¬ (X T k < 0) := fun h => hno ⟨k, hk, h⟩
            grind
          obtain ⟨i, i3, ni⟩ := hi
          have h1 := hfe i i3
          have h2 := hx i i3
          rcases Rat.le_total (a := t) (b := 1) with h | h
          · exact h
          · exfalso
            have := Rat.mul_nonneg (a := t - 1) (b := x i - X T i) (by grind) (by grind)
            have h3 : x i + t * (X T i - x i) = X T i - (t - 1) * (x i - X T i) := by grind
            have h4 : 0 ≤ x i + t * (X T i - x i) := h1
            grind
        have Tj : T.testBit j = true := by
          by_cases h : T.testBit j = true
          · exact h
          · have h' : T.testBit j = false := by simpa using h
            have v0 : X T j - x j < 0 := vj
            rw [sz j j3 h', sx j j3 h'] at v0
            grind
        obtain ⟨l1, l2⟩ := less_set T h8 j j3 Tj
        obtain ⟨S, S8, fS, zS, pS⟩ := ih (T - 2 ^ j) (by omega) (by omega) (fun k => x k + t * (X T k - x k)) hfe (fun k hk hb => by
          rcases l2 k hk hb with h | h
          · subst h; exact e
          · show x k + t * (X T k - x k) = 0
            rw [sz k hk h, sx k hk h]; grind)
        refine ⟨S, S8, fS, zS, ?_⟩
        have p2 := price_step A b m c x (fun k => X T k - x k) t
        have p3 := price_step A b m c x (fun k => X T k - x k) 1
        have e3 : qprice A b m c (fun k => x k + 1 * (X T k - x k)) = qprice A b m c (X T) := by
          have : (fun k => x k + 1 * (X T k - x k)) = X T := by funext k; grind
          rw [this]
        have d0 : sm (fun r => qax A (fun k => X T k - x k) r * qax A (fun k => X T k - x k) r) m = qdist A m (X T) x := by
          refine sm_congr m fun r _ => ?_
          have : qax A (fun k => X T k - x k) r = -(qax A x r - qax A (X T) r) := by
            rw [qax_sub]; unfold qax; rw [sm_3]; grind
          rw [this]; grind
        have hD := dist_nn A m (X T) x
        rw [d0] at p2 p3
        rw [e3] at p3
        generalize qdist A m (X T) x = D at *
        generalize sm (fun k => qslope A b m c x k * (X T k - x k)) 3 = L at *
        have hL : L = -D := by grind
        subst hL
        have h5 : 0 ≤ t * (2 - t) := Rat.mul_nonneg t0 (by grind)
        have h6 := Rat.mul_nonneg h5 hD
        have h7 : qprice A b m c (fun k => x k + t * (X T k - x k)) ≤ qprice A b m c x := by
          have p4 : qprice A b m c (fun k => x k + t * (X T k - x k)) = qprice A b m c x - t * (2 - t) * D / 2 := by rw [p2]; grind
          rw [p4]; grind
        exact Rat.le_trans pS h7
    · obtain ⟨v, sv, ⟨k, hk, nk⟩, v0⟩ := hN T h8 hf
      obtain ⟨u, su, ⟨i, i3, ni⟩, u0, uc⟩ : ∃ u : Nat → Rat, qsup T u ∧ (∃ i, i < 3 ∧ u i < 0) ∧ (∀ r, r < m → qax A u r = 0) ∧ c * sm u 3 ≤ 0 := by
        have hneg : ∀ r, qax A (fun k => - v k) r = - qax A v r := fun r => by unfold qax; rw [sm_3, sm_3]; grind
        have hsn : sm (fun k => - v k) 3 = - sm v 3 := by rw [sm_3, sm_3]; grind
        have ex : ∀ w : Nat → Rat, c * sm w 3 < 0 → ∃ i, i < 3 ∧ w i < 0 := fun w hw => by
          apply Classical.byContradiction
          intro hno
          have h1 : 0 ≤ sm w 3 := sm_nn 3 fun i hi => by
            have : ¬ w i < 0 := fun h => hno ⟨i, hi, h⟩
            grind
          have := Rat.mul_nonneg hc h1
          grind
        by_cases h1 : c * sm v 3 < 0
        · exact ⟨v, sv, ex v h1, v0, by grind⟩
        by_cases h2 : 0 < c * sm v 3
        · refine ⟨fun k => - v k, fun k hk hb => by show - v k = 0; rw [sv k hk hb]; grind, ex _ (by rw [hsn]; grind), fun r hr => by rw [hneg, v0 r hr]; grind, by rw [hsn]; grind⟩
        · have h3 : c * sm v 3 = 0 := by grind
          by_cases h4 : v k < 0
          · exact ⟨v, sv, ⟨k, hk, h4⟩, v0, by grind⟩
          · exact ⟨fun k => - v k, fun k hk hb => by show - v k = 0; rw [sv k hk hb]; grind, ⟨k, hk, by grind⟩, fun r hr => by rw [hneg, v0 r hr]; grind, by rw [hsn]; grind⟩
      obtain ⟨t, t0, j, j3, vj, e, hfe⟩ := ratio_test (v := u) 3 hx ⟨i, i3, ni⟩
      have Tj : T.testBit j = true := by
        by_cases h : T.testBit j = true
        · exact h
        · have h' : T.testBit j = false := by simpa using h
          rw [su j j3 h'] at vj
          grind
      obtain ⟨l1, l2⟩ := less_set T h8 j j3 Tj
      obtain ⟨S, S8, fS, zS, pS⟩ := ih (T - 2 ^ j) (by omega) (by omega) (fun k => x k + t * u k) hfe (fun k hk hb => by
        rcases l2 k hk hb with h | h
        · subst h; exact e
        · show x k + t * u k = 0
          rw [su k hk h, sx k hk h]; grind)
      refine ⟨S, S8, fS, zS, Rat.le_trans pS ?_⟩
      rw [price_step A b m c x u t, slope_dot, sm_0 (f := fun r => qres A b x r * qax A u r) m fun r hr => by rw [u0 r hr]; grind,
        sm_0 (f := fun r => qax A u r * qax A u r) m fun r hr => by rw [u0 r hr]; grind]
      have := Rat.mul_nonneg (a := t) (b := -(c * sm u 3)) t0 (by grind)
      grind
/-- There is a free set whose point meets the conditions of an optimum. -/
theorem best_exists (hX : ∀ S, S < 8 → fr S → qsup S (X S) ∧ ∀ k, k < 3 → S.testBit k = true → qslope A b m c (X S) k = 0)
    (hN : ∀ S, S < 8 → ¬ fr S → ∃ v : Nat → Rat, qsup S v ∧ (∃ k, k < 3 ∧ v k ≠ 0) ∧ ∀ r, r < m → qax A v r = 0) (hc : 0 ≤ c) :
    ∃ S, S < 8 ∧ fr S ∧ qfeas (X S) ∧ ∀ k, k < 3 → 0 ≤ qslope A b m c (X S) k := by
  obtain ⟨S0, h80, hf0, hz0, _⟩ := descend hX hN hc 7 7 (by omega) (by omega) (fun _ => 0) (fun k hk => by show (0 : Rat) ≤ 0; grind) (fun k hk hb => rfl)
  obtain ⟨S, S8, ⟨fS, zS⟩, hmin⟩ := fin_min (P := fun S => fr S ∧ qfeas (X S)) (fun S => qprice A b m c (X S)) 8 ⟨S0, h80, hf0, hz0⟩
  refine ⟨S, S8, fS, zS, fun k hk => ?_⟩
  apply Classical.byContradiction
  intro hneg
  have hneg' : qslope A b m c (X S) k < 0 := by grind
  obtain ⟨sS, hS⟩ := hX S S8 fS
  have hb : S.testBit k = false := by
    by_cases h : S.testBit k = true
    · have := hS k hk h
      grind
    · simpa using h
  obtain ⟨y, fy, sy, py⟩ := step_up A b m c zS hk hneg'
  obtain ⟨l1, l2⟩ := more_set S S8 k hk hb
  obtain ⟨S', S8', fS', zS', pS'⟩ := descend hX hN hc 7 (S + 2 ^ k) (by omega) l1 y fy (fun i hi hbi => by
    obtain ⟨h1, h2⟩ := l2 i hi hbi
    rw [sy i h1]; exact sS i hi h2)
  have := hmin S' S8' ⟨fS', zS'⟩
  grind
end
end Go.Proofs.Ythlcmlngmcoknaa

/- What is proved here: the square matrix of a fit with whole numbers, its minors, the points of its free sets, and that the first good set is there. No program in sight, no condition. -/
namespace Go.Proofs.Ythlcmlngmcoknaa

/-- The sum of the first whole numbers. -/
def si (f : Nat → Int) : Nat → Int
  | 0 => 0
  | n + 1 => si f n + f n
theorem si_succ (f : Nat → Int) (n : Nat) : si f (n + 1) = si f n + f n := rfl
theorem si_cast (f : Nat → Int) : ∀ n, ((si f n : Int) : Rat) = sm (fun i => ((f i : Int) : Rat)) n
  | 0 => by rw [sm_zero]; rfl
  | n + 1 => by rw [sm_succ, si_succ, Rat.intCast_add, si_cast f n]
theorem si_congr {f g : Nat → Int} : ∀ n, (∀ i, i < n → f i = g i) → si f n = si g n
  | 0, _ => rfl
  | n + 1, h => by rw [si_succ, si_succ, si_congr n fun i hi => h i (by omega), h n (by omega)]
theorem si_0 {f : Nat → Int} : ∀ n, (∀ i, i < n → f i = 0) → si f n = 0
  | 0, _ => rfl
  | n + 1, h => by rw [si_succ, si_0 n fun i hi => h i (by omega), h n (by omega)]; rfl
theorem si_le {f : Nat → Int} {B : Int} : ∀ n, (∀ i, i < n → f i ≤ B) → si f n ≤ n * B
  | 0, _ => by simp [si]
  | n + 1, h => by
    have h1 := si_le n fun i hi => h i (by omega)
    have h2 := h n (by omega)
    have e : ((n + 1 : Nat) : Int) * B = n * B + B := by rw [Int.natCast_add, Int.add_mul]; simp
    rw [si_succ, e]; omega
theorem si_ge {f : Nat → Int} {B : Int} : ∀ n, (∀ i, i < n → B ≤ f i) → n * B ≤ si f n
  | 0, _ => by simp [si]
  | n + 1, h => by
    have h1 := si_ge n fun i hi => h i (by omega)
    have h2 := h n (by omega)
    have e : ((n + 1 : Nat) : Int) * B = n * B + B := by rw [Int.natCast_add, Int.add_mul]; simp
    rw [si_succ, e]; omega

def det2 (a b c d : Int) : Int := a * d - b * c
def det3 (a b c d e f g h i : Int) : Int := a * (e * i - f * h) - b * (d * i - f * g) + c * (d * h - e * g)
/-- The determinant of a set's square matrix. -/
def den8 (g : Nat → Nat → Int) : Nat → Int
  | 0 => 1
  | 1 => g 0 0
  | 2 => g 1 1
  | 3 => det2 (g 0 0) (g 0 1) (g 1 0) (g 1 1)
  | 4 => g 2 2
  | 5 => det2 (g 0 0) (g 0 2) (g 2 0) (g 2 2)
  | 6 => det2 (g 1 1) (g 1 2) (g 2 1) (g 2 2)
  | _ => det3 (g 0 0) (g 0 1) (g 0 2) (g 1 0) (g 1 1) (g 1 2) (g 2 0) (g 2 1) (g 2 2)
/-- The numerators of a set's point. -/
def num8 (g : Nat → Nat → Int) (c : Nat → Int) : Nat → Nat → Int
  | 1, 0 => c 0
  | 2, 1 => c 1
  | 3, 0 => det2 (c 0) (g 0 1) (c 1) (g 1 1)
  | 3, 1 => det2 (g 0 0) (c 0) (g 1 0) (c 1)
  | 4, 2 => c 2
  | 5, 0 => det2 (c 0) (g 0 2) (c 2) (g 2 2)
  | 5, 2 => det2 (g 0 0) (c 0) (g 2 0) (c 2)
  | 6, 1 => det2 (c 1) (g 1 2) (c 2) (g 2 2)
  | 6, 2 => det2 (g 1 1) (c 1) (g 2 1) (c 2)
  | 7, 0 => det3 (c 0) (g 0 1) (g 0 2) (c 1) (g 1 1) (g 1 2) (c 2) (g 2 1) (g 2 2)
  | 7, 1 => det3 (g 0 0) (c 0) (g 0 2) (g 1 0) (c 1) (g 1 2) (g 2 0) (c 2) (g 2 2)
  | 7, 2 => det3 (g 0 0) (g 0 1) (c 0) (g 1 0) (g 1 1) (c 1) (g 2 0) (g 2 1) (c 2)
  | _, _ => 0
/-- The numerators solve the set's equations. -/
theorem cramer8 (g : Nat → Nat → Int) (c : Nat → Int) {S k : Nat} (hS : S < 8) (hk : k < 3) (hb : S.testBit k = true) :
    g k 0 * num8 g c S 0 + g k 1 * num8 g c S 1 + g k 2 * num8 g c S 2 = den8 g S * c k := by
  rcases cases8 hS with rfl | rfl | rfl | rfl | rfl | rfl | rfl | rfl <;> rcases cases3 hk with rfl | rfl | rfl <;>
    first | (exact absurd hb (by decide)) | (simp only [num8, den8, det2, det3]; grind)
theorem num8_out (g : Nat → Nat → Int) (c : Nat → Int) {S k : Nat} (hS : S < 8) (hk : k < 3) (hb : S.testBit k = false) : num8 g c S k = 0 := by
  rcases cases8 hS with rfl | rfl | rfl | rfl | rfl | rfl | rfl | rfl <;> rcases cases3 hk with rfl | rfl | rfl <;>
    first | (exact absurd hb (by decide)) | rfl

section
variable (a : Nat → Nat → Int) (b : Nat → Int) (m : Nat) (c : Int)
/-- The square matrix. -/
def qg (k l : Nat) : Int := si (fun r => a r k * a r l) m
/-- The products of the columns and the right sides, less the cost. -/
def qc (k : Nat) : Int := si (fun r => a r k * b r) m - c
theorem qg_comm (k l : Nat) : qg a m k l = qg a m l k := si_congr m fun _ _ => Int.mul_comm _ _
/-- The coefficients as rational numbers. -/
def ra (r k : Nat) : Rat := ((a r k : Int) : Rat)
def rb (r : Nat) : Rat := ((b r : Int) : Rat)
theorem qg_cast (k l : Nat) : ((qg a m k l : Int) : Rat) = sm (fun r => ra a r k * ra a r l) m := by
  unfold qg; rw [si_cast]; exact sm_congr m fun r _ => Rat.intCast_mul _ _
theorem slope_lin (x : Nat → Rat) (k : Nat) : qslope (ra a) (rb b) m (c : Rat) x k = (qg a m k 0 : Rat) * x 0 + (qg a m k 1 : Rat) * x 1 + (qg a m k 2 : Rat) * x 2 - ((qc a b m c k : Int) : Rat) := by
  have h : ∀ n, sm (fun r => ra a r k * qres (ra a) (rb b) x r) n = sm (fun r => ra a r k * ra a r 0) n * x 0 + sm (fun r => ra a r k * ra a r 1) n * x 1 + sm (fun r => ra a r k * ra a r 2) n * x 2 - sm (fun r => ra a r k * rb b r) n := by
    intro n
    induction n with
    | zero => rw [sm_zero, sm_zero, sm_zero, sm_zero, sm_zero]; grind
    | succ n ih => rw [sm_succ, sm_succ, sm_succ, sm_succ, sm_succ, ih]; unfold qres qax; rw [sm_3]; grind
  have h2 : ((qc a b m c k : Int) : Rat) = sm (fun r => ra a r k * rb b r) m - (c : Rat) := by
    unfold qc; rw [Rat.intCast_sub, si_cast]; congr 1; exact sm_congr m fun r _ => Rat.intCast_mul _ _
  unfold qslope qgrd
  rw [h m, h2, qg_cast, qg_cast, qg_cast]; grind
/-- What a vector's rows' squares add up to. -/
theorem sq_form (v : Nat → Int) : ∀ n, si (fun r => (a r 0 * v 0 + a r 1 * v 1 + a r 2 * v 2) * (a r 0 * v 0 + a r 1 * v 1 + a r 2 * v 2)) n =
    v 0 * (qg a n 0 0 * v 0 + qg a n 0 1 * v 1 + qg a n 0 2 * v 2) + v 1 * (qg a n 1 0 * v 0 + qg a n 1 1 * v 1 + qg a n 1 2 * v 2) + v 2 * (qg a n 2 0 * v 0 + qg a n 2 1 * v 1 + qg a n 2 2 * v 2)
  | 0 => by simp [si, qg]
  | n + 1 => by
    have e : ∀ k l, qg a (n + 1) k l = qg a n k l + a n k * a n l := fun k l => rfl
    rw [si_succ, sq_form v n, e, e, e, e, e, e, e, e, e]; grind
theorem si_sq_nn (f : Nat → Int) : ∀ n, 0 ≤ si (fun r => f r * f r) n
  | 0 => by simp [si]
  | n + 1 => by
    have h1 := si_sq_nn f n
    have h2 : 0 ≤ f n * f n := by
      rcases Int.le_total 0 (f n) with h | h
      · exact Int.mul_nonneg h h
      · exact Int.mul_nonneg_of_nonpos_of_nonpos h h
    rw [si_succ]; omega
theorem si_sq_0 {f : Nat → Int} : ∀ n, si (fun r => f r * f r) n = 0 → ∀ r, r < n → f r = 0
  | 0, _, r, hr => by omega
  | n + 1, h, r, hr => by
    rw [si_succ] at h
    have h1 := si_sq_nn f n
    have h2 : 0 ≤ f n * f n := by
      rcases Int.le_total 0 (f n) with h | h
      · exact Int.mul_nonneg h h
      · exact Int.mul_nonneg_of_nonpos_of_nonpos h h
    rcases Nat.lt_or_ge r n with h3 | h3
    · exact si_sq_0 n (by omega) r h3
    · obtain rfl : r = n := by omega
      have h4 : f r * f r = 0 := by omega
      rcases Int.mul_eq_zero.1 h4 with h | h <;> exact h
/-- A vector of the set that the square matrix sends to 0, where the set is not free. -/
theorem null8 {S : Nat} (hS : S < 8) (h0 : den8 (qg a m) S = 0) : ∃ v : Nat → Int, (∀ k, k < 3 → S.testBit k = false → v k = 0) ∧ (∃ k, k < 3 ∧ v k ≠ 0) ∧
    v 0 * (qg a m 0 0 * v 0 + qg a m 0 1 * v 1 + qg a m 0 2 * v 2) + v 1 * (qg a m 1 0 * v 0 + qg a m 1 1 * v 1 + qg a m 1 2 * v 2) + v 2 * (qg a m 2 0 * v 0 + qg a m 2 1 * v 1 + qg a m 2 2 * v 2) = 0 := by
  have s10 := qg_comm a m 1 0
  have s20 := qg_comm a m 2 0
  have s21 := qg_comm a m 2 1
  generalize qg a m = g at *
  have one : ∀ i, i < 3 → S.testBit i = true → g i i = 0 → ∃ v : Nat → Int, (∀ k, k < 3 → S.testBit k = false → v k = 0) ∧ (∃ k, k < 3 ∧ v k ≠ 0) ∧
      v 0 * (g 0 0 * v 0 + g 0 1 * v 1 + g 0 2 * v 2) + v 1 * (g 1 0 * v 0 + g 1 1 * v 1 + g 1 2 * v 2) + v 2 * (g 2 0 * v 0 + g 2 1 * v 1 + g 2 2 * v 2) = 0 := fun i hi hb hz => by
    refine ⟨fun k => if k = i then 1 else 0, fun k hk hbk => ?_, ⟨i, hi, by simp⟩, ?_⟩
    · simp only; split
      · rename_i h; subst h; rw [hb] at hbk; cases hbk
      · rfl
    · rcases cases3 hi with rfl | rfl | rfl <;> simp <;> omega
  have two : ∀ i j, i < j → j < 3 → S.testBit i = true → S.testBit j = true → g i i * g j j - g i j * g j i = 0 → ∃ v : Nat → Int, (∀ k, k < 3 → S.testBit k = false → v k = 0) ∧ (∃ k, k < 3 ∧ v k ≠ 0) ∧
      v 0 * (g 0 0 * v 0 + g 0 1 * v 1 + g 0 2 * v 2) + v 1 * (g 1 0 * v 0 + g 1 1 * v 1 + g 1 2 * v 2) + v 2 * (g 2 0 * v 0 + g 2 1 * v 1 + g 2 2 * v 2) = 0 := fun i j hij hj hbi hbj hz => by
    by_cases hi : g i i = 0
    · exact one i (by omega) hbi hi
    · refine ⟨fun k => if k = i then - g i j else if k = j then g i i else 0, fun k hk hbk => ?_, ⟨j, hj, ?_⟩, ?_⟩
      · simp only; split
        · rename_i h; subst h; rw [hbi] at hbk; cases hbk
        · split
          · rename_i h; subst h; rw [hbj] at hbk; cases hbk
          · rfl
      · simp only [if_neg (show ¬ j = i by omega)]; simpa using hi
      · rcases (by omega : (i = 0 ∧ j = 1) ∨ (i = 0 ∧ j = 2) ∨ (i = 1 ∧ j = 2)) with ⟨rfl, rfl⟩ | ⟨rfl, rfl⟩ | ⟨rfl, rfl⟩ <;> simp <;> grind
  rcases cases8 hS with rfl | rfl | rfl | rfl | rfl | rfl | rfl | rfl
  · exact absurd (show (1 : Int) = 0 from h0) (by decide)
  · exact one 0 (by omega) (by decide) h0
  · exact one 1 (by omega) (by decide) h0
  · exact two 0 1 (by omega) (by omega) (by decide) (by decide) h0
  · exact one 2 (by omega) (by decide) h0
  · exact two 0 2 (by omega) (by omega) (by decide) (by decide) h0
  · exact two 1 2 (by omega) (by omega) (by decide) (by decide) h0
  · by_cases h1 : g 0 0 * g 1 1 - g 0 1 * g 1 0 = 0
    · exact two 0 1 (by omega) (by omega) (by decide) (by decide) h1
    · have h2 : det3 (g 0 0) (g 0 1) (g 0 2) (g 1 0) (g 1 1) (g 1 2) (g 2 0) (g 2 1) (g 2 2) = 0 := h0
      unfold det3 at h2
      refine ⟨fun k => if k = 0 then g 0 1 * g 1 2 - g 0 2 * g 1 1 else if k = 1 then g 0 2 * g 1 0 - g 0 0 * g 1 2 else g 0 0 * g 1 1 - g 0 1 * g 1 0, fun k hk hbk => ?_, ⟨2, by omega, by simpa using h1⟩, ?_⟩
      · rcases cases3 hk with rfl | rfl | rfl <;> exact absurd hbk (by decide)
      · simp
        have e : ∀ p q r : Int, p * 0 + q * 0 + r * 0 = 0 := by omega
        have z0 : g 0 0 * (g 0 1 * g 1 2 - g 0 2 * g 1 1) + g 0 1 * (g 0 2 * g 1 0 - g 0 0 * g 1 2) + g 0 2 * (g 0 0 * g 1 1 - g 0 1 * g 1 0) = 0 := by grind
        have z1 : g 1 0 * (g 0 1 * g 1 2 - g 0 2 * g 1 1) + g 1 1 * (g 0 2 * g 1 0 - g 0 0 * g 1 2) + g 1 2 * (g 0 0 * g 1 1 - g 0 1 * g 1 0) = 0 := by grind
        have z2 : g 2 0 * (g 0 1 * g 1 2 - g 0 2 * g 1 1) + g 2 1 * (g 0 2 * g 1 0 - g 0 0 * g 1 2) + g 2 2 * (g 0 0 * g 1 1 - g 0 1 * g 1 0) = 0 := by grind
        rw [z0, z1, z2]; omega
end
end Go.Proofs.Ythlcmlngmcoknaa

/- What is proved here: the points of the free sets of a fit with whole numbers, which set is good, that the first good one is there and is an optimum. No program in sight, no condition. -/
namespace Go.Proofs.Ythlcmlngmcoknaa

section
variable (a : Nat → Nat → Int) (b : Nat → Int) (m : Nat) (c : Int)
/-- The square matrix times a vector. -/
theorem g_dot (v : Nat → Int) (k : Nat) : ∀ n, qg a n k 0 * v 0 + qg a n k 1 * v 1 + qg a n k 2 * v 2 = si (fun r => a r k * (a r 0 * v 0 + a r 1 * v 1 + a r 2 * v 2)) n
  | 0 => by simp [si, qg]
  | n + 1 => by
    have e : ∀ k l, qg a (n + 1) k l = qg a n k l + a n k * a n l := fun k l => rfl
    rw [si_succ, ← g_dot v k n, e, e, e]; grind
theorem diag_nn (k : Nat) : 0 ≤ qg a m k k := si_sq_nn (fun r => a r k) m
theorem diag_0 {k : Nat} (h : qg a m k k = 0) (l : Nat) : qg a m k l = 0 :=
  si_0 m fun r hr => by rw [si_sq_0 (f := fun r => a r k) m h r hr]; simp
/-- A vector whose square form is 0 is sent to 0. -/
theorem null_dot {v : Nat → Int} (h : v 0 * (qg a m 0 0 * v 0 + qg a m 0 1 * v 1 + qg a m 0 2 * v 2) + v 1 * (qg a m 1 0 * v 0 + qg a m 1 1 * v 1 + qg a m 1 2 * v 2) + v 2 * (qg a m 2 0 * v 0 + qg a m 2 1 * v 1 + qg a m 2 2 * v 2) = 0) :
    (∀ r, r < m → a r 0 * v 0 + a r 1 * v 1 + a r 2 * v 2 = 0) ∧ ∀ k, qg a m k 0 * v 0 + qg a m k 1 * v 1 + qg a m k 2 * v 2 = 0 := by
  rw [← sq_form] at h
  have h1 := si_sq_0 (f := fun r => a r 0 * v 0 + a r 1 * v 1 + a r 2 * v 2) m h
  refine ⟨h1, fun k => ?_⟩
  rw [g_dot]
  exact si_0 m fun r hr => by rw [h1 r hr]; simp
theorem pair_nn (i j : Nat) (hij : i < j) (hj : j < 3) : 0 ≤ det2 (qg a m i i) (qg a m i j) (qg a m j i) (qg a m j j) := by
  have s := qg_comm a m j i
  have d := diag_nn a m i
  by_cases h0 : qg a m i i = 0
  · have := diag_0 a m h0 j
    unfold det2; rw [h0, this]; simp
  · obtain ⟨v, hv⟩ : ∃ v : Nat → Int, v = fun k => if k = i then - qg a m i j else if k = j then qg a m i i else 0 := ⟨_, rfl⟩
    have h1 := si_sq_nn (fun r => a r 0 * v 0 + a r 1 * v 1 + a r 2 * v 2) m
    rw [sq_form] at h1
    have h2 : 0 ≤ qg a m i i * det2 (qg a m i i) (qg a m i j) (qg a m j i) (qg a m j j) := by
      rcases (by omega : (i = 0 ∧ j = 1) ∨ (i = 0 ∧ j = 2) ∨ (i = 1 ∧ j = 2)) with ⟨rfl, rfl⟩ | ⟨rfl, rfl⟩ | ⟨rfl, rfl⟩ <;> subst hv <;> simp at h1 <;> unfold det2 <;> grind
    exact Int.nonneg_of_mul_nonneg_right h2 (by omega)
/-- No minor is negative. -/
theorem den_nn {S : Nat} (hS : S < 8) : 0 ≤ den8 (qg a m) S := by
  rcases cases8 hS with rfl | rfl | rfl | rfl | rfl | rfl | rfl | rfl
  · exact (by decide : (0 : Int) ≤ 1)
  · exact diag_nn a m 0
  · exact diag_nn a m 1
  · exact pair_nn a m 0 1 (by omega) (by omega)
  · exact diag_nn a m 2
  · exact pair_nn a m 0 2 (by omega) (by omega)
  · exact pair_nn a m 1 2 (by omega) (by omega)
  · have s10 := qg_comm a m 1 0
    have s20 := qg_comm a m 2 0
    have s21 := qg_comm a m 2 1
    have hM := pair_nn a m 0 1 (by omega) (by omega)
    by_cases h0 : det2 (qg a m 0 0) (qg a m 0 1) (qg a m 1 0) (qg a m 1 1) = 0
    · obtain ⟨v, hv, ⟨k, hk, nk⟩, hz⟩ := null8 a m (S := 3) (by omega) h0
      have v2 : v 2 = 0 := hv 2 (by omega) (by decide)
      obtain ⟨_, hz⟩ := null_dot a m hz
      have e0 := hz 0
      have e1 := hz 1
      have e2 := hz 2
      rw [v2] at e0 e1 e2
      have hk' : k = 0 ∨ k = 1 := by
        rcases cases3 hk with h | h | h
        · exact .inl h
        · exact .inr h
        · subst h; exact absurd v2 nk
      have hd : den8 (qg a m) 7 = 0 := by
        show det3 _ _ _ _ _ _ _ _ _ = 0
        unfold det3
        generalize qg a m = g at *
        rcases hk' with rfl | rfl
        · have h1 : (g 0 0 * (g 1 1 * g 2 2 - g 1 2 * g 2 1) - g 0 1 * (g 1 0 * g 2 2 - g 1 2 * g 2 0) + g 0 2 * (g 1 0 * g 2 1 - g 1 1 * g 2 0)) * v 0 = 0 := by grind
          rcases Int.mul_eq_zero.1 h1 with h | h
          · exact h
          · exact absurd h nk
        · have h1 : (g 0 0 * (g 1 1 * g 2 2 - g 1 2 * g 2 1) - g 0 1 * (g 1 0 * g 2 2 - g 1 2 * g 2 0) + g 0 2 * (g 1 0 * g 2 1 - g 1 1 * g 2 0)) * v 1 = 0 := by grind
          rcases Int.mul_eq_zero.1 h1 with h | h
          · exact h
          · exact absurd h nk
      omega
    · obtain ⟨v, hv⟩ : ∃ v : Nat → Int, v = fun k => if k = 0 then qg a m 0 1 * qg a m 1 2 - qg a m 0 2 * qg a m 1 1 else if k = 1 then qg a m 0 2 * qg a m 1 0 - qg a m 0 0 * qg a m 1 2 else qg a m 0 0 * qg a m 1 1 - qg a m 0 1 * qg a m 1 0 := ⟨_, rfl⟩
      have h1 := si_sq_nn (fun r => a r 0 * v 0 + a r 1 * v 1 + a r 2 * v 2) m
      rw [sq_form] at h1
      have w0 : v 0 = qg a m 0 1 * qg a m 1 2 - qg a m 0 2 * qg a m 1 1 := by rw [hv]; rfl
      have w1 : v 1 = qg a m 0 2 * qg a m 1 0 - qg a m 0 0 * qg a m 1 2 := by rw [hv]; rfl
      have w2 : v 2 = qg a m 0 0 * qg a m 1 1 - qg a m 0 1 * qg a m 1 0 := by rw [hv]; rfl
      clear hv
      have h2 : 0 ≤ det2 (qg a m 0 0) (qg a m 0 1) (qg a m 1 0) (qg a m 1 1) * den8 (qg a m) 7 := by
        show 0 ≤ _ * det3 _ _ _ _ _ _ _ _ _
        unfold det2 det3
        generalize qg a m = g at *
        have z0 : g 0 0 * v 0 + g 0 1 * v 1 + g 0 2 * v 2 = 0 := by grind
        have z1 : g 1 0 * v 0 + g 1 1 * v 1 + g 1 2 * v 2 = 0 := by grind
        rw [z0, z1] at h1
        grind
      exact Int.nonneg_of_mul_nonneg_right h2 (by omega)

/-- The point of a set. -/
def xs8 (S k : Nat) : Rat := (num8 (qg a m) (qc a b m c) S k : Rat) / (den8 (qg a m) S : Rat)
/-- What the program compares with 0: the slope of a set's point times its denominator. -/
def slp8 (g : Nat → Nat → Int) (d : Nat → Int) (S k : Nat) : Int := -(den8 g S) * d k + (g k 0 * num8 g d S 0 + g k 1 * num8 g d S 1 + g k 2 * num8 g d S 2)
/-- A good set: it is free, and neither its point nor the slope has a negative number. -/
def good8 (g : Nat → Nat → Int) (d : Nat → Int) (S : Nat) : Bool := den8 g S != 0 && ((List.range 3).all fun k => decide (0 ≤ num8 g d S k) && decide (0 ≤ slp8 g d S k))
theorem good8_iff {g : Nat → Nat → Int} {d : Nat → Int} {S : Nat} : good8 g d S = true ↔ den8 g S ≠ 0 ∧ ∀ k, k < 3 → 0 ≤ num8 g d S k ∧ 0 ≤ slp8 g d S k := by
  unfold good8
  simp [List.all_eq_true]
theorem ratDiv_nn {n d : Int} (hd : 0 < d) : 0 ≤ ((n : Int) : Rat) / (d : Rat) ↔ 0 ≤ n := by
  rw [← Rat.divInt_eq_div, Rat.divInt_nonneg_iff_of_pos_right hd]
variable {a b m c}
theorem xs8_sup {S : Nat} (hS : S < 8) : qsup S (xs8 a b m c S) := fun k hk hb => by
  unfold xs8
  rw [num8_out _ _ hS hk hb]
  show ((0 : Int) : Rat) / _ = 0
  rw [Rat.div_def]
  show (0 : Rat) * _ = 0
  grind
theorem xs8_slope {S k : Nat} (hd : den8 (qg a m) S ≠ 0) : qslope (ra a) (rb b) m (c : Rat) (xs8 a b m c S) k = (slp8 (qg a m) (qc a b m c) S k : Rat) / (den8 (qg a m) S : Rat) := by
  have hd' : ((den8 (qg a m) S : Int) : Rat) ≠ 0 := by simpa using hd
  rw [slope_lin]
  unfold xs8 slp8
  generalize qg a m = g at *
  generalize qc a b m c = d at *
  rw [Rat.intCast_add, Rat.intCast_mul, Rat.intCast_neg, Rat.intCast_add, Rat.intCast_add, Rat.intCast_mul, Rat.intCast_mul, Rat.intCast_mul]
  generalize ((den8 g S : Int) : Rat) = D at *
  have hi : D * D⁻¹ = 1 := Rat.mul_inv_cancel D hd'
  simp only [Rat.div_def]
  generalize D⁻¹ = E at *
  grind
theorem xs8_free {S : Nat} (hS : S < 8) (hd : den8 (qg a m) S ≠ 0) : qsup S (xs8 a b m c S) ∧ ∀ k, k < 3 → S.testBit k = true → qslope (ra a) (rb b) m (c : Rat) (xs8 a b m c S) k = 0 := by
  refine ⟨xs8_sup hS, fun k hk hb => ?_⟩
  rw [xs8_slope hd]
  have h := cramer8 (qg a m) (qc a b m c) hS hk hb
  have : slp8 (qg a m) (qc a b m c) S k = 0 := by unfold slp8; rw [h]; grind
  rw [this, Rat.div_def]
  show (0 : Rat) * _ = 0
  grind
theorem null_rat {S : Nat} (hS : S < 8) (h0 : ¬ den8 (qg a m) S ≠ 0) : ∃ v : Nat → Rat, qsup S v ∧ (∃ k, k < 3 ∧ v k ≠ 0) ∧ ∀ r, r < m → qax (ra a) v r = 0 := by
  obtain ⟨v, hv, ⟨k, hk, nk⟩, hz⟩ := null8 a m hS (by omega)
  obtain ⟨hz, _⟩ := null_dot a m hz
  refine ⟨fun k => (v k : Rat), fun k hk hb => ?_, ⟨k, hk, by simpa using nk⟩, fun r hr => ?_⟩
  · show ((v k : Int) : Rat) = 0
    rw [hv k hk hb]; rfl
  · have h1 := hz r hr
    unfold qax ra
    rw [sm_3, ← Rat.intCast_mul, ← Rat.intCast_mul, ← Rat.intCast_mul, ← Rat.intCast_add, ← Rat.intCast_add, h1]; rfl
/-- A good set's point meets the conditions of an optimum. -/
theorem good_kkt {S : Nat} (hS : S < 8) (h : good8 (qg a m) (qc a b m c) S = true) : qkkt (ra a) (rb b) m (c : Rat) (xs8 a b m c S) := by
  obtain ⟨h1, h2⟩ := good8_iff.1 h
  have h3 : 0 < den8 (qg a m) S := by have := den_nn a m hS; omega
  obtain ⟨h4, h5⟩ := xs8_free (b := b) (c := c) hS h1
  refine ⟨fun k hk => (ratDiv_nn h3).2 (h2 k hk).1, fun k hk => ⟨?_, fun h6 => ?_⟩⟩
  · rw [xs8_slope h1]; exact (ratDiv_nn h3).2 (h2 k hk).2
  · by_cases hb : S.testBit k = true
    · rw [h5 k hk hb] at h6; exact absurd h6 (by decide)
    · exact h4 k hk (by simpa using hb)
theorem good_exists (hc : 0 ≤ c) : ∃ S, S < 8 ∧ good8 (qg a m) (qc a b m c) S = true := by
  have hc' : (0 : Rat) ≤ (c : Rat) := by exact_mod_cast hc
  obtain ⟨S, S8, hf, hz, hs⟩ := best_exists (A := ra a) (b := rb b) (m := m) (c := (c : Rat)) (fr := fun S => den8 (qg a m) S ≠ 0) (X := xs8 a b m c) (fun S hS hd => xs8_free hS hd) (fun S hS hd => null_rat hS hd) hc'
  refine ⟨S, S8, good8_iff.2 ⟨hf, fun k hk => ?_⟩⟩
  have h3 : 0 < den8 (qg a m) S := by have := den_nn a m S8; omega
  refine ⟨(ratDiv_nn h3).1 (hz k hk), ?_⟩
  have := hs k hk
  rw [xs8_slope hf] at this
  exact (ratDiv_nn h3).1 this
/-- The set of an unknown that is not there is not free. -/
theorem free_small {S n : Nat} (hS : S < 8) (hn : n ≤ 3) (hz : ∀ r k, n ≤ k → a r k = 0) (hd : den8 (qg a m) S ≠ 0) : S < 2 ^ n := by
  have g0 : ∀ k l, n ≤ k → qg a m k l = 0 := fun k l hk => si_0 m fun r _ => by rw [hz r k hk]; simp
  have g1 : ∀ k l, n ≤ l → qg a m k l = 0 := fun k l hk => by rw [qg_comm]; exact g0 l k hk
  generalize qg a m = g at *
  rcases (by omega : n = 0 ∨ n = 1 ∨ n = 2 ∨ n = 3) with rfl | rfl | rfl | rfl
  · rcases cases8 hS with rfl | rfl | rfl | rfl | rfl | rfl | rfl | rfl <;> first | decide | (exfalso; apply hd; simp only [den8, det2, det3]; simp [g0])
  · rcases cases8 hS with rfl | rfl | rfl | rfl | rfl | rfl | rfl | rfl <;> first | decide | (exfalso; apply hd; simp only [den8, det2, det3]; simp [g0, g1])
  · rcases cases8 hS with rfl | rfl | rfl | rfl | rfl | rfl | rfl | rfl <;> first | decide | (exfalso; apply hd; simp only [den8, det2, det3]; simp [g0, g1])
  · exact hS
/-- The first good set. -/
def fst8 (g : Nat → Nat → Int) (d : Nat → Int) : Nat := ((List.range 8).find? (good8 g d)).getD 0
theorem find_first {p : Nat → Bool} : ∀ N S, S < N → p S = true → (∀ T, T < S → p T = false) → (List.range N).find? p = some S
  | 0, S, h, _, _ => by omega
  | N + 1, S, h, hp, hl => by
    rw [List.range_succ, List.find?_append]
    rcases Nat.lt_or_ge S N with h1 | h1
    · rw [find_first N S h1 hp hl]; rfl
    · obtain rfl : S = N := by omega
      have : (List.range S).find? p = none := by
        rw [List.find?_eq_none]
        intro x hx
        rw [hl x (List.mem_range.1 hx)]; decide
      rw [this]; simp [hp]
theorem fst8_is {g : Nat → Nat → Int} {d : Nat → Int} {S : Nat} (hS : S < 8) (h : good8 g d S = true) (hl : ∀ T, T < S → good8 g d T = false) : fst8 g d = S := by
  unfold fst8; rw [find_first 8 S hS h hl]; rfl
theorem fst8_good (hc : 0 ≤ c) : fst8 (qg a m) (qc a b m c) < 8 ∧ good8 (qg a m) (qc a b m c) (fst8 (qg a m) (qc a b m c)) = true := by
  obtain ⟨S, S8, hg⟩ := good_exists (a := a) (b := b) (m := m) hc
  have : ((List.range 8).find? (good8 (qg a m) (qc a b m c))).isSome = true := by
    rw [List.find?_isSome]; exact ⟨S, List.mem_range.2 S8, hg⟩
  obtain ⟨T, hT⟩ := Option.isSome_iff_exists.1 this
  have h1 := List.find?_some hT
  have h2 := List.mem_of_find?_eq_some hT
  unfold fst8; rw [hT]
  exact ⟨List.mem_range.1 h2, h1⟩
end
end Go.Proofs.Ythlcmlngmcoknaa
