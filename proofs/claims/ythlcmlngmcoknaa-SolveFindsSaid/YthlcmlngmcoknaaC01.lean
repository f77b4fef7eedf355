/- What is proved here: contracts of functions and plain facts, several texts in one; each one says ahead what it proves, and its conditions. -/

/- What is proved here: least squares with a cost over three unknowns that are not negative, in rational numbers: the price of a point from that of another one, optimal points, and that a free set gives an optimal point. No program in sight, no condition. -/
namespace Go.Proofs.Ythlcmlngmcoknaa

/-- The sum of the first numbers. -/
def sm (f : Nat → Rat) : Nat → Rat
  | 0 => 0
  | n + 1 => sm f n + f n
theorem sm_zero (f : Nat → Rat) : sm f 0 = 0 := rfl
theorem sm_succ (f : Nat → Rat) (n : Nat) : sm f (n + 1) = sm f n + f n := rfl
theorem sm_3 (f : Nat → Rat) : sm f 3 = f 0 + f 1 + f 2 := by
  rw [sm_succ, sm_succ, sm_succ, sm_zero]; grind
theorem sm_congr {f g : Nat → Rat} : ∀ n, (∀ i, i < n → f i = g i) → sm f n = sm g n
  | 0, _ => rfl
  | n + 1, h => by rw [sm_succ, sm_succ, sm_congr n fun i hi => h i (by omega), h n (by omega)]
theorem sm_mul (c : Rat) (f : Nat → Rat) : ∀ n, sm (fun i => c * f i) n = c * sm f n
  | 0 => by rw [sm_zero, sm_zero]; grind
  | n + 1 => by rw [sm_succ, sm_succ, sm_mul c f n]; grind
theorem sm_add (f g : Nat → Rat) : ∀ n, sm (fun i => f i + g i) n = sm f n + sm g n
  | 0 => by rw [sm_zero, sm_zero, sm_zero]; grind
  | n + 1 => by rw [sm_succ, sm_succ, sm_succ, sm_add f g n]; grind
theorem sm_nn {f : Nat → Rat} : ∀ n, (∀ i, i < n → 0 ≤ f i) → 0 ≤ sm f n
  | 0, _ => by rw [sm_zero]; grind
  | n + 1, h => by
    have := sm_nn n fun i hi => h i (by omega)
    have := h n (by omega)
    rw [sm_succ]; grind
theorem sm_all0 {f : Nat → Rat} : ∀ n, (∀ i, i < n → 0 ≤ f i) → sm f n = 0 → ∀ i, i < n → f i = 0
  | 0, _, _, i, hi => by omega
  | n + 1, h, h0, i, hi => by
    rw [sm_succ] at h0
    have h1 := sm_nn n fun i hi => h i (by omega)
    have h2 := h n (by omega)
    rcases Nat.lt_or_ge i n with h3 | h3
    · exact sm_all0 n (fun i hi => h i (by omega)) (by grind) i h3
    · obtain rfl : i = n := by omega
      grind
theorem sm_0 {f : Nat → Rat} (n : Nat) (h : ∀ i, i < n → f i = 0) : sm f n = 0 := by
  rw [sm_congr (g := fun _ => (0 : Rat) * 0) n (fun i hi => by rw [h i hi]; grind), sm_mul]; grind
theorem sq_nn (x : Rat) : 0 ≤ x * x := by
  rcases Rat.le_total (a := 0) (b := x) with h | h
  · exact Rat.mul_nonneg h h
  · have := Rat.mul_nonneg (a := -x) (b := -x) (by grind) (by grind); grind
theorem sq_0 {x : Rat} (h : x * x = 0) : x = 0 := by
  rcases Rat.mul_eq_zero.1 h with h | h <;> exact h

section
variable (A : Nat → Nat → Rat) (b : Nat → Rat) (m : Nat) (c : Rat)
/-- A row's sum of products. -/
def qax (x : Nat → Rat) (r : Nat) : Rat := sm (fun k => A r k * x k) 3
def qres (x : Nat → Rat) (r : Nat) : Rat := qax A x r - b r
def qgrd (x : Nat → Rat) (k : Nat) : Rat := sm (fun r => A r k * qres A b x r) m
def qslope (x : Nat → Rat) (k : Nat) : Rat := qgrd A b m x k + c
def qval (x : Nat → Rat) : Rat := sm (fun r => qres A b x r * qres A b x r) m
def qprice (x : Nat → Rat) : Rat := qval A b m x / 2 + c * sm x 3
/-- A point of three unknowns. -/
def qfeas (x : Nat → Rat) : Prop := ∀ k, k < 3 → 0 ≤ x k
/-- The conditions of an optimum. -/
def qkkt (x : Nat → Rat) : Prop := qfeas x ∧ ∀ k, k < 3 → 0 ≤ qslope A b m c x k ∧ (0 < qslope A b m c x k → x k = 0)
/-- How far two points' rows are apart. -/
def qdist (x y : Nat → Rat) : Rat := sm (fun r => (qax A y r - qax A x r) * (qax A y r - qax A x r)) m

theorem qax_sub (x y : Nat → Rat) (r : Nat) : qax A y r - qax A x r = A r 0 * (y 0 - x 0) + A r 1 * (y 1 - x 1) + A r 2 * (y 2 - x 2) := by
  unfold qax; rw [sm_3, sm_3]; grind
theorem qax_move (x v : Nat → Rat) (t : Rat) (r : Nat) : qax A (fun k => x k + t * v k) r = qax A x r + t * qax A v r := by
  unfold qax; rw [sm_3, sm_3, sm_3]; grind
theorem dot_rows (f : Nat → Rat) (e0 e1 e2 : Rat) : ∀ n, sm (fun r => f r * (A r 0 * e0 + A r 1 * e1 + A r 2 * e2)) n = sm (fun r => A r 0 * f r) n * e0 + sm (fun r => A r 1 * f r) n * e1 + sm (fun r => A r 2 * f r) n * e2
  | 0 => by rw [sm_zero, sm_zero, sm_zero, sm_zero]; grind
  | n + 1 => by rw [sm_succ, sm_succ, sm_succ, sm_succ, dot_rows f e0 e1 e2 n]; grind
theorem val_rows (f d : Nat → Rat) : ∀ n, sm (fun r => (f r + d r) * (f r + d r)) n = sm (fun r => f r * f r) n + 2 * sm (fun r => f r * d r) n + sm (fun r => d r * d r) n
  | 0 => by rw [sm_zero, sm_zero, sm_zero, sm_zero]; grind
  | n + 1 => by rw [sm_succ, sm_succ, sm_succ, sm_succ, val_rows f d n]; grind
/-- The price of a point from that of another one. -/
theorem price_from (x y : Nat → Rat) : qprice A b m c y = qprice A b m c x + sm (fun k => qslope A b m c x k * (y k - x k)) 3 + qdist A m x y / 2 := by
  have h1 := val_rows (qres A b x) (fun r => qax A y r - qax A x r) m
  have h2 : qval A b m y = sm (fun r => (qres A b x r + (qax A y r - qax A x r)) * (qres A b x r + (qax A y r - qax A x r))) m := by
    unfold qval
    refine sm_congr m fun i _ => ?_
    unfold qres; grind
  have h3 : sm (fun r => qres A b x r * (qax A y r - qax A x r)) m = sm (fun r => qres A b x r * (A r 0 * (y 0 - x 0) + A r 1 * (y 1 - x 1) + A r 2 * (y 2 - x 2))) m :=
    sm_congr m fun i _ => by rw [qax_sub]
  have h4 := dot_rows A (qres A b x) (y 0 - x 0) (y 1 - x 1) (y 2 - x 2) m
  have h5 : qdist A m x y = sm (fun r => (qax A y r - qax A x r) * (qax A y r - qax A x r)) m := rfl
  have h6 : qval A b m x = sm (fun r => qres A b x r * qres A b x r) m := rfl
  unfold qprice qslope qgrd
  rw [sm_3, sm_3, sm_3, h2, h1, h3, h4, h5, h6]
  grind
theorem dist_nn (x y : Nat → Rat) : 0 ≤ qdist A m x y := sm_nn m fun _ _ => sq_nn _
theorem dist_0 {x y : Nat → Rat} (h : qdist A m x y = 0) : ∀ r, r < m → qax A y r = qax A x r := fun r hr => by
  have := sq_0 (sm_all0 m (fun _ _ => sq_nn _) h r hr)
  grind
theorem mul_nn {a b : Rat} (h1 : 0 ≤ a) (h2 : 0 ≤ b) : 0 ≤ a * b := Rat.mul_nonneg h1 h2
/-- No point has a lesser price than one that meets the conditions. -/
theorem kkt_least {x y : Nat → Rat} (hx : qkkt A b m c x) (hy : qfeas y) : qprice A b m c x ≤ qprice A b m c y := by
  have h1 := price_from A b m c x y
  have h2 : 0 ≤ sm (fun k => qslope A b m c x k * (y k - x k)) 3 := sm_nn 3 fun k hk => by
    obtain ⟨h3, h4⟩ := hx.2 k hk
    have h5 := mul_nn h3 (hy k hk)
    by_cases h6 : 0 < qslope A b m c x k
    · rw [h4 h6]; grind
    · have : qslope A b m c x k = 0 := by grind
      rw [this]; grind
  have h3 := dist_nn A m x y
  grind
/-- A point with the same price as one that meets the conditions has the same rows' sums, and meets them too. -/
theorem kkt_same {x y : Nat → Rat} (hx : qkkt A b m c x) (hy : qfeas y) (hp : qprice A b m c y = qprice A b m c x) : (∀ r, r < m → qax A y r = qax A x r) ∧ qkkt A b m c y := by
  have h1 := price_from A b m c x y
  have hk : ∀ k, k < 3 → 0 ≤ qslope A b m c x k * (y k - x k) := fun k hk => by
    obtain ⟨h3, h4⟩ := hx.2 k hk
    have h5 := mul_nn h3 (hy k hk)
    by_cases h6 : 0 < qslope A b m c x k
    · rw [h4 h6]; grind
    · have : qslope A b m c x k = 0 := by grind
      rw [this]; grind
  have h2 := sm_nn 3 hk
  have h3 := dist_nn A m x y
  have h4 : qdist A m x y = 0 := by grind
  have h5 : sm (fun k => qslope A b m c x k * (y k - x k)) 3 = 0 := by grind
  have h6 := dist_0 A m h4
  have h7 := sm_all0 3 hk h5
  have h8 : ∀ k, qslope A b m c y k = qslope A b m c x k := fun k => by
    unfold qslope qgrd
    rw [sm_congr (g := fun r => A r k * qres A b x r) m fun r hr => by unfold qres; rw [h6 r hr]]
  refine ⟨h6, hy, fun k hk => ?_⟩
  rw [h8 k]
  obtain ⟨h9, h10⟩ := hx.2 k hk
  refine ⟨h9, fun h11 => ?_⟩
  have h12 := h7 k hk
  rw [h10 h11] at h12
  rcases Rat.mul_eq_zero.1 h12 with h | h <;> grind
/-- Two points that meet the conditions have the same price. -/
theorem kkt_two {x y : Nat → Rat} (hx : qkkt A b m c x) (hy : qkkt A b m c y) : qprice A b m c y = qprice A b m c x := by
  have h1 := kkt_least A b m c hx hy.1
  have h2 := kkt_least A b m c hy hx.1
  grind

theorem slope_dot (x v : Nat → Rat) : sm (fun k => qslope A b m c x k * v k) 3 = sm (fun r => qres A b x r * qax A v r) m + c * sm v 3 := by
  have h3 : sm (fun r => qres A b x r * qax A v r) m = sm (fun r => qres A b x r * (A r 0 * v 0 + A r 1 * v 1 + A r 2 * v 2)) m :=
    sm_congr m fun i _ => by unfold qax; rw [sm_3]
  rw [h3, dot_rows A (qres A b x) (v 0) (v 1) (v 2) m, sm_3, sm_3]
  unfold qslope qgrd
  grind
/-- The price behind a step. -/
theorem price_step (x v : Nat → Rat) (t : Rat) : qprice A b m c (fun k => x k + t * v k) = qprice A b m c x + t * sm (fun k => qslope A b m c x k * v k) 3 + t * t * sm (fun r => qax A v r * qax A v r) m / 2 := by
  rw [price_from A b m c x]
  have h1 : qdist A m x (fun k => x k + t * v k) = t * t * sm (fun r => qax A v r * qax A v r) m := by
    rw [← sm_mul]
    unfold qdist
    refine sm_congr m fun r _ => ?_
    rw [qax_move]; grind
  rw [h1, sm_3, sm_3]
  grind
/-- Where the slope is negative, there is a step up that makes the price less. -/
theorem step_up {x : Nat → Rat} {k : Nat} (hx : qfeas x) (hk : k < 3) (hs : qslope A b m c x k < 0) : ∃ y, qfeas y ∧ (∀ j, j ≠ k → y j = x j) ∧ qprice A b m c y < qprice A b m c x := by
  obtain ⟨v, hv⟩ : ∃ v : Nat → Rat, v = fun j => if j = k then 1 else 0 := ⟨_, rfl⟩
  obtain ⟨g, hg⟩ : ∃ g, g = sm (fun r => qax A v r * qax A v r) m := ⟨_, rfl⟩
  obtain ⟨s, h0⟩ : ∃ s, s = -qslope A b m c x k := ⟨_, rfl⟩
  have g0 : 0 ≤ g := by rw [hg]; exact sm_nn m fun _ _ => sq_nn _
  have s0 : 0 < s := by grind
  have hd : sm (fun j => qslope A b m c x j * v j) 3 = -s := by
    rw [sm_3, hv, h0]
    rcases (by omega : k = 0 ∨ k = 1 ∨ k = 2) with rfl | rfl | rfl <;> simp <;> grind
  have i0 : 0 < (g + 1)⁻¹ := Rat.inv_pos.2 (by grind)
  have i1 : (g + 1)⁻¹ * (g + 1) = 1 := Rat.inv_mul_cancel _ (by grind)
  obtain ⟨u, hu⟩ : ∃ u, u = (g + 1)⁻¹ := ⟨_, rfl⟩
  rw [← hu] at i0 i1
  clear hu
  have ps := price_step A b m c x v (s * u)
  rw [hd, ← hg] at ps
  refine ⟨fun j => x j + s * u * v j, fun j hj => ?_, fun j hj => ?_, ?_⟩
  · have h1 := hx j hj
    have h2 : 0 ≤ v j := by rw [hv]; simp only; split <;> grind
    have h3 := mul_nn (mul_nn (Rat.le_of_lt s0) (Rat.le_of_lt i0)) h2
    grind
  · show x j + s * u * v j = x j
    rw [hv]; simp only [if_neg hj]; grind
  · rw [ps]
    have h1 : 0 < s * s * u := Rat.mul_pos (Rat.mul_pos s0 s0) i0
    have h2 : s * u * (s * u) * g = s * s * u * (1 - u) := by
      have : u * g = 1 - u := by grind
      have e : s * u * (s * u) * g = s * s * u * (u * g) := by grind
      rw [e, this]
    have h3 : 0 < s * s * u * u := Rat.mul_pos h1 i0
    rw [h2]
    grind
end
/-- A step that goes on until a first number is 0. -/
theorem ratio_test {x v : Nat → Rat} : ∀ n, (∀ k, k < n → 0 ≤ x k) → (∃ j, j < n ∧ v j < 0) → ∃ t, 0 ≤ t ∧ ∃ j, j < n ∧ v j < 0 ∧ x j + t * v j = 0 ∧ ∀ i, i < n → 0 ≤ x i + t * v i
  | 0, _, ⟨j, hj, _⟩ => by omega
  | n + 1, hx, hv => by
    have xn := hx n (by omega)
    by_cases h0 : v n < 0
    · obtain ⟨u, hu⟩ : ∃ u, u = x n * (-(v n))⁻¹ := ⟨_, rfl⟩
      have i0 : 0 < (-(v n))⁻¹ := Rat.inv_pos.2 (by grind)
      have i1 : (-(v n))⁻¹ * (-(v n)) = 1 := Rat.inv_mul_cancel _ (by grind)
      have u0 : 0 ≤ u := by rw [hu]; exact Rat.mul_nonneg xn (Rat.le_of_lt i0)
      have u1 : x n + u * v n = 0 := by
        have : u * v n = - (x n * ((-(v n))⁻¹ * (-(v n)))) := by rw [hu]; grind
        rw [this, i1]; grind
      have hat : (∀ i, i < n → 0 ≤ x i + u * v i) → ∃ t, 0 ≤ t ∧ ∃ j, j < n + 1 ∧ v j < 0 ∧ x j + t * v j = 0 ∧ ∀ i, i < n + 1 → 0 ≤ x i + t * v i := fun h =>
        ⟨u, u0, n, by omega, h0, u1, fun i hi => by
          rcases Nat.lt_or_ge i n with h1 | h1
          · exact h i h1
          · obtain rfl : i = n := by omega
            grind⟩
      by_cases h1 : ∃ j, j < n ∧ v j < 0
      · obtain ⟨t, t0, j, hj, vj, e, h2⟩ := ratio_test n (fun k hk => hx k (by omega)) h1
        by_cases h3 : 0 ≤ x n + t * v n
        · refine ⟨t, t0, j, by omega, vj, e, fun i hi => ?_⟩
          rcases Nat.lt_or_ge i n with h4 | h4
          · exact h2 i h4
          · obtain rfl : i = n := by omega
            exact h3
        · refine hat fun i hi => ?_
          have h4 : u ≤ t := by
            rcases Rat.le_total (a := u) (b := t) with h | h
            · exact h
            · exfalso
              have := Rat.mul_nonneg (a := u - t) (b := -(v n)) (by grind) (by grind)
              grind
          by_cases h5 : v i < 0
          · have := Rat.mul_nonneg (a := t - u) (b := -(v i)) (by grind) (by grind)
            have := h2 i hi
            grind
          · have := Rat.mul_nonneg (a := u) (b := v i) u0 (by grind)
            have := hx i (by omega)
            grind
      · refine hat fun i hi => ?_
        have h5 : ¬ v i < 0 := fun h => h1 ⟨i, hi, h⟩
        have := Rat.mul_nonneg (a := u) (b := v i) u0 (by grind)
        have := hx i (by omega)
        grind
    · have h1 : ∃ j, j < n ∧ v j < 0 := by
        obtain ⟨j, hj, h⟩ := hv
        rcases Nat.lt_or_ge j n with h2 | h2
        · exact ⟨j, h2, h⟩
        · obtain rfl : j = n := by omega
          exact absurd h h0
      obtain ⟨t, t0, j, hj, vj, e, h2⟩ := ratio_test n (fun k hk => hx k (by omega)) h1
      refine ⟨t, t0, j, by omega, vj, e, fun i hi => ?_⟩
      rcases Nat.lt_or_ge i n with h4 | h4
      · exact h2 i h4
      · obtain rfl : i = n := by omega
        have := Rat.mul_nonneg (a := t) (b := v i) t0 (by grind)
        grind

/-- The number x has nothing outside the set S. -/
def qsup (S : Nat) (x : Nat → Rat) : Prop := ∀ k, k < 3 → S.testBit k = false → x k = 0
theorem cases8 {S : Nat} (h : S < 8) : S = 0 ∨ S = 1 ∨ S = 2 ∨ S = 3 ∨ S = 4 ∨ S = 5 ∨ S = 6 ∨ S = 7 := by omega
theorem cases3 {k : Nat} (h : k < 3) : k = 0 ∨ k = 1 ∨ k = 2 := by omega
theorem less_set (T : Nat) (hT : T < 8) (j : Nat) (hj : j < 3) (hb : T.testBit j = true) : T - 2 ^ j < T ∧ ∀ k, k < 3 → (T - 2 ^ j).testBit k = false → k = j ∨ T.testBit k = false := by
  rcases cases8 hT with rfl | rfl | rfl | rfl | rfl | rfl | rfl | rfl <;> rcases cases3 hj with rfl | rfl | rfl <;>
    first | (exact absurd hb (by decide)) | exact ⟨by decide, fun k hk => by rcases cases3 hk with rfl | rfl | rfl <;> decide⟩
theorem more_set (T : Nat) (hT : T < 8) (j : Nat) (hj : j < 3) (hb : T.testBit j = false) : T + 2 ^ j < 8 ∧ ∀ k, k < 3 → (T + 2 ^ j).testBit k = false → k ≠ j ∧ T.testBit k = false := by
  rcases cases8 hT with rfl | rfl | rfl | rfl | rfl | rfl | rfl | rfl <;> rcases cases3 hj with rfl | rfl | rfl <;>
    first | (exact absurd hb (by decide)) | exact ⟨by decide, fun k hk => by rcases cases3 hk with rfl | rfl | rfl <;> decide⟩
theorem fin_min {P : Nat → Prop} (f : Nat → Rat) : ∀ N, (∃ S, S < N ∧ P S) → ∃ S, S < N ∧ P S ∧ ∀ T, T < N → P T → f S ≤ f T
  | 0, ⟨S, hS, _⟩ => by omega
  | N + 1, h => by
    by_cases h1 : ∃ S, S < N ∧ P S
    · obtain ⟨S, hS, pS, h2⟩ := fin_min f N h1
      by_cases h3 : P N ∧ f N < f S
      · refine ⟨N, by omega, h3.1, fun T hT pT => ?_⟩
        rcases Nat.lt_or_ge T N with h4 | h4
        · have := h2 T h4 pT
          grind
        · obtain rfl : T = N := by omega
          grind
      · refine ⟨S, by omega, pS, fun T hT pT => ?_⟩
        rcases Nat.lt_or_ge T N with h4 | h4
        · exact h2 T h4 pT
        · obtain rfl : T = N := by omega
          have : ¬ f T < f S := fun h => h3 ⟨pT, h⟩
          grind
    · obtain ⟨S, hS, pS⟩ := h
      have e : S = N := by
        rcases Nat.lt_or_ge S N with h4 | h4
        · exact absurd ⟨S, h4, pS⟩ h1
        · omega
      subst e
      refine ⟨S, hS, pS, fun T hT pT => ?_⟩
      rcases Nat.lt_or_ge T S with h4 | h4
      · exact absurd ⟨T, h4, pT⟩ h1
      · obtain rfl : T = S := by omega
        grind
section
variable {A : Nat → Nat → Rat} {b : Nat → Rat} {m : Nat} {c : Rat} {fr : Nat → Prop} {X : Nat → Nat → Rat}
/-- From any point there is a free set whose point is one, and has no greater price. -/
theorem descend (hX : ∀ S, S < 8 → fr S → qsup S (X S) ∧ ∀ k, k < 3 → S.testBit k = true → qslope A b m c (X S) k = 0)
    (hN : ∀ S, S < 8 → ¬ fr S → ∃ v : Nat → Rat, qsup S v ∧ (∃ k, k < 3 ∧ v k ≠ 0) ∧ ∀ r, r < m → qax A v r = 0) (hc : 0 ≤ c) :
    ∀ N T, T ≤ N → T < 8 → ∀ x, qfeas x → qsup T x → ∃ S, S < 8 ∧ fr S ∧ qfeas (X S) ∧ qprice A b m c (X S) ≤ qprice A b m c x := by
  intro N
  induction N with
  | zero =>
    intro T hT h8 x hx sx
    obtain rfl : T = 0 := by omega
    by_cases hf : fr 0
    · have h0 : ∀ k, k < 3 → X 0 k = 0 := fun k hk => (hX 0 (by omega) hf).1 k hk (by simp)
      have e : ∀ k, k < 3 → X 0 k = x k := fun k hk => by rw [h0 k hk, sx k hk (by simp)]
      refine ⟨0, by omega, hf, fun k hk => by rw [e k hk]; exact hx k hk, ?_⟩
      have h1 := price_from A b m c x (X 0)
      have h2 : sm (fun k => qslope A b m c x k * (X 0 k - x k)) 3 = 0 := sm_0 3 fun k hk => by rw [e k hk]; grind
      have h3 : qdist A m x (X 0) = 0 := sm_0 m fun r _ => by rw [qax_sub, e 0 (by omega), e 1 (by omega), e 2 (by omega)]; grind
      rw [h2, h3] at h1
      grind
    · obtain ⟨v, sv, ⟨k, hk, nk⟩, _⟩ := hN 0 (by omega) hf
      exact absurd (sv k hk (by simp)) nk
  | succ N ih =>
    intro T hT h8 x hx sx
    by_cases hf : fr T
    · obtain ⟨sz, hz⟩ := hX T h8 hf
      have pz := price_from A b m c (X T) x
      have z1 : sm (fun k => qslope A b m c (X T) k * (x k - X T k)) 3 = 0 := sm_0 3 fun k hk => by
        by_cases h : T.testBit k = true
        · rw [hz k hk h]; grind
        · have h' : T.testBit k = false := by simpa using h
          rw [sz k hk h', sx k hk h']; grind
      by_cases hfz : qfeas (X T)
      · refine ⟨T, h8, hf, hfz, ?_⟩
        have := dist_nn A m (X T) x
        grind
      · have hj : ∃ j, j < 3 ∧ X T j - x j < 0 := by
          apply Classical.byContradiction
          intro hno
          refine hfz fun k hk => ?_
          have h1 : ¬ (X T k - x k < 0) := fun h => hno ⟨k, hk, h⟩
          have := hx k hk
          grind
        obtain ⟨t, t0, j, j3, vj, e, hfe⟩ := ratio_test (v := fun k => X T k - x k) 3 hx hj
        have t1 : t ≤ 1 := by
          have hi : ∃ i, i < 3 ∧ X T i < 0 := by
            apply Classical.byContradiction
            intro hno
            refine hfz fun k hk => ?_
            have h1 : ¬ (X T k < 0) := fun h => hno ⟨k, hk, h⟩
            grind
          obtain ⟨i, i3, ni⟩ := hi
          have h1 := hfe i i3
          have h2 := hx i i3
          rcases Rat.le_total (a := t) (b := 1) with h | h
          · exact h
          · exfalso
            have := Rat.mul_nonneg (a := t - 1) (b := x i - X T i) (by grind) (by grind)
            have h3 : x i + t * (X T i - x i) = X T i - (t - 1) * (x i - X T i) := by grind
            have h4 : 0 ≤ x i + t * (X T i - x i) := h1
            grind
        have Tj : T.testBit j = true := by
          by_cases h : T.testBit j = true
          · exact h
          · have h' : T.testBit j = false := by simpa using h
            have v0 : X T j - x j < 0 := vj
            rw [sz j j3 h', sx j j3 h'] at v0
            grind
        obtain ⟨l1, l2⟩ := less_set T h8 j j3 Tj
        obtain ⟨S, S8, fS, zS, pS⟩ := ih (T - 2 ^ j) (by omega) (by omega) (fun k => x k + t * (X T k - x k)) hfe (fun k hk hb => by
          rcases l2 k hk hb with h | h
          · subst h; exact e
          · show x k + t * (X T k - x k) = 0
            rw [sz k hk h, sx k hk h]; grind)
        refine ⟨S, S8, fS, zS, ?_⟩
        have p2 := price_step A b m c x (fun k => X T k - x k) t
        have p3 := price_step A b m c x (fun k => X T k - x k) 1
        have e3 : qprice A b m c (fun k => x k + 1 * (X T k - x k)) = qprice A b m c (X T) := by
          have : (fun k => x k + 1 * (X T k - x k)) = X T := by funext k; grind
          rw [this]
        have d0 : sm (fun r => qax A (fun k => X T k - x k) r * qax A (fun k => X T k - x k) r) m = qdist A m (X T) x := by
          refine sm_congr m fun r _ => ?_
          have : qax A (fun k => X T k - x k) r = -(qax A x r - qax A (X T) r) := by
            rw [qax_sub]; unfold qax; rw [sm_3]; grind
          rw [this]; grind
        have hD := dist_nn A m (X T) x
        rw [d0] at p2 p3
        rw [e3] at p3
        generalize qdist A m (X T) x = D at *
        generalize sm (fun k => qslope A b m c x k * (X T k - x k)) 3 = L at *
        have hL : L = -D := by grind
        subst hL
        have h5 : 0 ≤ t * (2 - t) := Rat.mul_nonneg t0 (by grind)
        have h6 := Rat.mul_nonneg h5 hD
        have h7 : qprice A b m c (fun k => x k + t * (X T k - x k)) ≤ qprice A b m c x := by
          have p4 : qprice A b m c (fun k => x k + t * (X T k - x k)) = qprice A b m c x - t * (2 - t) * D / 2 := by rw [p2]; grind
          rw [p4]; grind
        exact Rat.le_trans pS h7
    · obtain ⟨v, sv, ⟨k, hk, nk⟩, v0⟩ := hN T h8 hf
      obtain ⟨u, su, ⟨i, i3, ni⟩, u0, uc⟩ : ∃ u : Nat → Rat, qsup T u ∧ (∃ i, i < 3 ∧ u i < 0) ∧ (∀ r, r < m → qax A u r = 0) ∧ c * sm u 3 ≤ 0 := by
        have hneg : ∀ r, qax A (fun k => - v k) r = - qax A v r := fun r => by unfold qax; rw [sm_3, sm_3]; grind
        have hsn : sm (fun k => - v k) 3 = - sm v 3 := by rw [sm_3, sm_3]; grind
        have ex : ∀ w : Nat → Rat, c * sm w 3 < 0 → ∃ i, i < 3 ∧ w i < 0 := fun w hw => by
          apply Classical.byContradiction
          intro hno
          have h1 : 0 ≤ sm w 3 := sm_nn 3 fun i hi => by
            have : ¬ w i < 0 := fun h => hno ⟨i, hi, h⟩
            grind
          have := Rat.mul_nonneg hc h1
          grind
        by_cases h1 : c * sm v 3 < 0
        · exact ⟨v, sv, ex v h1, v0, by grind⟩
        by_cases h2 : 0 < c * sm v 3
        · refine ⟨fun k => - v k, fun k hk hb => by show - v k = 0; rw [sv k hk hb]; grind, ex _ (by rw [hsn]; grind), fun r hr => by rw [hneg, v0 r hr]; grind, by rw [hsn]; grind⟩
        · have h3 : c * sm v 3 = 0 := by grind
          by_cases h4 : v k < 0
          · exact ⟨v, sv, ⟨k, hk, h4⟩, v0, by grind⟩
          · exact ⟨fun k => - v k, fun k hk hb => by show - v k = 0; rw [sv k hk hb]; grind, ⟨k, hk, by grind⟩, fun r hr => by rw [hneg, v0 r hr]; grind, by rw [hsn]; grind⟩
      obtain ⟨t, t0, j, j3, vj, e, hfe⟩ := ratio_test (v := u) 3 hx ⟨i, i3, ni⟩
      have Tj : T.testBit j = true := by
        by_cases h : T.testBit j = true
        · exact h
        · have h' : T.testBit j = false := by simpa using h
          rw [su j j3 h'] at vj
          grind
      obtain ⟨l1, l2⟩ := less_set T h8 j j3 Tj
      obtain ⟨S, S8, fS, zS, pS⟩ := ih (T - 2 ^ j) (by omega) (by omega) (fun k => x k + t * u k) hfe (fun k hk hb => by
        rcases l2 k hk hb with h | h
        · subst h; exact e
        · show x k + t * u k = 0
          rw [su k hk h, sx k hk h]; grind)
      refine ⟨S, S8, fS, zS, Rat.le_trans pS ?_⟩
      rw [price_step A b m c x u t, slope_dot, sm_0 (f := fun r => qres A b x r * qax A u r) m fun r hr => by rw [u0 r hr]; grind,
        sm_0 (f := fun r => qax A u r * qax A u r) m fun r hr => by rw [u0 r hr]; grind]
      have := Rat.mul_nonneg (a := t) (b := -(c * sm u 3)) t0 (by grind)
      grind
/-- There is a free set whose point meets the conditions of an optimum. -/
theorem best_exists (hX : ∀ S, S < 8 → fr S → qsup S (X S) ∧ ∀ k, k < 3 → S.testBit k = true → qslope A b m c (X S) k = 0)
    (hN : ∀ S, S < 8 → ¬ fr S → ∃ v : Nat → Rat, qsup S v ∧ (∃ k, k < 3 ∧ v k ≠ 0) ∧ ∀ r, r < m → qax A v r = 0) (hc : 0 ≤ c) :
    ∃ S, S < 8 ∧ fr S ∧ qfeas (X S) ∧ ∀ k, k < 3 → 0 ≤ qslope A b m c (X S) k := by
  obtain ⟨S0, h80, hf0, hz0, _⟩ := descend hX hN hc 7 7 (by omega) (by omega) (fun _ => 0) (fun k hk => by show (0 : Rat) ≤ 0; grind) (fun k hk hb => rfl)
  obtain ⟨S, S8, ⟨fS, zS⟩, hmin⟩ := fin_min (P := fun S => fr S ∧ qfeas (X S)) (fun S => qprice A b m c (X S)) 8 ⟨S0, h80, hf0, hz0⟩
  refine ⟨S, S8, fS, zS, fun k hk => ?_⟩
  apply Classical.byContradiction
  intro hneg
  have hneg' : qslope A b m c (X S) k < 0 := by grind
  obtain ⟨sS, hS⟩ := hX S S8 fS
  have hb : S.testBit k = false := by
    by_cases h : S.testBit k = true
    · have := hS k hk h
      grind
    · simpa using h
  obtain ⟨y, fy, sy, py⟩ := step_up A b m c zS hk hneg'
  obtain ⟨l1, l2⟩ := more_set S S8 k hk hb
  obtain ⟨S', S8', fS', zS', pS'⟩ := descend hX hN hc 7 (S + 2 ^ k) (by omega) l1 y fy (fun i hi hbi => by
    obtain ⟨h1, h2⟩ := l2 i hi hbi
    rw [sy i h1]; exact sS i hi h2)
  have := hmin S' S8' ⟨fS', zS'⟩
  grind
end
end Go.Proofs.Ythlcmlngmcoknaa

/- What is proved here: determinants of rational numbers by the first row: linear and alternating in the columns, Cramer's rule, whole numbers, and a bound. No program in sight, no condition. -/
namespace Go.Proofs.Ythlcmlngmcoknaa

theorem sm_tail {f : Nat → Rat} {n : Nat} : ∀ N, n ≤ N → (∀ j, n ≤ j → j < N → f j = 0) → sm f N = sm f n
  | 0, h, _ => by obtain rfl : n = 0 := by omega
                  rfl
  | N + 1, h, hz => by
    rcases Nat.lt_or_ge n (N + 1) with h1 | h1
    · rw [sm_succ, sm_tail N (by omega) (fun j h2 h3 => hz j h2 (by omega)), hz N (by omega) (by omega)]; grind
    · obtain rfl : n = N + 1 := by omega
      rfl
theorem sm_two {f : Nat → Rat} {a n : Nat} (ha : a + 1 < n) (hz : ∀ j, j < n → j ≠ a → j ≠ a + 1 → f j = 0) (h : f a + f (a + 1) = 0) : sm f n = 0 := by
  rw [sm_tail (n := a + 2) n (by omega) (fun j h2 h3 => hz j h3 (by omega) (by omega)), sm_succ, sm_succ, sm_0 a (fun j hj => hz j (by omega) (by omega) (by omega))]
  grind
theorem sm_single {f : Nat → Rat} {a n : Nat} (ha : a < n) (hz : ∀ j, j < n → j ≠ a → f j = 0) : sm f n = f a := by
  rw [sm_tail (n := a + 1) n (by omega) (fun j h2 h3 => hz j h3 (by omega)), sm_succ, sm_0 a (fun j hj => hz j (by omega) (by omega))]
  grind
theorem sm_lin {f g h : Nat → Rat} {x y : Rat} (n : Nat) (e : ∀ j, j < n → f j = x * g j + y * h j) : sm f n = x * sm g n + y * sm h n := by
  rw [sm_congr n e, sm_add, sm_mul, sm_mul]

/-- The sign of an index. -/
def sg (j : Nat) : Rat := if j % 2 = 0 then 1 else -1
theorem sg_succ (j : Nat) : sg (j + 1) = - sg j := by
  unfold sg
  rcases Nat.mod_two_eq_zero_or_one j with h | h
  · rw [if_pos h, if_neg (by omega)]
  · rw [if_pos (by omega), if_neg (by omega)]; grind
/-- An index that skips j. -/
def skp (j c : Nat) : Nat := if c < j then c else c + 1
theorem skp_lt {j c n : Nat} (hc : c < n) : skp j c < n + 1 := by unfold skp; split <;> omega
theorem skp_ne (j c : Nat) : skp j c ≠ j := by unfold skp; split <;> omega
theorem skp_eq {j i : Nat} (h : i ≠ j) (c : Nat) : (skp j c = i) ↔ c = (if i < j then i else i - 1) := by
  unfold skp
  split <;> split <;> omega
/-- The matrix without the first row and the column j. -/
def mnr (M : Nat → Nat → Rat) (j : Nat) : Nat → Nat → Rat := fun r c => M (r + 1) (skp j c)
/-- The determinant. -/
def dt : Nat → (Nat → Nat → Rat) → Rat
  | 0, _ => 1
  | n + 1, M => sm (fun j => sg j * M 0 j * dt n (mnr M j)) (n + 1)
theorem dt_succ (n : Nat) (M : Nat → Nat → Rat) : dt (n + 1) M = sm (fun j => sg j * M 0 j * dt n (mnr M j)) (n + 1) := rfl
theorem dt_congr : ∀ (n : Nat) {M N : Nat → Nat → Rat}, (∀ r c, r < n → c < n → M r c = N r c) → dt n M = dt n N
  | 0, _, _, _ => rfl
  | n + 1, M, N, h => by
    rw [dt_succ, dt_succ]
    refine sm_congr (n + 1) fun j hj => ?_
    rw [h 0 j (by omega) hj, dt_congr n (M := mnr M j) (N := mnr N j) fun r c hr hc => h (r + 1) (skp j c) (by omega) (skp_lt hc)]
/-- Another column. -/
def upd (M : Nat → Nat → Rat) (i : Nat) (u : Nat → Rat) : Nat → Nat → Rat := fun r c => if c = i then u r else M r c
theorem upd_at (M : Nat → Nat → Rat) (i : Nat) (u : Nat → Rat) (r : Nat) : upd M i u r i = u r := if_pos rfl
theorem upd_ne (M : Nat → Nat → Rat) {i c : Nat} (u : Nat → Rat) (r : Nat) (h : c ≠ i) : upd M i u r c = M r c := if_neg h
theorem upd_self (M : Nat → Nat → Rat) (i : Nat) : upd M i (fun r => M r i) = M := by
  funext r c
  by_cases h : c = i
  · subst h; exact upd_at _ _ _ _
  · exact upd_ne _ _ _ h
theorem upd_comm (M : Nat → Nat → Rat) {i j : Nat} (u v : Nat → Rat) (h : i ≠ j) : upd (upd M i u) j v = upd (upd M j v) i u := by
  funext r c
  by_cases h1 : c = i
  · subst h1; rw [upd_ne _ _ _ h, upd_at, upd_at]
  · by_cases h2 : c = j
    · subst h2; rw [upd_at, upd_ne _ _ _ h1, upd_at]
    · rw [upd_ne _ _ _ h2, upd_ne _ _ _ h1, upd_ne _ _ _ h1, upd_ne _ _ _ h2]
theorem upd_upd (M : Nat → Nat → Rat) (i : Nat) (u v : Nat → Rat) : upd (upd M i u) i v = upd M i v := by
  funext r c
  by_cases h1 : c = i
  · subst h1; rw [upd_at, upd_at]
  · rw [upd_ne _ _ _ h1, upd_ne _ _ _ h1, upd_ne _ _ _ h1]
theorem mnr_same (M : Nat → Nat → Rat) (i : Nat) (u : Nat → Rat) : mnr (upd M i u) i = mnr M i := by
  funext r c; exact upd_ne _ _ _ (skp_ne i c)
theorem mnr_upd (M : Nat → Nat → Rat) {i j : Nat} (u : Nat → Rat) (h : i ≠ j) : mnr (upd M i u) j = upd (mnr M j) (if i < j then i else i - 1) (fun r => u (r + 1)) := by
  funext r c
  by_cases hc : skp j c = i
  · have := (skp_eq h c).1 hc
    show upd M i u (r + 1) (skp j c) = _
    rw [hc, upd_at, this, upd_at]
  · have : c ≠ (if i < j then i else i - 1) := fun h' => hc ((skp_eq h c).2 h')
    show upd M i u (r + 1) (skp j c) = _
    rw [upd_ne _ _ _ hc, upd_ne _ _ _ this]; rfl
theorem dt_lin : ∀ (n : Nat) (M : Nat → Nat → Rat) (i : Nat) (x y : Rat) (u v : Nat → Rat), i < n → dt n (upd M i (fun r => x * u r + y * v r)) = x * dt n (upd M i u) + y * dt n (upd M i v)
  | 0, _, _, _, _, _, _, h => by omega
  | n + 1, M, i, x, y, u, v, hi => by
    rw [dt_succ, dt_succ, dt_succ]
    refine sm_lin (n + 1) fun j hj => ?_
    by_cases h : i = j
    · subst h
      rw [mnr_same, mnr_same, mnr_same, upd_at, upd_at, upd_at]; grind
    · have hj' : j ≠ i := fun h' => h h'.symm
      rw [mnr_upd _ _ h, mnr_upd _ _ h, mnr_upd _ _ h, upd_ne _ _ _ hj', upd_ne _ _ _ hj', upd_ne _ _ _ hj']
      rw [dt_lin n (mnr M j) (if i < j then i else i - 1) x y (fun r => u (r + 1)) (fun r => v (r + 1)) (by split <;> omega)]
      grind
theorem dt_zero {n : Nat} (M : Nat → Nat → Rat) {i : Nat} (hi : i < n) : dt n (upd M i (fun _ => 0)) = 0 := by
  have := dt_lin n M i 0 0 (fun _ => 0) (fun _ => 0) hi
  have e : (fun _ : Nat => (0 : Rat) * 0 + 0 * 0) = fun _ => 0 := by funext; grind
  rw [e] at this
  rw [this]; grind
theorem dt_adj : ∀ (n : Nat) (M : Nat → Nat → Rat) (a : Nat), a + 1 < n → (∀ r, M r a = M r (a + 1)) → dt n M = 0
  | 0, _, _, h, _ => by omega
  | n + 1, M, a, ha, h => by
    rw [dt_succ]
    refine sm_two ha (fun j hj h1 h2 => ?_) ?_
    · have : dt n (mnr M j) = 0 := by
        rcases Nat.lt_or_ge j a with h3 | h3
        · refine dt_adj n (mnr M j) (a - 1) (by omega) fun r => ?_
          show M (r + 1) (skp j (a - 1)) = M (r + 1) (skp j (a - 1 + 1))
          have e1 : skp j (a - 1) = a := by unfold skp; rw [if_neg (by omega)]; omega
          have e2 : skp j (a - 1 + 1) = a + 1 := by unfold skp; rw [if_neg (by omega)]; omega
          rw [e1, e2]; exact h _
        · refine dt_adj n (mnr M j) a (by omega) fun r => ?_
          show M (r + 1) (skp j a) = M (r + 1) (skp j (a + 1))
          have e1 : skp j a = a := by unfold skp; rw [if_pos (by omega)]
          have e2 : skp j (a + 1) = a + 1 := by unfold skp; rw [if_pos (by omega)]
          rw [e1, e2]; exact h _
      rw [this]; grind
    · have : mnr M a = mnr M (a + 1) := by
        funext r c
        show M (r + 1) (skp a c) = M (r + 1) (skp (a + 1) c)
        rcases Nat.lt_trichotomy c a with h3 | h3 | h3
        · have e1 : skp a c = c := by unfold skp; rw [if_pos (by omega)]
          have e2 : skp (a + 1) c = c := by unfold skp; rw [if_pos (by omega)]
          rw [e1, e2]
        · subst h3
          have e1 : skp c c = c + 1 := by unfold skp; rw [if_neg (by omega)]
          have e2 : skp (c + 1) c = c := by unfold skp; rw [if_pos (by omega)]
          rw [e1, e2]; exact (h _).symm
        · have e1 : skp a c = c + 1 := by unfold skp; rw [if_neg (by omega)]
          have e2 : skp (a + 1) c = c + 1 := by unfold skp; rw [if_neg (by omega)]
          rw [e1, e2]
      rw [this, h 0, sg_succ]; grind
theorem dt_swap {n : Nat} (M : Nat → Nat → Rat) {a : Nat} (ha : a + 1 < n) (u v : Nat → Rat) : dt n (upd (upd M a u) (a + 1) v) = - dt n (upd (upd M a v) (a + 1) u) := by
  have same : ∀ x : Nat → Rat, dt n (upd (upd M a x) (a + 1) x) = 0 := fun x => dt_adj n _ a ha fun r => by
    rw [upd_at, upd_ne _ _ _ (by omega), upd_at]
  have l1 : ∀ (x y z : Nat → Rat), dt n (upd (upd M a (fun r => 1 * x r + 1 * y r)) (a + 1) z) = 1 * dt n (upd (upd M a x) (a + 1) z) + 1 * dt n (upd (upd M a y) (a + 1) z) := fun x y z => by
    rw [upd_comm M _ _ (by omega), upd_comm M x _ (by omega), upd_comm M y _ (by omega)]
    exact dt_lin n _ a 1 1 x y (by omega)
  have h0 := same (fun r => 1 * u r + 1 * v r)
  rw [dt_lin n _ (a + 1) 1 1 u v (by omega), l1, l1, same, same] at h0
  grind
theorem dt_eq {n : Nat} : ∀ (d : Nat) (M : Nat → Nat → Rat) (a : Nat), a + d + 1 < n → (∀ r, M r a = M r (a + d + 1)) → dt n M = 0
  | 0, M, a, ha, h => dt_adj n M a ha h
  | d + 1, M, a, ha, h => by
    have e : M = upd (upd M (a + d + 1) (fun r => M r (a + d + 1))) (a + d + 1 + 1) (fun r => M r (a + d + 1 + 1)) := by
      rw [upd_self, upd_self]
    rw [e, dt_swap M (by omega), dt_eq d (upd (upd M (a + d + 1) fun r => M r (a + d + 1 + 1)) (a + d + 1 + 1) fun r => M r (a + d + 1)) a (by omega) fun r => by
      rw [upd_ne _ _ _ (by omega), upd_ne _ _ _ (by omega), upd_ne _ _ _ (by omega), upd_at]; exact h r]
    grind
theorem dt_same {n : Nat} (M : Nat → Nat → Rat) {a b : Nat} (ha : a < n) (hb : b < n) (hne : a ≠ b) (h : ∀ r, M r a = M r b) : dt n M = 0 := by
  rcases Nat.lt_or_ge a b with h1 | h1
  · refine dt_eq (b - a - 1) M a (by omega) fun r => ?_
    rw [show a + (b - a - 1) + 1 = b by omega]; exact h r
  · refine dt_eq (a - b - 1) M b (by omega) fun r => ?_
    rw [show b + (a - b - 1) + 1 = a by omega]; exact (h r).symm
/-- Cramer's rule: a column that is a combination of the columns. -/
theorem dt_comb {n : Nat} (B : Nat → Nat → Rat) {i : Nat} (hi : i < n) (y : Nat → Rat) : dt n (upd B i (fun r => sm (fun m => y m * B r m) n)) = y i * dt n B := by
  have step : ∀ k, dt n (upd B i (fun r => sm (fun m => y m * B r m) k)) = sm (fun m => y m * dt n (upd B i (fun r => B r m))) k := fun k => by
    induction k with
    | zero => rw [sm_zero]; exact dt_zero B hi
    | succ k ih =>
      have e : (fun r => sm (fun m => y m * B r m) (k + 1)) = fun r => 1 * sm (fun m => y m * B r m) k + y k * B r k := by
        funext r; rw [sm_succ]; grind
      rw [e, dt_lin n B i 1 (y k) _ _ hi, ih, sm_succ]; grind
  rw [step n, sm_single hi fun m hm hne => ?_, upd_self]
  have : dt n (upd B i (fun r => B r m)) = 0 := dt_same _ hi hm (fun h => hne h.symm) fun r => by rw [upd_at, upd_ne _ _ _ hne]
  rw [this]; grind
/-- A last column that is 0 but for a 1 in the last row. -/
theorem dt_last : ∀ (n : Nat) (M : Nat → Nat → Rat), (∀ r, r < n → M r n = 0) → M n n = 1 → dt (n + 1) M = dt n M
  | 0, M, _, h1 => by
    show sm (fun j => sg j * M 0 j * 1) 1 = 1
    rw [sm_succ, sm_zero, h1]; unfold sg; simp; grind
  | n + 1, M, h0, h1 => by
    rw [dt_succ (n + 1), sm_succ, h0 0 (by omega)]
    have : sm (fun j => sg j * M 0 j * dt (n + 1) (mnr M j)) (n + 1) = sm (fun j => sg j * M 0 j * dt n (mnr M j)) (n + 1) := sm_congr (n + 1) fun j hj => by
      have e : skp j n = n + 1 := by unfold skp; rw [if_neg (by omega)]
      rw [dt_last n (mnr M j) (fun r hr => by show M (r + 1) (skp j n) = 0; rw [e]; exact h0 (r + 1) (by omega)) (by show M (n + 1) (skp j n) = 1; rw [e]; exact h1)]
    rw [this, dt_succ n M]; grind

/-- A whole number. -/
def whl (x : Rat) : Prop := ∃ z : Int, x = (z : Rat)
theorem whl_int (z : Int) : whl (z : Rat) := ⟨z, rfl⟩
theorem whl_0 : whl 0 := ⟨0, rfl⟩
theorem whl_1 : whl 1 := ⟨1, rfl⟩
theorem whl_add {x y : Rat} (hx : whl x) (hy : whl y) : whl (x + y) := by obtain ⟨a, rfl⟩ := hx; obtain ⟨b, rfl⟩ := hy; exact ⟨a + b, by rw [Rat.intCast_add]⟩
theorem whl_mul {x y : Rat} (hx : whl x) (hy : whl y) : whl (x * y) := by obtain ⟨a, rfl⟩ := hx; obtain ⟨b, rfl⟩ := hy; exact ⟨a * b, by rw [Rat.intCast_mul]⟩
theorem whl_sm {f : Nat → Rat} : ∀ n, (∀ i, i < n → whl (f i)) → whl (sm f n)
  | 0, _ => whl_0
  | n + 1, h => whl_add (whl_sm n fun i hi => h i (by omega)) (h n (by omega))
theorem whl_sg (j : Nat) : whl (sg j) := by unfold sg; split; exact ⟨1, rfl⟩; exact ⟨-1, rfl⟩
theorem dt_whl : ∀ (n : Nat) (M : Nat → Nat → Rat), (∀ r c, r < n → c < n → whl (M r c)) → whl (dt n M)
  | 0, _, _ => whl_1
  | n + 1, M, h => by
    rw [dt_succ]
    exact whl_sm (n + 1) fun j hj => whl_mul (whl_mul (whl_sg j) (h 0 j (by omega) hj)) (dt_whl n (mnr M j) fun r c hr hc => h (r + 1) (skp j c) (by omega) (skp_lt hc))

/-- A number of at most that size. -/
def siz (X x : Rat) : Prop := -X ≤ x ∧ x ≤ X
theorem siz_mul {A B a b : Rat} (ha : siz A a) (hb : siz B b) : siz (A * B) (a * b) := by
  obtain ⟨a1, a2⟩ := ha
  obtain ⟨b1, b2⟩ := hb
  have h1 := Rat.mul_nonneg (a := A - a) (b := B + b) (by grind) (by grind)
  have h2 := Rat.mul_nonneg (a := A + a) (b := B - b) (by grind) (by grind)
  have h3 := Rat.mul_nonneg (a := A - a) (b := B - b) (by grind) (by grind)
  have h4 := Rat.mul_nonneg (a := A + a) (b := B + b) (by grind) (by grind)
  constructor <;> grind
theorem siz_add {A B a b : Rat} (ha : siz A a) (hb : siz B b) : siz (A + B) (a + b) := by
  obtain ⟨a1, a2⟩ := ha
  obtain ⟨b1, b2⟩ := hb
  constructor <;> grind
theorem siz_sg (j : Nat) : siz 1 (sg j) := by unfold sg; split <;> constructor <;> decide
theorem siz_le {A B a : Rat} (h : siz A a) (hAB : A ≤ B) : siz B a := by obtain ⟨a1, a2⟩ := h; constructor <;> grind
theorem siz_sm {f : Nat → Rat} {X : Rat} : ∀ n, (∀ i, i < n → siz X (f i)) → siz ((n : Int) * X) (sm f n)
  | 0, _ => by rw [sm_zero]; constructor <;> simp
  | n + 1, h => by
    have e : (((n + 1 : Nat) : Int) : Rat) * X = ((n : Int) : Rat) * X + X := by
      rw [Int.natCast_add, Rat.intCast_add]; simp; grind
    rw [e, sm_succ]
    exact siz_add (siz_sm n fun i hi => h i (by omega)) (h n (by omega))
/-- n! times the products of the rows' sizes. -/
def dbd (β : Nat → Rat) : Nat → Nat → Rat
  | 0, _ => 1
  | n + 1, s => (((n + 1 : Nat) : Int) : Rat) * (β s * dbd β n (s + 1))
theorem dt_siz (β : Nat → Rat) : ∀ (n s : Nat) (M : Nat → Nat → Rat), (∀ r c, r < n → c < n → siz (β (s + r)) (M r c)) → siz (dbd β n s) (dt n M)
  | 0, _, _, _ => by show siz 1 1; constructor <;> decide
  | n + 1, s, M, h => by
    rw [dt_succ, dbd]
    refine siz_sm (n + 1) fun j hj => ?_
    have h1 := h 0 j (by omega) hj
    rw [Nat.add_zero] at h1
    have h2 := dt_siz β n (s + 1) (mnr M j) fun r c hr hc => by
      have := h (r + 1) (skp j c) (by omega) (skp_lt hc)
      rw [show s + 1 + r = s + (r + 1) by omega]; exact this
    have h3 := siz_mul (siz_mul (siz_sg j) h1) h2
    have e : (1 : Rat) * β s * dbd β n (s + 1) = β s * dbd β n (s + 1) := by grind
    rw [e] at h3; exact h3
end Go.Proofs.Ythlcmlngmcoknaa

/- What is proved here: rows that are reduced with rational numbers: the columns of the input from the bound ones, the unit columns, the zeros before a row's bound column, the same solutions; each number times the leading determinant is a determinant of the input. No program in sight. -/
namespace Go.Proofs.Ythlcmlngmcoknaa

/-- The first row from k on whose number in a column is not 0, or the number of rows. -/
def fnd (R : Nat → Nat → Rat) (c : Nat) : Nat → Nat → Nat
  | 0, k => k
  | f + 1, k => if R k c = 0 then fnd R c f (k + 1) else k
theorem fnd_spec (R : Nat → Nat → Rat) (c : Nat) : ∀ f k, k ≤ fnd R c f k ∧ fnd R c f k ≤ k + f ∧ (∀ i, k ≤ i → i < fnd R c f k → R i c = 0) ∧ (fnd R c f k < k + f → R (fnd R c f k) c ≠ 0)
  | 0, k => ⟨Nat.le_refl _, Nat.le_refl _, fun i h1 h2 => absurd h2 (by show ¬ i < k; omega), fun h => absurd h (by show ¬ k < k + 0; omega)⟩
  | f + 1, k => by
    rw [fnd]
    by_cases h : R k c = 0
    · rw [if_pos h]
      obtain ⟨h1, h2, h3, h4⟩ := fnd_spec R c f (k + 1)
      refine ⟨by omega, by omega, fun i hi hi2 => ?_, fun hl => h4 (by omega)⟩
      rcases Nat.lt_or_ge k i with h5 | h5
      · exact h3 i h5 hi2
      · obtain rfl : i = k := by omega
        exact h
    · rw [if_neg h]
      exact ⟨Nat.le_refl _, by omega, fun i hi hi2 => by omega, fun _ => h⟩
theorem fnd_eq {R : Nat → Nat → Rat} {c f k p : Nat} (h1 : k ≤ p) (h2 : p ≤ k + f) (h3 : ∀ i, k ≤ i → i < p → R i c = 0) (h4 : p < k + f → R p c ≠ 0) : fnd R c f k = p := by
  obtain ⟨g1, g2, g3, g4⟩ := fnd_spec R c f k
  rcases Nat.lt_trichotomy (fnd R c f k) p with h | h | h
  · exact absurd (h3 _ g1 h) (g4 (by omega))
  · exact h
  · exact absurd (g3 p h1 h) (h4 (by omega))
/-- Two rows change places. -/
def swi (a b r : Nat) : Nat := if r = a then b else if r = b then a else r
def swp (M : Nat → Nat → Rat) (a b : Nat) : Nat → Nat → Rat := fun r => M (swi a b r)
theorem swi_lt {a b r n : Nat} (ha : a < n) (hb : b < n) (hr : r < n) : swi a b r < n := by unfold swi; split; exact hb; split; exact ha; exact hr
theorem swi_swi (a b r : Nat) : swi a b (swi a b r) = r := by unfold swi; split <;> split <;> (try split) <;> omega
theorem swi_low {a b r : Nat} (h : r < a) (hab : a ≤ b) : swi a b r = r := by unfold swi; rw [if_neg (by omega), if_neg (by omega)]
theorem swi_ge {a b r : Nat} (hab : a ≤ b) : a ≤ r ↔ a ≤ swi a b r := by unfold swi; split <;> (try split) <;> omega
/-- The rows after a step with the pivot in row k, column c. -/
def elm (R : Nat → Nat → Rat) (k c : Nat) : Nat → Nat → Rat := fun i j => if i = k then R k j / R k c else R i j - R i c * (R k j / R k c)
structure Rd where
  bnd : List Nat
  R : Nat → Nat → Rat
  A : Nat → Nat → Rat
def Rd.step (n : Nat) (s : Rd) (c : Nat) : Rd :=
  if n ≤ s.bnd.length then s else if fnd s.R c (n - s.bnd.length) s.bnd.length = n then s
  else ⟨s.bnd ++ [c], elm (swp s.R s.bnd.length (fnd s.R c (n - s.bnd.length) s.bnd.length)) s.bnd.length c, swp s.A s.bnd.length (fnd s.R c (n - s.bnd.length) s.bnd.length)⟩
def red (n : Nat) (A : Nat → Nat → Rat) : Nat → Rd
  | 0 => ⟨[], A, A⟩
  | c + 1 => (red n A c).step n c

/-- The matrix of the bound columns. -/
def Rd.B (s : Rd) : Nat → Nat → Rat := fun r i => s.A r (s.bnd.getD i 0)
def Rd.lead (s : Rd) : Rat := dt s.bnd.length s.B
structure RInv (n : Nat) (A0 : Nat → Nat → Rat) (c : Nat) (s : Rd) : Prop where
  le : s.bnd.length ≤ n
  lec : s.bnd.length ≤ c
  blt : ∀ i, i < s.bnd.length → s.bnd.getD i 0 < c
  inc : ∀ i j, i < j → j < s.bnd.length → s.bnd.getD i 0 < s.bnd.getD j 0
  comb : ∀ r j, r < n → s.A r j = sm (fun i => s.R i j * s.B r i) s.bnd.length + (if s.bnd.length ≤ r then s.R r j else 0)
  lead : s.lead ≠ 0
  unit : ∀ i r, i < s.bnd.length → r < n → s.R r (s.bnd.getD i 0) = if r = i then 1 else 0
  zero : ∀ r j, s.bnd.length ≤ r → r < n → j < c → s.R r j = 0
  ech : ∀ i j, i < s.bnd.length → j < s.bnd.getD i 0 → s.R i j = 0
  perm : ∃ σ τ : Nat → Nat, (∀ r, r < n → σ r < n ∧ τ r < n ∧ σ (τ r) = r ∧ τ (σ r) = r) ∧ ∀ r, r < n → s.A r = A0 (σ r)
  rows : ∀ r, r < n → ∃ e : Nat → Rat, ∀ j, s.R r j = sm (fun t => e t * A0 t j) n
  pos : s.bnd.length < n → s.bnd.length < c → True

theorem getD_app {l : List Nat} {c i : Nat} (h : i < l.length) : (l ++ [c]).getD i 0 = l.getD i 0 := by simp [List.getD, List.getElem?_append_left h]
theorem getD_end {l : List Nat} {c : Nat} : (l ++ [c]).getD l.length 0 = c := by simp [List.getD]
theorem dt_zero0 (M : Nat → Nat → Rat) : dt 0 M = 1 := rfl
theorem red_inv0 (n : Nat) (A0 : Nat → Nat → Rat) : RInv n A0 0 (red n A0 0) where
  le := Nat.zero_le _
  lec := Nat.zero_le _
  blt := fun i h => absurd h (Nat.not_lt_zero _)
  inc := fun i j _ h => absurd h (Nat.not_lt_zero _)
  comb := fun r j _ => by show A0 r j = sm _ 0 + (if 0 ≤ r then A0 r j else 0); rw [sm_zero, if_pos (Nat.zero_le _)]; grind
  lead := by show (1 : Rat) ≠ 0; decide
  unit := fun i r h => absurd h (Nat.not_lt_zero _)
  zero := fun r j _ _ h => absurd h (Nat.not_lt_zero _)
  ech := fun i j h => absurd h (Nat.not_lt_zero _)
  perm := ⟨fun r => r, fun r => r, fun r h => ⟨h, h, rfl, rfl⟩, fun r _ => rfl⟩
  rows := fun r hr => ⟨fun t => if t = r then 1 else 0, fun j => by
    rw [sm_single hr fun t _ hne => by show (if t = r then (1 : Rat) else 0) * _ = 0; rw [if_neg hne]; grind]
    show A0 r j = (if r = r then (1 : Rat) else 0) * A0 r j; rw [if_pos rfl]; grind⟩
  pos := fun _ _ => trivial

section
variable {n : Nat} {A0 : Nat → Nat → Rat} {c : Nat} {s : Rd}
/-- A number of a bound row, times the leading determinant. -/
theorem RInv.lo (h : RInv n A0 c s) {i : Nat} (hi : i < s.bnd.length) (j : Nat) : s.lead * s.R i j = dt s.bnd.length (upd s.B i (fun r => s.A r j)) := by
  have e := dt_comb s.B hi (fun m => s.R m j)
  have := h.le
  rw [dt_congr s.bnd.length (N := upd s.B i (fun r => sm (fun m => s.R m j * s.B r m) s.bnd.length)) fun r m hr hm => ?_, e]
  · unfold Rd.lead; grind
  · by_cases hmi : m = i
    · subst hmi
      rw [upd_at, upd_at, h.comb r j (by omega), if_neg (by omega)]; grind
    · rw [upd_ne _ _ _ hmi, upd_ne _ _ _ hmi]
/-- The rows above the bound ones with one more row. -/
def Rd.C (s : Rd) (i : Nat) : Nat → Nat → Rat := fun r m => if m = s.bnd.length then (if r = s.bnd.length then 1 else 0) else s.A (if r = s.bnd.length then i else r) (s.bnd.getD m 0)
def Rd.D (s : Rd) (i j : Nat) : Nat → Nat → Rat := upd (s.C i) s.bnd.length (fun r => s.A (if r = s.bnd.length then i else r) j)
theorem C_lead (s : Rd) (i : Nat) : dt (s.bnd.length + 1) (s.C i) = s.lead := by
  rw [dt_last s.bnd.length (s.C i) (fun r hr => by unfold Rd.C; rw [if_pos rfl, if_neg (by omega)]) (by unfold Rd.C; rw [if_pos rfl, if_pos rfl])]
  exact dt_congr _ fun r m hr hm => by unfold Rd.C Rd.B; rw [if_neg (by omega), if_neg (by omega)]
theorem RInv.hi (h : RInv n A0 c s) {i : Nat} (hi : s.bnd.length ≤ i) (hn : i < n) (j : Nat) : s.lead * s.R i j = dt (s.bnd.length + 1) (s.D i j) := by
  have e := dt_comb (n := s.bnd.length + 1) (s.C i) (i := s.bnd.length) (by omega) (fun m => if m = s.bnd.length then s.R i j else s.R m j)
  rw [if_pos rfl, C_lead] at e
  have le := h.le
  unfold Rd.D
  rw [dt_congr (s.bnd.length + 1) (N := upd (s.C i) s.bnd.length (fun r => sm (fun m => (if m = s.bnd.length then s.R i j else s.R m j) * s.C i r m) (s.bnd.length + 1))) fun r m hr hm => ?_, e]
  · grind
  · by_cases hmi : m = s.bnd.length
    · subst hmi
      rw [upd_at, upd_at, sm_succ, if_pos rfl]
      have e2 : sm (fun m => (if m = s.bnd.length then s.R i j else s.R m j) * s.C i r m) s.bnd.length = sm (fun m => s.R m j * s.B (if r = s.bnd.length then i else r) m) s.bnd.length :=
        sm_congr _ fun m hm => by rw [if_neg (by omega)]; unfold Rd.C Rd.B; rw [if_neg (by omega)]
      rw [e2]
      by_cases hr2 : r = s.bnd.length
      · rw [if_pos hr2, h.comb i j hn, if_pos hi]; unfold Rd.C; rw [if_pos rfl, if_pos hr2]; grind
      · rw [if_neg hr2, h.comb r j (by omega), if_neg (by omega)]; unfold Rd.C; rw [if_pos rfl, if_neg hr2]; grind
    · rw [upd_ne _ _ _ hmi, upd_ne _ _ _ hmi]
theorem step_inv (h : RInv n A0 c s) : RInv n A0 (c + 1) (s.step n c) := by
  unfold Rd.step
  by_cases h1 : n ≤ s.bnd.length
  · rw [if_pos h1]
    exact { le := h.le, lec := by have := h.lec; omega, blt := fun i hi => by have := h.blt i hi; omega, inc := h.inc, comb := h.comb, lead := h.lead, unit := h.unit, zero := fun r j h2 h3 _ => by omega, ech := h.ech, perm := h.perm, rows := h.rows, pos := fun _ _ => trivial }
  rw [if_neg h1]
  obtain ⟨p1, p2, p3, p4⟩ := fnd_spec s.R c (n - s.bnd.length) s.bnd.length
  by_cases h2 : fnd s.R c (n - s.bnd.length) s.bnd.length = n
  · rw [if_pos h2]
    rw [h2] at p3
    exact { le := h.le, lec := by have := h.lec; omega, blt := fun i hi => by have := h.blt i hi; omega, inc := h.inc, comb := h.comb, lead := h.lead, unit := h.unit,
            zero := fun r j h3 h4 h5 => by
              rcases Nat.lt_or_ge j c with h6 | h6
              · exact h.zero r j h3 h4 h6
              · obtain rfl : j = c := by omega
                exact p3 r h3 h4
            ech := h.ech, perm := h.perm, rows := h.rows, pos := fun _ _ => trivial }
  rw [if_neg h2]
  generalize hp : fnd s.R c (n - s.bnd.length) s.bnd.length = p at *
  have pn : p < n := by omega
  have piv : s.R p c ≠ 0 := p4 (by omega)
  generalize hk : s.bnd.length = k at *
  have kk : swi k p k = p := by unfold swi; rw [if_pos rfl]
  -- the rows that changed places
  have comb' : ∀ r j, r < n → swp s.A k p r j = sm (fun i => s.R i j * s.B (swi k p r) i) k + (if k ≤ r then swp s.R k p r j else 0) := fun r j hr => by
    have := h.comb (swi k p r) j (swi_lt (by omega) pn hr)
    rw [hk] at this
    unfold swp
    rw [this]
    congr 1
    by_cases hkr : k ≤ r
    · rw [if_pos hkr, if_pos ((swi_ge p1).1 hkr)]
    · rw [if_neg hkr, if_neg (fun h' => hkr ((swi_ge p1).2 h'))]
  have low : ∀ i j, i < k → swp s.R k p i j = s.R i j := fun i j hi => by unfold swp; rw [swi_low hi p1]
  have pivE : swp s.R k p k c = s.R p c := by unfold swp; rw [kk]
  have hnl : ∀ i, i < k → (s.bnd ++ [c]).getD i 0 = s.bnd.getD i 0 := fun i hi => getD_app (by omega)
  have hne : (s.bnd ++ [c]).getD k 0 = c := by rw [← hk]; exact getD_end
  have hlen : (s.bnd ++ [c]).length = k + 1 := by rw [List.length_append, hk]; rfl
  have unit0 : ∀ i r, i < k → r < n → s.R r (s.bnd.getD i 0) = if r = i then 1 else 0 := fun i r hi hr => h.unit i r (by omega) hr
  have row0 : ∀ j, j < c → swp s.R k p k j = 0 := fun j hj => by unfold swp; rw [kk]; exact h.zero p j (by omega) pn hj
  refine { le := by show (s.bnd ++ [c]).length ≤ n; omega, lec := by show (s.bnd ++ [c]).length ≤ c + 1; have := h.lec; omega, blt := ?_, inc := ?_, comb := ?_, lead := ?_, unit := ?_, zero := ?_, ech := ?_, perm := ?_, rows := ?_, pos := fun _ _ => trivial }
  · intro i hi
    show (s.bnd ++ [c]).getD i 0 < c + 1
    have hi' : i < k + 1 := by rw [← hlen]; exact hi
    rcases Nat.lt_or_ge i k with h3 | h3
    · rw [hnl i h3]; have := h.blt i (by omega); omega
    · obtain rfl : i = k := by omega
      rw [hne]; omega
  · intro i j hij hj
    show (s.bnd ++ [c]).getD i 0 < (s.bnd ++ [c]).getD j 0
    have hj' : j < k + 1 := by rw [← hlen]; exact hj
    rw [hnl i (by omega)]
    rcases Nat.lt_or_ge j k with h3 | h3
    · rw [hnl j h3]; exact h.inc i j hij (by omega)
    · obtain rfl : j = k := by omega
      rw [hne]; exact h.blt i (by omega)
  · intro r j hr
    show swp s.A k p r j = sm (fun i => elm (swp s.R k p) k c i j * swp s.A k p r ((s.bnd ++ [c]).getD i 0)) (s.bnd ++ [c]).length + (if (s.bnd ++ [c]).length ≤ r then elm (swp s.R k p) k c r j else 0)
    rw [hlen, sm_succ, hne]
    have e1 : sm (fun i => elm (swp s.R k p) k c i j * swp s.A k p r ((s.bnd ++ [c]).getD i 0)) k = sm (fun i => s.R i j * s.B (swi k p r) i) k + -(swp s.R k p k j / swp s.R k p k c) * sm (fun i => s.R i c * s.B (swi k p r) i) k := by
      rw [← sm_mul, ← sm_add]
      refine sm_congr k fun i hi => ?_
      have : elm (swp s.R k p) k c i j = s.R i j - s.R i c * (swp s.R k p k j / swp s.R k p k c) := by unfold elm; rw [if_neg (by omega), low i j hi, low i c hi]
      rw [hnl i hi, this]
      show (s.R i j - s.R i c * (swp s.R k p k j / swp s.R k p k c)) * s.B (swi k p r) i = _
      grind
    have e2 := comb' r j hr
    have e3 := comb' r c hr
    have e4 : elm (swp s.R k p) k c k j = swp s.R k p k j / swp s.R k p k c := by unfold elm; rw [if_pos rfl]
    rw [e1, e4]
    generalize hq : swp s.R k p k j / swp s.R k p k c = q at *
    have hq2 : swp s.R k p k j = swp s.R k p k c * q := by rw [← hq]; rw [pivE] at *; grind
    generalize sm (fun i => s.R i j * s.B (swi k p r) i) k = S1 at *
    generalize sm (fun i => s.R i c * s.B (swi k p r) i) k = S2 at *
    rw [e2, e3]
    rcases Nat.lt_trichotomy r k with h3 | h3 | h3
    · rw [if_neg (by omega), if_neg (by omega), if_neg (by omega)]; grind
    · subst h3
      rw [if_pos (by omega), if_pos (by omega), if_neg (by omega), hq2]; grind
    · have e5 : elm (swp s.R k p) k c r j = swp s.R k p r j - swp s.R k p r c * q := by unfold elm; rw [if_neg (by omega), hq]
      rw [if_pos (by omega), if_pos (by omega), if_pos (by omega), e5]; grind
  · -- the leading determinant
    show dt (s.bnd ++ [c]).length (fun r i => swp s.A k p r ((s.bnd ++ [c]).getD i 0)) ≠ 0
    have e := h.hi (i := p) (by omega) pn c
    rw [hlen]
    have e2 : dt (k + 1) (fun r i => swp s.A k p r ((s.bnd ++ [c]).getD i 0)) = dt (k + 1) (s.D p c) := dt_congr _ fun r i hr hi => by
      have hrow : swp s.A k p r = s.A (if r = s.bnd.length then p else r) := by
        unfold swp
        rcases Nat.lt_or_ge r k with h3 | h3
        · rw [swi_low h3 p1, if_neg (by omega)]
        · obtain rfl : r = k := by omega
          rw [kk, if_pos hk.symm]
      rw [hrow]
      unfold Rd.D
      rcases Nat.lt_or_ge i k with h3 | h3
      · rw [upd_ne _ _ _ (by omega), hnl i h3]
        show _ = if i = s.bnd.length then _ else _
        rw [if_neg (show ¬ i = s.bnd.length by omega)]
      · obtain rfl : i = k := by omega
        rw [hne, hk, upd_at]
    rw [e2, ← hk, ← e]
    intro h0
    rcases Rat.mul_eq_zero.1 h0 with h3 | h3
    · exact h.lead h3
    · exact piv h3
  · intro i r hi hr
    show elm (swp s.R k p) k c r ((s.bnd ++ [c]).getD i 0) = _
    have hi' : i < k + 1 := by rw [← hlen]; exact hi
    rcases Nat.lt_or_ge i k with h3 | h3
    · rw [hnl i h3]
      have q0 : swp s.R k p k (s.bnd.getD i 0) = 0 := row0 _ (h.blt i (by omega))
      unfold elm
      rw [q0]
      by_cases hrk : r = k
      · rw [if_pos hrk, if_neg (by omega)]; grind
      · rw [if_neg hrk]
        have : swp s.R k p r (s.bnd.getD i 0) = if r = i then 1 else 0 := by
          unfold swp
          rw [unit0 i _ h3 (swi_lt (by omega) pn hr)]
          by_cases hri : r = i
          · subst hri; rw [swi_low h3 p1]
          · rw [if_neg hri]
            refine if_neg fun h' => hri ?_
            rcases Nat.lt_or_ge r k with h4 | h4
            · rw [swi_low h4 p1] at h'; exact h'
            · have := (swi_ge p1).1 h4; omega
        rw [this]; grind
    · obtain rfl : i = k := by omega
      rw [hne]
      unfold elm
      by_cases hrk : r = i
      · rw [if_pos hrk, if_pos hrk, pivE]; grind
      · rw [if_neg hrk, if_neg hrk]; rw [pivE]; grind
  · intro r j h3 h4 h5
    show elm (swp s.R k p) k c r j = 0
    have h3' : k + 1 ≤ r := by rw [← hlen]; exact h3
    unfold elm
    rw [if_neg (by omega)]
    rcases Nat.lt_or_ge j c with h6 | h6
    · have q1 : swp s.R k p r j = 0 := by unfold swp; exact h.zero _ j (by have := (swi_ge (r := r) p1).1 (by omega); omega) (swi_lt (by omega) pn h4) h6
      rw [q1, row0 j h6]; grind
    · obtain rfl : j = c := by omega
      rw [pivE]; grind
  · intro i j hi hj
    show elm (swp s.R k p) k c i j = 0
    have hi' : i < k + 1 := by rw [← hlen]; exact hi
    have hj' : j < (s.bnd ++ [c]).getD i 0 := hj
    rcases Nat.lt_or_ge i k with h3 | h3
    · rw [hnl i h3] at hj'
      unfold elm
      rw [if_neg (by omega), low i j h3, h.ech i j (by omega) hj', row0 j (by have := h.blt i (by omega); omega)]; grind
    · obtain rfl : i = k := by omega
      rw [hne] at hj'
      unfold elm
      rw [if_pos rfl, row0 j hj']; grind
  · obtain ⟨σ, τ, g1, g2⟩ := h.perm
    refine ⟨fun r => σ (swi k p r), fun r => swi k p (τ r), fun r hr => ?_, fun r hr => ?_⟩
    · have a1 := g1 (swi k p r) (swi_lt (by omega) pn hr)
      have a2 := g1 r hr
      refine ⟨a1.1, swi_lt (by omega) pn a2.2.1, ?_, ?_⟩
      · show σ (swi k p (swi k p (τ r))) = r
        rw [swi_swi]; exact a2.2.2.1
      · show swi k p (τ (σ (swi k p r))) = r
        rw [a1.2.2.2, swi_swi]
    · exact g2 _ (swi_lt (by omega) pn hr)
  · intro r hr
    show ∃ e : Nat → Rat, ∀ j, elm (swp s.R k p) k c r j = _
    obtain ⟨e1, q1⟩ := h.rows (swi k p r) (swi_lt (by omega) pn hr)
    obtain ⟨e2, q2⟩ := h.rows (swi k p k) (swi_lt (by omega) pn (by omega))
    by_cases hrk : r = k
    · subst hrk
      refine ⟨fun t => 1 / s.R p c * e2 t, fun j => ?_⟩
      have : elm (swp s.R r p) r c r j = 1 / s.R p c * s.R (swi r p r) j := by
        unfold elm; rw [if_pos rfl, pivE]; show s.R (swi r p r) j / s.R p c = _; grind
      rw [this, q2 j, ← sm_mul]
      exact sm_congr n fun t _ => by grind
    · refine ⟨fun t => 1 * e1 t + -(swp s.R k p r c / s.R p c) * e2 t, fun j => ?_⟩
      have : elm (swp s.R k p) k c r j = 1 * s.R (swi k p r) j + -(swp s.R k p r c / s.R p c) * s.R (swi k p k) j := by
        unfold elm; rw [if_neg hrk, pivE]
        show s.R (swi k p r) j - swp s.R k p r c * (s.R (swi k p k) j / s.R p c) = _; grind
      rw [this, q1 j, q2 j]
      rw [sm_lin (f := fun t => (1 * e1 t + -(swp s.R k p r c / s.R p c) * e2 t) * A0 t j) (g := fun t => e1 t * A0 t j) (h := fun t => e2 t * A0 t j) (x := 1) (y := -(swp s.R k p r c / s.R p c)) n fun t _ => by grind]
theorem red_inv (n : Nat) (A0 : Nat → Nat → Rat) : ∀ c, RInv n A0 c (red n A0 c)
  | 0 => red_inv0 n A0
  | c + 1 => step_inv (red_inv n A0 c)
end
end Go.Proofs.Ythlcmlngmcoknaa

/- What is proved here: the solutions of reduced rows: the plain solution, the free solutions, when there is one, that all of them depend on the solutions of the input alone, and that either a system or the turned one has a solution. No program in sight. -/
namespace Go.Proofs.Ythlcmlngmcoknaa

theorem sm_flip (f : Nat → Nat → Rat) (n : Nat) : ∀ m, sm (fun i => sm (f i) n) m = sm (fun j => sm (fun i => f i j) m) n
  | 0 => by rw [sm_zero]; exact (sm_0 n fun _ _ => rfl).symm
  | m + 1 => by
    rw [sm_succ, sm_flip f n m, ← sm_add]
    exact sm_congr n fun j _ => rfl
theorem sm_pull (c : Rat) (f : Nat → Rat) (n : Nat) : c * sm f n = sm (fun i => c * f i) n := (sm_mul c f n).symm
/-- The vectors that every row of a matrix of n rows and W columns gives 0. -/
def ker (n W : Nat) (M : Nat → Nat → Rat) (x : Nat → Rat) : Prop := ∀ r, r < n → sm (fun j => M r j * x j) W = 0

section
variable {n w : Nat} {A0 : Nat → Nat → Rat} {s : Rd}
theorem RInv.ker_iff (h : RInv n A0 w s) (W : Nat) (x : Nat → Rat) : ker n W s.R x ↔ ker n W A0 x := by
  constructor
  · intro hk
    have hA : ker n W s.A x := fun r hr => by
      have e : sm (fun j => s.A r j * x j) W = sm (fun j => sm (fun i => s.B r i * (s.R i j * x j)) s.bnd.length + (if s.bnd.length ≤ r then 1 else 0) * (s.R r j * x j)) W := sm_congr W fun j _ => by
        have e1 : sm (fun i => s.B r i * (s.R i j * x j)) s.bnd.length = x j * sm (fun i => s.R i j * s.B r i) s.bnd.length := by
          rw [sm_pull]; exact sm_congr _ fun i _ => by grind
        rw [h.comb r j hr, e1]; split <;> grind
      rw [e, sm_add, sm_mul, hk r hr, sm_flip (fun j i => s.B r i * (s.R i j * x j)) s.bnd.length W, sm_0 s.bnd.length fun i hi => ?_]
      · grind
      · have := sm_mul (s.B r i) (fun j => s.R i j * x j) W
        rw [hk i (by have := h.le; omega)] at this
        rw [this]; grind
    obtain ⟨σ, τ, g1, g2⟩ := h.perm
    intro r hr
    have a := g1 r hr
    have := hA (τ r) a.2.1
    rw [g2 (τ r) a.2.1, a.2.2.1] at this
    exact this
  · intro hk r hr
    obtain ⟨e, he⟩ := h.rows r hr
    have e1 : sm (fun j => s.R r j * x j) W = sm (fun j => sm (fun t => e t * (A0 t j * x j)) n) W := sm_congr W fun j _ => by
      rw [he j]
      have : sm (fun t => e t * (A0 t j * x j)) n = x j * sm (fun t => e t * A0 t j) n := by rw [sm_pull]; exact sm_congr n fun t _ => by grind
      rw [this]; grind
    rw [e1, sm_flip (fun j t => e t * (A0 t j * x j)) n W]
    refine sm_0 n fun t ht => ?_
    have := sm_mul (e t) (fun j => A0 t j * x j) W
    rw [hk t ht] at this
    rw [this]; grind
/-- No row above the bound ones asks for a number. -/
def Rd.solv (n w : Nat) (s : Rd) : Prop := ∀ i, s.bnd.length ≤ i → i < n → s.R i w = 0
/-- The plain solution. -/
def Rd.pl (w : Nat) (s : Rd) (c : Nat) : Rat := sm (fun i => if s.bnd.getD i 0 = c then s.R i w else 0) s.bnd.length
/-- A column that is not bound. -/
def Rd.free (s : Rd) (f : Nat) : Prop := ∀ i, i < s.bnd.length → s.bnd.getD i 0 ≠ f
/-- The free solution of a column. -/
def Rd.fr (s : Rd) (f c : Nat) : Rat := if c = f then 1 else - sm (fun i => if s.bnd.getD i 0 = c then s.R i f else 0) s.bnd.length
theorem RInv.inj (h : RInv n A0 w s) {i j : Nat} (hi : i < s.bnd.length) (hj : j < s.bnd.length) (e : s.bnd.getD i 0 = s.bnd.getD j 0) : i = j := by
  rcases Nat.lt_trichotomy i j with h1 | h1 | h1
  · have := h.inc i j h1 hj; omega
  · exact h1
  · have := h.inc j i h1 hi; omega
/-- A sum over the columns of numbers that stand at bound columns alone. -/
theorem RInv.at_bound (h : RInv n A0 w s) (v : Nat → Rat) {r : Nat} (hr : r < n) (W : Nat) (hW : w ≤ W) : sm (fun j => s.R r j * sm (fun i => if s.bnd.getD i 0 = j then v i else 0) s.bnd.length) W = if r < s.bnd.length then v r else 0 := by
  have e1 : sm (fun j => s.R r j * sm (fun i => if s.bnd.getD i 0 = j then v i else 0) s.bnd.length) W = sm (fun j => sm (fun i => if s.bnd.getD i 0 = j then s.R r j * v i else 0) s.bnd.length) W := sm_congr W fun j _ => by
    rw [sm_pull]; exact sm_congr _ fun i _ => by split <;> grind
  rw [e1, sm_flip (fun j i => if s.bnd.getD i 0 = j then s.R r j * v i else 0) s.bnd.length W]
  have e2 : sm (fun i => sm (fun j => if s.bnd.getD i 0 = j then s.R r j * v i else 0) W) s.bnd.length = sm (fun i => if r = i then v i else 0) s.bnd.length := sm_congr _ fun i hi => by
    have hb := h.blt i hi
    rw [sm_single (a := s.bnd.getD i 0) (by omega) fun j _ hne => if_neg fun h' => hne h'.symm, if_pos rfl, h.unit i r hi hr]
    split <;> grind
  rw [e2]
  by_cases hk : r < s.bnd.length
  · rw [if_pos hk, sm_single hk fun i _ hne => if_neg fun h' => hne h'.symm, if_pos rfl]
  · rw [if_neg hk]; exact sm_0 _ fun i hi => if_neg (by omega)
/-- The plain solution, with -1 for the right side. -/
def Rd.plx (w : Nat) (s : Rd) (c : Nat) : Rat := if c = w then -1 else s.pl w c
theorem RInv.pl_w (h : RInv n A0 w s) : s.pl w w = 0 := sm_0 _ fun i hi => if_neg (by have := h.blt i hi; omega)
theorem RInv.plain (h : RInv n A0 w s) (hs : s.solv n w) : ker n (w + 1) A0 (s.plx w) := by
  rw [← h.ker_iff]
  intro r hr
  have e : sm (fun j => s.R r j * s.plx w j) (w + 1) = sm (fun j => s.R r j * s.pl w j) (w + 1) + -1 * s.R r w := by
    rw [sm_succ, sm_succ, h.pl_w, sm_congr (g := fun j => s.R r j * s.pl w j) w fun j hj => by unfold Rd.plx; rw [if_neg (by omega)]]
    unfold Rd.plx; rw [if_pos rfl]; grind
  rw [e]
  have := h.at_bound (fun i => s.R i w) hr (w + 1) (by omega)
  unfold Rd.pl
  rw [this]
  split
  · grind
  · rw [hs r (by omega) hr]; grind
/-- A free solution, with 0 for the right side. -/
theorem RInv.fr_w (h : RInv n A0 w s) {f : Nat} (hf : f < w) : s.fr f w = 0 := by
  unfold Rd.fr
  rw [if_neg (by omega), sm_0 _ fun i hi => if_neg (by have := h.blt i hi; omega)]; grind
theorem RInv.frees (h : RInv n A0 w s) {f : Nat} (hf : f < w) (hfr : s.free f) : ker n (w + 1) A0 (s.fr f) := by
  rw [← h.ker_iff]
  intro r hr
  have e : sm (fun j => s.R r j * s.fr f j) (w + 1) = s.R r f + -1 * sm (fun j => s.R r j * sm (fun i => if s.bnd.getD i 0 = j then s.R i f else 0) s.bnd.length) (w + 1) := by
    have e1 : sm (fun j => s.R r j * s.fr f j) (w + 1) = sm (fun j => (if j = f then s.R r f else 0) + -1 * (s.R r j * sm (fun i => if s.bnd.getD i 0 = j then s.R i f else 0) s.bnd.length)) (w + 1) := sm_congr _ fun j _ => by
      unfold Rd.fr
      by_cases hj : j = f
      · subst hj
        rw [if_pos rfl, if_pos rfl, sm_0 s.bnd.length fun i hi => if_neg (hfr i hi)]; grind
      · rw [if_neg hj, if_neg hj]; grind
    rw [e1, sm_add, sm_mul, sm_single (a := f) (by omega) fun j _ hne => if_neg hne, if_pos rfl]
  rw [e, h.at_bound (fun i => s.R i f) hr (w + 1) (by omega)]
  split
  · grind
  · rw [h.zero r f (by omega) hr hf]; grind
/-- Vectors of the kernel that agree at the free columns and at the right side. -/
theorem RInv.agree (h : RInv n A0 w s) {x y : Nat → Rat} (hx : ker n (w + 1) A0 x) (hy : ker n (w + 1) A0 y) (hw : x w = y w) (hf : ∀ f, f < w → s.free f → x f = y f) : ∀ c, c ≤ w → x c = y c := by
  rw [← h.ker_iff] at hx hy
  have bound : ∀ i, i < s.bnd.length → x (s.bnd.getD i 0) = y (s.bnd.getD i 0) := fun i hi => by
    have hi' : i < n := by have := h.le; omega
    have d : sm (fun j => s.R i j * (x j - y j)) (w + 1) = 0 := by
      rw [sm_congr (g := fun j => s.R i j * x j + -1 * (s.R i j * y j)) (w + 1) fun j _ => by grind, sm_add, sm_mul, hx i hi', hy i hi']; grind
    rw [sm_single (a := s.bnd.getD i 0) (by have := h.blt i hi; omega) fun j hj hne => ?_, h.unit i i hi hi', if_pos rfl] at d
    · grind
    · by_cases hjw : j = w
      · subst hjw; rw [hw]; grind
      · by_cases hfj : s.free j
        · rw [hf j (by omega) hfj]; grind
        · unfold Rd.free at hfj
          obtain ⟨m, hm⟩ := Classical.not_forall.1 hfj
          obtain ⟨hm1, hm2⟩ : m < s.bnd.length ∧ s.bnd.getD m 0 = j := by
            by_cases h1 : m < s.bnd.length
            · exact ⟨h1, Classical.byContradiction fun h2 => hm fun _ => h2⟩
            · exact absurd (fun h2 => absurd h2 h1) hm
          subst hm2
          rw [h.unit m i hm1 hi', if_neg (fun h' => hne (by rw [h']))]; grind
  intro c hc
  by_cases hcw : c = w
  · subst hcw; exact hw
  · by_cases hfc : s.free c
    · exact hf c (by omega) hfc
    · unfold Rd.free at hfc
      obtain ⟨m, hm⟩ := Classical.not_forall.1 hfc
      obtain ⟨hm1, hm2⟩ : m < s.bnd.length ∧ s.bnd.getD m 0 = c := by
        by_cases h1 : m < s.bnd.length
        · exact ⟨h1, Classical.byContradiction fun h2 => hm fun _ => h2⟩
        · exact absurd (fun h2 => absurd h2 h1) hm
      subst hm2
      exact bound m hm1
/-- There is a solution just where a vector of the kernel is not 0 at the right side. -/
theorem RInv.solv_iff (h : RInv n A0 w s) : s.solv n w ↔ ∃ x, ker n (w + 1) A0 x ∧ x w ≠ 0 := by
  constructor
  · intro hs
    exact ⟨s.plx w, h.plain hs, by unfold Rd.plx; rw [if_pos rfl]; decide⟩
  · rintro ⟨x, hx, hn⟩ i hi hin
    rw [← h.ker_iff] at hx
    have := hx i hin
    rw [sm_single (a := w) (by omega) fun j hj hne => by rw [h.zero i j hi hin (by omega)]; grind] at this
    rcases Rat.mul_eq_zero.1 this with h1 | h1
    · exact h1
    · exact absurd h1 hn
/-- A column is free just where a vector of the kernel ends there. -/
theorem RInv.free_iff (h : RInv n A0 w s) {f : Nat} (hf : f < w) : s.free f ↔ ∃ x, ker n (w + 1) A0 x ∧ x f ≠ 0 ∧ ∀ j, f < j → j ≤ w → x j = 0 := by
  constructor
  · intro hfr
    refine ⟨s.fr f, h.frees hf hfr, by unfold Rd.fr; rw [if_pos rfl]; decide, fun j h1 h2 => ?_⟩
    unfold Rd.fr
    rw [if_neg (by omega), sm_0 _ fun i hi => ?_]
    · grind
    · by_cases hb : s.bnd.getD i 0 = j
      · rw [if_pos hb, h.ech i f hi (by omega)]
      · exact if_neg hb
  · rintro ⟨x, hx, hn, hz⟩ i hi e
    rw [← h.ker_iff] at hx
    have hi' : i < n := by have := h.le; omega
    have := hx i hi'
    rw [sm_single (a := f) (by omega) fun j hj hne => ?_] at this
    · have u := h.unit i i hi hi'
      rw [e, if_pos rfl] at u
      rw [u] at this
      exact hn (by grind)
    · rcases Nat.lt_or_ge j f with h1 | h1
      · rw [h.ech i j hi (by omega)]; grind
      · rw [hz j (by omega) (by omega)]; grind
end

/-- Two systems with the same solutions have the same results. -/
theorem same_ker {n m w : Nat} {A B : Nat → Nat → Rat} {s t : Rd} (h : RInv n A w s) (g : RInv m B w t) (hk : ∀ x, ker n (w + 1) A x ↔ ker m (w + 1) B x) :
    (s.solv n w ↔ t.solv m w) ∧ (∀ f, f < w → (s.free f ↔ t.free f)) ∧ (s.solv n w → ∀ c, c < w → s.pl w c = t.pl w c) ∧ (∀ f, f < w → s.free f → ∀ c, c < w → s.fr f c = t.fr f c) := by
  have hs : s.solv n w ↔ t.solv m w := by
    rw [h.solv_iff, g.solv_iff]
    exact ⟨fun ⟨x, h1, h2⟩ => ⟨x, (hk x).1 h1, h2⟩, fun ⟨x, h1, h2⟩ => ⟨x, (hk x).2 h1, h2⟩⟩
  have hf : ∀ f, f < w → (s.free f ↔ t.free f) := fun f hf => by
    rw [h.free_iff hf, g.free_iff hf]
    exact ⟨fun ⟨x, h1, h2⟩ => ⟨x, (hk x).1 h1, h2⟩, fun ⟨x, h1, h2⟩ => ⟨x, (hk x).2 h1, h2⟩⟩
  refine ⟨hs, hf, fun h1 c hc => ?_, fun f hf1 hf2 c hc => ?_⟩
  · have := h.agree (h.plain h1) ((hk _).2 (g.plain (hs.1 h1))) (by unfold Rd.plx; rw [if_pos rfl, if_pos rfl]) (fun f hf1 hf2 => by
      unfold Rd.plx
      rw [if_neg (by omega), if_neg (by omega)]
      unfold Rd.pl
      rw [sm_0 _ fun i hi => if_neg (hf2 i hi), sm_0 _ fun i hi => if_neg ((hf f hf1).1 hf2 i hi)]) c (by omega)
    unfold Rd.plx at this
    rw [if_neg (by omega), if_neg (by omega)] at this
    exact this
  · refine h.agree (h.frees hf1 hf2) ((hk _).2 (g.frees hf1 ((hf f hf1).1 hf2))) ?_ (fun e he1 he2 => ?_) c (by omega)
    · rw [h.fr_w hf1, g.fr_w hf1]
    · unfold Rd.fr
      by_cases hef : e = f
      · rw [if_pos hef, if_pos hef]
      · rw [if_neg hef, if_neg hef, sm_0 _ fun i hi => if_neg (he2 i hi), sm_0 _ fun i hi => if_neg ((hf e he1).1 he2 i hi)]
/-- The turned system: the columns as rows, and a right side that is 1 in the last row alone. -/
def trn (n w : Nat) (A : Nat → Nat → Rat) : Nat → Nat → Rat := fun t r => if r = n then (if t = w then 1 else 0) else A r t
/-- Either a system or the turned one has a solution. -/
theorem either {n w : Nat} {A : Nat → Nat → Rat} {s t : Rd} (h : RInv n A w s) (g : RInv (w + 1) (trn n w A) n t) : s.solv n w ↔ ¬ t.solv (w + 1) n := by
  constructor
  · intro hs ht
    have hx := h.plain hs
    have hy := g.plain ht
    -- the sum over both
    have e1 : sm (fun t' => s.plx w t' * sm (fun r => A r t' * t.plx n r) n) (w + 1) = 0 := by
      have : sm (fun t' => s.plx w t' * sm (fun r => A r t' * t.plx n r) n) (w + 1) = sm (fun t' => sm (fun r => t.plx n r * (A r t' * s.plx w t')) n) (w + 1) := sm_congr _ fun t' _ => by
        rw [sm_pull]; exact sm_congr n fun r _ => by grind
      rw [this, sm_flip (fun t' r => t.plx n r * (A r t' * s.plx w t')) n (w + 1)]
      refine sm_0 n fun r hr => ?_
      rw [sm_mul, hx r hr]; grind
    have e2 : ∀ t', t' < w + 1 → sm (fun r => A r t' * t.plx n r) n = if t' = w then 1 else 0 := fun t' ht' => by
      have := hy t' ht'
      rw [sm_succ] at this
      have q : t.plx n n = -1 := by unfold Rd.plx; rw [if_pos rfl]
      have q2 : trn n w A t' n = if t' = w then 1 else 0 := by unfold trn; rw [if_pos rfl]
      have q3 : sm (fun r => trn n w A t' r * t.plx n r) n = sm (fun r => A r t' * t.plx n r) n := sm_congr n fun r hr => by unfold trn; rw [if_neg (by omega)]
      rw [q, q2, q3] at this
      grind
    rw [sm_single (a := w) (by omega) fun t' ht' hne => by rw [e2 t' ht', if_neg hne]; grind, e2 w (by omega), if_pos rfl] at e1
    have q : s.plx w w = -1 := by unfold Rd.plx; rw [if_pos rfl]
    rw [q] at e1
    have : (-1 : Rat) = 0 := by grind
    exact absurd this (by decide)
  · intro ht
    apply Classical.byContradiction
    intro hs
    unfold Rd.solv at hs
    obtain ⟨i, hi⟩ := Classical.not_forall.1 hs
    obtain ⟨hi1, hi'⟩ : s.bnd.length ≤ i ∧ ¬ (i < n → s.R i w = 0) := by
      by_cases h1 : s.bnd.length ≤ i
      · exact ⟨h1, fun h2 => hi fun _ => h2⟩
      · exact absurd (fun h2 => absurd h2 h1) hi
    obtain ⟨hi2, hi3⟩ : i < n ∧ s.R i w ≠ 0 := by
      by_cases h1 : i < n
      · exact ⟨h1, fun h2 => hi' fun _ => h2⟩
      · exact absurd (fun h2 => absurd h2 h1) hi'
    obtain ⟨e, he⟩ := h.rows i hi2
    refine ht (g.solv_iff.2 ⟨fun r => if r = n then - s.R i w else e r, fun t' ht' => ?_, ?_⟩)
    · rw [sm_succ]
      have q : sm (fun r => trn n w A t' r * (if r = n then - s.R i w else e r)) n = s.R i t' := by
        rw [he t']
        exact sm_congr n fun r hr => by unfold trn; rw [if_neg (by omega), if_neg (by omega)]; grind
      rw [q]
      show s.R i t' + (if n = n then (if t' = w then 1 else 0) else A n t') * (if n = n then - s.R i w else e n) = 0
      rw [if_pos rfl, if_pos rfl]
      by_cases htw : t' = w
      · subst htw; rw [if_pos rfl]; grind
      · rw [if_neg htw, h.zero i t' hi1 hi2 (by omega)]; grind
    · show (if n = n then - s.R i w else e n) ≠ 0
      rw [if_pos rfl]; grind
/-- A system with more unknowns than equations has a solution that is not 0. -/
theorem wide_ker {n w : Nat} (A : Nat → Nat → Rat) (h : n < w) : ∃ x : Nat → Rat, (∀ r, r < n → sm (fun j => A r j * x j) w = 0) ∧ ∃ c, c < w ∧ x c ≠ 0 := by
  have hi := red_inv n A w
  -- one column is free
  have : ∃ f, f < w ∧ (red n A w).free f := by
    apply Classical.byContradiction
    intro hno
    have hb : ∀ f, f < w → ∃ i, i < (red n A w).bnd.length ∧ (red n A w).bnd.getD i 0 = f := fun f hf => by
      apply Classical.byContradiction
      intro h2
      exact hno ⟨f, hf, fun i h3 h4 => h2 ⟨i, h3, h4⟩⟩
    have hle := hi.le
    -- the bound columns increase, so that the column i is the i-th one at least
    have up : ∀ i, i < (red n A w).bnd.length → i ≤ (red n A w).bnd.getD i 0 := fun i => by
      induction i with
      | zero => intro _; exact Nat.zero_le _
      | succ i ih => intro h5; have := ih (by omega); have := hi.inc i (i + 1) (by omega) h5; omega
    -- and at most the i-th one, as each lesser column is bound
    have lo : ∀ f, f < w → f < (red n A w).bnd.length ∧ (red n A w).bnd.getD f 0 = f := fun f => by
      induction f with
      | zero =>
        intro hf
        obtain ⟨i, h3, h4⟩ := hb 0 hf
        have := up i h3
        obtain rfl : i = 0 := by omega
        exact ⟨h3, h4⟩
      | succ f ih =>
        intro hf
        obtain ⟨i, h3, h4⟩ := hb (f + 1) hf
        obtain ⟨h5, h6⟩ := ih (by omega)
        have := up i h3
        rcases Nat.lt_or_ge i (f + 1) with h7 | h7
        · rcases Nat.lt_or_ge i f with h8 | h8
          · have := hi.inc i f h8 h5; omega
          · obtain rfl : i = f := by omega
            omega
        · obtain rfl : i = f + 1 := by omega
          exact ⟨h3, h4⟩
    have := lo (w - 1) (by omega)
    omega
  obtain ⟨f, hf, hfr⟩ := this
  have hk := hi.frees hf hfr
  refine ⟨(red n A w).fr f, fun r hr => ?_, f, hf, by unfold Rd.fr; rw [if_pos rfl]; decide⟩
  have := hk r hr
  rw [sm_succ, hi.fr_w hf] at this
  grind
/-- A determinant whose columns depend on each other. -/
theorem dt_dep {n : Nat} (M : Nat → Nat → Rat) (x : Nat → Rat) (h : ∀ r, r < n → sm (fun j => M r j * x j) n = 0) {c : Nat} (hc : c < n) (hx : x c ≠ 0) : dt n M = 0 := by
  have e := dt_comb M hc x
  have e2 : dt n (upd M c (fun r => sm (fun m => x m * M r m) n)) = dt n (upd M c (fun _ => 0)) := dt_congr n fun r m hr hm => by
    by_cases hmc : m = c
    · subst hmc; rw [upd_at, upd_at, ← h r hr]; exact sm_congr n fun j _ => by grind
    · rw [upd_ne _ _ _ hmc, upd_ne _ _ _ hmc]
  rw [e2, dt_zero M hc] at e
  rcases Rat.mul_eq_zero.1 e.symm with h1 | h1
  · exact absurd h1 hx
  · exact h1
/-- The rank of the rows is at least that of the columns. -/
theorem rank_le {n w n' w' : Nat} {A : Nat → Nat → Rat} {s t : Rd} (h : RInv n A w s) (T : Nat → Nat → Rat) (hT : ∀ r c, r < w → c < n → T r c = A c r) (g : RInv n' T w' t) (hn : n' = w) (hw : w' = n) : t.bnd.length ≤ s.bnd.length := by
  subst hn hw
  apply Classical.byContradiction
  intro hlt
  -- the bound columns of t are rows of A, each a combination of the bound rows of s
  obtain ⟨σ, τ, g1, g2⟩ := h.perm
  have row : ∀ x y, x < w' → y < n' → A x y = sm (fun m => s.R m y * s.B (τ x) m) s.bnd.length := fun x y hx hy => by
    have a := g1 x hx
    have := h.comb (τ x) y a.2.1
    rw [g2 (τ x) a.2.1, a.2.2.1] at this
    rw [this]
    by_cases hk : s.bnd.length ≤ τ x
    · rw [if_pos hk, h.zero (τ x) y hk a.2.1 hy]; grind
    · rw [if_neg hk]; grind
  obtain ⟨x, hx, c, hc, hxc⟩ := wide_ker (n := s.bnd.length) (w := t.bnd.length) (fun m i => s.B (τ (t.bnd.getD i 0)) m) (by omega)
  obtain ⟨σ', τ', g1', g2'⟩ := g.perm
  refine g.lead (dt_dep t.B x (fun r hr => ?_) hc hxc)
  have hr' : r < n' := by have := g.le; omega
  have e : sm (fun j => t.B r j * x j) t.bnd.length = sm (fun j => sm (fun m => s.R m (σ' r) * (s.B (τ (t.bnd.getD j 0)) m * x j)) s.bnd.length) t.bnd.length := sm_congr _ fun j hj => by
    have q : t.B r j = A (t.bnd.getD j 0) (σ' r) := by
      unfold Rd.B
      rw [g2' r hr', hT (σ' r) _ (g1' r hr').1 (g.blt j hj)]
    rw [q, row _ _ (g.blt j hj) (g1' r hr').1]
    have : sm (fun m => s.R m (σ' r) * (s.B (τ (t.bnd.getD j 0)) m * x j)) s.bnd.length = x j * sm (fun m => s.R m (σ' r) * s.B (τ (t.bnd.getD j 0)) m) s.bnd.length := by
      rw [sm_pull]; exact sm_congr _ fun m _ => by grind
    rw [this]; grind
  rw [e, sm_flip (fun j m => s.R m (σ' r) * (s.B (τ (t.bnd.getD j 0)) m * x j)) s.bnd.length t.bnd.length]
  refine sm_0 _ fun m hm => ?_
  rw [sm_mul, hx m hm]; grind
end Go.Proofs.Ythlcmlngmcoknaa

/- What is proved here: rows of whole numbers that are reduced without fractions: each number is the leading determinant times the reduced one; the quotients are whole; sizes. No program in sight. Condition: small numbers. -/
namespace Go.Proofs.Ythlcmlngmcoknaa

section
variable {n w : Nat} {A0 : Nat → Nat → Rat} {c : Nat} {s : Rd}
/-- The leading determinant after a step. -/
theorem step_lead (h : RInv n A0 c s) (h1 : ¬ n ≤ s.bnd.length) (h2 : fnd s.R c (n - s.bnd.length) s.bnd.length ≠ n) :
    (s.step n c).lead = s.lead * s.R (fnd s.R c (n - s.bnd.length) s.bnd.length) c := by
  obtain ⟨p1, p2, p3, p4⟩ := fnd_spec s.R c (n - s.bnd.length) s.bnd.length
  unfold Rd.step
  rw [if_neg h1, if_neg h2]
  generalize hp : fnd s.R c (n - s.bnd.length) s.bnd.length = p at *
  have pn : p < n := by omega
  have e := h.hi (i := p) (by omega) pn c
  generalize hk : s.bnd.length = k at *
  have kk : swi k p k = p := by unfold swi; rw [if_pos rfl]
  have hnl : ∀ i, i < k → (s.bnd ++ [c]).getD i 0 = s.bnd.getD i 0 := fun i hi => getD_app (by omega)
  have hne : (s.bnd ++ [c]).getD k 0 = c := by rw [← hk]; exact getD_end
  have hlen : (s.bnd ++ [c]).length = k + 1 := by rw [List.length_append, hk]; rfl
  show dt (s.bnd ++ [c]).length (fun r i => swp s.A k p r ((s.bnd ++ [c]).getD i 0)) = _
  rw [hlen, e]
  refine dt_congr _ fun r i hr hi => ?_
  have hrow : swp s.A k p r = s.A (if r = s.bnd.length then p else r) := by
    unfold swp
    rcases Nat.lt_or_ge r k with h3 | h3
    · rw [swi_low h3 p1, if_neg (by omega)]
    · obtain rfl : r = k := by omega
      rw [kk, if_pos hk.symm]
  rw [hrow]
  unfold Rd.D
  rcases Nat.lt_or_ge i k with h3 | h3
  · rw [upd_ne _ _ _ (by omega), hnl i h3]
    show _ = if i = s.bnd.length then _ else _
    rw [if_neg (show ¬ i = s.bnd.length by omega)]
  · obtain rfl : i = k := by omega
    rw [hne, hk, upd_at]
/-- The rows after a step with a pivot. -/
theorem step_at (h1 : ¬ n ≤ s.bnd.length) (h2 : fnd s.R c (n - s.bnd.length) s.bnd.length ≠ n) :
    (s.step n c).bnd = s.bnd ++ [c] ∧ (s.step n c).R = elm (swp s.R s.bnd.length (fnd s.R c (n - s.bnd.length) s.bnd.length)) s.bnd.length c := by
  unfold Rd.step
  rw [if_neg h1, if_neg h2]
  exact ⟨rfl, rfl⟩
/-- All numbers of the input are whole. -/
def Whl (n w : Nat) (A0 : Nat → Nat → Rat) : Prop := ∀ r j, r < n → j ≤ w → whl (A0 r j)
theorem RInv.wholes (h : RInv n A0 c s) (hw : Whl n w A0) (hc : c ≤ w) : whl s.lead ∧ ∀ i j, i < n → j ≤ w → whl (s.lead * s.R i j) := by
  obtain ⟨σ, τ, g1, g2⟩ := h.perm
  have hA : ∀ r j, r < n → j ≤ w → whl (s.A r j) := fun r j hr hj => by rw [g2 r hr]; exact hw _ _ (g1 r hr).1 hj
  have le := h.le
  have hB : ∀ r m, r < s.bnd.length → m < s.bnd.length → whl (s.B r m) := fun r m hr hm => hA r _ (by omega) (by have := h.blt m hm; omega)
  refine ⟨dt_whl _ _ hB, fun i j hi hj => ?_⟩
  rcases Nat.lt_or_ge i s.bnd.length with h1 | h1
  · rw [h.lo h1 j]
    refine dt_whl _ _ fun r m hr hm => ?_
    by_cases hmi : m = i
    · subst hmi; rw [upd_at]; exact hA r j (by omega) hj
    · rw [upd_ne _ _ _ hmi]; exact hB r m hr hm
  · rw [h.hi h1 hi j]
    have hrow : ∀ r, r < s.bnd.length + 1 → (if r = s.bnd.length then i else r) < n := fun r hr => by split <;> omega
    refine dt_whl _ _ fun r m hr hm => ?_
    unfold Rd.D
    by_cases hmi : m = s.bnd.length
    · subst hmi; rw [upd_at]; exact hA _ j (hrow r hr) hj
    · rw [upd_ne _ _ _ hmi]; unfold Rd.C; rw [if_neg hmi]
      exact hA _ _ (hrow r hr) (by have := h.blt m (by omega); omega)
/-- Small numbers: rows of at most 9, but one of at most 99; the right sides so many times as great at most. -/
structure Tame (n w : Nat) (A0 : Nat → Nat → Rat) (ρ : Nat) (γ : Rat) : Prop where
  pos : 0 < γ
  n7 : n ≤ 7
  w6 : w ≤ 6
  big : (γ ≤ 11 ∧ n ≤ ρ ∧ n ≤ 6) ∨ (γ ≤ 1 / 99)
  el : ∀ r j, r < n → j < w → siz (if r = ρ then 99 else 9) (A0 r j)
  right : ∀ r, r < n → siz (γ * (if r = ρ then 99 else 9)) (A0 r w)
def bet (ρ r : Nat) : Rat := if r = ρ then 99 else 9
theorem dbd_5 : ∀ m, m < 6 → ∀ ρ, ρ < 8 → dbd (bet ρ) m 0 ≤ 78000000 := by decide +kernel
theorem dbd_6 : ∀ m, m < 7 → ∀ ρ, ρ < 8 → dbd (bet ρ) m 0 ≤ 4300000000 := by decide +kernel
theorem dbd_7 : ∀ m, m < 8 → ∀ ρ, ρ < 8 → dbd (bet ρ) m 0 ≤ 99 * 4300000000 := by decide +kernel
theorem dbd_n : ∀ m, m < 7 → 11 * dbd (bet 7) m 0 ≤ 4300000000 := by decide +kernel
theorem bet_inj {f : Nat → Nat} {m ρ : Nat} (hm : m ≤ 7) (hf : ∀ a b, a < m → b < m → f a = f b → a = b) :
    ∃ ρ', ρ' < 8 ∧ (∀ r, r < m → bet ρ (f r) = bet ρ' r) ∧ ((∀ r, r < m → f r ≠ ρ) → ρ' = 7) := by
  by_cases h : ∃ r, r < m ∧ f r = ρ
  · obtain ⟨r, hr, e⟩ := h
    refine ⟨r, by omega, fun x hx => ?_, fun h' => absurd e (h' r hr)⟩
    unfold bet
    by_cases hxr : x = r
    · subst hxr; rw [if_pos e, if_pos rfl]
    · rw [if_neg (fun h' => hxr (hf x r hx hr (by rw [h', e]))), if_neg hxr]
  · refine ⟨7, by omega, fun x hx => ?_, fun _ => rfl⟩
    unfold bet
    rw [if_neg (fun h' => h ⟨x, hx, h'⟩), if_neg (by omega)]
theorem siz_refl {g : Rat} (h : 0 ≤ g) : siz g g := ⟨by grind, by grind⟩
theorem tame_dt {m i : Nat} {N : Nat → Nat → Rat} {β : Nat → Rat} {g : Rat} (hi : i < m) (hg : 0 < g) (h1 : ∀ r c, r < m → c < m → c ≠ i → siz (β r) (N r c)) (h2 : ∀ r, r < m → siz (g * β r) (N r i)) :
    siz (g * dbd β m 0) (dt m N) := by
  have e : N = upd N i (fun r => g * (N r i / g) + 0 * 0) := by
    funext r c
    by_cases hc : c = i
    · subst hc; rw [upd_at]; grind
    · rw [upd_ne _ _ _ hc]
  rw [e, dt_lin m N i g 0 (fun r => N r i / g) (fun _ => 0) hi]
  have : g * dt m (upd N i (fun r => N r i / g)) + 0 * dt m (upd N i (fun _ => 0)) = g * dt m (upd N i (fun r => N r i / g)) := by grind
  rw [this]
  refine siz_mul (siz_refl (by grind)) (dt_siz β m 0 _ fun r c hr hc => ?_)
  rw [Nat.zero_add]
  by_cases hci : c = i
  · subst hci
    rw [upd_at]
    obtain ⟨a, b⟩ := h2 r hr
    have hx : g * (N r c / g) = N r c := by grind
    have hi' : 0 < g⁻¹ := Rat.inv_pos.2 hg
    constructor
    · apply Classical.byContradiction
      intro h'
      have h3 : N r c / g < -β r := Rat.not_le.1 h'
      have := Rat.mul_lt_mul_of_pos_left h3 hg
      rw [hx] at this
      grind
    · apply Classical.byContradiction
      intro h'
      have h3 : β r < N r c / g := Rat.not_le.1 h'
      have := Rat.mul_lt_mul_of_pos_left h3 hg
      rw [hx] at this
      grind
  · rw [upd_ne _ _ _ hci]; exact h1 r c hr hc hci
theorem RInv.tame {ρ : Nat} {γ : Rat} (h : RInv n A0 c s) (t : Tame n w A0 ρ γ) (hc : c ≤ w) :
    siz 4300000000 s.lead ∧ (s.bnd.length ≤ 5 → siz 78000000 s.lead) ∧ ∀ i j, i < n → j ≤ w → siz 4300000000 (s.lead * s.R i j) := by
  obtain ⟨σ, τ, g1, g2⟩ := h.perm
  have le := h.le
  have lec := h.lec
  have w6 := t.w6
  have n7 := t.n7
  have inj : ∀ a b, a < n → b < n → σ a = σ b → a = b := fun a b ha hb e => by rw [← (g1 a ha).2.2.2, ← (g1 b hb).2.2.2, e]
  have hA : ∀ r j, r < n → j < w → siz (bet ρ (σ r)) (s.A r j) := fun r j hr hj => by rw [g2 r hr]; exact t.el _ _ (g1 r hr).1 hj
  have hR : ∀ r, r < n → siz (γ * bet ρ (σ r)) (s.A r w) := fun r hr => by rw [g2 r hr]; exact t.right _ (g1 r hr).1
  have num : ∀ (m : Nat) (f : Nat → Nat) (ρ' : Nat), m ≤ 7 → m ≤ n → ρ' < 8 → (∀ r, r < m → f r < n) → ((∀ r, r < m → σ (f r) ≠ ρ) → ρ' = 7) → γ * dbd (bet ρ') m 0 ≤ 4300000000 := fun m f ρ' hm hmn hρ hf hn => by
    have nn : 0 ≤ dbd (bet ρ') m 0 := by
      have : ∀ k s, 0 ≤ dbd (bet ρ') k s := fun k => by
        induction k with
        | zero => intro s; show (0 : Rat) ≤ 1; decide
        | succ k ih =>
          intro s
          refine Rat.mul_nonneg ?_ (Rat.mul_nonneg ?_ (ih _))
          · exact_mod_cast Nat.zero_le _
          · unfold bet; split <;> decide
      exact this m 0
    rcases t.big with ⟨b1, b2, b3⟩ | b1
    · have hr7 := hn fun r hr e => by have := (g1 (f r) (hf r hr)).1; omega
      subst hr7
      have := dbd_n m (by omega)
      have := Rat.mul_le_mul_of_nonneg_right b1 nn
      grind
    · have := dbd_7 m (by omega) ρ' hρ
      have := Rat.mul_le_mul_of_nonneg_right b1 nn
      grind
  have hB : ∀ r m, r < s.bnd.length → m < s.bnd.length → siz (bet ρ (σ r)) (s.B r m) := fun r m hr hm => hA r _ (by omega) (by have := h.blt m hm; omega)
  obtain ⟨ρ1, r1, r2, r3⟩ := bet_inj (f := σ) (m := s.bnd.length) (ρ := ρ) (by omega) (fun a b ha hb e => inj a b (by omega) (by omega) e)
  have hL : siz (dbd (bet ρ1) s.bnd.length 0) s.lead := dt_siz (bet ρ1) _ 0 _ fun r m hr hm => by rw [Nat.zero_add, ← r2 r hr]; exact hB r m hr hm
  refine ⟨siz_le hL (dbd_6 _ (by omega) ρ1 r1), fun h5 => siz_le hL (dbd_5 _ (by omega) ρ1 r1), fun i j hi hj => ?_⟩
  rcases Nat.lt_or_ge i s.bnd.length with h1 | h1
  · rw [h.lo h1 j]
    rcases Nat.lt_or_ge j w with h2 | h2
    · refine siz_le (dt_siz (bet ρ1) _ 0 _ fun r m hr hm => ?_) (dbd_6 _ (by omega) ρ1 r1)
      rw [Nat.zero_add, ← r2 r hr]
      by_cases hmi : m = i
      · subst hmi; rw [upd_at]; exact hA r j (by omega) h2
      · rw [upd_ne _ _ _ hmi]; exact hB r m hr hm
    · obtain rfl : j = w := by omega
      refine siz_le (tame_dt (β := bet ρ1) h1 t.pos (fun r m hr hm hmi => ?_) fun r hr => ?_) (num _ (fun r => r) ρ1 (by omega) le r1 (fun r hr => by omega) r3)
      · rw [upd_ne _ _ _ hmi, ← r2 r hr]; exact hB r m hr hm
      · rw [upd_at, ← r2 r hr]; exact hR r (by omega)
  · have hrow : ∀ r, r < s.bnd.length + 1 → (if r = s.bnd.length then i else r) < n := fun r hr => by split <;> omega
    obtain ⟨ρ2, q1, q2, q3⟩ := bet_inj (f := fun r => σ (if r = s.bnd.length then i else r)) (m := s.bnd.length + 1) (ρ := ρ) (by omega) (fun a b ha hb e => by
      have := inj _ _ (hrow a ha) (hrow b hb) e
      split at this <;> split at this <;> omega)
    have hC : ∀ r m, r < s.bnd.length + 1 → m < s.bnd.length → siz (bet ρ2 r) (s.C i r m) := fun r m hr hm => by
      unfold Rd.C; rw [if_neg (by omega), ← q2 r hr]
      exact hA _ _ (hrow r hr) (by have := h.blt m hm; omega)
    rcases Nat.lt_or_ge j w with h2 | h2
    · rcases Nat.lt_or_ge j c with h3 | h3
      · rw [h.zero i j h1 hi h3]
        have : s.lead * 0 = 0 := by grind
        rw [this]; constructor <;> decide
      · rw [h.hi h1 hi j]
        refine siz_le (dt_siz (bet ρ2) _ 0 _ fun r m hr hm => ?_) (dbd_6 _ (by omega) ρ2 q1)
        rw [Nat.zero_add]
        unfold Rd.D
        by_cases hmi : m = s.bnd.length
        · subst hmi; rw [upd_at, ← q2 r hr]; exact hA _ j (hrow r hr) h2
        · rw [upd_ne _ _ _ hmi]; exact hC r m hr (by omega)
    · obtain rfl : j = w := by omega
      rw [h.hi h1 hi j]
      refine siz_le (tame_dt (i := s.bnd.length) (β := bet ρ2) (by omega) t.pos (fun r m hr hm hmi => ?_) fun r hr => ?_) (num _ (fun r => if r = s.bnd.length then i else r) ρ2 (by omega) (by omega) q1 hrow q3)
      · unfold Rd.D; rw [upd_ne _ _ _ hmi]; exact hC r m hr (by omega)
      · unfold Rd.D; rw [upd_at, ← q2 r hr]; exact hR _ (hrow r hr)
/-- The whole-number rows after some columns. -/
structure BarI (n w : Nat) (s : Rd) (M : Nat → Nat → Int) (L : Int) : Prop where
  lead : (L : Rat) = s.lead
  el : ∀ i j, i < n → j ≤ w → ((M i j : Int) : Rat) = s.lead * s.R i j
theorem bar_0 {M : Nat → Nat → Int} (h : ∀ i j, i < n → j ≤ w → ((M i j : Int) : Rat) = A0 i j) : BarI n w (red n A0 0) M 1 where
  lead := by show ((1 : Int) : Rat) = 1; rfl
  el := fun i j hi hj => by show _ = (1 : Rat) * A0 i j; rw [h i j hi hj]; grind
theorem cast_siz {x X : Int} (h : siz (X : Rat) (x : Rat)) : -X ≤ x ∧ x ≤ X := by
  obtain ⟨a, b⟩ := h
  rw [← Rat.intCast_neg] at a
  exact ⟨Rat.intCast_le_intCast.1 a, Rat.intCast_le_intCast.1 b⟩
theorem BarI.small {M : Nat → Nat → Int} {L : Int} {ρ : Nat} {γ : Rat} (b : BarI n w s M L) (h : RInv n A0 c s) (t : Tame n w A0 ρ γ) (hc : c ≤ w) :
    (-4300000000 ≤ L ∧ L ≤ 4300000000) ∧ L ≠ 0 ∧ (s.bnd.length ≤ 5 → -78000000 ≤ L ∧ L ≤ 78000000) ∧ ∀ i j, i < n → j ≤ w → -4300000000 ≤ M i j ∧ M i j ≤ 4300000000 := by
  obtain ⟨a1, a2, a3⟩ := h.tame t hc
  refine ⟨cast_siz (by rw [b.lead]; exact a1), fun h0 => h.lead (by rw [← b.lead, h0]; rfl), fun h5 => cast_siz (by rw [b.lead]; exact a2 h5), fun i j hi hj => cast_siz (by rw [b.el i j hi hj]; exact a3 i j hi hj)⟩
theorem BarI.zero {M : Nat → Nat → Int} {L : Int} (b : BarI n w s M L) (h : RInv n A0 c s) {i j : Nat} (hi : i < n) (hj : j ≤ w) : M i j = 0 ↔ s.R i j = 0 := by
  constructor
  · intro h0
    have := b.el i j hi hj
    rw [h0] at this
    rcases Rat.mul_eq_zero.1 this.symm with h1 | h1
    · exact absurd h1 h.lead
    · exact h1
  · intro h0
    have := b.el i j hi hj
    rw [h0] at this
    have e : s.lead * 0 = ((0 : Int) : Rat) := by show _ = (0 : Rat); grind
    rw [e] at this
    exact Rat.intCast_inj.1 this
/-- A step with a pivot: the quotients are whole, and nothing is out of range. -/
theorem BarI.step {M : Nat → Nat → Int} {L : Int} {ρ : Nat} {γ : Rat} (b : BarI n w s M L) (h : RInv n A0 c s) (t : Tame n w A0 ρ γ) (hwh : Whl n w A0) (hc : c < w) (h1 : ¬ n ≤ s.bnd.length)
    (h2 : fnd s.R c (n - s.bnd.length) s.bnd.length ≠ n) {p k : Nat} (hp : fnd s.R c (n - s.bnd.length) s.bnd.length = p) (hk : s.bnd.length = k) :
    k ≤ p ∧ p < n ∧ ∀ i j, i < n → j ≤ w → i ≠ k → ∃ z : Int, M p c * M (swi k p i) j - M (swi k p i) c * M p j = L * z ∧ -340000000000000000 ≤ L * z ∧ L * z ≤ 340000000000000000 ∧ -4300000000 ≤ z ∧ z ≤ 4300000000 := by
  obtain ⟨p1, p2, p3, p4⟩ := fnd_spec s.R c (n - s.bnd.length) s.bnd.length
  have hi := step_inv h
  have hl := step_lead h h1 h2
  obtain ⟨hb, hR⟩ := step_at (c := c) h1 h2
  rw [hp] at p1 p2 p3 p4 h2 hl hR
  rw [hk] at p1 p2 p3 p4 hR h1
  have pn : p < n := by omega
  have k5 : s.bnd.length ≤ 5 := by have := h.lec; have := t.w6; omega
  refine ⟨p1, pn, fun i j hin hj hik => ?_⟩
  obtain ⟨z, hz⟩ := (hi.wholes hwh (by omega)).2 i j hin hj
  have hsz := (hi.tame t (by omega)).2.2 i j hin hj
  have hLs := ((b.small h t (by omega)).2.2.1) k5
  have e0 : elm (swp s.R k p) k c i j = s.R (swi k p i) j - s.R (swi k p i) c * (s.R p j / s.R p c) := by
    unfold elm swp
    rw [if_neg hik]
    have : swi k p k = p := by unfold swi; rw [if_pos rfl]
    rw [this]
  rw [hl, hR, e0] at hz hsz
  have sl : swi k p i < n := swi_lt (by omega) pn hin
  have piv : s.R p c ≠ 0 := p4 (by omega)
  have key : M p c * M (swi k p i) j - M (swi k p i) c * M p j = L * z := by
    rw [← Rat.intCast_inj, Rat.intCast_sub, Rat.intCast_mul, Rat.intCast_mul, Rat.intCast_mul, b.el p c pn (by omega), b.el _ j sl hj, b.el _ c sl (by omega), b.el p j pn hj, b.lead, ← hz]
    grind
  rw [hz] at hsz
  obtain ⟨z1, z2⟩ := cast_siz (x := z) (X := 4300000000) hsz
  have b1 : -(78000000 * 4300000000) ≤ L * z ∧ L * z ≤ 78000000 * 4300000000 := by
    have q : siz ((78000000 : Int) : Rat) (L : Rat) := by
      constructor
      · rw [← Rat.intCast_neg]; exact Rat.intCast_le_intCast.2 hLs.1
      · exact Rat.intCast_le_intCast.2 hLs.2
    have := siz_mul q hsz
    have e : ((78000000 : Int) : Rat) * 4300000000 = ((78000000 * 4300000000 : Int) : Rat) := by rw [Rat.intCast_mul]; rfl
    rw [e, ← Rat.intCast_mul] at this
    exact cast_siz this
  exact ⟨z, key, by omega, by omega, z1, z2⟩
/-- The whole-number rows after a step with a pivot. -/
theorem BarI.next {M M' : Nat → Nat → Int} {L : Int} (b : BarI n w s M L) (h : RInv n A0 c s) (hc : c < w) (h1 : ¬ n ≤ s.bnd.length)
    (h2 : fnd s.R c (n - s.bnd.length) s.bnd.length ≠ n) {p k : Nat} (hp : fnd s.R c (n - s.bnd.length) s.bnd.length = p) (hk : s.bnd.length = k)
    (e1 : ∀ j, j ≤ w → M' k j = M p j) (e2 : ∀ i j, i < n → j ≤ w → i ≠ k → M p c * M (swi k p i) j - M (swi k p i) c * M p j = L * M' i j) : BarI n w (s.step n c) M' (M p c) := by
  obtain ⟨p1, p2, p3, p4⟩ := fnd_spec s.R c (n - s.bnd.length) s.bnd.length
  have hl := step_lead h h1 h2
  obtain ⟨hb, hR⟩ := step_at (c := c) h1 h2
  rw [hp] at p1 p2 p3 p4 h2 hl hR
  rw [hk] at p1 p2 p3 p4 hR h1
  have pn : p < n := by omega
  have piv : s.R p c ≠ 0 := p4 (by omega)
  have L0 := h.lead
  have kk : swi k p k = p := by unfold swi; rw [if_pos rfl]
  refine ⟨by rw [hl]; exact b.el p c pn (by omega), fun i j hi hj => ?_⟩
  rw [hl, hR]
  by_cases hik : i = k
  · subst hik
    rw [e1 j hj, b.el p j pn hj]
    unfold elm swp
    rw [if_pos rfl, kk]; grind
  · have sl : swi k p i < n := swi_lt (by omega) pn hi
    have e0 : elm (swp s.R k p) k c i j = s.R (swi k p i) j - s.R (swi k p i) c * (s.R p j / s.R p c) := by
      unfold elm swp
      rw [if_neg hik, kk]
    have key := e2 i j hi hj hik
    rw [← Rat.intCast_inj, Rat.intCast_sub, Rat.intCast_mul, Rat.intCast_mul, Rat.intCast_mul, b.el p c pn (by omega), b.el _ j sl hj, b.el _ c sl (by omega), b.el p j pn hj, b.lead] at key
    rw [e0]
    have : s.lead * (s.lead * s.R p c * (s.R (swi k p i) j - s.R (swi k p i) c * (s.R p j / s.R p c))) = s.lead * (M' i j : Rat) := by rw [← key]; grind
    grind
end
end Go.Proofs.Ythlcmlngmcoknaa

/- What is proved here: the square matrix of a fit with whole numbers, its minors, the points of its free sets, and that the first good set is there. No program in sight, no condition. -/
namespace Go.Proofs.Ythlcmlngmcoknaa

/-- The sum of the first whole numbers. -/
def si (f : Nat → Int) : Nat → Int
  | 0 => 0
  | n + 1 => si f n + f n
theorem si_succ (f : Nat → Int) (n : Nat) : si f (n + 1) = si f n + f n := rfl
theorem si_cast (f : Nat → Int) : ∀ n, ((si f n : Int) : Rat) = sm (fun i => ((f i : Int) : Rat)) n
  | 0 => by rw [sm_zero]; rfl
  | n + 1 => by rw [sm_succ, si_succ, Rat.intCast_add, si_cast f n]
theorem si_congr {f g : Nat → Int} : ∀ n, (∀ i, i < n → f i = g i) → si f n = si g n
  | 0, _ => rfl
  | n + 1, h => by rw [si_succ, si_succ, si_congr n fun i hi => h i (by omega), h n (by omega)]
theorem si_0 {f : Nat → Int} : ∀ n, (∀ i, i < n → f i = 0) → si f n = 0
  | 0, _ => rfl
  | n + 1, h => by rw [si_succ, si_0 n fun i hi => h i (by omega), h n (by omega)]; rfl
theorem si_le {f : Nat → Int} {B : Int} : ∀ n, (∀ i, i < n → f i ≤ B) → si f n ≤ n * B
  | 0, _ => by simp [si]
  | n + 1, h => by
    have h1 := si_le n fun i hi => h i (by omega)
    have h2 := h n (by omega)
    have e : ((n + 1 : Nat) : Int) * B = n * B + B := by rw [Int.natCast_add, Int.add_mul]; simp
    rw [si_succ, e]; omega
theorem si_ge {f : Nat → Int} {B : Int} : ∀ n, (∀ i, i < n → B ≤ f i) → n * B ≤ si f n
  | 0, _ => by simp [si]
  | n + 1, h => by
    have h1 := si_ge n fun i hi => h i (by omega)
    have h2 := h n (by omega)
    have e : ((n + 1 : Nat) : Int) * B = n * B + B := by rw [Int.natCast_add, Int.add_mul]; simp
    rw [si_succ, e]; omega

def det2 (a b c d : Int) : Int := a * d - b * c
def det3 (a b c d e f g h i : Int) : Int := a * (e * i - f * h) - b * (d * i - f * g) + c * (d * h - e * g)
/-- The determinant of a set's square matrix. -/
def den8 (g : Nat → Nat → Int) : Nat → Int
  | 0 => 1
  | 1 => g 0 0
  | 2 => g 1 1
  | 3 => det2 (g 0 0) (g 0 1) (g 1 0) (g 1 1)
  | 4 => g 2 2
  | 5 => det2 (g 0 0) (g 0 2) (g 2 0) (g 2 2)
  | 6 => det2 (g 1 1) (g 1 2) (g 2 1) (g 2 2)
  | _ => det3 (g 0 0) (g 0 1) (g 0 2) (g 1 0) (g 1 1) (g 1 2) (g 2 0) (g 2 1) (g 2 2)
/-- The numerators of a set's point. -/
def num8 (g : Nat → Nat → Int) (c : Nat → Int) : Nat → Nat → Int
  | 1, 0 => c 0
  | 2, 1 => c 1
  | 3, 0 => det2 (c 0) (g 0 1) (c 1) (g 1 1)
  | 3, 1 => det2 (g 0 0) (c 0) (g 1 0) (c 1)
  | 4, 2 => c 2
  | 5, 0 => det2 (c 0) (g 0 2) (c 2) (g 2 2)
  | 5, 2 => det2 (g 0 0) (c 0) (g 2 0) (c 2)
  | 6, 1 => det2 (c 1) (g 1 2) (c 2) (g 2 2)
  | 6, 2 => det2 (g 1 1) (c 1) (g 2 1) (c 2)
  | 7, 0 => det3 (c 0) (g 0 1) (g 0 2) (c 1) (g 1 1) (g 1 2) (c 2) (g 2 1) (g 2 2)
  | 7, 1 => det3 (g 0 0) (c 0) (g 0 2) (g 1 0) (c 1) (g 1 2) (g 2 0) (c 2) (g 2 2)
  | 7, 2 => det3 (g 0 0) (g 0 1) (c 0) (g 1 0) (g 1 1) (c 1) (g 2 0) (g 2 1) (c 2)
  | _, _ => 0
/-- The numerators solve the set's equations. -/
theorem cramer8 (g : Nat → Nat → Int) (c : Nat → Int) {S k : Nat} (hS : S < 8) (hk : k < 3) (hb : S.testBit k = true) :
    g k 0 * num8 g c S 0 + g k 1 * num8 g c S 1 + g k 2 * num8 g c S 2 = den8 g S * c k := by
  rcases cases8 hS with rfl | rfl | rfl | rfl | rfl | rfl | rfl | rfl <;> rcases cases3 hk with rfl | rfl | rfl <;>
    first | (exact absurd hb (by decide)) | (simp only [num8, den8, det2, det3]; grind)
theorem num8_out (g : Nat → Nat → Int) (c : Nat → Int) {S k : Nat} (hS : S < 8) (hk : k < 3) (hb : S.testBit k = false) : num8 g c S k = 0 := by
  rcases cases8 hS with rfl | rfl | rfl | rfl | rfl | rfl | rfl | rfl <;> rcases cases3 hk with rfl | rfl | rfl <;>
    first | (exact absurd hb (by decide)) | rfl

section
variable (a : Nat → Nat → Int) (b : Nat → Int) (m : Nat) (c : Int)
/-- The square matrix. -/
def qg (k l : Nat) : Int := si (fun r => a r k * a r l) m
/-- The products of the columns and the right sides, less the cost. -/
def qc (k : Nat) : Int := si (fun r => a r k * b r) m - c
theorem qg_comm (k l : Nat) : qg a m k l = qg a m l k := si_congr m fun _ _ => Int.mul_comm _ _
/-- The coefficients as rational numbers. -/
def ra (r k : Nat) : Rat := ((a r k : Int) : Rat)
def rb (r : Nat) : Rat := ((b r : Int) : Rat)
theorem qg_cast (k l : Nat) : ((qg a m k l : Int) : Rat) = sm (fun r => ra a r k * ra a r l) m := by
  unfold qg; rw [si_cast]; exact sm_congr m fun r _ => Rat.intCast_mul _ _
theorem slope_lin (x : Nat → Rat) (k : Nat) : qslope (ra a) (rb b) m (c : Rat) x k = (qg a m k 0 : Rat) * x 0 + (qg a m k 1 : Rat) * x 1 + (qg a m k 2 : Rat) * x 2 - ((qc a b m c k : Int) : Rat) := by
  have h : ∀ n, sm (fun r => ra a r k * qres (ra a) (rb b) x r) n = sm (fun r => ra a r k * ra a r 0) n * x 0 + sm (fun r => ra a r k * ra a r 1) n * x 1 + sm (fun r => ra a r k * ra a r 2) n * x 2 - sm (fun r => ra a r k * rb b r) n := by
    intro n
    induction n with
    | zero => rw [sm_zero, sm_zero, sm_zero, sm_zero, sm_zero]; grind
    | succ n ih => rw [sm_succ, sm_succ, sm_succ, sm_succ, sm_succ, ih]; unfold qres qax; rw [sm_3]; grind
  have h2 : ((qc a b m c k : Int) : Rat) = sm (fun r => ra a r k * rb b r) m - (c : Rat) := by
    unfold qc; rw [Rat.intCast_sub, si_cast]; congr 1; exact sm_congr m fun r _ => Rat.intCast_mul _ _
  unfold qslope qgrd
  rw [h m, h2, qg_cast, qg_cast, qg_cast]; grind
/-- What a vector's rows' squares add up to. -/
theorem sq_form (v : Nat → Int) : ∀ n, si (fun r => (a r 0 * v 0 + a r 1 * v 1 + a r 2 * v 2) * (a r 0 * v 0 + a r 1 * v 1 + a r 2 * v 2)) n =
    v 0 * (qg a n 0 0 * v 0 + qg a n 0 1 * v 1 + qg a n 0 2 * v 2) + v 1 * (qg a n 1 0 * v 0 + qg a n 1 1 * v 1 + qg a n 1 2 * v 2) + v 2 * (qg a n 2 0 * v 0 + qg a n 2 1 * v 1 + qg a n 2 2 * v 2)
  | 0 => by simp [si, qg]
  | n + 1 => by
    have e : ∀ k l, qg a (n + 1) k l = qg a n k l + a n k * a n l := fun k l => rfl
    rw [si_succ, sq_form v n, e, e, e, e, e, e, e, e, e]; grind
theorem si_sq_nn (f : Nat → Int) : ∀ n, 0 ≤ si (fun r => f r * f r) n
  | 0 => by simp [si]
  | n + 1 => by
    have h1 := si_sq_nn f n
    have h2 : 0 ≤ f n * f n := by
      rcases Int.le_total 0 (f n) with h | h
      · exact Int.mul_nonneg h h
      · exact Int.mul_nonneg_of_nonpos_of_nonpos h h
    rw [si_succ]; omega
theorem si_sq_0 {f : Nat → Int} : ∀ n, si (fun r => f r * f r) n = 0 → ∀ r, r < n → f r = 0
  | 0, _, r, hr => by omega
  | n + 1, h, r, hr => by
    rw [si_succ] at h
    have h1 := si_sq_nn f n
    have h2 : 0 ≤ f n * f n := by
      rcases Int.le_total 0 (f n) with h | h
      · exact Int.mul_nonneg h h
      · exact Int.mul_nonneg_of_nonpos_of_nonpos h h
    rcases Nat.lt_or_ge r n with h3 | h3
    · exact si_sq_0 n (by omega) r h3
    · obtain rfl : r = n := by omega
      have h4 : f r * f r = 0 := by omega
      rcases Int.mul_eq_zero.1 h4 with h | h <;> exact h
/-- A vector of the set that the square matrix sends to 0, where the set is not free. -/
theorem null8 {S : Nat} (hS : S < 8) (h0 : den8 (qg a m) S = 0) : ∃ v : Nat → Int, (∀ k, k < 3 → S.testBit k = false → v k = 0) ∧ (∃ k, k < 3 ∧ v k ≠ 0) ∧
    v 0 * (qg a m 0 0 * v 0 + qg a m 0 1 * v 1 + qg a m 0 2 * v 2) + v 1 * (qg a m 1 0 * v 0 + qg a m 1 1 * v 1 + qg a m 1 2 * v 2) + v 2 * (qg a m 2 0 * v 0 + qg a m 2 1 * v 1 + qg a m 2 2 * v 2) = 0 := by
  have s10 := qg_comm a m 1 0
  have s20 := qg_comm a m 2 0
  have s21 := qg_comm a m 2 1
  generalize qg a m = g at *
  have one : ∀ i, i < 3 → S.testBit i = true → g i i = 0 → ∃ v : Nat → Int, (∀ k, k < 3 → S.testBit k = false → v k = 0) ∧ (∃ k, k < 3 ∧ v k ≠ 0) ∧
      v 0 * (g 0 0 * v 0 + g 0 1 * v 1 + g 0 2 * v 2) + v 1 * (g 1 0 * v 0 + g 1 1 * v 1 + g 1 2 * v 2) + v 2 * (g 2 0 * v 0 + g 2 1 * v 1 + g 2 2 * v 2) = 0 := fun i hi hb hz => by
    refine ⟨fun k => if k = i then 1 else 0, fun k hk hbk => ?_, ⟨i, hi, by simp⟩, ?_⟩
    · simp only; split
      · rename_i h; subst h; rw [hb] at hbk; cases hbk
      · rfl
    · rcases cases3 hi with rfl | rfl | rfl <;> simp <;> omega
  have two : ∀ i j, i < j → j < 3 → S.testBit i = true → S.testBit j = true → g i i * g j j - g i j * g j i = 0 → ∃ v : Nat → Int, (∀ k, k < 3 → S.testBit k = false → v k = 0) ∧ (∃ k, k < 3 ∧ v k ≠ 0) ∧
      v 0 * (g 0 0 * v 0 + g 0 1 * v 1 + g 0 2 * v 2) + v 1 * (g 1 0 * v 0 + g 1 1 * v 1 + g 1 2 * v 2) + v 2 * (g 2 0 * v 0 + g 2 1 * v 1 + g 2 2 * v 2) = 0 := fun i j hij hj hbi hbj hz => by
    by_cases hi : g i i = 0
    · exact one i (by omega) hbi hi
    · refine ⟨fun k => if k = i then - g i j else if k = j then g i i else 0, fun k hk hbk => ?_, ⟨j, hj, ?_⟩, ?_⟩
      · simp only; split
        · rename_i h; subst h; rw [hbi] at hbk; cases hbk
        · split
          · rename_i h; subst h; rw [hbj] at hbk; cases hbk
          · rfl
      · simp only [if_neg (show ¬ j = i by omega)]; simpa using hi
      · rcases (by omega : (i = 0 ∧ j = 1) ∨ (i = 0 ∧ j = 2) ∨ (i = 1 ∧ j = 2)) with ⟨rfl, rfl⟩ | ⟨rfl, rfl⟩ | ⟨rfl, rfl⟩ <;> simp <;> grind
  rcases cases8 hS with rfl | rfl | rfl | rfl | rfl | rfl | rfl | rfl
  · exact absurd (show (1 : Int) = 0 from h0) (by decide)
  · exact one 0 (by omega) (by decide) h0
  · exact one 1 (by omega) (by decide) h0
  · exact two 0 1 (by omega) (by omega) (by decide) (by decide) h0
  · exact one 2 (by omega) (by decide) h0
  · exact two 0 2 (by omega) (by omega) (by decide) (by decide) h0
  · exact two 1 2 (by omega) (by omega) (by decide) (by decide) h0
  · by_cases h1 : g 0 0 * g 1 1 - g 0 1 * g 1 0 = 0
    · exact two 0 1 (by omega) (by omega) (by decide) (by decide) h1
    · have h2 : det3 (g 0 0) (g 0 1) (g 0 2) (g 1 0) (g 1 1) (g 1 2) (g 2 0) (g 2 1) (g 2 2) = 0 := h0
      unfold det3 at h2
      refine ⟨fun k => if k = 0 then g 0 1 * g 1 2 - g 0 2 * g 1 1 else if k = 1 then g 0 2 * g 1 0 - g 0 0 * g 1 2 else g 0 0 * g 1 1 - g 0 1 * g 1 0, fun k hk hbk => ?_, ⟨2, by omega, by simpa using h1⟩, ?_⟩
      · rcases cases3 hk with rfl | rfl | rfl <;> exact absurd hbk (by decide)
      · simp
        have e : ∀ p q r : Int, p * 0 + q * 0 + r * 0 = 0 := by omega
        have z0 : g 0 0 * (g 0 1 * g 1 2 - g 0 2 * g 1 1) + g 0 1 * (g 0 2 * g 1 0 - g 0 0 * g 1 2) + g 0 2 * (g 0 0 * g 1 1 - g 0 1 * g 1 0) = 0 := by grind
        have z1 : g 1 0 * (g 0 1 * g 1 2 - g 0 2 * g 1 1) + g 1 1 * (g 0 2 * g 1 0 - g 0 0 * g 1 2) + g 1 2 * (g 0 0 * g 1 1 - g 0 1 * g 1 0) = 0 := by grind
        have z2 : g 2 0 * (g 0 1 * g 1 2 - g 0 2 * g 1 1) + g 2 1 * (g 0 2 * g 1 0 - g 0 0 * g 1 2) + g 2 2 * (g 0 0 * g 1 1 - g 0 1 * g 1 0) = 0 := by grind
        rw [z0, z1, z2]; omega
end
end Go.Proofs.Ythlcmlngmcoknaa
