/- What is proved here: contracts of functions and plain facts, several texts in one; each one says ahead what it proves, and its conditions. -/
import Derived.Test.YthlcmlngmcoknaaC17
import Derived.Test.YthlcmlngmcoknaaC08
/- What is proved here: fractions while rows are reduced with fractions are within range, and so are the products. No program in sight. Condition: small numbers. -/
namespace Go.Proofs.Ythlcmlngmcoknaa
open Go.RowKit

theorem inr_ratio {a b : Int} (hb : b ≠ 0) (ha : -1000000000000000000 ≤ a ∧ a ≤ 1000000000000000000) (hb2 : -1000000000000000000 ≤ b ∧ b ≤ 1000000000000000000) : inr ((a : Rat) / (b : Rat)) := by
  rcases Int.lt_or_le 0 b with h | h
  · exact inr_frac h hb2.2 ha.1 ha.2
  · have e : (a : Rat) / (b : Rat) = ((-a : Int) : Rat) / ((-b : Int) : Rat) := by
      rw [Rat.intCast_neg, Rat.intCast_neg]
      have : (b : Rat) ≠ 0 := fun h0 => hb (Rat.intCast_inj.1 (by rw [h0]; rfl))
      grind
    rw [e]
    exact inr_frac (by omega) (by omega) (by omega) (by omega)
section
variable {n w : Nat} {A0 : Nat → Nat → Rat} {c : Nat} {s : Rd} {ρ : Nat} {γ : Rat}
theorem bet_nn (ρ : Nat) : ∀ k s, 0 ≤ dbd (bet ρ) k s := fun k => by
  induction k with
  | zero => intro s; show (0 : Rat) ≤ 1; decide
  | succ k ih =>
    intro s
    refine Rat.mul_nonneg ?_ (Rat.mul_nonneg ?_ (ih _))
    · exact_mod_cast Nat.zero_le _
    · unfold bet; split <;> decide
theorem RInv.tameg (h : RInv n A0 c s) (t : Tame n w A0 ρ γ) (hc : c ≤ w) {i j : Nat} (hi : i < n) (hj : j ≤ w) (hcj : ¬ (s.bnd.length ≤ i ∧ j < c)) : ∃ ρ2, ρ2 < 8 ∧ (n ≤ ρ → ρ2 = 7) ∧
    (j < w → siz (dbd (bet ρ2) (if i < s.bnd.length then s.bnd.length else s.bnd.length + 1) 0) (s.lead * s.R i j)) ∧ (j = w → siz (γ * dbd (bet ρ2) (if i < s.bnd.length then s.bnd.length else s.bnd.length + 1) 0) (s.lead * s.R i j)) := by
  obtain ⟨σ, τ, g1, g2⟩ := h.perm
  have le := h.le
  have lec := h.lec
  have w6 := t.w6
  have n7 := t.n7
  have inj : ∀ a b, a < n → b < n → σ a = σ b → a = b := fun a b ha hb e => by rw [← (g1 a ha).2.2.2, ← (g1 b hb).2.2.2, e]
  have hA : ∀ r j, r < n → j < w → siz (bet ρ (σ r)) (s.A r j) := fun r j hr hj => by rw [g2 r hr]; exact t.el _ _ (g1 r hr).1 hj
  have hR : ∀ r, r < n → siz (γ * bet ρ (σ r)) (s.A r w) := fun r hr => by rw [g2 r hr]; exact t.right _ (g1 r hr).1
  have hB : ∀ r m, r < s.bnd.length → m < s.bnd.length → siz (bet ρ (σ r)) (s.B r m) := fun r m hr hm => hA r _ (by omega) (by have := h.blt m hm; omega)
  rcases Nat.lt_or_ge i s.bnd.length with h1 | h1
  · obtain ⟨ρ1, r1, r2, r3⟩ := bet_inj (f := σ) (m := s.bnd.length) (ρ := ρ) (by omega) (fun a b ha hb e => inj a b (by omega) (by omega) e)
    refine ⟨ρ1, r1, fun hρ => r3 fun r hr => by have := (g1 r (by omega)).1; omega, ?_, ?_⟩
    · intro h2
      rw [if_pos h1, h.lo h1 j]
      refine dt_siz (bet ρ1) _ 0 _ fun r m hr hm => ?_
      rw [Nat.zero_add, ← r2 r hr]
      by_cases hmi : m = i
      · subst hmi; rw [upd_at]; exact hA r j (by omega) h2
      · rw [upd_ne _ _ _ hmi]; exact hB r m hr hm
    · rintro rfl
      rw [if_pos h1, h.lo h1 j]
      refine tame_dt (β := bet ρ1) h1 t.pos (fun r m hr hm hmi => ?_) fun r hr => ?_
      · rw [upd_ne _ _ _ hmi, ← r2 r hr]; exact hB r m hr hm
      · rw [upd_at, ← r2 r hr]; exact hR r (by omega)
  · have hrow : ∀ r, r < s.bnd.length + 1 → (if r = s.bnd.length then i else r) < n := fun r hr => by split <;> omega
    obtain ⟨ρ2, q1, q2, q3⟩ := bet_inj (f := fun r => σ (if r = s.bnd.length then i else r)) (m := s.bnd.length + 1) (ρ := ρ) (by omega) (fun a b ha hb e => by
      have := inj _ _ (hrow a ha) (hrow b hb) e
      split at this <;> split at this <;> omega)
    have hC : ∀ r m, r < s.bnd.length + 1 → m < s.bnd.length → siz (bet ρ2 r) (s.C i r m) := fun r m hr hm => by
      unfold Rd.C; rw [if_neg (by omega), ← q2 r hr]
      exact hA _ _ (hrow r hr) (by have := h.blt m hm; omega)
    refine ⟨ρ2, q1, fun hρ => q3 fun r hr => by have := (g1 _ (hrow r hr)).1; omega, ?_, ?_⟩
    · intro h2
      rw [if_neg (by omega), h.hi h1 hi j]
      refine dt_siz (bet ρ2) _ 0 _ fun r m hr hm => ?_
      rw [Nat.zero_add]
      unfold Rd.D
      by_cases hmi : m = s.bnd.length
      · subst hmi; rw [upd_at, ← q2 r hr]; exact hA _ j (hrow r hr) h2
      · rw [upd_ne _ _ _ hmi]; exact hC r m hr (by omega)
    · rintro rfl
      rw [if_neg (by omega), h.hi h1 hi j]
      refine tame_dt (i := s.bnd.length) (β := bet ρ2) (by omega) t.pos (fun r m hr hm hmi => ?_) fun r hr => ?_
      · unfold Rd.D; rw [upd_ne _ _ _ hmi]; exact hC r m hr (by omega)
      · unfold Rd.D; rw [upd_at, ← q2 r hr]; exact hR _ (hrow r hr)
theorem dbd_5n : ∀ m, m < 6 → 11 * dbd (bet 7) m 0 ≤ 78000000 := by decide +kernel
theorem dbd_c : ∀ m, m < 7 → ∀ ρ, ρ < 8 → 1 / 99 * dbd (bet ρ) m 0 ≤ 44000000 := by decide +kernel
theorem RInv.inrR (h : RInv n A0 c s) (t : Tame n w A0 ρ γ) (hw : Whl n w A0) (hc : c ≤ w) {i j : Nat} (hi : i < n) (hj : j ≤ w) : inr (s.R i j) := by
  obtain ⟨D, d1, d2, d3⟩ := quo_all h.lead (h.wholes hw hc).1 (h.tame t hc).1
  exact quo_inr d1 d2 (d3 _ ⟨(h.wholes hw hc).2 i j hi hj, (h.tame t hc).2.2 i j hi hj⟩)
/-- The next rows. -/
theorem RInv.nextR (_h : RInv n A0 c s) (h1 : ¬ n ≤ s.bnd.length) {p k : Nat} (hp : fnd s.R c (n - s.bnd.length) s.bnd.length = p) (hpn : p ≠ n) (hk : s.bnd.length = k) :
    k ≤ p ∧ p < n ∧ s.R p c ≠ 0 ∧ (s.step n c).bnd = s.bnd ++ [c] ∧ ∀ i j, (s.step n c).R i j = if i = k then s.R p j / s.R p c else s.R (swi k p i) j - s.R (swi k p i) c * (s.R p j / s.R p c) := by
  obtain ⟨p1, p2, p3, p4⟩ := fnd_spec s.R c (n - s.bnd.length) s.bnd.length
  obtain ⟨hb, hR⟩ := step_at (s := s) (c := c) h1 (by rw [hp]; exact hpn)
  rw [hp] at p1 p2 p3 p4 hR
  rw [hk] at p1 p2 p3 p4 hR h1
  refine ⟨p1, by omega, p4 (by omega), hb, fun i j => ?_⟩
  have kk : swi k p k = p := by unfold swi; rw [if_pos rfl]
  rw [hR]
  unfold elm swp
  by_cases hik : i = k
  · subst hik; rw [if_pos rfl, if_pos rfl, kk]
  · rw [if_neg hik, if_neg hik, kk]
/-- The products are within range. -/
theorem RInv.prod_inr (h : RInv n A0 c s) (t : Tame n w A0 ρ γ) (hw : Whl n w A0) (hc : c < w) (h1 : ¬ n ≤ s.bnd.length) {p k : Nat} (hk : s.bnd.length = k) (hkp : k ≤ p) (hpn : p < n) (hp0 : s.R p c ≠ 0)
    {i j : Nat} (hi : i < n) (hip : i ≠ p) (hj : j ≤ w) : inr (s.R i c * (s.R p j / s.R p c)) := by
  have iz : inr 0 := inr_0
  rcases Nat.lt_trichotomy j c with hjc | hjc | hjc
  · rw [h.zero p j (by omega) hpn hjc]
    have : s.R i c * (0 / s.R p c) = 0 := by grind
    rw [this]; exact iz
  · subst hjc
    have : s.R i j * (s.R p j / s.R p j) = s.R i j := by grind
    rw [this]; exact h.inrR t hw (by omega) hi (by omega)
  · obtain ⟨w1, w2⟩ := h.wholes hw (by omega)
    obtain ⟨t1, t2, t3⟩ := h.tame t (by omega)
    have k5 : s.bnd.length ≤ 5 := by have := h.lec; have := t.w6; omega
    have L0 := h.lead
    obtain ⟨l, el⟩ := w1
    obtain ⟨mi, emi⟩ := w2 i c hi (by omega)
    obtain ⟨mj, emj⟩ := w2 p j hpn hj
    obtain ⟨mp, emp⟩ := w2 p c hpn (by omega)
    have e : s.R i c * (s.R p j / s.R p c) = ((mi * mj : Int) : Rat) / ((l * mp : Int) : Rat) := by
      rw [Rat.intCast_mul, Rat.intCast_mul, ← el, ← emi, ← emj, ← emp]; grind
    have l0 : l ≠ 0 := fun h0 => L0 (by rw [el, h0]; rfl)
    have p0 : mp ≠ 0 := fun h0 => by
      rw [h0] at emp
      rcases Rat.mul_eq_zero.1 emp with h' | h'
      · exact L0 h'
      · exact hp0 h'
    -- sizes
    have sl := t2 k5
    have sp := t3 p c hpn (by omega)
    have big : siz (78000000 * 4300000000) (s.lead * (s.lead * s.R p c)) := siz_mul sl sp
    have big2 : siz (78000000 * 4300000000) ((s.lead * s.R i c) * (s.lead * s.R p j)) := by
      rcases Nat.lt_or_ge s.bnd.length 5 with hk4 | hk4
      · have five : ∀ i j, i < n → j ≤ w → ¬ (s.bnd.length ≤ i ∧ j < c) → siz 78000000 (s.lead * s.R i j) := fun i j hi hj hcj => by
          obtain ⟨ρ2, a1, a2, a3, a4⟩ := h.tameg t (by omega) hi hj hcj
          have m5 : (if i < s.bnd.length then s.bnd.length else s.bnd.length + 1) < 6 := by split <;> omega
          rcases Nat.lt_or_ge j w with h2 | h2
          · exact siz_le (a3 h2) (dbd_5 _ m5 ρ2 a1)
          · refine siz_le (a4 (by omega)) ?_
            have nn := bet_nn ρ2 (if i < s.bnd.length then s.bnd.length else s.bnd.length + 1) 0
            rcases t.big with ⟨b1, b2, b3⟩ | b1
            · have := Rat.mul_le_mul_of_nonneg_right b1 nn
              obtain rfl := a2 b2
              have := dbd_5n _ m5
              grind
            · have b2 : γ ≤ 1 := Rat.le_trans b1 (by decide +kernel)
              have := Rat.mul_le_mul_of_nonneg_right b2 nn
              have := dbd_5 _ m5 ρ2 a1
              grind
        refine siz_le (siz_mul (five i c hi (by omega) (by omega)) (five p j hpn hj (by omega))) (by decide +kernel)
      · -- the last column
        have hk5 : s.bnd.length = 5 := by omega
        have := h.lec
        have := t.w6
        have ew : j = w := by omega
        rcases t.big with ⟨b1, b2, b3⟩ | b1
        · have hik : i < s.bnd.length := by omega
          obtain ⟨ρ2, a1, a2, a3, a4⟩ := h.tameg t (by omega) hi (show c ≤ w by omega) (by omega)
          rw [if_pos hik, hk5] at a3
          exact siz_mul (siz_le (a3 hc) (dbd_5 5 (by omega) ρ2 a1)) (t3 p j hpn hj)
        · obtain ⟨ρ2, a1, a2, a3, a4⟩ := h.tameg t (by omega) hpn hj (by omega)
          have q := a4 ew
          rw [if_neg (by omega), hk5] at q
          have nn := bet_nn ρ2 6 0
          have q1 := Rat.mul_le_mul_of_nonneg_right b1 nn
          have q2 := dbd_c 6 (by omega) ρ2 a1
          have q3 : siz 44000000 (s.lead * s.R p j) := siz_le q (Rat.le_trans q1 q2)
          have q4 := siz_mul (t3 i c hi (by omega)) q3
          exact siz_le q4 (by decide +kernel)
    have c1 : (78000000 : Rat) * 4300000000 = ((335400000000000000 : Int) : Rat) := by decide +kernel
    rw [c1] at big big2
    rw [emi, emj, ← Rat.intCast_mul] at big2
    rw [emp, el, ← Rat.intCast_mul] at big
    have s1 := cast_siz big
    have s2 := cast_siz big2
    rw [e]
    exact inr_ratio (Int.mul_ne_zero l0 p0) (by omega) (by omega)
end
end Go.Proofs.Ythlcmlngmcoknaa

/- What is proved here: the contract of the reference's Neg. Condition: 64-bit numbers. -/
namespace Go.Proofs.Ythlcmlngmcoknaa
open Go.RowKit

theorem rneg_any (n d : Int) (w : World) (h1 : -9223372036854775807 ≤ n) (h2 : n ≤ 9223372036854775807) :
    Calls Try.prog 124 #[.agg #[.int .i64 n, .int .i64 d]] w fun e w' => e = .returned (.agg #[.int .i64 (-n), .int .i64 d]) ∧ Below w.heap.size w w' := by
  go_enter Try.func124, Try.ntmps124
  go_wp2
  refine bodyPost_ret (v := .agg #[.int .i64 (-n), .int .i64 d]) (by simp [results, Try.results124, go_sem]) rfl ⟨rfl, ?_⟩
  repeat (refine Below.setCell ?_ (by first | omega | (simp; done) | (simp; omega)) _)
  exact ba2 _ _ _
end Go.Proofs.Ythlcmlngmcoknaa
