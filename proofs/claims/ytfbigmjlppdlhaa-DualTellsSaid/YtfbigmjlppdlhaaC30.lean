/- What is proved here: contracts of functions and plain facts, several texts in one; each one says ahead what it proves, and its conditions. -/
import Derived.Test.YtfbigmjlppdlhaaC05
/- What is proved here: what the brightness, the price and the slope of a point come to, step by step. No program in sight. -/
namespace Go.Proofs.Ytfbigmjlppdlhaa
open Go.RowKit

/-- The error of a fit and a cost. -/
def scheck (A : List (List Int)) (B : List Int) (c : Int) : Int := if ncheck A B = 0 then (if 0 ≤ c ∧ c ≤ 1000 then 0 else 2) else ncheck A B
theorem scheck_c {A : List (List Int)} {B : List Int} {c : Int} (h : ¬ ncheck A B = 0) : scheck A B c = ncheck A B := if_neg h
theorem scheck_2 {A : List (List Int)} {B : List Int} {c : Int} (h : ncheck A B = 0) (h' : c < 0 ∨ 1000 < c) : scheck A B c = 2 := by
  unfold scheck; rw [if_pos h, if_neg (by omega)]
theorem scheck_0 {A : List (List Int)} {B : List Int} {c : Int} (h : ncheck A B = 0) (h1 : 0 ≤ c) (h2 : c ≤ 1000) : scheck A B c = 0 := by
  unfold scheck; rw [if_pos h, if_pos ⟨h1, h2⟩]
theorem scheck_of {A : List (List Int)} {B : List Int} {c : Int} (h : scheck A B c = 0) : ncheck A B = 0 ∧ 0 ≤ c ∧ c ≤ 1000 := by
  unfold scheck at h
  split at h
  · rename_i h1
    split at h
    · rename_i h2; exact ⟨h1, h2⟩
    · cases h
  · rename_i h1; exact absurd h h1
/-- The sum of the first k fractions, or the first error. -/
def hsum (x : List (Int × Int)) : Nat → FR
  | 0 => ⟨0, 1, 0⟩
  | k + 1 => if (hsum x k).e = 0 then fadd (hsum x k).n (hsum x k).d (x.getD k (0, 0)).1 (x.getD k (0, 0)).2 else hsum x k
theorem hsum_succ {x : List (Int × Int)} {k : Nat} (hk : k < x.length) (h : (hsum x k).e = 0) : hsum x (k + 1) = fadd (hsum x k).n (hsum x k).d x[k].1 x[k].2 := by
  rw [hsum, if_pos h, getD_get hk]
theorem hsum_stop {x : List (Int × Int)} {k : Nat} (h : ¬ (hsum x k).e = 0) : ∀ m, k ≤ m → hsum x m = hsum x k
  | 0, hm => by obtain rfl : k = 0 := by omega
                rfl
  | m + 1, hm => by
    rcases Nat.lt_or_ge k (m + 1) with h1 | h1
    · have ih := hsum_stop h m (by omega)
      rw [hsum, if_neg (by rw [ih]; exact h), ih]
    · obtain rfl : k = m + 1 := by omega
      rfl
theorem hsum_i64 (x : List (Int × Int)) : ∀ k, i64 (hsum x k).n ∧ i64 (hsum x k).d
  | 0 => ⟨i64_0, (⟨by decide, by decide⟩ : i64 1)⟩
  | k + 1 => by
    rw [hsum]; split
    · exact fadd_i64 _ _ _ _
    · exact hsum_i64 x k
theorem hsum_FOk {x : List (Int × Int)} (hx : ∀ i (h : i < x.length), fchk x[i].1 x[i].2 = 0) : ∀ k, k ≤ x.length → FOk (hsum x k)
  | 0, _ => .inl ⟨rfl, fchk_01⟩
  | k + 1, hk => by
    have ih := hsum_FOk hx k (by omega)
    by_cases he : (hsum x k).e = 0
    · rw [hsum_succ (by omega) he]; exact fadd_FOk (ih.v he) (hx k (by omega))
    · rw [hsum_stop he (k + 1) (by omega)]; exact ih
theorem hsum_end {x : List (Int × Int)} {k n : Nat} (hk : k < n) (h : ¬ (hsum x (k + 1)).e = 0) (ho : FOk (hsum x (k + 1))) : hsum x n = ⟨0, 0, 16⟩ := by
  rw [hsum_stop h n hk]; exact ho.e h
/-- The brightness of a list. -/
def sBright (x : List (Int × Int)) : FR := if 3 < x.length then ⟨0, 0, 4⟩ else if fvalid x = true then hsum x x.length else ⟨0, 0, 8⟩
theorem sBright_4 {x : List (Int × Int)} (h : 3 < x.length) : sBright x = ⟨0, 0, 4⟩ := if_pos h
theorem sBright_8 {x : List (Int × Int)} (h : ¬ 3 < x.length) (h' : fvalid x = false) : sBright x = ⟨0, 0, 8⟩ := by unfold sBright; rw [if_neg h, if_neg (by rw [h']; decide)]
theorem sBright_0 {x : List (Int × Int)} (h : ¬ 3 < x.length) (h' : fvalid x = true) : sBright x = hsum x x.length := by unfold sBright; rw [if_neg h, if_pos h']
theorem sBright_ok {x : List (Int × Int)} (h : (sBright x).e = 0) : fchk (sBright x).n (sBright x).d = 0 := by
  unfold sBright at h ⊢
  split at h
  · cases h
  · rename_i h1
    rw [if_neg h1]
    split at h
    · rename_i h2
      rw [if_pos h2]
      exact (hsum_FOk (fun i hi => fvalid_get h2 i hi) x.length (Nat.le_refl _)).v h
    · cases h
theorem nValue_ok {A : List (List Int)} {B : List Int} {x : List (Int × Int)} (h : (nValue A B x).e = 0) : npoint A B x = 0 ∧ fchk (nValue A B x).n (nValue A B x).d = 0 := by
  by_cases h1 : (nResidual A B x).2 = 0
  · obtain ⟨hp, hpe⟩ := nresid_parts h1
    rw [nVal_0 h1] at h ⊢
    refine ⟨hp, (sq_ok (Nat.le_refl _) ?_).v h⟩
    have := (resid_ok (FitX.of hp) (by rw [← hpe]; exact h1)).2
    rw [← hpe] at this
    exact this
  · rw [nVal_1 h1] at h; exact absurd h h1
/-- The price of a point: v is its value, b its brightness. -/
def price (v b : FR) (c : Int) : FR :=
  if v.e = 0 then (if b.e = 0 then (if (fmul v.n v.d 1 2).e = 0 then (if (fmul c 1 b.n b.d).e = 0 then fadd (fmul v.n v.d 1 2).n (fmul v.n v.d 1 2).d (fmul c 1 b.n b.d).n (fmul c 1 b.n b.d).d else ⟨0, 0, 16⟩) else ⟨0, 0, 16⟩) else ⟨0, 0, b.e⟩) else ⟨0, 0, v.e⟩
theorem price_v {v b : FR} {c : Int} (h : ¬ v.e = 0) : price v b c = ⟨0, 0, v.e⟩ := if_neg h
theorem price_b {v b : FR} {c : Int} (h : v.e = 0) (h' : ¬ b.e = 0) : price v b c = ⟨0, 0, b.e⟩ := by unfold price; rw [if_pos h, if_neg h']
theorem price_h {v b : FR} {c : Int} (h : v.e = 0) (h' : b.e = 0) (h2 : ¬ (fmul v.n v.d 1 2).e = 0) : price v b c = ⟨0, 0, 16⟩ := by unfold price; rw [if_pos h, if_pos h', if_neg h2]
theorem price_m {v b : FR} {c : Int} (h : v.e = 0) (h' : b.e = 0) (h2 : (fmul v.n v.d 1 2).e = 0) (h3 : ¬ (fmul c 1 b.n b.d).e = 0) : price v b c = ⟨0, 0, 16⟩ := by unfold price; rw [if_pos h, if_pos h', if_pos h2, if_neg h3]
theorem price_0 {v b : FR} {c : Int} (h : v.e = 0) (h' : b.e = 0) (h2 : (fmul v.n v.d 1 2).e = 0) (h3 : (fmul c 1 b.n b.d).e = 0) : price v b c = fadd (fmul v.n v.d 1 2).n (fmul v.n v.d 1 2).d (fmul c 1 b.n b.d).n (fmul c 1 b.n b.d).d := by unfold price; rw [if_pos h, if_pos h', if_pos h2, if_pos h3]
def sCost (A : List (List Int)) (B : List Int) (c : Int) (x : List (Int × Int)) : FR := if scheck A B c = 0 then price (nValue A B x) (sBright x) c else ⟨0, 0, scheck A B c⟩
theorem sCost_c {A : List (List Int)} {B : List Int} {c : Int} {x : List (Int × Int)} (h : ¬ scheck A B c = 0) : sCost A B c x = ⟨0, 0, scheck A B c⟩ := if_neg h
theorem sCost_0 {A : List (List Int)} {B : List Int} {c : Int} {x : List (Int × Int)} (h : scheck A B c = 0) : sCost A B c x = price (nValue A B x) (sBright x) c := if_pos h
/-- One number of a slope. -/
def slopeN (g : List (Int × Int)) (c : Int) (k : Nat) : FR := fadd (g.getD k (0, 0)).1 (g.getD k (0, 0)).2 c 1
theorem slopeN_get {g : List (Int × Int)} {c : Int} {k : Nat} (hk : k < g.length) : slopeN g c k = fadd g[k].1 g[k].2 c 1 := by unfold slopeN; rw [getD_get hk]
def sSlope (A : List (List Int)) (B : List Int) (c : Int) (x : List (Int × Int)) : List (Int × Int) × Int :=
  if scheck A B c = 0 then (if (nGradient A B x).2 = 0 then rowsOf (slopeN (nGradient A B x).1 c) (nGradient A B x).1.length else ([], (nGradient A B x).2)) else ([], scheck A B c)
theorem sSlope_c {A : List (List Int)} {B : List Int} {c : Int} {x : List (Int × Int)} (h : ¬ scheck A B c = 0) : sSlope A B c x = ([], scheck A B c) := if_neg h
theorem sSlope_g {A : List (List Int)} {B : List Int} {c : Int} {x : List (Int × Int)} (h : scheck A B c = 0) (h' : ¬ (nGradient A B x).2 = 0) : sSlope A B c x = ([], (nGradient A B x).2) := by unfold sSlope; rw [if_pos h, if_neg h']
theorem sSlope_0 {A : List (List Int)} {B : List Int} {c : Int} {x : List (Int × Int)} (h : scheck A B c = 0) (h' : (nGradient A B x).2 = 0) : sSlope A B c x = rowsOf (slopeN (nGradient A B x).1 c) (nGradient A B x).1.length := by unfold sSlope; rw [if_pos h, if_pos h']
theorem grad_val {A : List (List Int)} {B : List Int} {x : List (Int × Int)} (h : (nGradient A B x).2 = 0) : ∀ i (hi : i < (nGradient A B x).1.length), fchk (nGradient A B x).1[i].1 (nGradient A B x).1[i].2 = 0 := by
  intro i hi
  have h1 : (nResidual A B x).2 = 0 := by
    rcases Decidable.em ((nResidual A B x).2 = 0) with h1 | h1
    · exact h1
    · rw [nGrad_1 h1] at h; exact absurd h h1
  obtain ⟨hp, hpe⟩ := nresid_parts h1
  have fx := FitX.of hp
  have ro := resid_ok fx (by rw [← hpe]; exact h1)
  rw [← hpe] at ro
  have key : ∀ p ∈ (nGradient A B x).1, fchk p.1 p.2 = 0 := by
    rw [nGrad_0 h1]
    refine rows_val (N := x.length) (fun k hk => ?_) x.length (Nat.le_refl _)
    show FOk (gsum (colT A (nResidual A B x).1 k) A.length)
    have := dot_ok (a := colOf A k) (x := (nResidual A B x).1) (k := (colOf A k).length) (Nat.le_refl _) (by rw [colOf_len, ro.1]; exact Nat.le_refl _) (fx.col_small hk) ro.2
    rw [col_dot] at this
    exact this
  exact key _ (List.getElem_mem hi)
theorem slopeN_FOk {g : List (Int × Int)} {c : Int} (hg : ∀ i (h : i < g.length), fchk g[i].1 g[i].2 = 0) (h1 : 0 ≤ c) (h2 : c ≤ 1000) {k : Nat} (hk : k < g.length) : FOk (slopeN g c k) := by
  rw [slopeN_get hk]; exact fadd_FOk (hg k hk) (fchk_small (by omega) h2)
def sOptimal (A : List (List Int)) (B : List Int) (c : Int) (x : List (Int × Int)) : Bool × Int :=
  if (sSlope A B c x).2 = 0 then (noptB (sSlope A B c x).1 x (sSlope A B c x).1.length, 0) else (false, (sSlope A B c x).2)
theorem sOpt_1 {A : List (List Int)} {B : List Int} {c : Int} {x : List (Int × Int)} (h : ¬ (sSlope A B c x).2 = 0) : sOptimal A B c x = (false, (sSlope A B c x).2) := if_neg h
theorem sOpt_0 {A : List (List Int)} {B : List Int} {c : Int} {x : List (Int × Int)} (h : (sSlope A B c x).2 = 0) : sOptimal A B c x = (noptB (sSlope A B c x).1 x (sSlope A B c x).1.length, 0) := if_pos h
theorem slope_len {A : List (List Int)} {B : List Int} {c : Int} {x : List (Int × Int)} (h : (sSlope A B c x).2 = 0) : npoint A B x = 0 ∧ (sSlope A B c x).1.length = x.length := by
  by_cases h0 : scheck A B c = 0
  · by_cases h1 : (nGradient A B x).2 = 0
    · rw [sSlope_0 h0 h1] at h ⊢
      obtain ⟨hp, hl⟩ := grad_len h1
      exact ⟨hp, by rw [rows_len _ h]; exact hl⟩
    · rw [sSlope_g h0 h1] at h; exact absurd h h1
  · rw [sSlope_c h0] at h; exact absurd h h0
theorem sSlope_FI (A : List (List Int)) (B : List Int) (c : Int) (x : List (Int × Int)) : FI (sSlope A B c x).1 := by
  unfold sSlope; split
  · split
    · exact rows_FI (fun i => fadd_i64 _ _ _ _) _
    · intro p hp; cases hp
  · intro p hp; cases hp
end Go.Proofs.Ytfbigmjlppdlhaa
