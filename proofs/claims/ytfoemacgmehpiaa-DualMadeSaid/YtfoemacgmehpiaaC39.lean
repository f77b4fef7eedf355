/- What is proved here: contracts of functions and plain facts, several texts in one; each one says ahead what it proves, and its conditions. -/
import Derived.Test.YtfoemacgmehpiaaC38
/- What is proved here: what feasible witnesses, their worth, gaps and certificates come to. No program in sight. -/
namespace Go.Proofs.Ytfoemacgmehpiaa
open Go.RowKit

/-- Whether a list is a witness for a fit with m equations. -/
def witB (m : Nat) (y : List (Int × Int)) : Bool := fvalid y && decide (y.length = m)
theorem witB_len {m : Nat} {y : List (Int × Int)} (h : ¬ y.length = m) : witB m y = false := by simp [witB, h]
theorem witB_bad {m : Nat} {y : List (Int × Int)} (h : fvalid y = false) : witB m y = false := by simp [witB, h]
theorem witB_ok {m : Nat} {y : List (Int × Int)} (h : fvalid y = true) : witB m y = decide (y.length = m) := by simp [witB, h]
theorem witB_of {m : Nat} {y : List (Int × Int)} (h : witB m y = true) : y.length = m ∧ ∀ i (h : i < y.length), fchk y[i].1 y[i].2 = 0 := by
  simp only [witB, Bool.and_eq_true, decide_eq_true_eq] at h
  exact ⟨h.2, fun i hi => fvalid_get h.1 i hi⟩
/-- The error of a fit, a cost and a witness. -/
def dcheck (A : List (List Int)) (B : List Int) (c : Int) (y : List (Int × Int)) : Int := if scheck A B c = 0 then (if witB A.length y = true then 0 else 2) else scheck A B c
theorem dcheck_c {A : List (List Int)} {B : List Int} {c : Int} {y : List (Int × Int)} (h : ¬ scheck A B c = 0) : dcheck A B c y = scheck A B c := if_neg h
theorem dcheck_2 {A : List (List Int)} {B : List Int} {c : Int} {y : List (Int × Int)} (h : scheck A B c = 0) (h' : witB A.length y = false) : dcheck A B c y = 2 := by unfold dcheck; rw [if_pos h, if_neg (by rw [h']; decide)]
theorem dcheck_0 {A : List (List Int)} {B : List Int} {c : Int} {y : List (Int × Int)} (h : scheck A B c = 0) (h' : witB A.length y = true) : dcheck A B c y = 0 := by unfold dcheck; rw [if_pos h, if_pos h']
theorem dcheck_of {A : List (List Int)} {B : List Int} {c : Int} {y : List (Int × Int)} (h : dcheck A B c y = 0) : scheck A B c = 0 ∧ witB A.length y = true := by
  unfold dcheck at h
  split at h
  · rename_i h1
    split at h
    · rename_i h2; exact ⟨h1, h2⟩
    · cases h
  · rename_i h1; exact absurd h h1
theorem FitY.ofC {A : List (List Int)} {B : List Int} {y : List (Int × Int)} (h : ncheck A B = 0) (hw : witB A.length y = true) : FitY A y (A.getD 0 []).length := by
  have f := fit_of h
  obtain ⟨h1, h2⟩ := witB_of hw
  exact ⟨f.rows.1, ⟨by have := f.rows; omega, by have := f.cols; omega⟩, h1, f.wide, fun i hi k hk => by have := f.coef i hi k hk; omega, h2⟩
/-- Whether no sum is greater than the cost. -/
def feasB (l : List (Int × Int)) (c : Int) (k : Nat) : Bool := (List.range k).all fun j => !decide (fcmp c 1 (l.getD j (0, 0)).1 (l.getD j (0, 0)).2 = -1)
theorem feasB_succ {l : List (Int × Int)} {c : Int} {k : Nat} (h1 : k < l.length) (h : feasB l c k = true) (hn : ¬ fcmp c 1 l[k].1 l[k].2 = -1) : feasB l c (k + 1) = true := by
  unfold feasB at *
  rw [List.range_succ, List.all_append, h]
  simp only [List.all_cons, List.all_nil, getD_get h1, hn]
  rfl
theorem feasB_not {l : List (Int × Int)} {c : Int} {k n : Nat} (hk : k < n) (h1 : k < l.length) (hn : fcmp c 1 l[k].1 l[k].2 = -1) : feasB l c n = false := by
  unfold feasB
  rw [List.all_eq_false]
  refine ⟨k, List.mem_range.2 hk, ?_⟩
  simp only [getD_get h1, hn]
  decide
def dfeas (A : List (List Int)) (B : List Int) (c : Int) (y : List (Int × Int)) : Bool × Int :=
  if dcheck A B c y = 0 then (if (dsums A y (A.getD 0 []).length).2 = 0 then (feasB (dsums A y (A.getD 0 []).length).1 c (dsums A y (A.getD 0 []).length).1.length, 0) else (false, (dsums A y (A.getD 0 []).length).2)) else (false, dcheck A B c y)
theorem dfeas_c {A : List (List Int)} {B : List Int} {c : Int} {y : List (Int × Int)} (h : ¬ dcheck A B c y = 0) : dfeas A B c y = (false, dcheck A B c y) := if_neg h
theorem dfeas_1 {A : List (List Int)} {B : List Int} {c : Int} {y : List (Int × Int)} (h : dcheck A B c y = 0) (h' : ¬ (dsums A y (A.getD 0 []).length).2 = 0) : dfeas A B c y = (false, (dsums A y (A.getD 0 []).length).2) := by unfold dfeas; rw [if_pos h, if_neg h']
theorem dfeas_0 {A : List (List Int)} {B : List Int} {c : Int} {y : List (Int × Int)} (h : dcheck A B c y = 0) (h' : (dsums A y (A.getD 0 []).length).2 = 0) : dfeas A B c y = (feasB (dsums A y (A.getD 0 []).length).1 c (dsums A y (A.getD 0 []).length).1.length, 0) := by unfold dfeas; rw [if_pos h, if_pos h']
/-- What the sum of the products of two lists adds up. -/
def prodT (a b : List (Int × Int)) (i : Nat) : (Int × Int) × (Int × Int) := (a.getD i (0, 0), b.getD i (0, 0))
theorem prod_succ {a b : List (Int × Int)} {k : Nat} (ha : k < a.length) (hb : k < b.length) (h : (gsum (prodT a b) k).e = 0) : gsum (prodT a b) (k + 1) = fplus (gsum (prodT a b) k).n (gsum (prodT a b) k).d a[k].1 a[k].2 b[k].1 b[k].2 := by
  rw [gsum_succ h]; simp [prodT, List.getD, ha, hb]
theorem prod_ok {a b : List (Int × Int)} {k : Nat} (hk : k ≤ a.length) (hb : a.length ≤ b.length) (va : ∀ i (h : i < a.length), fchk a[i].1 a[i].2 = 0) (vb : ∀ i (h : i < b.length), fchk b[i].1 b[i].2 = 0) : FOk (gsum (prodT a b) k) :=
  gsum_FOk k fun j hj => by
    have h1 : j < a.length := by omega
    have h2 : j < b.length := by omega
    simp only [prodT, getD_get h1, getD_get h2]
    exact ⟨va j h1, vb j h2⟩
/-- Right sides as fractions. -/
def rights (B : List Int) : List (Int × Int) := B.map fun b => (b, 1)
theorem rights_len (B : List Int) : (rights B).length = B.length := by simp [rights]
theorem rights_get {B : List Int} {i : Nat} (h : i < B.length) : (rights B)[i]? = some (B[i], 1) := by simp [rights, h]
theorem rights_val {B : List Int} (hB : ∀ i (h : i < B.length), -1000 ≤ B[i] ∧ B[i] ≤ 1000) : ∀ i (h : i < (rights B).length), fchk (rights B)[i].1 (rights B)[i].2 = 0 := by
  intro i hi
  have h1 : i < B.length := by rw [rights_len] at hi; exact hi
  have e : (rights B)[i] = (B[i], 1) := by
    have := rights_get h1
    simpa [hi] using this
  rw [e]; exact fchk_small (hB i h1).1 (hB i h1).2
/-- The worth: g is the sum with the right sides, s that of the squares. -/
def dval (g s : FR) : FR := if g.e = 0 then (if s.e = 0 then (if (fmul s.n s.d 1 2).e = 0 then fsub g.n g.d (fmul s.n s.d 1 2).n (fmul s.n s.d 1 2).d else ⟨0, 0, 16⟩) else ⟨0, 0, s.e⟩) else ⟨0, 0, g.e⟩
theorem dval_g {g s : FR} (h : ¬ g.e = 0) : dval g s = ⟨0, 0, g.e⟩ := if_neg h
theorem dval_s {g s : FR} (h : g.e = 0) (h' : ¬ s.e = 0) : dval g s = ⟨0, 0, s.e⟩ := by unfold dval; rw [if_pos h, if_neg h']
theorem dval_h {g s : FR} (h : g.e = 0) (h' : s.e = 0) (h2 : ¬ (fmul s.n s.d 1 2).e = 0) : dval g s = ⟨0, 0, 16⟩ := by unfold dval; rw [if_pos h, if_pos h', if_neg h2]
theorem dval_0 {g s : FR} (h : g.e = 0) (h' : s.e = 0) (h2 : (fmul s.n s.d 1 2).e = 0) : dval g s = fsub g.n g.d (fmul s.n s.d 1 2).n (fmul s.n s.d 1 2).d := by unfold dval; rw [if_pos h, if_pos h', if_pos h2]
def dworth (A : List (List Int)) (B : List Int) (y : List (Int × Int)) : FR := if dcheck A B 0 y = 0 then dval (gsum (prodT y (rights B)) y.length) (gsum (prodT y y) y.length) else ⟨0, 0, dcheck A B 0 y⟩
theorem dworth_c {A : List (List Int)} {B : List Int} {y : List (Int × Int)} (h : ¬ dcheck A B 0 y = 0) : dworth A B y = ⟨0, 0, dcheck A B 0 y⟩ := if_neg h
theorem dworth_0 {A : List (List Int)} {B : List Int} {y : List (Int × Int)} (h : dcheck A B 0 y = 0) : dworth A B y = dval (gsum (prodT y (rights B)) y.length) (gsum (prodT y y) y.length) := if_pos h
theorem dworth_ok {A : List (List Int)} {B : List Int} {y : List (Int × Int)} (h : (dworth A B y).e = 0) : fchk (dworth A B y).n (dworth A B y).d = 0 := by
  by_cases hc : dcheck A B 0 y = 0
  · obtain ⟨hs, hw⟩ := dcheck_of hc
    obtain ⟨hn, _⟩ := scheck_of hs
    have f := fit_of hn
    obtain ⟨wl, wv⟩ := witB_of hw
    have rv := rights_val (B := B) fun i hi => by have := f.side i hi; omega
    have g1 := prod_ok (a := y) (b := rights B) (k := y.length) (Nat.le_refl _) (by rw [rights_len, f.right, wl]; exact Nat.le_refl _) wv rv
    have s1 := prod_ok (a := y) (b := y) (k := y.length) (Nat.le_refl _) (Nat.le_refl _) wv wv
    rw [dworth_0 hc] at h ⊢
    by_cases h1 : (gsum (prodT y (rights B)) y.length).e = 0
    · by_cases h2 : (gsum (prodT y y) y.length).e = 0
      · have m1 := fmul_FOk (s1.v h2) (show fchk 1 2 = 0 by decide)
        by_cases h3 : (fmul (gsum (prodT y y) y.length).n (gsum (prodT y y) y.length).d 1 2).e = 0
        · rw [dval_0 h1 h2 h3] at h ⊢
          exact (fsub_FOk (g1.v h1) (m1.v h3)).v h
        · rw [dval_h h1 h2 h3] at h; cases h
      · rw [dval_s h1 h2] at h; exact absurd h h2
    · rw [dval_g h1] at h; exact absurd h h1
  · rw [dworth_c hc] at h; exact absurd h hc
theorem sCost_ok {A : List (List Int)} {B : List Int} {c : Int} {x : List (Int × Int)} (h : (sCost A B c x).e = 0) : fchk (sCost A B c x).n (sCost A B c x).d = 0 := by
  by_cases hc : scheck A B c = 0
  · obtain ⟨_, c1, c2⟩ := scheck_of hc
    rw [sCost_0 hc] at h ⊢
    by_cases h1 : (nValue A B x).e = 0
    · by_cases h2 : (sBright x).e = 0
      · have m1 := fmul_FOk (nValue_ok h1).2 (show fchk 1 2 = 0 by decide)
        have m2 := fmul_FOk (fchk_small (a := c) (by omega) c2) (sBright_ok h2)
        by_cases h3 : (fmul (nValue A B x).n (nValue A B x).d 1 2).e = 0
        · by_cases h4 : (fmul c 1 (sBright x).n (sBright x).d).e = 0
          · rw [price_0 h1 h2 h3 h4] at h ⊢
            exact (fadd_FOk (m1.v h3) (m2.v h4)).v h
          · rw [price_m h1 h2 h3 h4] at h; cases h
        · rw [price_h h1 h2 h3] at h; cases h
      · rw [price_b h1 h2] at h; exact absurd h h2
    · rw [price_v h1] at h; exact absurd h h1
  · rw [sCost_c hc] at h; exact absurd h hc
/-- A point and a witness. -/
def bothB (A : List (List Int)) (x y : List (Int × Int)) : Bool := pointB (A.getD 0 []).length x && witB A.length y
def dgap (A : List (List Int)) (B : List Int) (c : Int) (x y : List (Int × Int)) : FR :=
  if scheck A B c = 0 then (if bothB A x y = true then (if (sCost A B c x).e = 0 then (if (dworth A B y).e = 0 then fsub (sCost A B c x).n (sCost A B c x).d (dworth A B y).n (dworth A B y).d else ⟨0, 0, (dworth A B y).e⟩) else ⟨0, 0, (sCost A B c x).e⟩) else ⟨0, 0, 2⟩) else ⟨0, 0, scheck A B c⟩
section
variable {A : List (List Int)} {B : List Int} {c : Int} {x y : List (Int × Int)}
theorem dgap_c (h : ¬ scheck A B c = 0) : dgap A B c x y = ⟨0, 0, scheck A B c⟩ := if_neg h
theorem dgap_2 (h : scheck A B c = 0) (h' : bothB A x y = false) : dgap A B c x y = ⟨0, 0, 2⟩ := by unfold dgap; rw [if_pos h, if_neg (by rw [h']; decide)]
theorem dgap_p (h : scheck A B c = 0) (h' : bothB A x y = true) (h1 : ¬ (sCost A B c x).e = 0) : dgap A B c x y = ⟨0, 0, (sCost A B c x).e⟩ := by unfold dgap; rw [if_pos h, if_pos h', if_neg h1]
theorem dgap_w (h : scheck A B c = 0) (h' : bothB A x y = true) (h1 : (sCost A B c x).e = 0) (h2 : ¬ (dworth A B y).e = 0) : dgap A B c x y = ⟨0, 0, (dworth A B y).e⟩ := by unfold dgap; rw [if_pos h, if_pos h', if_pos h1, if_neg h2]
theorem dgap_0 (h : scheck A B c = 0) (h' : bothB A x y = true) (h1 : (sCost A B c x).e = 0) (h2 : (dworth A B y).e = 0) : dgap A B c x y = fsub (sCost A B c x).n (sCost A B c x).d (dworth A B y).n (dworth A B y).d := by unfold dgap; rw [if_pos h, if_pos h', if_pos h1, if_pos h2]
def daccept (A : List (List Int)) (B : List Int) (c : Int) (x y : List (Int × Int)) (gn gd : Int) : Bool × Int :=
  if scheck A B c = 0 then (if bothB A x y = true then (if fchk gn gd = 0 then (if (dfeas A B c y).2 = 0 then (if (dgap A B c x y).e = 0 then ((dfeas A B c y).1 && (decide ((dgap A B c x y).n = gn) && decide ((dgap A B c x y).d = gd)), 0) else (false, (dgap A B c x y).e)) else (false, (dfeas A B c y).2)) else (false, 8)) else (false, 2)) else (false, scheck A B c)
variable {gn gd : Int}
theorem dacc_c (h : ¬ scheck A B c = 0) : daccept A B c x y gn gd = (false, scheck A B c) := if_neg h
theorem dacc_2 (h : scheck A B c = 0) (h' : bothB A x y = false) : daccept A B c x y gn gd = (false, 2) := by unfold daccept; rw [if_pos h, if_neg (by rw [h']; decide)]
theorem dacc_8 (h : scheck A B c = 0) (h' : bothB A x y = true) (h1 : ¬ fchk gn gd = 0) : daccept A B c x y gn gd = (false, 8) := by unfold daccept; rw [if_pos h, if_pos h', if_neg h1]
theorem dacc_f (h : scheck A B c = 0) (h' : bothB A x y = true) (h1 : fchk gn gd = 0) (h2 : ¬ (dfeas A B c y).2 = 0) : daccept A B c x y gn gd = (false, (dfeas A B c y).2) := by unfold daccept; rw [if_pos h, if_pos h', if_pos h1, if_neg h2]
theorem dacc_g (h : scheck A B c = 0) (h' : bothB A x y = true) (h1 : fchk gn gd = 0) (h2 : (dfeas A B c y).2 = 0) (h3 : ¬ (dgap A B c x y).e = 0) : daccept A B c x y gn gd = (false, (dgap A B c x y).e) := by unfold daccept; rw [if_pos h, if_pos h', if_pos h1, if_pos h2, if_neg h3]
theorem dacc_0 (h : scheck A B c = 0) (h' : bothB A x y = true) (h1 : fchk gn gd = 0) (h2 : (dfeas A B c y).2 = 0) (h3 : (dgap A B c x y).e = 0) : daccept A B c x y gn gd = ((dfeas A B c y).1 && (decide ((dgap A B c x y).n = gn) && decide ((dgap A B c x y).d = gd)), 0) := by unfold daccept; rw [if_pos h, if_pos h', if_pos h1, if_pos h2, if_pos h3]
end
end Go.Proofs.Ytfoemacgmehpiaa
