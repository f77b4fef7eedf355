/- What is proved here: contracts of functions and plain facts, several texts in one; each one says ahead what it proves, and its conditions. -/
import Derived.Test.YtfoemacgmehpiaaC05
/- What is proved here: what the witness of a point comes to, step by step. No program in sight. -/
namespace Go.Proofs.Ytfoemacgmehpiaa
open Go.RowKit

/-- For each unknown the sum of the products of its column and a list, or an error. -/
def dsums (A : List (List Int)) (y : List (Int × Int)) (n : Nat) : List (Int × Int) × Int := rowsOf (fun k => gsum (colT A y k) A.length) n
/-- Small numbers, and a valid fraction for each equation. -/
structure FitY (A : List (List Int)) (y : List (Int × Int)) (n : Nat) : Prop where
  rows : 0 < A.length
  few : A.length ≤ 100 ∧ n ≤ 100
  len : y.length = A.length
  wide : ∀ i (h : i < A.length), A[i].length = n
  coef : ∀ i (h : i < A.length) k (h' : k < A[i].length), -1000 ≤ A[i][k] ∧ A[i][k] ≤ 1000
  val : ∀ i (h : i < y.length), fchk y[i].1 y[i].2 = 0
theorem FitY.col_ok {A : List (List Int)} {y : List (Int × Int)} {n : Nat} (h : FitY A y n) {k j : Nat} (hk : k < n) (hj : j ≤ A.length) : FOk (gsum (colT A y k) j) := by
  refine gsum_FOk j fun i hi => ?_
  have h1 : i < A.length := by omega
  have h2 : i < y.length := by rw [h.len]; exact h1
  have h3 : k < A[i].length := by rw [h.wide i h1]; exact hk
  simp only [colT, cel_get h1 h3, getD_get h2]
  exact ⟨fchk_small (h.coef i h1 k h3).1 (h.coef i h1 k h3).2, h.val i h2⟩
theorem dsums_ok {A : List (List Int)} {y : List (Int × Int)} {n : Nat} (h : FitY A y n) (h0 : (dsums A y n).2 = 0) : (dsums A y n).1.length = n ∧ ∀ i (h : i < (dsums A y n).1.length), fchk (dsums A y n).1[i].1 (dsums A y n).1[i].2 = 0 :=
  ⟨rows_len _ h0, fun i hi => rows_val (N := n) (fun j hj => h.col_ok hj (Nat.le_refl _)) n (Nat.le_refl _) _ (List.getElem_mem hi)⟩
theorem dsums_16 {A : List (List Int)} {y : List (Int × Int)} {n : Nat} (h : FitY A y n) (h0 : ¬ (dsums A y n).2 = 0) : dsums A y n = ([], 16) := by
  rcases rows_err16 (N := n) (fun j hj => h.col_ok hj (Nat.le_refl _)) n (Nat.le_refl _) with h1 | h1
  · exact absurd h1 h0
  · exact h1
/-- The opposite fractions. -/
def negs (r : List (Int × Int)) : List (Int × Int) := r.map fun p => (-p.1, p.2)
theorem negs_len (r : List (Int × Int)) : (negs r).length = r.length := by simp [negs]
theorem negs_get {r : List (Int × Int)} {i : Nat} (h : i < r.length) : (negs r)[i]? = some (-r[i].1, r[i].2) := by simp [negs, h]
theorem negs_val {r : List (Int × Int)} (hr : ∀ i (h : i < r.length), fchk r[i].1 r[i].2 = 0) : ∀ i (h : i < (negs r).length), fchk (negs r)[i].1 (negs r)[i].2 = 0 := by
  intro i hi
  have h1 : i < r.length := by rw [negs_len] at hi; exact hi
  have e : (negs r)[i] = (-r[i].1, r[i].2) := by
    have := negs_get h1
    simpa [hi] using this
  rw [e]; exact fchk_neg (hr i h1)
theorem FitY.of {A : List (List Int)} {B : List Int} {x : List (Int × Int)} (h : npoint A B x = 0) {r : List (Int × Int)} (hl : r.length = A.length) (hr : ∀ i (h : i < r.length), fchk r[i].1 r[i].2 = 0) : FitY A r x.length := by
  have f := FitX.of h
  exact ⟨(point_of h).1.rows.1, f.few, hl, f.wide, f.coef, hr⟩
/-- The greatest of the first k + 1 fractions. -/
def mostN (c : List (Int × Int)) : Nat → Int × Int
  | 0 => c.getD 0 (0, 0)
  | k + 1 => if fcmp (mostN c k).1 (mostN c k).2 (c.getD (k + 1) (0, 0)).1 (c.getD (k + 1) (0, 0)).2 = -1 then c.getD (k + 1) (0, 0) else mostN c k
theorem most_1 {c : List (Int × Int)} {k : Nat} (hk : k + 1 < c.length) (h : fcmp (mostN c k).1 (mostN c k).2 c[k + 1].1 c[k + 1].2 = -1) : mostN c (k + 1) = c[k + 1] := by
  rw [mostN, getD_get hk, if_pos h]
theorem most_0 {c : List (Int × Int)} {k : Nat} (hk : k + 1 < c.length) (h : ¬ fcmp (mostN c k).1 (mostN c k).2 c[k + 1].1 c[k + 1].2 = -1) : mostN c (k + 1) = mostN c k := by
  rw [mostN, getD_get hk, if_neg h]
theorem most_val {c : List (Int × Int)} (hc : ∀ i (h : i < c.length), fchk c[i].1 c[i].2 = 0) : ∀ k, k < c.length → fchk (mostN c k).1 (mostN c k).2 = 0
  | 0, hk => by rw [mostN, getD_get hk]; exact hc 0 hk
  | k + 1, hk => by
    rw [mostN, getD_get hk]
    split
    · exact hc (k + 1) hk
    · exact most_val hc k (by omega)
theorem fcmp_flip {an ad bn bd : Int} : 0 < fcmp an ad bn bd ↔ fcmp bn bd an ad = -1 := by
  unfold fcmp
  repeat' split
  all_goals first | omega | (constructor <;> intro h <;> omega)
theorem fcmpZ_ok {an ad bn bd : Int} (h1 : fchk an ad = 0) (h2 : fchk bn bd = 0) : fcmpZ an ad bn bd = fcmp an ad bn bd := if_pos (fboth_of h1 h2)
/-- The witness of a point, when its opposite residual r and the greatest sum m are known. -/
def dpart (c : Int) (r : List (Int × Int)) (m : Int × Int) : List (Int × Int) × Int :=
  if fcmp c 1 m.1 m.2 = -1 then (if (fdiv c 1 m.1 m.2).e = 0 then rowsOf (fun i => fmul (r.getD i (0, 0)).1 (r.getD i (0, 0)).2 (fdiv c 1 m.1 m.2).n (fdiv c 1 m.1 m.2).d) r.length else ([], 16)) else (r, 0)
def dwit (A : List (List Int)) (c : Int) (r : List (Int × Int)) (n : Nat) : List (Int × Int) × Int :=
  if (dsums A r n).2 = 0 then dpart c r (mostN (dsums A r n).1 (n - 1)) else ([], (dsums A r n).2)
def dMake (A : List (List Int)) (B : List Int) (c : Int) (x : List (Int × Int)) : List (Int × Int) × Int :=
  if scheck A B c = 0 then (if (nResidual A B x).2 = 0 then dwit A c (negs (nResidual A B x).1) x.length else ([], (nResidual A B x).2)) else ([], scheck A B c)
theorem dMake_c {A : List (List Int)} {B : List Int} {c : Int} {x : List (Int × Int)} (h : ¬ scheck A B c = 0) : dMake A B c x = ([], scheck A B c) := if_neg h
theorem dMake_r {A : List (List Int)} {B : List Int} {c : Int} {x : List (Int × Int)} (h : scheck A B c = 0) (h' : ¬ (nResidual A B x).2 = 0) : dMake A B c x = ([], (nResidual A B x).2) := by unfold dMake; rw [if_pos h, if_neg h']
theorem dMake_0 {A : List (List Int)} {B : List Int} {c : Int} {x : List (Int × Int)} (h : scheck A B c = 0) (h' : (nResidual A B x).2 = 0) : dMake A B c x = dwit A c (negs (nResidual A B x).1) x.length := by unfold dMake; rw [if_pos h, if_pos h']
theorem dMake_p {A : List (List Int)} {B : List Int} {c : Int} {x : List (Int × Int)} (h : scheck A B c = 0) (h' : pointB (A.getD 0 []).length x = false) : dMake A B c x = ([], 2) := by
  have hn := (scheck_of h).1
  have hp := npoint_2 hn h'
  have hr : nResidual A B x = ([], 2) := by unfold nResidual; rw [if_neg (by rw [hp]; decide), hp]
  rw [dMake_r h (by rw [hr]; decide), hr]
theorem dwit_1 {A : List (List Int)} {c : Int} {r : List (Int × Int)} {n : Nat} (h : ¬ (dsums A r n).2 = 0) : dwit A c r n = ([], (dsums A r n).2) := if_neg h
theorem dwit_0 {A : List (List Int)} {c : Int} {r : List (Int × Int)} {n : Nat} (h : (dsums A r n).2 = 0) : dwit A c r n = dpart c r (mostN (dsums A r n).1 (n - 1)) := if_pos h
theorem dpart_0 {c : Int} {r : List (Int × Int)} {m : Int × Int} (h : ¬ fcmp c 1 m.1 m.2 = -1) : dpart c r m = (r, 0) := if_neg h
theorem dpart_1 {c : Int} {r : List (Int × Int)} {m : Int × Int} (h : fcmp c 1 m.1 m.2 = -1) (h' : ¬ (fdiv c 1 m.1 m.2).e = 0) : dpart c r m = ([], 16) := by unfold dpart; rw [if_pos h, if_neg h']
/-- One number of a witness. -/
def dmulN (r : List (Int × Int)) (b : FR) (i : Nat) : FR := fmul (r.getD i (0, 0)).1 (r.getD i (0, 0)).2 b.n b.d
theorem dmulN_get {r : List (Int × Int)} {b : FR} {i : Nat} (hi : i < r.length) : dmulN r b i = fmul r[i].1 r[i].2 b.n b.d := by unfold dmulN; rw [getD_get hi]
theorem dpart_2 {c : Int} {r : List (Int × Int)} {m : Int × Int} (h : fcmp c 1 m.1 m.2 = -1) (h' : (fdiv c 1 m.1 m.2).e = 0) : dpart c r m = rowsOf (dmulN r (fdiv c 1 m.1 m.2)) r.length := by unfold dpart; rw [if_pos h, if_pos h']; rfl
theorem dmulN_FOk {r : List (Int × Int)} {b : FR} (hr : ∀ i (h : i < r.length), fchk r[i].1 r[i].2 = 0) (hb : fchk b.n b.d = 0) {i : Nat} (hi : i < r.length) : FOk (dmulN r b i) := by
  rw [dmulN_get hi]; exact fmul_FOk (hr i hi) hb
/-- A cost that is less than a fraction: the fraction is not 0. -/
theorem most_pos {c n d : Int} (hc : 0 ≤ c) (hd : fchk n d = 0) (h : fcmp c 1 n d = -1) : 0 < n := by
  unfold fcmp at h
  split at h
  · rename_i h1
    have hd1 : 1 ≤ d := by
      have := (Q_ok hd).2.1
      have h2 := (Rat.divInt n d).den_pos
      omega
    have : 0 ≤ c * d := Int.mul_nonneg hc (by omega)
    omega
  · split at h <;> cases h
theorem fdiv_FOk {an ad bn bd : Int} (h1 : fchk an ad = 0) (h2 : fchk bn bd = 0) (hz : ¬ bn = 0) : FOk (fdiv an ad bn bd) := by
  rw [fdiv_1 (fboth_of h1 h2) hz]; exact pack_FOk _
end Go.Proofs.Ytfoemacgmehpiaa
