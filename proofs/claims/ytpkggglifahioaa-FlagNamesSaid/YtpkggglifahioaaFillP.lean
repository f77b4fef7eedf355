/- What is proved here: plain facts on filling a mask: parts, the least number that is enough, counts of rows and columns. No program in sight. -/
import Derived.Test.YtpkggglifahioaaFracP
namespace Go.Proofs.Ytpkggglifahioaa
open Go.RowKit

/-- k of n is at least the part fn / fd. -/
def enB (fn fd : Int) (k n : Nat) : Bool := decide (fn * n ≤ k * fd)
/-- A fraction is a part: valid, greater than 0, at most 1. -/
def prtB (fn fd : Int) : Bool := decide (fchk fn fd = 0 ∧ 0 < fn ∧ fn ≤ fd)
theorem prt_ok {fn fd : Int} (h : prtB fn fd = true) : fchk fn fd = 0 ∧ 0 < fn ∧ fn ≤ fd := by simpa [prtB] using h
theorem enB_mono {fn fd : Int} {k l n : Nat} (hd : 0 ≤ fd) (h : enB fn fd k n = true) (hl : k ≤ l) : enB fn fd l n = true := by
  simp only [enB, decide_eq_true_eq] at *
  have := Int.mul_le_mul_of_nonneg_right (show (k : Int) ≤ l by omega) hd
  omega
theorem enB_all {fn fd : Int} (n : Nat) (h : fn ≤ fd) : enB fn fd n n = true := by
  simp only [enB, decide_eq_true_eq]
  rw [Int.mul_comm]
  exact Int.mul_le_mul_of_nonneg_left h (by omega)
/-- The order of k / n and the part. -/
theorem en_cmp {fn fd : Int} {k n : Nat} (hn : 1 ≤ n) (hn2 : n ≤ 1000000) (hk : k ≤ 1000000) : 0 ≤ fcmp (fmk k n).n (fmk k n).d fn fd ↔ enB fn fd k n = true := by
  obtain ⟨_, h2, h3⟩ := fmk_ok (num := k) (den := n) (by omega) (by omega) (by omega) (by omega)
  obtain ⟨u1, _⟩ := fok_of h2
  rw [fcmp_ge, frac_le u1 (by omega) h3]
  simp [enB]

/-- The least number below n that is enough, or n. -/
def lst (fn fd : Int) (n : Nat) : Nat → Nat
  | 0 => n
  | k + 1 => if enB fn fd (n - (k + 1)) n then n - (k + 1) else lst fn fd n k
def leastN (fn fd : Int) (n : Nat) : Nat := lst fn fd n n
theorem lst_le (fn fd : Int) (n : Nat) : ∀ k, lst fn fd n k ≤ n
  | 0 => Nat.le_refl _
  | k + 1 => by unfold lst; split
                · omega
                · exact lst_le fn fd n k
theorem lst_en {fn fd : Int} {n : Nat} (h1 : fn ≤ fd) : ∀ k, enB fn fd (lst fn fd n k) n = true
  | 0 => enB_all n h1
  | k + 1 => by unfold lst; split
                · assumption
                · exact lst_en h1 k
theorem lst_least {fn fd : Int} {n : Nat} (hd : 0 ≤ fd) : ∀ k, k ≤ n → ∀ m, enB fn fd m n = true → n - k ≤ m → lst fn fd n k ≤ m
  | 0, _, m, h, hm => by unfold lst; omega
  | k + 1, hk, m, h, hm => by
    unfold lst; split
    · omega
    · rename_i hne
      rcases Nat.lt_or_ge (n - (k + 1)) m with h' | h'
      · exact lst_least hd k (by omega) m h (by omega)
      · have : m = n - (k + 1) := by omega
        rw [this] at h; exact absurd h hne
/-- To be at least the least number is to be enough. -/
theorem least_iff {fn fd : Int} (h1 : fn ≤ fd) (hd : 0 ≤ fd) (n k : Nat) : leastN fn fd n ≤ k ↔ enB fn fd k n = true :=
  ⟨fun h => enB_mono hd (lst_en h1 n) h, fun h => lst_least hd n (Nat.le_refl _) k h (by omega)⟩
theorem least_at {fn fd : Int} {n k : Nat} (hk : k < n) (h : enB fn fd k n = true) : lst fn fd n (n - k) = k := by
  have e : n - k = (n - k - 1) + 1 := by omega
  rw [e]; unfold lst
  rw [if_pos (by rw [show n - (n - k - 1 + 1) = k by omega]; exact h)]; omega
theorem least_skip {fn fd : Int} {n k : Nat} (hk : k < n) (h : enB fn fd k n = false) : lst fn fd n (n - k) = lst fn fd n (n - (k + 1)) := by
  have e : n - k = (n - k - 1) + 1 := by omega
  rw [e]
  conv => lhs; unfold lst
  rw [if_neg (by rw [show n - (n - k - 1 + 1) = k by omega, h]; exact Bool.false_ne_true)]
  rw [show n - (k + 1) = n - k - 1 by omega]

/-- How many of the first k cells are flagged and have the number f k = t. -/
def cnt (xs : List Bool) (f : Nat → Nat) (t : Nat) : Nat → Nat
  | 0 => 0
  | k + 1 => cnt xs f t k + if xs.getD k false = true ∧ f k = t then 1 else 0
theorem cnt_le (xs : List Bool) (f : Nat → Nat) (t : Nat) : ∀ k, cnt xs f t k ≤ k
  | 0 => Nat.le_refl _
  | k + 1 => by have := cnt_le xs f t k; unfold cnt; split <;> omega
theorem cnt_no {xs : List Bool} {f : Nat → Nat} {t k : Nat} (h : xs.getD k false = false) : cnt xs f t (k + 1) = cnt xs f t k := by
  rw [cnt, if_neg (by rw [h]; simp)]; rfl
theorem cnt_yes {xs : List Bool} {f : Nat → Nat} {t k : Nat} (h : xs.getD k false = true) (h2 : f k = t) : cnt xs f t (k + 1) = cnt xs f t k + 1 := by
  rw [cnt, if_pos ⟨h, h2⟩]
theorem cnt_other {xs : List Bool} {f : Nat → Nat} {t k : Nat} (h2 : f k ≠ t) : cnt xs f t (k + 1) = cnt xs f t k := by
  rw [cnt, if_neg (fun h => h2 h.2)]; rfl

/-- Cells that hold ints. -/
def iv (n : Nat) (f : Nat → Nat) : List Value := (List.range n).map fun i => .int .i64 (f i)
theorem iv_len (n : Nat) (f : Nat → Nat) : (iv n f).length = n := by simp [iv]
theorem iv_get (n : Nat) (f : Nat → Nat) (i : Nat) (h : i < n) : (iv n f)[i]? = some (.int .i64 (f i)) := by simp [iv, h]
theorem iv_same (n : Nat) (f g : Nat → Nat) (h : ∀ i, i < n → f i = g i) : iv n f = iv n g := by
  unfold iv
  refine List.map_congr_left fun i hi => ?_
  rw [h i (List.mem_range.1 hi)]
theorem iv_set (n : Nat) (f g : Nat → Nat) (p : Nat) (hp : p < n) (h1 : g p = f p + 1) (h2 : ∀ i, i < n → i ≠ p → g i = f i) : (iv n f).set p (.int .i64 ((f p : Int) + 1)) = iv n g := by
  apply List.ext_getElem?
  intro i
  rw [List.getElem?_set]
  rcases Nat.lt_or_ge i n with hi | hi
  · split
    · rename_i e; subst e
      rw [if_pos (by rw [iv_len]; exact hp), iv_get n g p hp, h1]
      rfl
    · rename_i e
      rw [iv_get n f i hi, iv_get n g i hi, h2 i hi (fun e' => e e'.symm)]
  · split
    · rename_i e; subst e; omega
    · rw [List.getElem?_eq_none (by rw [iv_len]; exact hi), List.getElem?_eq_none (by rw [iv_len]; exact hi)]

/-- What filling makes of a cell. -/
def fillB (T C : Nat) (xs : List Bool) (fn fd : Int) (j : Nat) : Bool :=
  xs.getD j false || enB fn fd (cnt xs (· / C) (j / C) xs.length) C || enB fn fd (cnt xs (· % C) (j % C) xs.length) T
def fillL (T C : Nat) (xs : List Bool) (fn fd : Int) : List Bool := (List.range xs.length).map (fillB T C xs fn fd)
theorem fillL_len (T C : Nat) (xs : List Bool) (fn fd : Int) : (fillL T C xs fn fd).length = xs.length := by simp [fillL]

end Go.Proofs.Ytpkggglifahioaa
