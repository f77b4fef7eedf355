/- What is proved here: contracts of functions and plain facts, several texts in one; each one says ahead what it proves, and its conditions. -/
import Derived.Test.YthlcmlngmcoknaaC08
import Derived.Test.YthlcmlngmcoknaaC02
/- What is proved here: systems of layer 29, sums against a right side, solutions and refutations that are asked for, in plain Lean. No program in sight. -/
namespace Go.Proofs.Ythlcmlngmcoknaa
open Go.RowKit

/-- A row of a system: of the right length, and of small numbers. -/
def orow (n : Nat) (r : List Int) : Bool := decide (r.length = n) && r.all fun a => decide (-9 ≤ a) && decide (a ≤ 9)
def orgt (b : Int) : Bool := decide (-99 ≤ b) && decide (b ≤ 99)
/-- The error of a system. -/
def ocheck (A : List (List Int)) (B : List Int) : Int :=
  if 6 < A.length then 4
  else if (A.all fun r => decide (r.length ≤ 6)) = false then 4
  else if A.length = 0 ∨ (A.getD 0 []).length = 0 ∨ B.length ≠ A.length then 8
  else if (A.all fun r => orow (A.getD 0 []).length r) = true ∧ (B.all orgt) = true then 0
  else 8
section
variable {A : List (List Int)} {B : List Int}
theorem ocheck_4 (h : 6 < A.length) : ocheck A B = 4 := if_pos h
theorem ocheck_4' {k : Nat} (h0 : ¬ 6 < A.length) (hk : k < A.length) (h : 6 < A[k].length) : ocheck A B = 4 := by
  unfold ocheck; rw [if_neg h0, if_pos]
  rw [List.all_eq_false]; exact ⟨A[k], List.getElem_mem hk, by simp; omega⟩
theorem ocheck_8 (h0 : ¬ 6 < A.length) (h1 : (A.all fun r => decide (r.length ≤ 6)) = true) (h : A.length = 0 ∨ (A.getD 0 []).length = 0 ∨ B.length ≠ A.length) : ocheck A B = 8 := by
  unfold ocheck; rw [if_neg h0, if_neg (by simp [h1]), if_pos h]
theorem ocheck_8' (h0 : ¬ 6 < A.length) (h1 : (A.all fun r => decide (r.length ≤ 6)) = true) (h2 : ¬ (A.length = 0 ∨ (A.getD 0 []).length = 0 ∨ B.length ≠ A.length))
    (h : (A.all fun r => orow (A.getD 0 []).length r) = false ∨ (B.all orgt) = false) : ocheck A B = 8 := by
  unfold ocheck; rw [if_neg h0, if_neg (by simp [h1]), if_neg h2, if_neg]
  intro h3
  rcases h with h | h
  · have : (A.all fun r => orow (A.getD 0 []).length r) = true := h3.1
    rw [h] at this; cases this
  · rw [h] at h3; cases h3.2
theorem ocheck_0 (h0 : ¬ 6 < A.length) (h1 : (A.all fun r => decide (r.length ≤ 6)) = true) (h2 : ¬ (A.length = 0 ∨ (A.getD 0 []).length = 0 ∨ B.length ≠ A.length))
    (h : (A.all fun r => orow (A.getD 0 []).length r) = true) (h' : (B.all orgt) = true) : ocheck A B = 0 := by
  unfold ocheck; rw [if_neg h0, if_neg (by simp [h1]), if_neg h2, if_pos ⟨h, h'⟩]
end
/-- What a valid system is. -/
structure Sys (A : List (List Int)) (B : List Int) (n : Nat) : Prop where
  rows : 1 ≤ A.length ∧ A.length ≤ 6
  right : B.length = A.length
  cols : 1 ≤ n ∧ n ≤ 6
  wide : ∀ i (h : i < A.length), A[i].length = n
  coef : ∀ i (h : i < A.length) k (h' : k < A[i].length), -9 ≤ A[i][k] ∧ A[i][k] ≤ 9
  side : ∀ i (h : i < B.length), -99 ≤ B[i] ∧ B[i] ≤ 99
theorem sys_of {A : List (List Int)} {B : List Int} (h : ocheck A B = 0) : Sys A B (A.getD 0 []).length := by
  unfold ocheck at h
  split at h
  · cases h
  split at h
  · cases h
  split at h
  · cases h
  split at h
  · rename_i h1 h2 h3 h4
    simp only [Bool.not_eq_false, List.all_eq_true, decide_eq_true_eq, Bool.and_eq_true, orow, orgt] at h2 h4
    have hg : (A.getD 0 []).length ≤ 6 := by
      cases A with
      | nil => simp
      | cons a A => exact h2 a (by simp)
    refine ⟨⟨by omega, by omega⟩, by omega, ⟨by omega, hg⟩, fun i hi => (h4.1 _ (List.getElem_mem hi)).1, fun i hi k hk => (h4.1 _ (List.getElem_mem hi)).2 _ (List.getElem_mem hk), fun i hi => h4.2 _ (List.getElem_mem hi)⟩
  · cases h
/-- A list of so many valid fractions. -/
def frB (x : List (Int × Int)) (m : Nat) : Bool := (x.all fun p => decide (fchk p.1 p.2 = 0)) && decide (x.length = m)
theorem frB_len {x : List (Int × Int)} {m : Nat} (h : ¬ x.length = m) : frB x m = false := by simp [frB, h]
theorem frB_bad {x : List (Int × Int)} {m k : Nat} (hk : k < x.length) (h : ¬ fchk x[k].1 x[k].2 = 0) : frB x m = false := by
  have : (x.all fun p => decide (fchk p.1 p.2 = 0)) = false := all_not (p := fun p => decide (fchk p.1 p.2 = 0)) hk (by simpa using h)
  unfold frB; rw [this]; rfl
theorem frB_ok {x : List (Int × Int)} {m : Nat} (h : (x.all fun p => decide (fchk p.1 p.2 = 0)) = true) : frB x m = decide (x.length = m) := by unfold frB; rw [h]; rfl
theorem frB_of {x : List (Int × Int)} {m : Nat} (h : frB x m = true) : x.length = m ∧ ∀ i (h : i < x.length), fchk x[i].1 x[i].2 = 0 := by
  simp only [frB, Bool.and_eq_true, decide_eq_true_eq, List.all_eq_true] at h
  exact ⟨h.2, fun i hi => h.1 _ (List.getElem_mem hi)⟩
/-- Numbers times fractions add up to a whole number, and nothing is out of range. -/
def osums (a : List Int) (x : List (Int × Int)) (r : Int) : Bool := decide ((gsum (dotT a x) a.length).e = 0) && decide ((gsum (dotT a x) a.length).n = r) && decide ((gsum (dotT a x) a.length).d = 1)
theorem osums_err {a : List Int} {x : List (Int × Int)} {r : Int} {k : Nat} (hk : k < a.length) (h : ¬ (gsum (dotT a x) (k + 1)).e = 0) : osums a x r = false := by
  have := gsum_stop h a.length (by omega)
  unfold osums; rw [this, decide_eq_false h]; rfl
theorem osums_ok {a : List Int} {x : List (Int × Int)} {r : Int} (h : (gsum (dotT a x) a.length).e = 0) : osums a x r = (decide ((gsum (dotT a x) a.length).n = r) && decide ((gsum (dotT a x) a.length).d = 1)) := by
  unfold osums; rw [decide_eq_true h]; rfl
/-- The first product is the first sum. -/
theorem dot_first {c xn xd : Int} (hc : -1000 ≤ c ∧ c ≤ 1000) (hx : fchk xn xd = 0) : fplus 0 1 c 1 xn xd = fmul c 1 xn xd := by
  have h1 := fchk_small hc.1 hc.2
  have hm : fmul c 1 xn xd = pack (Rat.divInt c 1 * Rat.divInt xn xd) := by rw [fmul_0 (fboth_of h1 hx), fmulV_pack h1 hx]
  by_cases hp : inr (Rat.divInt c 1 * Rat.divInt xn xd)
  · rw [pack_ok hp] at hm
    rw [fplus_0 (by rw [hm]), hm, fadd_0 (fboth_of fchk_01 (fchk_inr hp))]
    have : Rat.divInt 0 1 + Rat.divInt (Rat.divInt c 1 * Rat.divInt xn xd).num ((Rat.divInt c 1 * Rat.divInt xn xd).den : Int) = Rat.divInt c 1 * Rat.divInt xn xd := by
      have z : Rat.divInt 0 1 = 0 := by decide
      rw [Q_self, z]; grind
    rw [this, pack_ok hp]
  · rw [pack_no hp] at hm
    rw [fplus_1 (by rw [hm]; decide), hm]
/-- Whether a list is a solution. -/
def oacc (A : List (List Int)) (B : List Int) (x : List (Int × Int)) (k : Nat) : Bool := (List.range k).all fun i => osums (A.getD i []) x (B.getD i 0)
theorem oacc_succ {A : List (List Int)} {B : List Int} {x : List (Int × Int)} {k : Nat} (hA : k < A.length) (hB : k < B.length) (h : oacc A B x k = true) (hs : osums A[k] x B[k] = true) : oacc A B x (k + 1) = true := by
  unfold oacc at *
  rw [List.range_succ, List.all_append, h]
  simp only [List.all_cons, List.all_nil, getD_get hA, getD_get hB, hs]
  rfl
theorem oacc_not {A : List (List Int)} {B : List Int} {x : List (Int × Int)} {k n : Nat} (hk : k < n) (hA : k < A.length) (hB : k < B.length) (hs : osums A[k] x B[k] = false) : oacc A B x n = false := by
  unfold oacc
  rw [List.all_eq_false]
  refine ⟨k, List.mem_range.2 hk, ?_⟩
  simp only [getD_get hA, getD_get hB, hs]
  decide
def oaccept (A : List (List Int)) (B : List Int) (x : List (Int × Int)) : Bool × Int :=
  if ocheck A B ≠ 0 then (false, ocheck A B) else if frB x (A.getD 0 []).length = false then (false, 0) else (oacc A B x A.length, 0)
theorem oaccept_c {A : List (List Int)} {B : List Int} {x : List (Int × Int)} (h : ¬ ocheck A B = 0) : oaccept A B x = (false, ocheck A B) := if_pos h
theorem oaccept_f {A : List (List Int)} {B : List Int} {x : List (Int × Int)} (h : ocheck A B = 0) (h' : frB x (A.getD 0 []).length = false) : oaccept A B x = (false, 0) := by unfold oaccept; rw [if_neg (by simp [h]), if_pos h']
theorem oaccept_0 {A : List (List Int)} {B : List Int} {x : List (Int × Int)} (h : ocheck A B = 0) (h' : frB x (A.getD 0 []).length = true) : oaccept A B x = (oacc A B x A.length, 0) := by unfold oaccept; rw [if_neg (by simp [h]), if_neg (by rw [h']; decide)]
/-- A column. -/
def ocol (A : List (List Int)) (k : Nat) : List Int := A.map fun r => r.getD k 0
theorem ocol_len (A : List (List Int)) (k : Nat) : (ocol A k).length = A.length := by simp [ocol]
/-- Whether the columns add up to 0. -/
def oh0 (A : List (List Int)) (y : List (Int × Int)) (k : Nat) : Bool := (List.range k).all fun i => osums (ocol A i) y 0
theorem oh0_succ {A : List (List Int)} {y : List (Int × Int)} {k : Nat} (h : oh0 A y k = true) (hs : osums (ocol A k) y 0 = true) : oh0 A y (k + 1) = true := by
  unfold oh0 at *
  rw [List.range_succ, List.all_append, h]
  simp only [List.all_cons, List.all_nil, hs]
  rfl
theorem oh0_not {A : List (List Int)} {y : List (Int × Int)} {k n : Nat} (hk : k < n) (hs : osums (ocol A k) y 0 = false) : oh0 A y n = false := by
  unfold oh0
  rw [List.all_eq_false]
  refine ⟨k, List.mem_range.2 hk, ?_⟩
  simp only [hs]
  decide
def oholds (A : List (List Int)) (B : List Int) (y : List (Int × Int)) : Bool × Int :=
  if ocheck A B ≠ 0 then (false, ocheck A B) else if frB y A.length = false then (false, 0) else (oh0 A y (A.getD 0 []).length && osums B y 1, 0)
theorem oholds_c {A : List (List Int)} {B : List Int} {x : List (Int × Int)} (h : ¬ ocheck A B = 0) : oholds A B x = (false, ocheck A B) := if_pos h
theorem oholds_f {A : List (List Int)} {B : List Int} {x : List (Int × Int)} (h : ocheck A B = 0) (h' : frB x A.length = false) : oholds A B x = (false, 0) := by unfold oholds; rw [if_neg (by simp [h]), if_pos h']
theorem oholds_0 {A : List (List Int)} {B : List Int} {x : List (Int × Int)} (h : ocheck A B = 0) (h' : frB x A.length = true) : oholds A B x = (oh0 A x (A.getD 0 []).length && osums B x 1, 0) := by unfold oholds; rw [if_neg (by simp [h]), if_neg (by rw [h']; decide)]
/-- The turned system of a refutation. -/
def oturnA (A : List (List Int)) (B : List Int) : List (List Int) := (List.range (A.getD 0 []).length).map (ocol A) ++ [B]
def oturnB (A : List (List Int)) : List Int := List.replicate (A.getD 0 []).length 0 ++ [1]
theorem oturnA_lo {A : List (List Int)} {B : List Int} {i : Nat} (hi : i < (A.getD 0 []).length) : (oturnA A B).getD i [] = ocol A i := by
  unfold oturnA
  rw [List.getD_eq_getElem?_getD, List.getElem?_append_left (by rw [List.length_map, List.length_range]; exact hi), List.getElem?_map, List.getElem?_range hi]; rfl
theorem oturnA_hi {A : List (List Int)} {B : List Int} : (oturnA A B).getD (A.getD 0 []).length [] = B := by
  unfold oturnA
  rw [List.getD_eq_getElem?_getD, List.getElem?_append_right (by rw [List.length_map, List.length_range]; exact Nat.le_refl _), List.length_map, List.length_range, Nat.sub_self]; rfl
theorem oturnB_lo {A : List (List Int)} {i : Nat} (hi : i < (A.getD 0 []).length) : (oturnB A).getD i 0 = 0 := by
  unfold oturnB
  rw [List.getD_eq_getElem?_getD, List.getElem?_append_left (by rw [List.length_replicate]; exact hi), List.getElem?_replicate, if_pos hi]; rfl
theorem oturnB_hi {A : List (List Int)} : (oturnB A).getD (A.getD 0 []).length 0 = 1 := by
  unfold oturnB
  rw [List.getD_eq_getElem?_getD, List.getElem?_append_right (by rw [List.length_replicate]; exact Nat.le_refl _), List.length_replicate, Nat.sub_self]; rfl
theorem oturnA_len (A : List (List Int)) (B : List Int) : (oturnA A B).length = (A.getD 0 []).length + 1 := by simp [oturnA]
theorem oturnB_len (A : List (List Int)) : (oturnB A).length = (A.getD 0 []).length + 1 := by simp [oturnB]
theorem oholds_acc {A : List (List Int)} {B : List Int} {y : List (Int × Int)} : oacc (oturnA A B) (oturnB A) y (oturnA A B).length = (oh0 A y (A.getD 0 []).length && osums B y 1) := by
  unfold oacc oh0
  rw [oturnA_len, List.range_succ, List.all_append]
  have e : (List.range (A.getD 0 []).length).all (fun i => osums ((oturnA A B).getD i []) y ((oturnB A).getD i 0)) = (List.range (A.getD 0 []).length).all (fun i => osums (ocol A i) y 0) := by
    rw [Bool.eq_iff_iff, List.all_eq_true, List.all_eq_true]
    constructor
    · intro h i hi
      have := h i hi
      rw [oturnA_lo (List.mem_range.1 hi), oturnB_lo (List.mem_range.1 hi)] at this
      exact this
    · intro h i hi
      rw [oturnA_lo (List.mem_range.1 hi), oturnB_lo (List.mem_range.1 hi)]
      exact h i hi
  rw [e]
  congr 1
  rw [List.all_cons, List.all_nil, oturnA_hi, oturnB_hi, Bool.and_true]
end Go.Proofs.Ythlcmlngmcoknaa

/- What is proved here: what making a row of fractions gives, and storing one of them. Condition: at most 100,000 fractions. -/
namespace Go.Proofs.Ythlcmlngmcoknaa
open Go.RowKit

theorem Try.infoFrac : (Try.prog.info? 78).map (fun i => (i.zero, i.size, i.bytes)) = some (some (.agg #[.int .i64 0, .int .i64 0]), 2, 16) := by kernel_rfl
theorem fcs_zero : ∀ n, fcs (List.replicate n (0, 0)) = List.replicate (n * 2) (.int .i64 0)
  | 0 => rfl
  | n + 1 => by rw [List.replicate_succ, fcs_cons, fcs_zero n, show (n + 1) * 2 = n * 2 + 1 + 1 by omega, List.replicate_succ, List.replicate_succ]
theorem made_fracs (n : Nat) : madeCells (Value.agg #[.int .i64 0, .int .i64 0]).cells (n * 2) = (fcs (List.replicate n (0, 0))).toArray := by
  rw [fcs_zero]
  apply Array.ext
  · simp [size_madeCells]
  · intro i h1 h2
    have : i % 2 = 0 ∨ i % 2 = 1 := by omega
    rcases this with h | h <;> simp [madeCells, Value.cells, h]
theorem mk_fracs (n : Nat) (x : Int) (hx : x = n) (hn : n ≤ 100000) (w : World) : (Instr.makeSlice 28 (.int .i64 x) (.int .i64 x)).run Try.prog w = .ok (.slice (some ⟨w.heap.size, 0, none⟩) n n) (w.alloc (.cells (fcs (List.replicate n (0, 0))).toArray 78)) := by
  subst hx
  obtain ⟨i0, hi, hz0, hz1, hz2⟩ := info_parts Try.infoFrac
  have h := run_make w 28 78 i0 (.agg #[.int .i64 0, .int .i64 0]) Try.underlying28 hi hz0 .i64 .i64 (n : Int) (n : Int) (by omega) (by omega) (by rw [hz2]; omega) (by omega)
  rw [Int.toNat_natCast, hz1, made_fracs] at h
  exact h
theorem fcs_some (xs : List (Int × Int)) (i : Nat) (h : i < xs.length) : ∃ v1 v2, (fcs xs)[i * 2]? = some v1 ∧ (fcs xs)[i * 2 + 1]? = some v2 := ⟨_, _, (fcs_get xs i h).1, (fcs_get xs i h).2⟩
/-- Two cells of a row of fractions are stored: one fraction. -/
theorem fcs_set : ∀ (xs : List (Int × Int)) (k : Nat) (p : Int × Int), ((fcs xs).set (k * 2) (.int .i64 p.1)).set (k * 2 + 1) (.int .i64 p.2) = fcs (xs.set k p)
  | [], k, p => rfl
  | x :: xs, 0, p => rfl
  | x :: xs, k + 1, p => by
    rw [fcs_cons, show (k + 1) * 2 = k * 2 + 1 + 1 by omega, List.set_cons_succ, List.set_cons_succ, List.set_cons_succ, List.set_cons_succ, fcs_set xs k p, List.set_cons_succ, fcs_cons]
theorem fill_rows (rs : List (Int × Int)) (m N : Nat) (p : Int × Int) (h : rs.length = m) (hm : m < N) : (rs ++ List.replicate (N - m) (0, 0)).set m p = (rs ++ [p]) ++ List.replicate (N - (m + 1)) (0, 0) := by
  rw [List.set_append_right _ _ (by omega), h, Nat.sub_self, show N - m = N - (m + 1) + 1 by omega, List.replicate_succ, List.set_cons_zero, List.append_assoc]
  rfl
/-- A row that is made empty, with room for n. -/
theorem mk_fracs0 (n : Nat) (hn : n ≤ 100000) (w : World) : (Instr.makeSlice 28 (.int .i64 0) (.int .i64 n)).run Try.prog w = .ok (.slice (some ⟨w.heap.size, 0, none⟩) 0 n) (w.alloc (.cells (fcs (List.replicate n (0, 0))).toArray 78)) := by
  obtain ⟨i0, hi, hz0, hz1, hz2⟩ := info_parts Try.infoFrac
  have h := run_make w 28 78 i0 (.agg #[.int .i64 0, .int .i64 0]) Try.underlying28 hi hz0 .i64 .i64 (0 : Int) (n : Int) (by omega) (by omega) (by rw [hz2]; omega) (by omega)
  rw [Int.toNat_natCast, hz1, made_fracs] at h
  exact h
theorem owns_made (w : World) (n : Nat) (hn : n ≤ 100000) (T : TypeId) (B : Nat) (hB : B ≤ w.heap.size) : (w.alloc (.cells (fcs (List.replicate n (0, 0))).toArray T)).ownsRow B T 2 (.slice (some ⟨w.heap.size, 0, none⟩) 0 n) 0 (fcs []) :=
  ⟨rfl, .inr ⟨w.heap.size, n, (fcs (List.replicate n (0, 0))).toArray, rfl, hB, heap_alloc_new w _, Nat.zero_le _, by unfold maxLen; omega, by simp [fcs_len], by simp [fcs_nil]⟩⟩
theorem owns_base {w : World} {B B' : Nat} {T : TypeId} {size : Nat} {v : Value} {n : Nat} {cs : List Value} (h : w.ownsRow B T size v n cs) (hB : B' ≤ B) : w.ownsRow B' T size v n cs := by
  obtain ⟨hl, h2⟩ := h
  refine ⟨hl, ?_⟩
  rcases h2 with h2 | ⟨g, cap, cur, h3, hg, r⟩
  · exact .inl h2
  · exact .inr ⟨g, cap, cur, h3, by omega, r⟩
theorem owns_SF {w : World} {B : Nat} {T : TypeId} {v : Value} {xs : List (Int × Int)} (h : w.ownsRow B T 2 v xs.length (fcs xs)) : SF w v xs := by
  refine owns_sl h ?_
  obtain ⟨hl, h2⟩ := h
  rcases h2 with ⟨_, h2⟩ | ⟨g, cap, cur, _, _, _, h4, h5, _⟩
  · omega
  · unfold maxLen at h5; omega
/-- Rows of the call's own, and an error. -/
def rows_own (w : World) (r : List (Int × Int) × Int) (e : Ending) (w' : World) : Prop := ∃ u, e = .returned (.tuple #[u, .int .i64 r.2]) ∧ w'.ownsRow w.heap.size 78 2 u r.1.length (fcs r.1) ∧ Below w.heap.size w w'
def rows_post (w : World) (r : List (Int × Int) × Int) (e : Ending) (w' : World) : Prop := ∃ u, e = .returned (.tuple #[u, .int .i64 r.2]) ∧ SF w' u r.1 ∧ Below w.heap.size w w'
theorem rows_own_post {w : World} {r : List (Int × Int) × Int} {e : Ending} {w' : World} (h : rows_own w r e w') : rows_post w r e w' := by
  obtain ⟨u, h1, h2, h3⟩ := h
  exact ⟨u, h1, owns_SF h2, h3⟩
theorem owns_nil (w w0 : World) : w.ownsRow w0.heap.size 78 2 (.slice none 0 0) ([] : List (Int × Int)).length (fcs []) := World.ownsRow_nil _ _ _ _
end Go.Proofs.Ythlcmlngmcoknaa

/- What is proved here: the contracts of solve.within and solve.Check. Condition: a system whose lists can be read. -/
namespace Go.Proofs.Ythlcmlngmcoknaa
open Go.RowKit

/-- Whether a number is from -m to m. -/
def winB (a m : Int) : Bool := decide (-m ≤ a) && decide (a ≤ m)
theorem owithin_any (a m : Int) (w : World) (h1 : 0 ≤ m) (h2 : m ≤ 1000) :
    Calls Try.prog 72 #[.int .i64 a, .int .i64 m] w fun e w' => e = .returned (.bool (winB a m)) ∧ w = w' := by
  unfold winB
  by_cases h3 : -m ≤ a
  · have b1 : decide (-m ≤ a) = true := by simpa using h3
    rw [b1]
    go_enter Try.func72, Try.ntmps72
    go_wp2
    go_ret
    exact ⟨by simp, rfl⟩
  · have b1 : decide (-m ≤ a) = false := by simpa using h3
    rw [b1]
    go_enter Try.func72, Try.ntmps72
    go_wp2
    go_ret
    exact ⟨by simp, rfl⟩
set_option maxRecDepth 100000 in
set_option maxHeartbeats 4000000 in
theorem ocheck_any (A : List (List Int)) (B : List Int) (va vb : Value) (w : World) (hA : SS w va A) (hB : SI w vb B) :
    Calls Try.prog 23 #[.agg #[va, vb]] w fun e w' => e = .returned (.int .i64 (ocheck A B)) ∧ Below w.heap.size w w' := by
  have hA0 := Lib.hid hA
  have hB0 := Lib.hid hB
  obtain ⟨ada, capa, rfl, ha1, ha2, _⟩ := hA.open
  obtain ⟨adb, capb, rfl, hb1, hb2, _⟩ := hB.open
  clear hA hB
  by_cases h0 : 6 < A.length
  · have HV := Lib.hid (ocheck_4 (B := B) h0)
    go_enter Try.func23, Try.ntmps23
    have oS := Own.new w 25 [.slice ada A.length capa, .slice adb B.length capb]
    obtain ⟨rS, fS⟩ := oS.rules
    have zS := oS.lt
    go_wp2
    go_ret
    exact ⟨by rw [HV.out]; try rfl, ba1 _ _⟩
  have H0 := Lib.hid h0
  go_enter Try.func23, Try.ntmps23
  have oS := Own.new w 25 [.slice ada A.length capa, .slice adb B.length capb]
  have hy := ba1 w (.cells #[.slice ada A.length capa, .slice adb B.length capb] 25)
  have sA := Lib.hid (hA0.out.below hy)
  have sB := Lib.hid (hB0.out.below hy)
  clear hA0 hB0
  go_wp2_with fail
  generalize w.alloc (.cells #[.slice ada A.length capa, .slice adb B.length capb] 25) = y at *
  obtain ⟨rS, fS⟩ := oS.rules
  have zS := oS.lt
  go_wp2
  go_loop [18] (fun i => ∃ k : Nat, k ≤ A.length ∧ i = .int .i64 k ∧ Hid (((A.take k).all fun r => decide (r.length ≤ 6)) = true)) (fun i => A.length - (intOf i).toNat)
  case atStart => exact ⟨0, Nat.zero_le _, rfl, rfl⟩
  case round =>
    obtain ⟨k, hk, rfl, hv⟩ := hrel
    by_cases hlt : k < A.length
    · obtain ⟨_, _, e, _, _, H⟩ := sA.out.open
      cases e
      obtain ⟨b, off, ad', cap', rfl, c1, c2, c3, _⟩ := H.out k hlt
      clear H
      by_cases hz : 6 < A[k].length
      · have HV := Lib.hid (ocheck_4' (B := B) H0.out hlt hz)
        generalize A[k].length = m at *
        go_wp2
        go_ret
        exact ⟨by rw [HV.out]; try rfl, hy⟩
      · have HV := Lib.hid (all_take (p := fun r => decide (r.length ≤ 6)) hlt hv.out (by simp; omega))
        generalize A[k].length = m at *
        go_wp2
        go_round
        case rel => exact ⟨k + 1, by omega, by go_num, HV⟩
        case measure => simp [intOf]; try omega
    · have H1 := Lib.hid (all_end hlt hv.out)
      clear hv
      by_cases hz0 : A.length = 0
      · have HV := Lib.hid (ocheck_8 (B := B) H0.out H1.out (.inl hz0))
        have q1 : ((A.length : Int) == 0) = true := by rw [hz0]; rfl
        clear hz0
        go_wp2
        go_ret
        exact ⟨by rw [HV.out]; try rfl, hy⟩
      have q1 : ((A.length : Int) == 0) = false := by simpa using hz0
      have l1 : 0 < A.length := by omega
      obtain ⟨_, _, e, _, _, H⟩ := sA.out.open
      cases e
      obtain ⟨b, off, ad0, cap0, rfl, d1, d2, d3, _⟩ := H.out 0 l1
      rw [Nat.add_zero] at d1
      have H := Lib.hid H
      have G0 := Lib.hid (getD_get (d := []) l1)
      by_cases hz2 : A[0].length = 0
      · have HV := Lib.hid (ocheck_8 (B := B) H0.out H1.out (.inr (.inl (by rw [G0.out]; exact hz2))))
        have q3 : ((A[0].length : Int) == 0) = true := by rw [hz2]; rfl
        clear hz2 hz0
        generalize A[0].length = m at *
        go_wp2
        go_ret
        exact ⟨by rw [HV.out]; try rfl, hy⟩
      have q3 : ((A[0].length : Int) == 0) = false := by simpa using hz2
      by_cases hz1 : B.length ≠ A.length
      · have HV := Lib.hid (ocheck_8 H0.out H1.out (.inr (.inr hz1)))
        have q2 : ((B.length : Int) != (A.length : Int)) = true := by simp; omega
        clear hz1 hz2 hz0
        generalize A[0].length = m at *
        go_wp2
        go_ret
        exact ⟨by rw [HV.out]; try rfl, hy⟩
      have q2 : ((B.length : Int) != (A.length : Int)) = false := by simp; omega
      have H2 : Hid (¬ (A.length = 0 ∨ (A.getD 0 []).length = 0 ∨ B.length ≠ A.length)) := by
        show ¬ _
        rw [G0.out]; omega
      have G1 : Hid ((A.getD 0 []).length = A[0].length) := by show _ = _; rw [G0.out]
      clear hz2 hz1 hz0 G0
      generalize A[0].length = n at *
      go_wp2
      go_loop [50] (fun i => ∃ k : Nat, k ≤ A.length ∧ i = .int .i64 k ∧ Hid (((A.take k).all fun r => orow n r) = true)) (fun i => A.length - (intOf i).toNat)
      case atStart => exact ⟨0, Nat.zero_le _, rfl, rfl⟩
      case round =>
        obtain ⟨k, hk, rfl, hv⟩ := hrel
        by_cases hlt : k < A.length
        · obtain ⟨b', off', ad', cap', e, c1, c2, c3, s1⟩ := H.out.out k hlt
          cases e
          have X8 := Lib.hid (fun h => ocheck_8' H0.out H1.out H2.out (.inl h))
          have XT := Lib.hid (fun h => all_take (p := fun r => orow n r) hlt hv.out h)
          have XN := Lib.hid (fun h => all_not (p := fun r => orow n r) hlt h)
          by_cases hw : A[k].length = n
          case neg =>
            have HV := Lib.hid (X8.out (by rw [G1.out]; exact XN.out (by simp [orow, hw])))
            have q5 : ((A[k].length : Int) != (n : Int)) = true := by simp; omega
            clear hw X8 XT XN s1
            generalize A[k].length = m at *
            go_wp2
            go_ret
            exact ⟨by rw [HV.out]; try rfl, hy⟩
          have q5 : ((A[k].length : Int) != (n : Int)) = false := by simp; omega
          have HW := Lib.hid hw
          have S1 := Lib.hid s1
          clear hw s1
          generalize A[k] = row at *
          go_wp2
          go_loop [64] (fun i => ∃ j : Nat, j ≤ row.length ∧ i = .int .i64 j ∧ Hid (((row.take j).all fun a => decide (-9 ≤ a) && decide (a ≤ 9)) = true)) (fun i => row.length - (intOf i).toNat)
          case atStart => exact ⟨0, Nat.zero_le _, rfl, rfl⟩
          case round =>
            obtain ⟨j, hj, rfl, hr⟩ := hrel
            by_cases hjl : j < row.length
            · obtain ⟨_, _, e, _, _, HR⟩ := S1.out.open
              cases e
              obtain ⟨b3, off3, rfl, c5⟩ := HR.out j hjl
              clear HR
              have RT := Lib.hid (fun h => all_take (p := fun a => decide (-9 ≤ a) && decide (a ≤ 9)) hjl hr.out h)
              have RN := Lib.hid (fun h => all_not (p := fun a => decide (-9 ≤ a) && decide (a ≤ 9)) hjl h)
              generalize row[j] = aj at *
              by_cases ha : winB aj 9 = true
              case neg =>
                have ha' : winB aj 9 = false := by simpa using ha
                have HV := Lib.hid (X8.out (by rw [G1.out]; exact XN.out (by unfold orow; rw [RN.out ha']; simp)))
                have HA := Lib.hid ha'
                clear ha ha' X8 XT XN RT RN
                go_wp2_with fail
                refine (owithin_any aj 9 _ (by decide) (by decide)).mono ?_
                rintro e _ ⟨rfl, rfl⟩
                rw [HA.out]
                go_wp2
                go_ret
                exact ⟨by rw [HV.out]; try rfl, hy⟩
              have HA := Lib.hid ha
              have HV := Lib.hid (RT.out ha)
              clear ha X8 XT XN RT RN
              go_wp2_with fail
              refine (owithin_any aj 9 _ (by decide) (by decide)).mono ?_
              rintro e _ ⟨rfl, rfl⟩
              rw [HA.out]
              go_wp2
              go_round
              case rel => exact ⟨j + 1, by omega, by go_num, HV⟩
              case measure => simp [intOf]; try omega
            · have HV := Lib.hid (XT.out (by unfold orow; rw [all_end hjl hr.out, HW.out]; simp))
              clear X8 XT XN
              go_wp2
              go_round
              case rel => exact ⟨k + 1, by omega, by go_num, HV⟩
              case measure => simp [intOf]; try omega
        · have HA := Lib.hid (all_end hlt hv.out)
          clear hv
          go_wp2
          go_loop [76] (fun i => ∃ j : Nat, j ≤ B.length ∧ i = .int .i64 j ∧ Hid (((B.take j).all orgt) = true)) (fun i => B.length - (intOf i).toNat)
          case atStart => exact ⟨0, Nat.zero_le _, rfl, rfl⟩
          case round =>
            obtain ⟨j, hj, rfl, hr⟩ := hrel
            by_cases hjl : j < B.length
            · obtain ⟨_, _, e, _, _, HR⟩ := sB.out.open
              cases e
              obtain ⟨b3, off3, rfl, c5⟩ := HR.out j hjl
              clear HR
              have RT := Lib.hid (fun h => all_take (p := orgt) hjl hr.out h)
              have RN := Lib.hid (fun h => ocheck_8' H0.out H1.out H2.out (.inr (all_not (p := orgt) hjl h)))
              generalize B[j] = bj at *
              by_cases ha : winB bj 99 = true
              case neg =>
                have ha' : winB bj 99 = false := by simpa using ha
                have HV := Lib.hid (RN.out ha')
                have HA := Lib.hid ha'
                clear ha ha' RT RN
                go_wp2_with fail
                refine (owithin_any bj 99 _ (by decide) (by decide)).mono ?_
                rintro e _ ⟨rfl, rfl⟩
                rw [HA.out]
                go_wp2
                go_ret
                exact ⟨by rw [HV.out]; try rfl, hy⟩
              have HB := Lib.hid ha
              have HV := Lib.hid (RT.out ha)
              clear ha RT RN
              go_wp2_with fail
              refine (owithin_any bj 99 _ (by decide) (by decide)).mono ?_
              rintro e _ ⟨rfl, rfl⟩
              rw [HB.out]
              go_wp2
              go_round
              case rel => exact ⟨j + 1, by omega, by go_num, HV⟩
              case measure => simp [intOf]; try omega
            · have HV := Lib.hid (ocheck_0 H0.out H1.out H2.out (by rw [G1.out]; exact HA.out) (all_end hjl hr.out))
              go_wp2
              go_ret
              exact ⟨by rw [HV.out]; try rfl, hy⟩
end Go.Proofs.Ythlcmlngmcoknaa

/- What is proved here: the contract of a comparison of two lists of fractions. Condition: two slices of fractions. -/
namespace Go.Proofs.Ythlcmlngmcoknaa
open Go.RowKit

theorem take_eq {xs ys : List (Int × Int)} {k : Nat} (h1 : k < xs.length) (h2 : k < ys.length) (h : xs.take k = ys.take k) (e1 : xs[k].1 = ys[k].1) (e2 : xs[k].2 = ys[k].2) : xs.take (k + 1) = ys.take (k + 1) := by
  rw [List.take_succ_eq_append_getElem h1, List.take_succ_eq_append_getElem h2, h]
  rw [Prod.ext e1 e2]
theorem take_ne {xs ys : List (Int × Int)} {k : Nat} (h1 : k < xs.length) (h2 : k < ys.length) (e : ¬ (xs[k].1 = ys[k].1 ∧ xs[k].2 = ys[k].2)) : decide (xs = ys) = false := by
  refine decide_eq_false fun h => e ?_
  subst h
  exact ⟨rfl, rfl⟩
set_option maxRecDepth 100000 in
set_option maxHeartbeats 4000000 in
theorem rsame_any (xs ys : List (Int × Int)) (u v : Value) (w : World) (hs : SF w u xs) (ht : SF w v ys) :
    Calls Try.prog 15 #[u, v] w fun e w' => e = .returned (.bool (decide (xs = ys))) ∧ Below w.heap.size w w' := by
  have hs0 := Lib.hid hs
  have ht0 := Lib.hid ht
  obtain ⟨ad, cap, rfl, h1, h2, _⟩ := hs.open
  obtain ⟨ad', cap', rfl, h1', h2', _⟩ := ht.open
  clear hs ht
  by_cases hl : xs.length = ys.length
  case neg =>
    have b1 : ((xs.length : Int) != (ys.length : Int)) = true := by simp; omega
    have HV : Hid (decide (xs = ys) = false) := decide_eq_false fun h => hl (by rw [h])
    clear hl
    go_enter Try.func15, Try.ntmps15
    go_wp2
    go_ret
    exact ⟨by rw [HV.out]; try rfl, Below.refl _ _⟩
  have b1 : ((xs.length : Int) != (ys.length : Int)) = false := by simp; omega
  have HL := Lib.hid hl
  have hl' : ys.length ≤ xs.length := by omega
  have hl'' : xs.length ≤ ys.length := by omega
  clear hl
  go_enter Try.func15, Try.ntmps15
  go_wp2
  go_loopw [5] (fun i wr => ∃ k : Nat, k ≤ xs.length ∧ i = .int .i64 k ∧ Hid (xs.take k = ys.take k) ∧ Below w.heap.size w wr) (fun i _ => xs.length - (intOf i).toNat)
  case atStart => exact ⟨0, Nat.zero_le _, rfl, rfl, Below.refl _ _⟩
  case round =>
    obtain ⟨k, hk, rfl, hv, hB⟩ := hrel
    by_cases hlt : k < xs.length
    · have hlt' : k < ys.length := by omega
      obtain ⟨_, _, e, _, _, H⟩ := (hs0.out.below hB).open
      cases e
      obtain ⟨b, off, rfl, c1, c2⟩ := H.out k hlt
      obtain ⟨_, _, e, _, _, H'⟩ := (ht0.out.below hB).open
      cases e
      obtain ⟨b', off', rfl, c1', c2'⟩ := H'.out k hlt'
      clear H H'
      have TE := Lib.hid (take_eq hlt hlt' hv.out)
      have TN := Lib.hid (take_ne hlt hlt')
      generalize xs[k].1 = n at *
      generalize xs[k].2 = d at *
      generalize ys[k].1 = n' at *
      generalize ys[k].2 = d' at *
      by_cases e1 : n = n'
      · by_cases e2 : d = d'
        · have HV := Lib.hid (TE.out e1 e2)
          subst e1 e2
          clear TE TN
          go_wp2
          go_quiet (fail)
          go_wp2
          go_roundw
          case rel => exact ⟨k + 1, by omega, by go_num, HV, bd hB _⟩
          case measure => simp [intOf]; try omega
        · have HV := Lib.hid (TN.out fun h => e2 h.2)
          have q2 : (d == d') = false := by simpa using e2
          subst e1
          clear TE TN e2
          go_wp2
          go_quiet (fail)
          go_wp2
          go_ret
          exact ⟨by rw [HV.out]; try rfl, bd hB _⟩
      · have HV := Lib.hid (TN.out fun h => e1 h.1)
        have q1 : (n == n') = false := by simpa using e1
        clear TE TN e1
        go_wp2
        go_quiet (fail)
        go_wp2
        go_ret
        exact ⟨by rw [HV.out]; try rfl, bd hB _⟩
    · have HV : Hid (decide (xs = ys) = true) := by
        have := hv.out
        have hl := HL.out
        rw [List.take_of_length_le (by omega), List.take_of_length_le (by omega)] at this
        exact decide_eq_true this
      go_wp2
      go_ret
      exact ⟨by rw [HV.out]; try rfl, hB⟩
end Go.Proofs.Ythlcmlngmcoknaa
