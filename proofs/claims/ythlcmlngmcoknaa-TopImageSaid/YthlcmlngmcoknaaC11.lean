/- What is proved here: contracts of functions and plain facts, several texts in one; each one says ahead what it proves, and its conditions. -/
import Derived.Test.YthlcmlngmcoknaaC05
import Derived.Test.YthlcmlngmcoknaaC10
import Derived.Test.YthlcmlngmcoknaaC02
import Derived.Test.YthlcmlngmcoknaaC06
import Derived.Test.YthlcmlngmcoknaaC01
import Derived.Test.YthlcmlngmcoknaaC04
/- What is proved here: sums of products of fractions, and lists of such sums, are the rational ones where no error comes. No program in sight. Condition: as each theorem says. -/
namespace Go.Proofs.Ythlcmlngmcoknaa
open Go.RowKit

/-- A fraction as a rational number. -/
def qq (p : Int × Int) : Rat := Rat.divInt p.1 p.2
/-- A rational number as a fraction. -/
def up (x : Rat) : Int × Int := (x.num, (x.den : Int))
def uf (x : Rat) : FR := ⟨x.num, (x.den : Int), 0⟩
theorem qq_up (x : Rat) : qq (up x) = x := Q_self x
theorem up_qq {p : Int × Int} (h : fchk p.1 p.2 = 0) : up (qq p) = p := by obtain ⟨h1, h2, _⟩ := Q_ok h; exact Prod.ext h1 h2
theorem up_chk {x : Rat} (h : inr x) : fchk (up x).1 (up x).2 = 0 := fchk_inr h
theorem qq_inr {p : Int × Int} (h : fchk p.1 p.2 = 0) : inr (qq p) := (Q_ok h).2.2
theorem qq_int (n : Int) : qq (n, 1) = (n : Rat) := by unfold qq; rw [Rat.divInt_eq_div]; grind
theorem qq_00 : qq (0, 0) = 0 := by unfold qq; simp
theorem pack_val {x : Rat} (h : (pack x).e = 0) : inr x ∧ pack x = uf x := ⟨pack_e.1 h, pack_ok (pack_e.1 h)⟩
theorem fmul_qq {a b : Int × Int} (h1 : fchk a.1 a.2 = 0) (h2 : fchk b.1 b.2 = 0) : fmul a.1 a.2 b.1 b.2 = pack (qq a * qq b) := by rw [fmul_0 (fboth_of h1 h2), fmulV_pack h1 h2]; rfl
theorem fadd_qq {a b : Int × Int} (h1 : fchk a.1 a.2 = 0) (h2 : fchk b.1 b.2 = 0) : fadd a.1 a.2 b.1 b.2 = pack (qq a + qq b) := by rw [fadd_0 (fboth_of h1 h2)]; rfl
theorem fsub_qq {a b : Int × Int} (h1 : fchk a.1 a.2 = 0) (h2 : fchk b.1 b.2 = 0) : fsub a.1 a.2 b.1 b.2 = pack (qq a - qq b) := by rw [fsub_0 (fboth_of h1 h2)]; rfl
theorem fplus_go {s : Rat} {a b : Int × Int} (hs : inr s) (h1 : fchk a.1 a.2 = 0) (h2 : fchk b.1 b.2 = 0) (hp : inr (qq a * qq b)) (ht : inr (s + qq a * qq b)) :
    fplus (uf s).n (uf s).d a.1 a.2 b.1 b.2 = uf (s + qq a * qq b) := by
  have hm := fmul_qq h1 h2
  rw [pack_ok hp] at hm
  rw [fplus_0 (by rw [hm]), hm]
  have := fadd_qq (a := up s) (b := up (qq a * qq b)) (up_chk hs) (up_chk hp)
  rw [qq_up, qq_up, pack_ok ht] at this
  exact this
theorem fplus_val {s : Rat} {a b : Int × Int} (hs : inr s) (h1 : fchk a.1 a.2 = 0) (h2 : fchk b.1 b.2 = 0) (he : (fplus (uf s).n (uf s).d a.1 a.2 b.1 b.2).e = 0) :
    inr (s + qq a * qq b) ∧ fplus (uf s).n (uf s).d a.1 a.2 b.1 b.2 = uf (s + qq a * qq b) := by
  have hm := fmul_qq h1 h2
  by_cases hp : inr (qq a * qq b)
  · by_cases ht : inr (s + qq a * qq b)
    · exact ⟨ht, fplus_go hs h1 h2 hp ht⟩
    · exfalso
      rw [pack_ok hp] at hm
      rw [fplus_0 (by rw [hm]), hm] at he
      have := fadd_qq (a := up s) (b := up (qq a * qq b)) (up_chk hs) (up_chk hp)
      rw [qq_up, qq_up, pack_no ht] at this
      have he' : (fadd (up s).1 (up s).2 (up (qq a * qq b)).1 (up (qq a * qq b)).2).e = 0 := he
      rw [this] at he'
      cases he'
  · exfalso
    rw [pack_no hp] at hm
    rw [fplus_1 (by rw [hm]; decide), hm] at he
    cases he
/-- What a sum of products adds up, as a rational number. -/
def tq (t : Nat → (Int × Int) × (Int × Int)) (j : Nat) : Rat := qq (t j).1 * qq (t j).2
/-- The fractions of a sum of products are valid. -/
def tval (t : Nat → (Int × Int) × (Int × Int)) (k : Nat) : Prop := ∀ j, j < k → fchk (t j).1.1 (t j).1.2 = 0 ∧ fchk (t j).2.1 (t j).2.2 = 0
theorem inr_0 : inr 0 := by decide
theorem gsum_go {t : Nat → (Int × Int) × (Int × Int)} : ∀ k, tval t k → (∀ j, j < k → inr (tq t j)) → (∀ j, j ≤ k → inr (sm (tq t) j)) → gsum t k = uf (sm (tq t) k)
  | 0, _, _, _ => rfl
  | k + 1, hv, hp, hs => by
    have ih := gsum_go k (fun j hj => hv j (by omega)) (fun j hj => hp j (by omega)) (fun j hj => hs j (by omega))
    obtain ⟨h1, h2⟩ := hv k (by omega)
    rw [gsum_succ (by rw [ih]; rfl), ih, sm_succ]
    exact fplus_go (hs k (by omega)) h1 h2 (hp k (by omega)) (by have := hs (k + 1) (by omega); rw [sm_succ] at this; exact this)
theorem gsum_val {t : Nat → (Int × Int) × (Int × Int)} : ∀ k, tval t k → (gsum t k).e = 0 → inr (sm (tq t) k) ∧ gsum t k = uf (sm (tq t) k)
  | 0, _, _ => ⟨inr_0, rfl⟩
  | k + 1, hv, he => by
    have he' : (gsum t k).e = 0 := by
      apply Classical.byContradiction
      intro h
      rw [gsum_stop h (k + 1) (by omega)] at he
      exact h he
    obtain ⟨i1, i2⟩ := gsum_val k (fun j hj => hv j (by omega)) he'
    obtain ⟨h1, h2⟩ := hv k (by omega)
    rw [gsum_succ he', i2] at he ⊢
    rw [sm_succ]
    exact fplus_val i1 h1 h2 he
theorem sm_more {f : Nat → Rat} {n : Nat} : ∀ N, n ≤ N → (∀ j, n ≤ j → f j = 0) → sm f N = sm f n
  | 0, h, _ => by obtain rfl : n = 0 := by omega
                  rfl
  | N + 1, h, hz => by
    rcases Nat.lt_or_ge n (N + 1) with h1 | h1
    · rw [sm_succ, sm_more N (by omega) hz, hz N (by omega)]; grind
    · obtain rfl : n = N + 1 := by omega
      rfl
/-- The numbers of a list of rows without an error. -/
theorem rows_each {f : Nat → FR} : ∀ m, (rowsOf f m).2 = 0 → ∀ i, i < m → (f i).e = 0 ∧ (rowsOf f m).1[i]? = some ((f i).n, (f i).d)
  | 0, _, i, hi => by omega
  | m + 1, h, i, hi => by
    by_cases h1 : (rowsOf f m).2 = 0
    · by_cases h2 : (f m).e = 0
      · rw [rows_succ h1 h2]
        have hl := rows_len m h1
        rcases Nat.lt_or_ge i m with h3 | h3
        · obtain ⟨h4, h5⟩ := rows_each m h1 i h3
          exact ⟨h4, by rw [List.getElem?_append_left (by omega)]; exact h5⟩
        · obtain rfl : i = m := by omega
          exact ⟨h2, by rw [List.getElem?_append_right (by omega), hl]; simp⟩
      · rw [rows_err h1 h2] at h; exact absurd h h2
    · rw [rows_stop h1 (m + 1) (by omega)] at h; exact absurd h h1
/-- A list of rows has no error where none of them has one. -/
theorem rows_go {f : Nat → FR} : ∀ m, (∀ i, i < m → (f i).e = 0) → (rowsOf f m).2 = 0
  | 0, _ => rfl
  | m + 1, h => by rw [rows_succ (rows_go m fun i hi => h i (by omega)) (h m (by omega))]
theorem rows_list {f : Nat → FR} {g : Nat → Rat} {m : Nat} (h : ∀ i, i < m → f i = uf (g i)) : rowsOf f m = ((List.range m).map fun i => up (g i), 0) := by
  have h0 : (rowsOf f m).2 = 0 := rows_go (f := f) m fun i hi => by rw [h i hi]; rfl
  have hl := rows_len m h0
  refine Prod.ext (List.ext_getElem? fun i => ?_) h0
  rcases Nat.lt_or_ge i m with hi | hi
  · rw [(rows_each m h0 i hi).2, h i hi, List.getElem?_map, List.getElem?_range hi]; rfl
  · rw [List.getElem?_eq_none (by omega), List.getElem?_eq_none (by simp; omega)]
theorem inr_frac {a b : Int} (hb : 0 < b) (h1 : b ≤ 1000000000000000000) (h2 : -1000000000000000000 ≤ a) (h3 : a ≤ 1000000000000000000) : inr ((a : Rat) / (b : Rat)) := by
  rw [← Rat.divInt_eq_div]
  have := (fmk_ok (num := a) (den := b) (by omega) h1 h2 h3).1
  rw [fmk_pack (by omega)] at this
  exact pack_e.1 this
theorem fmk_uf {a b : Int} (hb : 0 < b) (h1 : b ≤ 1000000000000000000) (h2 : -1000000000000000000 ≤ a) (h3 : a ≤ 1000000000000000000) : fmk a b = uf ((a : Rat) / (b : Rat)) := by
  have := inr_frac hb h1 h2 h3
  rw [fmk_pack (by omega), ← Rat.divInt_eq_div] at *
  exact pack_ok this
theorem sm_div (u : Nat → Int) (D : Int) : ∀ k, sm (fun j => ((u j : Int) : Rat) / (D : Rat)) k = ((si u k : Int) : Rat) / (D : Rat)
  | 0 => by rw [sm_zero]; show (0 : Rat) = ((0 : Int) : Rat) / _; rw [Rat.div_def]; show (0 : Rat) = 0 * _; grind
  | k + 1 => by rw [sm_succ, sm_div u D k, si_succ, Rat.intCast_add, Rat.div_def, Rat.div_def, Rat.div_def]; grind
theorem mul_div' (a n D : Int) : (a : Rat) * ((n : Rat) / (D : Rat)) = ((a * n : Int) : Rat) / (D : Rat) := by
  rw [Rat.intCast_mul, Rat.div_def, Rat.div_def]; grind
end Go.Proofs.Ythlcmlngmcoknaa

/- What is proved here: lists of visibilities, their mean and their groups in plain Lean. No program in sight. -/
namespace Go.Proofs.Ythlcmlngmcoknaa
open Go.RowKit

/-- A visibility: the baseline, the value, the weight. -/
structure Vs where
  i : Int
  j : Int
  re : Int
  im : Int
  den : Int
  n : Int
deriving DecidableEq
def Vs.cs (v : Vs) : List Value := [.int .i64 v.i, .int .i64 v.j, .int .i64 v.re, .int .i64 v.im, .int .i64 v.den, .int .i64 v.n]
/-- The visibility as a value. -/
def Vs.val (v : Vs) : Value := .agg #[.int .i64 v.i, .int .i64 v.j, .int .i64 v.re, .int .i64 v.im, .int .i64 v.den, .int .i64 v.n]
def vcs (l : List Vs) : List Value := l.flatMap Vs.cs
theorem vcs_nil : vcs [] = [] := rfl
theorem vcs_append (xs ys : List Vs) : vcs (xs ++ ys) = vcs xs ++ vcs ys := by simp [vcs]
theorem vcs_cons (v : Vs) (xs : List Vs) : vcs (v :: xs) = v.cs ++ vcs xs := by simp [vcs]
theorem vcs_len (xs : List Vs) : (vcs xs).length = xs.length * 6 := by
  induction xs with
  | nil => rfl
  | cons v xs ih => rw [vcs_cons, List.length_append, ih]; simp [Vs.cs]; omega
theorem vcs_get : ∀ (xs : List Vs) (i : Nat) (h : i < xs.length) (k : Nat), k < 6 → (vcs xs)[i * 6 + k]? = (xs[i]).cs[k]?
  | v :: xs, 0, _, k, hk => by
    rw [vcs_cons, List.getElem?_append_left (by simp [Vs.cs]; omega)]; simp
  | v :: xs, i + 1, h, k, hk => by
    have hl : i < xs.length := by simpa using h
    have ih := vcs_get xs i hl k hk
    rw [vcs_cons, List.getElem?_append_right (by simp [Vs.cs]; omega)]
    have e : (i + 1) * 6 + k - v.cs.length = i * 6 + k := by simp [Vs.cs]; omega
    rw [e, ih]; rfl
def SV (w : World) (v : Value) (xs : List Vs) : Prop := Sl w v xs.length (vcs xs)
theorem SV.below {w w' : World} {v : Value} {xs : List Vs} (h : SV w v xs) (hb : Below w.heap.size w w') : SV w' v xs := Sl.below h hb
theorem SV.grow {w : World} {v : Value} {xs : List Vs} (h : SV w v xs) (e : World) : SV (grow w e) v xs := Sl.grow h e
/-- All numbers are 64-bit ones. -/
def VI (l : List Vs) : Prop := ∀ v ∈ l, i64 v.i ∧ i64 v.j ∧ i64 v.re ∧ i64 v.im ∧ i64 v.den ∧ i64 v.n
theorem VI.get {l : List Vs} (h : VI l) {k : Nat} (hk : k < l.length) : i64 l[k].i ∧ i64 l[k].j ∧ i64 l[k].re ∧ i64 l[k].im ∧ i64 l[k].den ∧ i64 l[k].n := h _ (List.getElem_mem hk)
theorem SV.open {w : World} {v : Value} {xs : List Vs} (h : SV w v xs) : ∃ ad cap, v = .slice ad xs.length cap ∧ xs.length ≤ cap ∧ xs.length ≤ 9223372036854775807 ∧
    Hid (∀ i (h : i < xs.length), ∃ b off, ad = some ⟨b, off, none⟩ ∧ w.cell? ⟨b, off + i * 6, none⟩ = some (.int .i64 xs[i].i) ∧ w.cell? ⟨b, off + i * 6 + 1, none⟩ = some (.int .i64 xs[i].j) ∧ w.cell? ⟨b, off + i * 6 + 2, none⟩ = some (.int .i64 xs[i].re) ∧ w.cell? ⟨b, off + i * 6 + 3, none⟩ = some (.int .i64 xs[i].im) ∧ w.cell? ⟨b, off + i * 6 + 4, none⟩ = some (.int .i64 xs[i].den) ∧ w.cell? ⟨b, off + i * 6 + 5, none⟩ = some (.int .i64 xs[i].n)) := by
  obtain ⟨ad, cap, h1, h2, h3, h4⟩ := h
  refine ⟨ad, cap, h1, h2, h3, fun i hi => ?_⟩
  have g := vcs_get xs i hi
  obtain ⟨b, off, e, c0⟩ := h4 (i * 6 + 0) _ (by rw [g 0 (by decide)]; rfl)
  refine ⟨b, off, e, c0, ?_, ?_, ?_, ?_, ?_⟩
  all_goals subst e
  · obtain ⟨_, _, e, c⟩ := h4 (i * 6 + 1) _ (by rw [g 1 (by decide)]; rfl); cases e; exact c
  · obtain ⟨_, _, e, c⟩ := h4 (i * 6 + 2) _ (by rw [g 2 (by decide)]; rfl); cases e; exact c
  · obtain ⟨_, _, e, c⟩ := h4 (i * 6 + 3) _ (by rw [g 3 (by decide)]; rfl); cases e; exact c
  · obtain ⟨_, _, e, c⟩ := h4 (i * 6 + 4) _ (by rw [g 4 (by decide)]; rfl); cases e; exact c
  · obtain ⟨_, _, e, c⟩ := h4 (i * 6 + 5) _ (by rw [g 5 (by decide)]; rfl); cases e; exact c
theorem sv_nil (w : World) : SV w (.slice none 0 0) [] := ⟨none, 0, rfl, Nat.le_refl _, by decide, fun i x hx => by simp [vcs] at hx⟩

/-- The error of a visibility. -/
def Vs.chk (v : Vs) : Int := vchk v.i v.j v.re v.im v.den v.n
theorem Vs.chk_cases (v : Vs) : v.chk = 0 ∨ v.chk = 8 := by unfold Vs.chk vchk; split <;> simp
theorem Vs.chk_ok {v : Vs} (h : v.chk = 0) : 0 ≤ v.i ∧ v.i < v.j ∧ v.j < 8 ∧ cokB v.re v.im v.den = true ∧ 0 ≤ v.n ∧ v.n ≤ 1000000 := by
  unfold Vs.chk vchk vokB at h
  split at h
  · rename_i h'
    simp only [Bool.and_eq_true, decide_eq_true_eq] at h'
    exact ⟨h'.1.1.1.1.1, h'.1.1.1.1.2, h'.1.1.1.2, h'.1.1.2, h'.1.2, h'.2⟩
  · cases h
def vall (l : List Vs) : Bool := l.all fun v => v.chk == 0
theorem vall_get {l : List Vs} (h : vall l = true) {k : Nat} (hk : k < l.length) : l[k].chk = 0 := by
  unfold vall at h; rw [List.all_eq_true] at h; simpa using h _ (List.getElem_mem hk)
theorem vall_mem {l : List Vs} (h : vall l = true) {v : Vs} (hv : v ∈ l) : v.chk = 0 := by
  unfold vall at h; rw [List.all_eq_true] at h; simpa using h _ hv
theorem vall_take {l : List Vs} {k : Nat} (hk : k < l.length) (h : vall (l.take k) = true) (hz : l[k].chk = 0) : vall (l.take (k + 1)) = true := by
  unfold vall at *
  rw [List.take_succ_eq_append_getElem hk, List.all_append, h]; simp [hz]
theorem vall_not {l : List Vs} {k : Nat} (hk : k < l.length) (hz : ¬ l[k].chk = 0) : vall l = false := by
  unfold vall
  rw [List.all_eq_false]
  exact ⟨l[k], List.getElem_mem hk, by simpa using hz⟩
theorem vall_end {l : List Vs} {k : Nat} (hk : ¬ k < l.length) (h : vall (l.take k) = true) : vall l = true := by rwa [List.take_of_length_le (by omega)] at h
/-- The error of a list. -/
def vlist (l : List Vs) : Int := if 200 < l.length then 4 else if vall l = false then 8 else 0
theorem vlist_0 {l : List Vs} (h : vlist l = 0) : l.length ≤ 200 ∧ vall l = true := by
  unfold vlist at h
  split at h
  · cases h
  · split at h
    · cases h
    · rename_i h1 h2; exact ⟨by omega, by simpa using h2⟩
/-- The sum of the weights of the first k. -/
def wsum (l : List Vs) : Nat → Int
  | 0 => 0
  | k + 1 => wsum l k + (l.map Vs.n).getD k 0
theorem wsum_succ {l : List Vs} {k : Nat} (hk : k < l.length) : wsum l (k + 1) = wsum l k + l[k].n := by
  rw [wsum]; simp [List.getD, hk]
theorem wsum_bd {l : List Vs} (h : vall l = true) : ∀ k, k ≤ l.length → 0 ≤ wsum l k ∧ wsum l k ≤ 1000000 * (k : Int)
  | 0, _ => by simp [wsum]
  | k + 1, hk => by
    have ih := wsum_bd h k (by omega)
    have := (Vs.chk_ok (vall_get h (show k < l.length by omega)))
    rw [wsum_succ (by omega)]; omega
/-- What a mean adds up: the weight times a part. -/
def meanT (p : Vs → Int) (l : List Vs) (k : Nat) : (Int × Int) × (Int × Int) :=
  (((l.map Vs.n).getD k 0, 1), ((l.map fun v => ((fmk (p v) v.den).n, (fmk (p v) v.den).d)).getD k (0, 0)))
theorem mean_succ {p : Vs → Int} {l : List Vs} {k : Nat} (hk : k < l.length) (h : (gsum (meanT p l) k).e = 0) :
    gsum (meanT p l) (k + 1) = fplus (gsum (meanT p l) k).n (gsum (meanT p l) k).d l[k].n 1 (fmk (p l[k]) l[k].den).n (fmk (p l[k]) l[k].den).d := by
  rw [gsum_succ h]; simp [meanT, List.getD, hk]
/-- The mean of one part of the values. -/
def fmean (p : Vs → Int) (l : List Vs) : FR := if (gsum (meanT p l) l.length).e = 0 then fdiv (gsum (meanT p l) l.length).n (gsum (meanT p l) l.length).d (wsum l l.length) 1 else ⟨0, 0, (gsum (meanT p l) l.length).e⟩
theorem fmean_0 {p : Vs → Int} {l : List Vs} (h : (gsum (meanT p l) l.length).e = 0) : fmean p l = fdiv (gsum (meanT p l) l.length).n (gsum (meanT p l) l.length).d (wsum l l.length) 1 := if_pos h
theorem fmean_1 {p : Vs → Int} {l : List Vs} (h : ¬ (gsum (meanT p l) l.length).e = 0) : fmean p l = ⟨0, 0, (gsum (meanT p l) l.length).e⟩ := if_neg h
theorem fmean_end {p : Vs → Int} {l : List Vs} {k : Nat} (hk : k < l.length) (h : ¬ (gsum (meanT p l) (k + 1)).e = 0) : fmean p l = ⟨0, 0, (gsum (meanT p l) (k + 1)).e⟩ := by
  have := gsum_stop h l.length hk
  rw [fmean_1 (by rw [this]; exact h), this]
theorem fmean_i64 (p : Vs → Int) (l : List Vs) : i64 (fmean p l).n ∧ i64 (fmean p l).d := by
  by_cases h : (gsum (meanT p l) l.length).e = 0
  · rw [fmean_0 h]; exact fdiv_i64 _ _ _ _
  · rw [fmean_1 h]; exact ⟨i64_0, i64_0⟩
def VR.bad (e : Int) : VR := ⟨0, 0, 0, 0, 0, 0, e⟩
/-- The mean of visibilities of one baseline. -/
def vmean (l : List Vs) : VR :=
  if wsum l l.length = 0 then VR.bad 18 else if (fmean Vs.re l).e ≠ 0 then VR.bad (fmean Vs.re l).e else if (fmean Vs.im l).e ≠ 0 then VR.bad (fmean Vs.im l).e
  else if wok (fmean Vs.re l).n (fmean Vs.re l).d (fmean Vs.im l).n (fmean Vs.im l).d = false ∨ 1000000 < wsum l l.length then VR.bad 16
  else ⟨(l.headD ⟨0, 0, 0, 0, 0, 0⟩).i, (l.headD ⟨0, 0, 0, 0, 0, 0⟩).j, (wval (fmean Vs.re l).n (fmean Vs.re l).d (fmean Vs.im l).n (fmean Vs.im l).d).re, (wval (fmean Vs.re l).n (fmean Vs.re l).d (fmean Vs.im l).n (fmean Vs.im l).d).im, (wval (fmean Vs.re l).n (fmean Vs.re l).d (fmean Vs.im l).n (fmean Vs.im l).d).den, wsum l l.length, 0⟩
/-- All are of the baseline of the first one. -/
def vsame (l : List Vs) (a b : Int) : Bool := l.all fun v => v.i == a && v.j == b
theorem vsame_take {l : List Vs} {a b : Int} {k : Nat} (hk : k < l.length) (h : vsame (l.take k) a b = true) (h1 : l[k].i = a) (h2 : l[k].j = b) : vsame (l.take (k + 1)) a b = true := by
  unfold vsame at *
  rw [List.take_succ_eq_append_getElem hk, List.all_append, h]; simp [h1, h2]
theorem vsame_not {l : List Vs} {a b : Int} {k : Nat} (hk : k < l.length) (h : ¬ (l[k].i = a ∧ l[k].j = b)) : vsame l a b = false := by
  unfold vsame
  rw [List.all_eq_false]
  exact ⟨l[k], List.getElem_mem hk, by simpa using h⟩
theorem vsame_end {l : List Vs} {a b : Int} {k : Nat} (hk : ¬ k < l.length) (h : vsame (l.take k) a b = true) : vsame l a b = true := by rwa [List.take_of_length_le (by omega)] at h
/-- Mean. -/
def vMean (l : List Vs) : VR :=
  if vlist l ≠ 0 then VR.bad (vlist l) else if l.length = 0 then VR.bad 2 else if vsame l (l.headD ⟨0, 0, 0, 0, 0, 0⟩).i (l.headD ⟨0, 0, 0, 0, 0, 0⟩).j = false then VR.bad 2 else vmean l
/-- The visibilities of a baseline. -/
def vof (l : List Vs) (a b : Int) : List Vs := l.filter fun v => v.i == a && v.j == b
theorem vof_take {l : List Vs} {a b : Int} {k : Nat} (hk : k < l.length) : vof (l.take (k + 1)) a b = if l[k].i = a ∧ l[k].j = b then vof (l.take k) a b ++ [l[k]] else vof (l.take k) a b := by
  unfold vof
  rw [List.take_succ_eq_append_getElem hk, List.filter_append]
  by_cases h : l[k].i = a ∧ l[k].j = b
  · rw [if_pos h]; simp [h.1, h.2]
  · rw [if_neg h]
    have : ([l[k]].filter fun v => v.i == a && v.j == b) = [] := by
      rw [List.filter_cons_of_neg (by simpa using h)]; rfl
    rw [this, List.append_nil]
/-- The means of the first m baselines. -/
def vgrp (l : List Vs) : Nat → List Vs × Int
  | 0 => ([], 0)
  | m + 1 => if (vgrp l m).2 ≠ 0 then vgrp l m else if wsum (vof l ((m / 8 : Nat) : Int) ((m % 8 : Nat) : Int)) (vof l ((m / 8 : Nat) : Int) ((m % 8 : Nat) : Int)).length = 0 then vgrp l m
    else if (vmean (vof l ((m / 8 : Nat) : Int) ((m % 8 : Nat) : Int))).e ≠ 0 then ([], (vmean (vof l ((m / 8 : Nat) : Int) ((m % 8 : Nat) : Int))).e)
    else ((vgrp l m).1 ++ [⟨(vmean (vof l ((m / 8 : Nat) : Int) ((m % 8 : Nat) : Int))).i, (vmean (vof l ((m / 8 : Nat) : Int) ((m % 8 : Nat) : Int))).j, (vmean (vof l ((m / 8 : Nat) : Int) ((m % 8 : Nat) : Int))).re, (vmean (vof l ((m / 8 : Nat) : Int) ((m % 8 : Nat) : Int))).im, (vmean (vof l ((m / 8 : Nat) : Int) ((m % 8 : Nat) : Int))).den, (vmean (vof l ((m / 8 : Nat) : Int) ((m % 8 : Nat) : Int))).n⟩], 0)
def vGroup (l : List Vs) : List Vs × Int := if vlist l ≠ 0 then ([], vlist l) else vgrp l 64
theorem vgrp_stop {l : List Vs} {m : Nat} (h : (vgrp l m).2 ≠ 0) : ∀ k, vgrp l (m + k) = vgrp l m
  | 0 => rfl
  | k + 1 => by
    have ih := vgrp_stop h k
    have e : vgrp l (m + (k + 1)) = vgrp l (m + k) := by
      show vgrp l ((m + k) + 1) = _
      rw [vgrp, if_pos (by rw [ih]; exact h)]
    rw [e, ih]
end Go.Proofs.Ythlcmlngmcoknaa

/- What is proved here: the visibilities of a sky as a list, while it grows. No program in sight. -/
namespace Go.Proofs.Ythlcmlngmcoknaa
open Go.RowKit

def visOf (p : List (Int × Int)) (l : List T3) (ij : Nat × Nat) : Vs := ⟨ij.1, ij.2, vre p l ij, vim p l ij, 1, 1⟩
def rowU (i d : Nat) : List (Nat × Nat) := (List.range d).map fun d => (i, i + 1 + d)
def prsU (n i : Nat) : List (Nat × Nat) := (List.range i).flatMap fun i => rowU i (n - 1 - i)
theorem prsU_n (n : Nat) : prsU n n = prs n := rfl
theorem prsU_succ (n i : Nat) : prsU n (i + 1) = prsU n i ++ rowU i (n - 1 - i) := by unfold prsU; rw [List.range_succ, List.flatMap_append]; simp
theorem rowU_succ (i d : Nat) : rowU i (d + 1) = rowU i d ++ [(i, i + 1 + d)] := by unfold rowU; rw [List.range_succ, List.map_append]; rfl
def seeL (p : List (Int × Int)) (l : List T3) (i d : Nat) : List Vs := (prsU p.length i ++ rowU i d).map (visOf p l)
theorem seeL_00 (p : List (Int × Int)) (l : List T3) : seeL p l 0 0 = [] := rfl
theorem seeL_next (p : List (Int × Int)) (l : List T3) (i d : Nat) : seeL p l i (d + 1) = seeL p l i d ++ [visOf p l (i, i + 1 + d)] := by unfold seeL; rw [rowU_succ, ← List.append_assoc, List.map_append]; rfl
theorem seeL_row (p : List (Int × Int)) (l : List T3) (i : Nat) : seeL p l i (p.length - 1 - i) = seeL p l (i + 1) 0 := by unfold seeL; rw [prsU_succ]; simp [rowU]
theorem seeL_end (p : List (Int × Int)) (l : List T3) : seeL p l p.length 0 = (prs p.length).map (visOf p l) := by unfold seeL; rw [prsU_n]; simp [rowU]
theorem rowU_len (i d : Nat) : (rowU i d).length = d := by simp [rowU]
theorem prsU_len {n : Nat} (h : n ≤ 8) : ∀ i, (prsU n i).length ≤ i * 8
  | 0 => by simp [prsU]
  | i + 1 => by
    have := prsU_len h i
    rw [prsU_succ, List.length_append, rowU_len]; omega
theorem seeL_len {p : List (Int × Int)} (h : p.length ≤ 8) (l : List T3) {i d : Nat} (hi : i ≤ 8) (hd : d ≤ 8) : (seeL p l i d).length ≤ 72 := by
  have := prsU_len h i
  unfold seeL
  rw [List.length_map, List.length_append, rowU_len]; omega
theorem sum_snoc {α : Type} (f : α → Int) {l : List α} {k : Nat} (hk : k < l.length) : ((l.take (k + 1)).map f).sum = ((l.take k).map f).sum + f l[k] := by
  rw [List.take_succ_eq_append_getElem hk, List.map_append, List.sum_append]; simp
theorem vre_take (p : List (Int × Int)) {l : List T3} {k : Nat} (hk : k < l.length) (ij : Nat × Nat) : vre p (l.take (k + 1)) ij = vre p (l.take k) ij + l[k].f * tqc (Qq p ij.1 ij.2 l[k].x l[k].y) := sum_snoc _ hk
theorem vim_take (p : List (Int × Int)) {l : List T3} {k : Nat} (hk : k < l.length) (ij : Nat × Nat) : vim p (l.take (k + 1)) ij = vim p (l.take k) ij + l[k].f * tqs (Qq p ij.1 ij.2 l[k].x l[k].y) := sum_snoc _ hk
theorem vre_small {p : List (Int × Int)} {l : List T3} (h : Small l 1000) (hl : l.length ≤ 16) (k : Nat) (ij : Nat × Nat) : -16000 ≤ vre p (l.take k) ij ∧ vre p (l.take k) ij ≤ 16000 := by
  have h1 := vre_bd (p := p) (l := l.take k) (b := 1000) (fun s hs => h s (List.mem_of_mem_take hs)) ij
  have h2 : (l.take k).length ≤ 16 := by rw [List.length_take]; omega
  omega
theorem vim_small {p : List (Int × Int)} {l : List T3} (h : Small l 1000) (hl : l.length ≤ 16) (k : Nat) (ij : Nat × Nat) : -16000 ≤ vim p (l.take k) ij ∧ vim p (l.take k) ij ≤ 16000 := by
  have h1 := vim_bd (p := p) (l := l.take k) (b := 1000) (fun s hs => h s (List.mem_of_mem_take hs)) ij
  have h2 : (l.take k).length ≤ 16 := by rw [List.length_take]; omega
  omega
end Go.Proofs.Ythlcmlngmcoknaa

/- What is proved here: slices of known numbers and fractions that were just made. No condition but the sizes. -/
namespace Go.Proofs.Ythlcmlngmcoknaa
open Go.RowKit

theorem si_of_own {w : World} {g : Nat} {T : TypeId} (xs : List Int) (n : Nat) (hn : xs.length = n) (hm : n ≤ 1000) (h : Own w g T (xs.map (Value.int .i64))) : SI w (.slice (some ⟨g, 0, none⟩) n n) xs := by
  unfold SI; rw [hn]
  exact h.sl n (Nat.le_refl _) (by omega) _ ⟨[], by simp⟩
theorem sf_of_own {w : World} {g : Nat} {T : TypeId} (xs : List (Int × Int)) (n : Nat) (hn : xs.length = n) (hm : n ≤ 1000) (h : Own w g T (fcs xs)) : SF w (.slice (some ⟨g, 0, none⟩) n n) xs := by
  unfold SF; rw [hn]
  exact h.sl n (Nat.le_refl _) (by omega) _ ⟨[], by simp⟩
theorem ss_nil (w : World) : SS w (.slice none 0 0) [] := ⟨[], rfl, ⟨none, 0, rfl, Nat.le_refl _, by decide, fun i x hx => by simp at hx⟩, fun i h => by simp at h⟩
theorem si_nil (w : World) : SI w (.slice none 0 0) [] := ⟨none, 0, rfl, Nat.le_refl _, by decide, fun i x hx => by simp at hx⟩
theorem ss_of_own {w : World} {g : Nat} {T : TypeId} (xss : List (List Int)) (vs : List Value) (n : Nat) (hn : xss.length = n) (hv : vs.length = n) (hm : n ≤ 1000) (h : Own w g T vs) (hr : ∀ i (h : i < xss.length) (h' : i < vs.length), SI w vs[i] xss[i]) : SS w (.slice (some ⟨g, 0, none⟩) n n) xss := by
  refine ⟨vs, by omega, ?_, hr⟩
  rw [hn]
  exact h.sl n (Nat.le_refl _) (by omega) _ ⟨[], by simp⟩
theorem fi_of (xs : List (Int × Int)) (h : (xs.all fun p => decide (-9223372036854775808 ≤ p.1) && decide (p.1 ≤ 9223372036854775807) && (decide (-9223372036854775808 ≤ p.2) && decide (p.2 ≤ 9223372036854775807))) = true) : FI xs := by
  intro p hp
  have := List.all_eq_true.1 h p hp
  simp only [Bool.and_eq_true, decide_eq_true_eq] at this
  exact ⟨⟨this.1.1, this.1.2⟩, ⟨this.2.1, this.2.2⟩⟩
theorem own_4th (w : World) (T : TypeId) (cs : List Value) (o1 o2 o3 : Obj) : Own ((((w.alloc o1).alloc o2).alloc o3).alloc (.cells cs.toArray T (0, 0))) (w.heap.size + 1 + 1 + 1) T cs := by
  have h := own_third (w.alloc o1) T cs o2 o3
  rw [show (w.alloc o1).heap.size = w.heap.size + 1 from by simp] at h
  exact h
theorem own_fifth (w : World) (T : TypeId) (cs : List Value) (o1 o2 o3 o4 : Obj) : Own (((((w.alloc o1).alloc o2).alloc o3).alloc o4).alloc (.cells cs.toArray T (0, 0))) (w.heap.size + 1 + 1 + 1 + 1) T cs := by
  have h := own_4th (w.alloc o1) T cs o2 o3 o4
  rw [show (w.alloc o1).heap.size = w.heap.size + 1 from by simp] at h
  exact h
theorem own_sixth (w : World) (T : TypeId) (cs : List Value) (o1 o2 o3 o4 o5 : Obj) : Own ((((((w.alloc o1).alloc o2).alloc o3).alloc o4).alloc o5).alloc (.cells cs.toArray T (0, 0))) (w.heap.size + 1 + 1 + 1 + 1 + 1) T cs := by
  have h := own_fifth (w.alloc o1) T cs o2 o3 o4 o5
  rw [show (w.alloc o1).heap.size = w.heap.size + 1 from by simp] at h
  exact h
theorem ba5 (w : World) (o1 o2 o3 o4 o5 : Obj) : Below w.heap.size w (((((w.alloc o1).alloc o2).alloc o3).alloc o4).alloc o5) := (ba4 w o1 o2 o3 o4).alloc (by simp; omega) _
theorem ba6 (w : World) (o1 o2 o3 o4 o5 o6 : Obj) : Below w.heap.size w ((((((w.alloc o1).alloc o2).alloc o3).alloc o4).alloc o5).alloc o6) := (ba5 w o1 o2 o3 o4 o5).alloc (by simp; omega) _
theorem fr_is {a : FR} {x y z : Int} (h : a.n = x ∧ a.d = y ∧ a.e = z) : a = ⟨x, y, z⟩ := by
  obtain ⟨h1, h2, h3⟩ := h
  cases a; simp_all
/-- A system that a call returns. -/
def sys_post (w : World) (A : List (List Int)) (B : List Int) (e : Ending) (w' : World) : Prop := ∃ va vb, e = .returned (.agg #[va, vb]) ∧ SS w' va A ∧ SI w' vb B ∧ Below w.heap.size w w'
/-- Fractions that a call returns. -/
def fracs_post (w : World) (xs : List (Int × Int)) (e : Ending) (w' : World) : Prop := ∃ u, e = .returned u ∧ SF w' u xs ∧ Below w.heap.size w w'
end Go.Proofs.Ythlcmlngmcoknaa

/- What is proved here: what making a row of rows gives. Condition: at most 100,000 rows. -/
namespace Go.Proofs.Ythlcmlngmcoknaa
open Go.RowKit

theorem Try.infoRow : (Try.prog.info? 23).map (fun i => (i.zero, i.size, i.bytes)) = some (some (.slice none 0 0), 1, 24) := by kernel_rfl
theorem made_rows (n : Nat) : madeCells (Value.slice none 0 0).cells (n * 1) = (List.replicate n (Value.slice none 0 0)).toArray := by
  apply Array.ext
  · simp [size_madeCells]
  · intro i h1 h2
    simp [madeCells, Value.cells, Nat.mod_one]
theorem mk_rowz (n : Nat) (hn : n ≤ 100000) (w : World) : (Instr.makeSlice 22 (.int .i64 (n : Int)) (.int .i64 (n : Int))).run Try.prog w = .ok (.slice (some ⟨w.heap.size, 0, none⟩) n n) (w.alloc (.cells (List.replicate n (Value.slice none 0 0)).toArray 23)) := by
  obtain ⟨i0, hi, hz0, hz1, hz2⟩ := info_parts Try.infoRow
  have h := run_make w 22 23 i0 (.slice none 0 0) Try.underlying22 hi hz0 .i64 .i64 (n : Int) (n : Int) (by omega) (by omega) (by rw [hz2]; omega) (by omega)
  rw [Int.toNat_natCast, hz1, made_rows] at h
  exact h
theorem own_7th (w : World) (T : TypeId) (cs : List Value) (o1 o2 o3 o4 o5 o6 : Obj) : Own (((((((w.alloc o1).alloc o2).alloc o3).alloc o4).alloc o5).alloc o6).alloc (.cells cs.toArray T (0, 0))) (w.heap.size + 1 + 1 + 1 + 1 + 1 + 1) T cs := by
  have h := own_sixth (w.alloc o1) T cs o2 o3 o4 o5 o6
  rw [show (w.alloc o1).heap.size = w.heap.size + 1 from by simp] at h
  exact h
theorem ba7 (w : World) (o1 o2 o3 o4 o5 o6 o7 : Obj) : Below w.heap.size w (((((((w.alloc o1).alloc o2).alloc o3).alloc o4).alloc o5).alloc o6).alloc o7) := (ba6 w o1 o2 o3 o4 o5 o6).alloc (by simp; omega) _
end Go.Proofs.Ythlcmlngmcoknaa

/- What is proved here: square images in memory: reading them, and rows that are made one by one. No condition. -/
namespace Go.Proofs.Ythlcmlngmcoknaa
open Go.RowKit

/-- An image of n by n cells that can be read. -/
def IM (w : World) (v : Value) (n : Nat) (M : Nat → Nat → Int) : Prop :=
  ∃ ad cap, v = .slice ad n cap ∧ n ≤ cap ∧ n ≤ 1000 ∧ ∀ i, i < n → ∃ b off b' off' cap', ad = some ⟨b, off, none⟩ ∧ w.cell? ⟨b, off + i, none⟩ = some (.slice (some ⟨b', off', none⟩) n cap') ∧ n ≤ cap' ∧
    ∀ j, j < n → w.cell? ⟨b', off' + j, none⟩ = some (.int .i64 (M i j))
theorem IM.below {w w' : World} {v : Value} {n : Nat} {M : Nat → Nat → Int} (h : IM w v n M) (hb : Below w.heap.size w w') : IM w' v n M := by
  obtain ⟨ad, cap, e, h1, h2, h3⟩ := h
  refine ⟨ad, cap, e, h1, h2, fun i hi => ?_⟩
  obtain ⟨b, off, b', off', cap', e1, c1, h4, h5⟩ := h3 i hi
  exact ⟨b, off, b', off', cap', e1, below_cell hb c1, h4, fun j hj => below_cell hb (h5 j hj)⟩
theorem IM.congr {w : World} {v : Value} {n : Nat} {M N : Nat → Nat → Int} (h : IM w v n M) (e : ∀ i j, i < n → j < n → M i j = N i j) : IM w v n N := by
  obtain ⟨ad, cap, e0, h1, h2, h3⟩ := h
  refine ⟨ad, cap, e0, h1, h2, fun i hi => ?_⟩
  obtain ⟨b, off, b', off', cap', e1, c1, h4, h5⟩ := h3 i hi
  exact ⟨b, off, b', off', cap', e1, c1, h4, fun j hj => by rw [← e i j hi hj]; exact h5 j hj⟩
theorem IM.open {w : World} {v : Value} {n : Nat} {M : Nat → Nat → Int} (h : IM w v n M) : ∃ ad cap, v = .slice ad n cap ∧ n ≤ cap ∧ n ≤ 1000 ∧
    Hid (∀ i, i < n → ∃ b off b' off' cap', ad = some ⟨b, off, none⟩ ∧ w.cell? ⟨b, off + i, none⟩ = some (.slice (some ⟨b', off', none⟩) n cap') ∧ n ≤ cap' ∧
    Hid (∀ j, j < n → w.cell? ⟨b', off' + j, none⟩ = some (.int .i64 (M i j)))) := h
def updN {α : Type} (f : Nat → α) (k : Nat) (v : α) (i : Nat) : α := if i = k then v else f i
theorem updN_same {α : Type} (f : Nat → α) (k : Nat) (v : α) : updN f k v k = v := if_pos rfl
theorem updN_ne {α : Type} (f : Nat → α) {k i : Nat} (v : α) (h : i ≠ k) : updN f k v i = f i := if_neg h
section
variable {w w' : World} {B Lm g : Nat} {Tr Ti : TypeId} {rest : List Value} {bb cp : Nat → Nat} {ex : Nat → List Value} {n W : Nat} {M : Nat → Nat → Int}
theorem MatO.mono (h : MatO w B Lm g Tr Ti rest bb cp ex n W M) {L : Nat} (hl : Lm ≤ L) : MatO w B L g Tr Ti rest bb cp ex n W M :=
  ⟨h.out, ⟨h.base.1, by have := h.base.2; omega⟩, h.row, fun i hi => by have := h.blk i hi; omega, h.inj⟩
theorem MatO.off (h : MatO w B Lm g Tr Ti rest bb cp ex n W M) {b : Nat} (hg : b ≠ g) (hb : ∀ i, i < n → b ≠ bb i) (k : Nat) (v : Value) : MatO (w.setCell ⟨b, k, none⟩ v) B Lm g Tr Ti rest bb cp ex n W M :=
  ⟨h.out.other (Ne.symm hg) k v, h.base, fun i hi => (h.row i hi).other (Ne.symm (hb i hi)) k v, h.blk, h.inj⟩
theorem MatO.zero (h : Own w g Tr rest) (hb : B ≤ g) (hl : g < Lm) (bb cp : Nat → Nat) (ex : Nat → List Value) (W : Nat) (M : Nat → Nat → Int) : MatO w B Lm g Tr Ti rest bb cp ex 0 W M :=
  ⟨h, ⟨hb, hl⟩, fun _ hi => absurd hi (Nat.not_lt_zero _), fun _ hi => absurd hi (Nat.not_lt_zero _), fun _ _ hi => absurd hi (Nat.not_lt_zero _)⟩
theorem mout_updN (bb cp : Nat → Nat) (k W b c : Nat) : mout (updN bb k b) (updN cp k c) (k + 1) W = mout bb cp k W ++ [.slice (some ⟨b, 0, none⟩) W c] := by
  unfold mout
  rw [List.range_succ, List.map_append]
  congr 1
  · refine List.map_congr_left fun i hi => ?_
    rw [updN_ne _ _ (by have := List.mem_range.1 hi; omega), updN_ne _ _ (by have := List.mem_range.1 hi; omega)]
  · simp only [List.map_cons, List.map_nil, updN_same]
/-- One row more. -/
theorem MatO.push {v : Value} {k : Nat} (h : MatO w B Lm g Tr Ti (v :: rest) bb cp ex k W M) {b c : Nat} {e : List Value} (hr : Own w b Ti (mrc M W k ++ e)) (h1 : Lm ≤ b) (hB : B ≤ b) (hc : W ≤ c) :
    MatO (w.setCell ⟨g, k, none⟩ (.slice (some ⟨b, 0, none⟩) W c)) B (b + 1) g Tr Ti rest (updN bb k b) (updN cp k c) (updN ex k e) (k + 1) W M := by
  have hg := h.base
  have lm := fun i hi => (h.blk i hi).2.2.2
  refine ⟨?_, ⟨hg.1, by omega⟩, fun i hi => ?_, fun i hi => ?_, fun i j hi hj => ?_⟩
  · have := h.out.set k (.slice (some ⟨b, 0, none⟩) W c)
    rw [List.set_append_right _ _ (by rw [mout_len]; exact Nat.le_refl _), mout_len, Nat.sub_self] at this
    rw [mout_updN, List.append_assoc]
    exact this
  · by_cases hk : i = k
    · subst hk
      rw [updN_same, updN_same]
      exact hr.other (by omega) _ _
    · rw [updN_ne _ _ hk, updN_ne _ _ hk]
      have hi' : i < k := by omega
      exact (h.row i hi').other (h.blk i hi').2.1 _ _
  · by_cases hk : i = k
    · subst hk
      rw [updN_same, updN_same]
      omega
    · rw [updN_ne _ _ hk, updN_ne _ _ hk]
      have hi' : i < k := by omega
      have := h.blk i hi'
      omega
  · by_cases hk : i = k
    · subst hk
      by_cases hk2 : j = i
      · intro _; exact hk2.symm
      · rw [updN_same, updN_ne _ _ hk2]
        have := lm j (by omega)
        intro e; omega
    · by_cases hk2 : j = k
      · subst hk2
        rw [updN_same, updN_ne _ _ hk]
        have := lm i (by omega)
        intro e; omega
      · rw [updN_ne _ _ hk, updN_ne _ _ hk2]
        exact h.inj i j (by omega) (by omega)
/-- A square matrix reads as an image. -/
theorem MatO.im (h : MatO w B Lm g Tr Ti rest bb cp ex n n M) {cap : Nat} (hc : n ≤ cap) (hn : n ≤ 1000) : IM w (.slice (some ⟨g, 0, none⟩) n cap) n M :=
  ⟨some ⟨g, 0, none⟩, cap, rfl, hc, hn, fun i hi => ⟨g, 0, bb i, 0, cp i, rfl, by rw [Nat.zero_add]; exact h.cell_out hi, (h.blk i hi).2.2.1, fun j hj => by rw [Nat.zero_add]; exact h.cell_at hi hj⟩⟩
theorem MatO.putB (h : MatO w B Lm g Tr Ti rest bb cp ex n W M) {w0 : World} (hb : Below B w0 w) {i : Nat} (hi : i < n) (j : Nat) (v : Value) : Below B w0 (w.setCell ⟨bb i, j, none⟩ v) := hb.setCell (h.blk i hi).1 v
theorem MatO.outB (h : MatO w B Lm g Tr Ti rest bb cp ex n W M) {w0 : World} (hb : Below B w0 w) (j : Nat) (v : Value) : Below B w0 (w.setCell ⟨g, j, none⟩ v) := hb.setCell h.base.1 v
/-- Another image, that lay before, stays as it is. -/
theorem IM.low {v : Value} {N : Nat → Nat → Int} {m : Nat} {w0 : World} (h : IM w0 v m N) (hb : Below w0.heap.size w0 w) : IM w v m N := h.below hb
end
theorem ics_zero (W : Nat) (M : Nat → Nat → Int) (k : Nat) (h : ∀ j, j < W → M k j = 0) : ics (List.replicate W 0) = mrc M W k := by
  unfold ics mrc
  refine List.ext_getElem? fun c => ?_
  by_cases hc : c < W
  · simp [hc, h c hc]
  · simp [hc]
/-- Rows that are being filled. -/
def fillM (D : Nat → Nat → Int) (y x : Nat) (r c : Nat) : Int := if r < y ∨ (r = y ∧ c < x) then D r c else 0
theorem fillM_put (D : Nat → Nat → Int) (y x r c : Nat) : tput (fillM D y x) y x (D y x) r c = fillM D y (x + 1) r c := by
  unfold tput fillM
  by_cases h : r = y ∧ c = x
  · rw [if_pos h, if_pos (by omega), h.1, h.2]
  · rw [if_neg h]
    by_cases h2 : r < y ∨ (r = y ∧ c < x)
    · rw [if_pos h2, if_pos (by omega)]
    · rw [if_neg h2, if_neg (by omega)]
theorem fillM_row (D : Nat → Nat → Int) (y n r c : Nat) (hc : c < n) : fillM D y n r c = fillM D (y + 1) 0 r c := by
  unfold fillM
  by_cases h2 : r < y ∨ (r = y ∧ c < n)
  · rw [if_pos h2, if_pos (by omega)]
  · rw [if_neg h2, if_neg (by omega)]
theorem fillM_zero (D : Nat → Nat → Int) (y j : Nat) : fillM D y 0 y j = 0 := by unfold fillM; rw [if_neg (by omega)]
theorem fillM_end (D : Nat → Nat → Int) (n r c : Nat) (hr : r < n) : fillM D n 0 r c = D r c := by unfold fillM; rw [if_pos (by omega)]
end Go.Proofs.Ythlcmlngmcoknaa

/- What is proved here: what making a row of fractions gives, and storing one of them. Condition: at most 100,000 fractions. -/
namespace Go.Proofs.Ythlcmlngmcoknaa
open Go.RowKit

theorem Try.infoFrac : (Try.prog.info? 78).map (fun i => (i.zero, i.size, i.bytes)) = some (some (.agg #[.int .i64 0, .int .i64 0]), 2, 16) := by kernel_rfl
theorem fcs_zero : ∀ n, fcs (List.replicate n (0, 0)) = List.replicate (n * 2) (.int .i64 0)
  | 0 => rfl
  | n + 1 => by rw [List.replicate_succ, fcs_cons, fcs_zero n, show (n + 1) * 2 = n * 2 + 1 + 1 by omega, List.replicate_succ, List.replicate_succ]
theorem made_fracs (n : Nat) : madeCells (Value.agg #[.int .i64 0, .int .i64 0]).cells (n * 2) = (fcs (List.replicate n (0, 0))).toArray := by
  rw [fcs_zero]
  apply Array.ext
  · simp [size_madeCells]
  · intro i h1 h2
    have : i % 2 = 0 ∨ i % 2 = 1 := by omega
    rcases this with h | h <;> simp [madeCells, Value.cells, h]
theorem mk_fracs (n : Nat) (x : Int) (hx : x = n) (hn : n ≤ 100000) (w : World) : (Instr.makeSlice 28 (.int .i64 x) (.int .i64 x)).run Try.prog w = .ok (.slice (some ⟨w.heap.size, 0, none⟩) n n) (w.alloc (.cells (fcs (List.replicate n (0, 0))).toArray 78)) := by
  subst hx
  obtain ⟨i0, hi, hz0, hz1, hz2⟩ := info_parts Try.infoFrac
  have h := run_make w 28 78 i0 (.agg #[.int .i64 0, .int .i64 0]) Try.underlying28 hi hz0 .i64 .i64 (n : Int) (n : Int) (by omega) (by omega) (by rw [hz2]; omega) (by omega)
  rw [Int.toNat_natCast, hz1, made_fracs] at h
  exact h
theorem fcs_some (xs : List (Int × Int)) (i : Nat) (h : i < xs.length) : ∃ v1 v2, (fcs xs)[i * 2]? = some v1 ∧ (fcs xs)[i * 2 + 1]? = some v2 := ⟨_, _, (fcs_get xs i h).1, (fcs_get xs i h).2⟩
/-- Two cells of a row of fractions are stored: one fraction. -/
theorem fcs_set : ∀ (xs : List (Int × Int)) (k : Nat) (p : Int × Int), ((fcs xs).set (k * 2) (.int .i64 p.1)).set (k * 2 + 1) (.int .i64 p.2) = fcs (xs.set k p)
  | [], k, p => rfl
  | x :: xs, 0, p => rfl
  | x :: xs, k + 1, p => by
    rw [fcs_cons, show (k + 1) * 2 = k * 2 + 1 + 1 by omega, List.set_cons_succ, List.set_cons_succ, List.set_cons_succ, List.set_cons_succ, fcs_set xs k p, List.set_cons_succ, fcs_cons]
theorem fill_rows (rs : List (Int × Int)) (m N : Nat) (p : Int × Int) (h : rs.length = m) (hm : m < N) : (rs ++ List.replicate (N - m) (0, 0)).set m p = (rs ++ [p]) ++ List.replicate (N - (m + 1)) (0, 0) := by
  rw [List.set_append_right _ _ (by omega), h, Nat.sub_self, show N - m = N - (m + 1) + 1 by omega, List.replicate_succ, List.set_cons_zero, List.append_assoc]
  rfl
/-- A row that is made empty, with room for n. -/
theorem mk_fracs0 (n : Nat) (hn : n ≤ 100000) (w : World) : (Instr.makeSlice 28 (.int .i64 0) (.int .i64 n)).run Try.prog w = .ok (.slice (some ⟨w.heap.size, 0, none⟩) 0 n) (w.alloc (.cells (fcs (List.replicate n (0, 0))).toArray 78)) := by
  obtain ⟨i0, hi, hz0, hz1, hz2⟩ := info_parts Try.infoFrac
  have h := run_make w 28 78 i0 (.agg #[.int .i64 0, .int .i64 0]) Try.underlying28 hi hz0 .i64 .i64 (0 : Int) (n : Int) (by omega) (by omega) (by rw [hz2]; omega) (by omega)
  rw [Int.toNat_natCast, hz1, made_fracs] at h
  exact h
theorem owns_made (w : World) (n : Nat) (hn : n ≤ 100000) (T : TypeId) (B : Nat) (hB : B ≤ w.heap.size) : (w.alloc (.cells (fcs (List.replicate n (0, 0))).toArray T)).ownsRow B T 2 (.slice (some ⟨w.heap.size, 0, none⟩) 0 n) 0 (fcs []) :=
  ⟨rfl, .inr ⟨w.heap.size, n, (fcs (List.replicate n (0, 0))).toArray, rfl, hB, heap_alloc_new w _, Nat.zero_le _, by unfold maxLen; omega, by simp [fcs_len], by simp [fcs_nil]⟩⟩
theorem owns_base {w : World} {B B' : Nat} {T : TypeId} {size : Nat} {v : Value} {n : Nat} {cs : List Value} (h : w.ownsRow B T size v n cs) (hB : B' ≤ B) : w.ownsRow B' T size v n cs := by
  obtain ⟨hl, h2⟩ := h
  refine ⟨hl, ?_⟩
  rcases h2 with h2 | ⟨g, cap, cur, h3, hg, r⟩
  · exact .inl h2
  · exact .inr ⟨g, cap, cur, h3, by omega, r⟩
theorem owns_SF {w : World} {B : Nat} {T : TypeId} {v : Value} {xs : List (Int × Int)} (h : w.ownsRow B T 2 v xs.length (fcs xs)) : SF w v xs := by
  refine owns_sl h ?_
  obtain ⟨hl, h2⟩ := h
  rcases h2 with ⟨_, h2⟩ | ⟨g, cap, cur, _, _, _, h4, h5, _⟩
  · omega
  · unfold maxLen at h5; omega
/-- Rows of the call's own, and an error. -/
def rows_own (w : World) (r : List (Int × Int) × Int) (e : Ending) (w' : World) : Prop := ∃ u, e = .returned (.tuple #[u, .int .i64 r.2]) ∧ w'.ownsRow w.heap.size 78 2 u r.1.length (fcs r.1) ∧ Below w.heap.size w w'
def rows_post (w : World) (r : List (Int × Int) × Int) (e : Ending) (w' : World) : Prop := ∃ u, e = .returned (.tuple #[u, .int .i64 r.2]) ∧ SF w' u r.1 ∧ Below w.heap.size w w'
theorem rows_own_post {w : World} {r : List (Int × Int) × Int} {e : Ending} {w' : World} (h : rows_own w r e w') : rows_post w r e w' := by
  obtain ⟨u, h1, h2, h3⟩ := h
  exact ⟨u, h1, owns_SF h2, h3⟩
theorem owns_nil (w w0 : World) : w.ownsRow w0.heap.size 78 2 (.slice none 0 0) ([] : List (Int × Int)).length (fcs []) := World.ownsRow_nil _ _ _ _
end Go.Proofs.Ythlcmlngmcoknaa

/- What is proved here: the contracts of nnls.within and nnls.Check. Condition: a system whose lists can be read. -/
namespace Go.Proofs.Ythlcmlngmcoknaa
open Go.RowKit

/-- Whether a number is from -m to m. -/
def winB (a m : Int) : Bool := decide (-m ≤ a) && decide (a ≤ m)
theorem nwithin_any (a m : Int) (w : World) (h1 : 0 ≤ m) (h2 : m ≤ 1000) :
    Calls Try.prog 120 #[.int .i64 a, .int .i64 m] w fun e w' => e = .returned (.bool (winB a m)) ∧ w = w' := by
  unfold winB
  by_cases h3 : -m ≤ a
  · have b1 : decide (-m ≤ a) = true := by simpa using h3
    rw [b1]
    go_enter Try.func120, Try.ntmps120
    go_wp2
    go_ret
    exact ⟨by simp, rfl⟩
  · have b1 : decide (-m ≤ a) = false := by simpa using h3
    rw [b1]
    go_enter Try.func120, Try.ntmps120
    go_wp2
    go_ret
    exact ⟨by simp, rfl⟩
set_option maxRecDepth 100000 in
set_option maxHeartbeats 4000000 in
theorem ncheck_any (A : List (List Int)) (B : List Int) (va vb : Value) (w : World) (hA : SS w va A) (hB : SI w vb B) :
    Calls Try.prog 57 #[.agg #[va, vb]] w fun e w' => e = .returned (.int .i64 (ncheck A B)) ∧ Below w.heap.size w w' := by
  have hA0 := Lib.hid hA
  have hB0 := Lib.hid hB
  obtain ⟨ada, capa, rfl, ha1, ha2, _⟩ := hA.open
  obtain ⟨adb, capb, rfl, hb1, hb2, _⟩ := hB.open
  clear hA hB
  by_cases h0 : 5 < A.length
  · have HV := Lib.hid (ncheck_4 (B := B) (.inl h0))
    go_enter Try.func57, Try.ntmps57
    have oS := Own.new w 25 [.slice ada A.length capa, .slice adb B.length capb]
    obtain ⟨rS, fS⟩ := oS.rules
    have zS := oS.lt
    go_wp2
    go_ret
    exact ⟨by rw [HV.out]; try rfl, ba1 _ _⟩
  by_cases h0' : 5 < B.length
  · have HV := Lib.hid (ncheck_4 (A := A) (.inr h0'))
    go_enter Try.func57, Try.ntmps57
    have oS := Own.new w 25 [.slice ada A.length capa, .slice adb B.length capb]
    obtain ⟨rS, fS⟩ := oS.rules
    have zS := oS.lt
    go_wp2
    go_ret
    exact ⟨by rw [HV.out]; try rfl, ba1 _ _⟩
  have H0 : Hid (¬ (5 < A.length ∨ 5 < B.length)) := by show ¬ _; omega
  go_enter Try.func57, Try.ntmps57
  have oS := Own.new w 25 [.slice ada A.length capa, .slice adb B.length capb]
  have hy := ba1 w (.cells #[.slice ada A.length capa, .slice adb B.length capb] 25)
  have sA := Lib.hid (hA0.out.below hy)
  have sB := Lib.hid (hB0.out.below hy)
  clear hA0 hB0
  go_wp2_with fail
  generalize w.alloc (.cells #[.slice ada A.length capa, .slice adb B.length capb] 25) = y at *
  obtain ⟨rS, fS⟩ := oS.rules
  have zS := oS.lt
  go_wp2
  go_loop [22] (fun i => ∃ k : Nat, k ≤ A.length ∧ i = .int .i64 k ∧ Hid (((A.take k).all fun r => decide (r.length ≤ 3)) = true)) (fun i => A.length - (intOf i).toNat)
  case atStart => exact ⟨0, Nat.zero_le _, rfl, rfl⟩
  case round =>
    obtain ⟨k, hk, rfl, hv⟩ := hrel
    by_cases hlt : k < A.length
    · obtain ⟨_, _, e, _, _, H⟩ := sA.out.open
      cases e
      obtain ⟨b, off, ad', cap', rfl, c1, c2, c3, _⟩ := H.out k hlt
      clear H
      by_cases hz : 3 < A[k].length
      · have HV := Lib.hid (ncheck_4' H0.out hlt hz)
        generalize A[k].length = m at *
        go_wp2
        go_ret
        exact ⟨by rw [HV.out]; try rfl, hy⟩
      · have HV := Lib.hid (all_take (p := fun r => decide (r.length ≤ 3)) hlt hv.out (by simp; omega))
        generalize A[k].length = m at *
        go_wp2
        go_round
        case rel => exact ⟨k + 1, by omega, by go_num, HV⟩
        case measure => simp [intOf]; try omega
    · have H1 := Lib.hid (all_end hlt hv.out)
      clear hv
      by_cases hz0 : A.length = 0
      · have HV := Lib.hid (ncheck_8 H0.out H1.out (.inl hz0))
        have q1 : decide ((A.length : Int) < 1) = true := by simp; omega
        have q2 : (A.length : Int) < 1 := by omega
        clear hz0
        go_wp2
        go_ret
        exact ⟨by rw [HV.out]; try rfl, hy⟩
      have q1 : decide ((A.length : Int) < 1) = false := by simp; omega
      by_cases hz1 : B.length ≠ A.length
      · have HV := Lib.hid (ncheck_8 H0.out H1.out (.inr (.inl hz1)))
        have q2 : ((B.length : Int) != (A.length : Int)) = true := by simp; omega
        clear hz1
        go_wp2
        go_ret
        exact ⟨by rw [HV.out]; try rfl, hy⟩
      have q2 : ((B.length : Int) != (A.length : Int)) = false := by simp; omega
      have l1 : 0 < A.length := by omega
      have l2 : B.length ≤ A.length := by omega
      have l3 : A.length ≤ B.length := by omega
      obtain ⟨_, _, e, _, _, H⟩ := sA.out.open
      cases e
      obtain ⟨b, off, ad0, cap0, rfl, d1, d2, d3, _⟩ := H.out 0 l1
      rw [Nat.add_zero] at d1
      have H := Lib.hid H
      have G0 := Lib.hid (getD_get (d := []) l1)
      by_cases hz2 : A[0].length = 0
      · have HV := Lib.hid (ncheck_8 H0.out H1.out (.inr (.inr (by rw [G0.out]; exact hz2))))
        have q3 : decide ((A[0].length : Int) < 1) = true := by simp; omega
        have q4 : (A[0].length : Int) < 1 := by omega
        clear hz2 hz1 hz0
        generalize A[0].length = m at *
        go_wp2
        go_ret
        exact ⟨by rw [HV.out]; try rfl, hy⟩
      have H2 : Hid (¬ (A.length = 0 ∨ B.length ≠ A.length ∨ (A.getD 0 []).length = 0)) := by
        show ¬ _
        rw [G0.out]; omega
      have q3 : decide ((A[0].length : Int) < 1) = false := by simp; omega
      have q4 : ¬ (A[0].length : Int) < 1 := by omega
      have G1 : Hid ((A.getD 0 []).length = A[0].length) := by show _ = _; rw [G0.out]
      clear hz2 hz1 hz0 G0
      generalize A[0].length = n at *
      go_wp2
      go_loop [54] (fun i => ∃ k : Nat, k ≤ A.length ∧ i = .int .i64 k ∧ Hid (((A.take k).all fun r => rowOk n r) = true) ∧ Hid (((B.take k).all fun b => decide (-50 ≤ b) && decide (b ≤ 50)) = true)) (fun i => A.length - (intOf i).toNat)
      case atStart => exact ⟨0, Nat.zero_le _, rfl, rfl, rfl⟩
      case round =>
        obtain ⟨k, hk, rfl, hv, hu⟩ := hrel
        by_cases hlt : k < A.length
        · obtain ⟨b', off', ad', cap', e, c1, c2, c3, s1⟩ := H.out.out k hlt
          cases e
          obtain ⟨_, _, e, _, _, HB⟩ := sB.out.open
          cases e
          obtain ⟨b2, off2, rfl, c4⟩ := HB.out k (by omega)
          clear HB
          have hkB : k < B.length := by omega
          have X8 := Lib.hid (fun h => ncheck_8' H0.out H1.out H2.out (.inl h))
          have Y8 := Lib.hid (fun h => ncheck_8' H0.out H1.out H2.out (.inr (all_not hkB h)))
          have XT := Lib.hid (fun h => all_take (p := fun r => rowOk n r) hlt hv.out h)
          have YT := Lib.hid (fun h => all_take (p := fun b => decide (-50 ≤ b) && decide (b ≤ 50)) hkB hu.out h)
          have XN := Lib.hid (fun h => all_not (p := fun r => rowOk n r) hlt h)
          have G2 := Lib.hid G1.out
          by_cases hw : A[k].length = n
          case neg =>
            have HV := Lib.hid (X8.out (by rw [G1.out]; exact XN.out (by simp [rowOk, hw])))
            have q5 : ((A[k].length : Int) != (n : Int)) = true := by simp; omega
            clear hw X8 Y8 XT YT XN s1
            generalize A[k].length = m at *
            go_wp2
            go_ret
            exact ⟨by rw [HV.out]; try rfl, hy⟩
          have q5 : ((A[k].length : Int) != (n : Int)) = false := by simp; omega
          have HW := Lib.hid hw
          have l4 : A[k].length ≤ n := by omega
          have l5 : n ≤ A[k].length := by omega
          have S1 := Lib.hid s1
          clear hw s1
          generalize A[k] = row at *
          generalize B[k] = bk at *
          by_cases hb : winB bk 50 = true
          case neg =>
            have hb' : winB bk 50 = false := by simpa using hb
            have HV := Lib.hid (Y8.out hb')
            have HB := Lib.hid hb'
            clear hb hb' X8 Y8 XT YT XN
            go_wp2_with fail
            refine (nwithin_any bk 50 _ (by decide) (by decide)).mono ?_
            rintro e _ ⟨rfl, rfl⟩
            rw [HB.out]
            go_wp2
            go_ret
            exact ⟨by rw [HV.out]; try rfl, hy⟩
          have HB := Lib.hid hb
          have YT' := Lib.hid (YT.out hb)
          clear hb Y8 YT
          go_wp2_with fail
          refine (nwithin_any bk 50 _ (by decide) (by decide)).mono ?_
          rintro e _ ⟨rfl, rfl⟩
          rw [HB.out]
          go_wp2
          go_loop [78] (fun i => ∃ j : Nat, j ≤ row.length ∧ i = .int .i64 j ∧ Hid (((row.take j).all fun a => decide (-5 ≤ a) && decide (a ≤ 5)) = true)) (fun i => row.length - (intOf i).toNat)
          case atStart => exact ⟨0, Nat.zero_le _, rfl, rfl⟩
          case round =>
            obtain ⟨j, hj, rfl, hr⟩ := hrel
            by_cases hjl : j < row.length
            · obtain ⟨_, _, e, _, _, HR⟩ := S1.out.open
              cases e
              obtain ⟨b3, off3, rfl, c5⟩ := HR.out j hjl
              clear HR
              have RT := Lib.hid (fun h => all_take (p := fun a => decide (-5 ≤ a) && decide (a ≤ 5)) hjl hr.out h)
              have RN := Lib.hid (fun h => all_not (p := fun a => decide (-5 ≤ a) && decide (a ≤ 5)) hjl h)
              generalize row[j] = aj at *
              by_cases ha : winB aj 5 = true
              case neg =>
                have ha' : winB aj 5 = false := by simpa using ha
                have HV := Lib.hid (X8.out (by rw [G1.out]; exact XN.out (by unfold rowOk; rw [RN.out ha']; simp)))
                have HA := Lib.hid ha'
                clear ha ha' X8 XT XN RT RN
                go_wp2_with fail
                refine (nwithin_any aj 5 _ (by decide) (by decide)).mono ?_
                rintro e _ ⟨rfl, rfl⟩
                rw [HA.out]
                go_wp2
                go_ret
                exact ⟨by rw [HV.out]; try rfl, hy⟩
              have HA := Lib.hid ha
              have HV := Lib.hid (RT.out ha)
              clear ha X8 XT XN RT RN
              go_wp2_with fail
              refine (nwithin_any aj 5 _ (by decide) (by decide)).mono ?_
              rintro e _ ⟨rfl, rfl⟩
              rw [HA.out]
              go_wp2
              go_round
              case rel => exact ⟨j + 1, by omega, by go_num, HV⟩
              case measure => simp [intOf]; try omega
            · have HV := Lib.hid (XT.out (by unfold rowOk; rw [all_end hjl hr.out, HW.out]; simp))
              clear X8 XT XN
              go_wp2
              go_round
              case rel => exact ⟨k + 1, by omega, by go_num, HV, YT'⟩
              case measure => simp [intOf]; try omega
        · have HV := Lib.hid (ncheck_0 H0.out H1.out H2.out (by rw [G1.out]; exact all_end hlt hv.out) (all_end (xs := B) (k := k) (by omega) hu.out))
          go_wp2
          go_ret
          exact ⟨by rw [HV.out]; try rfl, hy⟩
end Go.Proofs.Ythlcmlngmcoknaa

/- What is proved here: the contract of nnls.point. Condition: a system and a slice of fractions that can be read. -/
namespace Go.Proofs.Ythlcmlngmcoknaa
open Go.RowKit

set_option maxRecDepth 100000 in
set_option maxHeartbeats 4000000 in
theorem npoint_any (A : List (List Int)) (B : List Int) (x : List (Int × Int)) (va vb vx : Value) (w : World) (hA : SS w va A) (hB : SI w vb B) (hx : SF w vx x) (ix : FI x) :
    Calls Try.prog 115 #[.agg #[va, vb], vx] w fun e w' => e = .returned (.int .i64 (npoint A B x)) ∧ Below w.heap.size w w' := by
  have IX := Lib.hid ix
  obtain ⟨ada, capa, rfl, ha1, ha2, _⟩ := hA.open
  obtain ⟨adb, capb, rfl, hb1, hb2, _⟩ := hB.open
  obtain ⟨adx, capx, rfl, hx1, hx2, _⟩ := hx.open
  clear ix
  go_enter Try.func115, Try.ntmps115
  have oS := Own.new w 25 [.slice ada A.length capa, .slice adb B.length capb]
  have hy := ba1 w (.cells #[.slice ada A.length capa, .slice adb B.length capb] 25)
  replace hA := hA.below hy
  replace hB := hB.below hy
  replace hx := hx.below hy
  obtain ⟨rS, fS⟩ := oS.rules
  have zS := oS.lt
  go_wp2_with fail
  refine (ncheck_any A B _ _ _ hA hB).mono ?_
  rintro e y1 ⟨rfl, hq⟩
  clear rS fS zS
  replace oS := oS.below hq
  replace hA := hA.below hq
  replace hB := hB.below hq
  replace hx := hx.below hq
  replace hy := below_to hy hq
  clear hq
  obtain ⟨rS, fS⟩ := oS.rules
  have zS := oS.lt
  by_cases h0 : ncheck A B = 0
  case neg =>
    have HV := Lib.hid (npoint_c (x := x) h0)
    have b1 : (ncheck A B != 0) = true := by simpa using h0
    clear h0 hA hB hx
    go_wp2
    go_ret
    exact ⟨by rw [HV.out]; try rfl, hy⟩
  have b1 : (ncheck A B != 0) = false := by simp [h0]
  have H0 := Lib.hid h0
  have l1 := ncheck_len h0
  clear h0
  obtain ⟨_, _, e, _, _, H⟩ := hA.open
  cases e
  obtain ⟨b, off, ad0, cap0, rfl, d1, d2, d3, _⟩ := H.out 0 l1
  rw [Nat.add_zero] at d1
  have G0 : Hid ((A.getD 0 []).length = A[0].length) := by show _ = _; rw [getD_get l1]
  clear H
  have SX := Lib.hid hx
  clear hA hB hx
  generalize A[0].length = n at *
  by_cases hl : x.length = n
  case neg =>
    have HV := Lib.hid (npoint_2 H0.out (by rw [G0.out]; exact pointB_len hl))
    have b2 : ((x.length : Int) != (n : Int)) = true := by simp; omega
    clear hl
    go_wp2
    go_ret
    exact ⟨by rw [HV.out]; try rfl, hy⟩
  have b2 : ((x.length : Int) != (n : Int)) = false := by simp; omega
  have HL := Lib.hid hl
  clear hl
  go_wp2
  go_loopw [23] (fun i wr => ∃ k : Nat, k ≤ x.length ∧ i = .int .i64 k ∧ Hid ((x.take k).all ptB = true) ∧ Below y1.heap.size y1 wr) (fun i _ => x.length - (intOf i).toNat)
  case atStart => exact ⟨0, Nat.zero_le _, rfl, rfl, Below.refl _ _⟩
  case round =>
    obtain ⟨k, hk, rfl, hv, hW⟩ := hrel
    rename World => W
    clear rS fS zS d1
    by_cases hlt : k < x.length
    · obtain ⟨_, _, e, _, _, H⟩ := (SX.out.below hW).open
      cases e
      obtain ⟨b', off', rfl, c1, c2⟩ := H.out k hlt
      obtain ⟨i1, i2⟩ := IX.out.get k hlt
      clear H
      have XN := Lib.hid (fun h => npoint_2 H0.out (by rw [G0.out]; exact pointB_all (all_not hlt h)))
      have XT := Lib.hid (fun h => all_take (p := ptB) hlt hv.out h)
      have K1 := Lib.hid (ptB_chk (p := x[k]))
      have K2 := Lib.hid (ptB_neg (p := x[k]))
      have K3 := Lib.hid (ptB_ok (p := x[k]))
      generalize x[k].1 = n1 at *
      generalize x[k].2 = d1 at *
      go_wp2_with fail
      refine (check_any n1 d1 _ i1 i2).mono ?_
      rintro e y2 ⟨rfl, hq⟩
      have hq0 := hq
      have oF := (Own.new W 78 [.int .i64 n1, .int .i64 d1]).below hq
      replace hW := below_to hW (below_to (ba1 W _) hq)
      clear hq hq0
      obtain ⟨G, hG⟩ : ∃ G, G = W.heap.size := ⟨_, rfl⟩
      rw [← hG] at oF ⊢
      clear hG
      obtain ⟨rF, fF⟩ := oF.rules
      have zF := oF.lt
      by_cases h1 : fchk n1 d1 = 0
      case neg =>
        have HV := Lib.hid (XN.out (K1.out h1))
        have b3 : (fchk n1 d1 != 0) = true := by simpa using h1
        clear h1 XN XT K1 K2 K3
        go_wp2
        go_ret
        exact ⟨by rw [HV.out]; try rfl, below_to hy hW⟩
      have b3 : (fchk n1 d1 != 0) = false := by simp [h1]
      by_cases h2 : n1 < 0
      · have HV := Lib.hid (XN.out (K2.out h2))
        have b4 : decide (n1 < 0) = true := by simpa using h2
        clear h1 XN XT K1 K2 K3
        go_wp2
        go_ret
        exact ⟨by rw [HV.out]; try rfl, below_to hy hW⟩
      have b4 : decide (n1 < 0) = false := by simpa using h2
      have HV := Lib.hid (XT.out (K3.out h1 (by omega)))
      clear h1 XN XT K1 K2 K3
      go_wp2
      go_roundw
      case rel => exact ⟨k + 1, by omega, by go_num, HV, hW⟩
      case measure => simp [intOf]; try omega
    · have HV := Lib.hid (npoint_0 H0.out (by rw [G0.out, pointB_ok (all_end hlt hv.out)]; simpa using HL.out))
      go_wp2
      go_ret
      exact ⟨by rw [HV.out]; try rfl, below_to hy hW⟩
end Go.Proofs.Ythlcmlngmcoknaa

/- What is proved here: the contracts of frac.compare, order and Cmp. Condition: the numbers are 64-bit integers. -/
namespace Go.Proofs.Ythlcmlngmcoknaa
open Go.RowKit

theorem compare_any (a b c d : Nat) (w : World) (ha : a ≤ 18446744073709551615) (hb : b ≤ 18446744073709551615) (hc : c ≤ 18446744073709551615) (hd : d ≤ 18446744073709551615) :
    Calls Try.prog 167 #[.int .u64 a, .int .u64 b, .int .u64 c, .int .u64 d] w fun e w' => e = .returned (.int .i64 (cmpN (a * b) (c * d))) ∧ w = w' := by
  have H := Lib.hid (wid_cmp (a * b) (c * d))
  go_enter Try.func167, Try.ntmps167
  go_wp2_with fail
  refine (mul64_any _ _ ha hb _).mono ?_
  rintro e _ ⟨rfl, rfl⟩
  generalize a * b / 18446744073709551616 = p at *
  generalize a * b % 18446744073709551616 = q at *
  go_wp2_with fail
  refine (mul64_any _ _ hc hd _).mono ?_
  rintro e _ ⟨rfl, rfl⟩
  generalize c * d / 18446744073709551616 = r at *
  generalize c * d % 18446744073709551616 = s at *
  go_wp2_with fail
  refine (wider_any _ _ _ _ _).mono ?_
  rintro e _ ⟨rfl, rfl⟩
  go_wp2
  go_ret
  exact ⟨by rw [H.out]; try rfl, rfl⟩

set_option maxHeartbeats 1600000 in
theorem order_any (an ad bn bd : Int) (w : World) (h1 : i64 an) (h2 : 1 ≤ ad) (h3 : ad ≤ 9223372036854775807) (h4 : i64 bn) (h5 : 1 ≤ bd) (h6 : bd ≤ 9223372036854775807) :
    Calls Try.prog 149 #[.agg #[.int .i64 an, .int .i64 ad], .agg #[.int .i64 bn, .int .i64 bd]] w fun e w' => e = .returned (.int .i64 (fcmp an ad bn bd)) ∧ Below w.heap.size w w' := by
  obtain ⟨a1, a2⟩ := h1
  obtain ⟨b1, b2⟩ := h4
  by_cases p : an < 0
  · by_cases q : bn < 0
    · have H := Lib.hid (fcmp_neg p q h2 h5)
      have hc := cmpN_bd (an.natAbs * bd.natAbs) (bn.natAbs * ad.natAbs)
      go_enter Try.func149, Try.ntmps149
      go_wp2
      go_quiet (first | (go_at_call 153; exact Calls.quiet_same (size_any _ _ (by omega) (by omega))) | (go_at_call 167; exact Calls.quiet_same (compare_any _ _ _ _ _ (by omega) (by omega) (by omega) (by omega))))
      go_wp2
      go_ret
      exact ⟨by rw [H.out]; try rfl, below_to (ba2 _ _ _) (below_drewN _ _)⟩
    · have H := Lib.hid (fcmp_lt (bn := bn) p (by omega) h2 h5)
      go_enter Try.func149, Try.ntmps149
      go_wp2
      go_ret
      exact ⟨by rw [H.out]; try rfl, ba2 _ _ _⟩
  · by_cases q : bn < 0
    · have H := Lib.hid (fcmp_gt (an := an) (by omega) q h2 h5)
      go_enter Try.func149, Try.ntmps149
      go_wp2
      go_ret
      exact ⟨by rw [H.out]; try rfl, ba2 _ _ _⟩
    · have H := Lib.hid (fcmp_nn (an := an) (bn := bn) (by omega) (by omega) h2 h5)
      go_enter Try.func149, Try.ntmps149
      go_wp2
      go_quiet (first | (go_at_call 153; exact Calls.quiet_same (size_any _ _ (by omega) (by omega))) | (go_at_call 167; exact Calls.quiet_same (compare_any _ _ _ _ _ (by omega) (by omega) (by omega) (by omega))))
      go_wp2
      go_ret
      exact ⟨by rw [H.out]; try rfl, below_to (ba2 _ _ _) (below_drewN _ _)⟩

theorem cmp_any (an ad bn bd : Int) (w : World) (h1 : i64 an) (h2 : i64 ad) (h3 : i64 bn) (h4 : i64 bd) :
    Calls Try.prog 101 #[.agg #[.int .i64 an, .int .i64 ad], .agg #[.int .i64 bn, .int .i64 bd]] w fun e w' => e = .returned (.tuple #[.int .i64 (fcmpZ an ad bn bd), .int .i64 (fboth an ad bn bd)]) ∧ Below w.heap.size w w' := by
  by_cases p : fboth an ad bn bd = 0
  · have H : Hid (fcmpZ an ad bn bd = fcmp an ad bn bd) := if_pos p
    have b1 : (fboth an ad bn bd != 0) = false := by simp [p]
    obtain ⟨p1, p2⟩ := fboth_ok p
    obtain ⟨u1, u2, u3, u4, _⟩ := fok_of p1
    obtain ⟨v1, v2, v3, v4, _⟩ := fok_of p2
    have P := Lib.hid p
    clear p p1 p2
    go_enter Try.func101, Try.ntmps101
    go_wp2_with fail
    refine (frboth_any _ _ _ _ _ h1 h2 h3 h4).mono ?_
    rintro e w1 ⟨rfl, hb1⟩
    obtain ⟨c1, f1⟩ := bcell hb1
    have z1 := (hb1).size
    try simp at z1
    try simp at c1
    try simp at f1
    go_wp2_with fail
    refine (order_any _ _ _ _ _ h1 (by omega) (by omega) h3 (by omega) (by omega)).mono ?_
    rintro e w2 ⟨rfl, hb2⟩
    go_wp2
    go_ret2
    exact ⟨by rw [H.out, P.out]; try rfl, below_to (below_to (ba2 _ _ _) hb1) hb2⟩
  · have H : Hid (fcmpZ an ad bn bd = 0) := if_neg p
    have b1 : (fboth an ad bn bd != 0) = true := by simp [p]
    clear p
    go_enter Try.func101, Try.ntmps101
    go_wp2_with fail
    refine (frboth_any _ _ _ _ _ h1 h2 h3 h4).mono ?_
    rintro e w1 ⟨rfl, hb1⟩
    go_wp2
    go_ret2
    exact ⟨by rw [H.out]; try rfl, below_to (ba2 _ _ _) hb1⟩

end Go.Proofs.Ythlcmlngmcoknaa

/- What is proved here: the contract of fringeref01.Of. No condition. -/
namespace Go.Proofs.Ythlcmlngmcoknaa
open Go.RowKit

theorem rof_any (n : Int) (w : World) : Calls Try.prog 45 #[.int .i64 n] w fun e w' => e = .returned (.agg #[.int .i64 n, .int .i64 1]) ∧ Below w.heap.size w w' := by
  go_enter Try.func45, Try.ntmps45
  go_wp2
  have oR := Own.new w 78 [.int .i64 n, .int .i64 1]
  have hB := ba1 w (.cells #[.int .i64 n, .int .i64 1] 78)
  refine bp_gen' (fun W => Own W _ _ _ ∧ Below w.heap.size w W) ⟨oR, hB⟩ ?_
  rintro wz ⟨oz, bz⟩
  obtain ⟨rz, fz⟩ := oz.rules
  clear oz
  refine bodyPost_ret (v := .agg #[.int .i64 n, .int .i64 1]) (by simp [results, Try.results45, go_sem, rz]) rfl ⟨rfl, ?_⟩
  exact bz
end Go.Proofs.Ythlcmlngmcoknaa
