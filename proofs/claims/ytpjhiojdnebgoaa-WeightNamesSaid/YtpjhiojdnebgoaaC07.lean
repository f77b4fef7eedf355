/- What is proved here: contracts of functions and plain facts, several texts in one; each one says ahead what it proves, and its conditions. -/
import Derived.Test.YtpjhiojdnebgoaaC05
import Derived.Test.YtpjhiojdnebgoaaC06
/- What is proved here: sums of products of fractions, and lists of such sums, are the rational ones where no error comes. No program in sight. Condition: as each theorem says. -/
namespace Go.Proofs.Ytpjhiojdnebgoaa
open Go.RowKit

/-- A fraction as a rational number. -/
def qq (p : Int × Int) : Rat := Rat.divInt p.1 p.2
/-- A rational number as a fraction. -/
def up (x : Rat) : Int × Int := (x.num, (x.den : Int))
def uf (x : Rat) : FR := ⟨x.num, (x.den : Int), 0⟩
theorem qq_up (x : Rat) : qq (up x) = x := Q_self x
theorem up_qq {p : Int × Int} (h : fchk p.1 p.2 = 0) : up (qq p) = p := by obtain ⟨h1, h2, _⟩ := Q_ok h; exact Prod.ext h1 h2
theorem up_chk {x : Rat} (h : inr x) : fchk (up x).1 (up x).2 = 0 := fchk_inr h
theorem qq_inr {p : Int × Int} (h : fchk p.1 p.2 = 0) : inr (qq p) := (Q_ok h).2.2
theorem qq_int (n : Int) : qq (n, 1) = (n : Rat) := by unfold qq; rw [Rat.divInt_eq_div]; grind
theorem qq_00 : qq (0, 0) = 0 := by unfold qq; simp
theorem pack_val {x : Rat} (h : (pack x).e = 0) : inr x ∧ pack x = uf x := ⟨pack_e.1 h, pack_ok (pack_e.1 h)⟩
theorem fmul_qq {a b : Int × Int} (h1 : fchk a.1 a.2 = 0) (h2 : fchk b.1 b.2 = 0) : fmul a.1 a.2 b.1 b.2 = pack (qq a * qq b) := by rw [fmul_0 (fboth_of h1 h2), fmulV_pack h1 h2]; rfl
theorem fadd_qq {a b : Int × Int} (h1 : fchk a.1 a.2 = 0) (h2 : fchk b.1 b.2 = 0) : fadd a.1 a.2 b.1 b.2 = pack (qq a + qq b) := by rw [fadd_0 (fboth_of h1 h2)]; rfl
theorem fsub_qq {a b : Int × Int} (h1 : fchk a.1 a.2 = 0) (h2 : fchk b.1 b.2 = 0) : fsub a.1 a.2 b.1 b.2 = pack (qq a - qq b) := by rw [fsub_0 (fboth_of h1 h2)]; rfl
theorem fplus_go {s : Rat} {a b : Int × Int} (hs : inr s) (h1 : fchk a.1 a.2 = 0) (h2 : fchk b.1 b.2 = 0) (hp : inr (qq a * qq b)) (ht : inr (s + qq a * qq b)) :
    fplus (uf s).n (uf s).d a.1 a.2 b.1 b.2 = uf (s + qq a * qq b) := by
  have hm := fmul_qq h1 h2
  rw [pack_ok hp] at hm
  rw [fplus_0 (by rw [hm]), hm]
  have := fadd_qq (a := up s) (b := up (qq a * qq b)) (up_chk hs) (up_chk hp)
  rw [qq_up, qq_up, pack_ok ht] at this
  exact this
theorem fplus_val {s : Rat} {a b : Int × Int} (hs : inr s) (h1 : fchk a.1 a.2 = 0) (h2 : fchk b.1 b.2 = 0) (he : (fplus (uf s).n (uf s).d a.1 a.2 b.1 b.2).e = 0) :
    inr (s + qq a * qq b) ∧ fplus (uf s).n (uf s).d a.1 a.2 b.1 b.2 = uf (s + qq a * qq b) := by
  have hm := fmul_qq h1 h2
  by_cases hp : inr (qq a * qq b)
  · by_cases ht : inr (s + qq a * qq b)
    · exact ⟨ht, fplus_go hs h1 h2 hp ht⟩
    · exfalso
      rw [pack_ok hp] at hm
      rw [fplus_0 (by rw [hm]), hm] at he
      have := fadd_qq (a := up s) (b := up (qq a * qq b)) (up_chk hs) (up_chk hp)
      rw [qq_up, qq_up, pack_no ht] at this
      have he' : (fadd (up s).1 (up s).2 (up (qq a * qq b)).1 (up (qq a * qq b)).2).e = 0 := he
      rw [this] at he'
      cases he'
  · exfalso
    rw [pack_no hp] at hm
    rw [fplus_1 (by rw [hm]; decide), hm] at he
    cases he
/-- What a sum of products adds up, as a rational number. -/
def tq (t : Nat → (Int × Int) × (Int × Int)) (j : Nat) : Rat := qq (t j).1 * qq (t j).2
/-- The fractions of a sum of products are valid. -/
def tval (t : Nat → (Int × Int) × (Int × Int)) (k : Nat) : Prop := ∀ j, j < k → fchk (t j).1.1 (t j).1.2 = 0 ∧ fchk (t j).2.1 (t j).2.2 = 0
theorem inr_0 : inr 0 := by decide
theorem gsum_go {t : Nat → (Int × Int) × (Int × Int)} : ∀ k, tval t k → (∀ j, j < k → inr (tq t j)) → (∀ j, j ≤ k → inr (sm (tq t) j)) → gsum t k = uf (sm (tq t) k)
  | 0, _, _, _ => rfl
  | k + 1, hv, hp, hs => by
    have ih := gsum_go k (fun j hj => hv j (by omega)) (fun j hj => hp j (by omega)) (fun j hj => hs j (by omega))
    obtain ⟨h1, h2⟩ := hv k (by omega)
    rw [gsum_succ (by rw [ih]; rfl), ih, sm_succ]
    exact fplus_go (hs k (by omega)) h1 h2 (hp k (by omega)) (by have := hs (k + 1) (by omega); rw [sm_succ] at this; exact this)
theorem gsum_val {t : Nat → (Int × Int) × (Int × Int)} : ∀ k, tval t k → (gsum t k).e = 0 → inr (sm (tq t) k) ∧ gsum t k = uf (sm (tq t) k)
  | 0, _, _ => ⟨inr_0, rfl⟩
  | k + 1, hv, he => by
    have he' : (gsum t k).e = 0 := by
      apply Classical.byContradiction
      intro h
      rw [gsum_stop h (k + 1) (by omega)] at he
      exact h he
    obtain ⟨i1, i2⟩ := gsum_val k (fun j hj => hv j (by omega)) he'
    obtain ⟨h1, h2⟩ := hv k (by omega)
    rw [gsum_succ he', i2] at he ⊢
    rw [sm_succ]
    exact fplus_val i1 h1 h2 he
theorem sm_more {f : Nat → Rat} {n : Nat} : ∀ N, n ≤ N → (∀ j, n ≤ j → f j = 0) → sm f N = sm f n
  | 0, h, _ => by obtain rfl : n = 0 := by omega
                  rfl
  | N + 1, h, hz => by
    rcases Nat.lt_or_ge n (N + 1) with h1 | h1
    · rw [sm_succ, sm_more N (by omega) hz, hz N (by omega)]; grind
    · obtain rfl : n = N + 1 := by omega
      rfl
/-- The numbers of a list of rows without an error. -/
theorem rows_each {f : Nat → FR} : ∀ m, (rowsOf f m).2 = 0 → ∀ i, i < m → (f i).e = 0 ∧ (rowsOf f m).1[i]? = some ((f i).n, (f i).d)
  | 0, _, i, hi => by omega
  | m + 1, h, i, hi => by
    by_cases h1 : (rowsOf f m).2 = 0
    · by_cases h2 : (f m).e = 0
      · rw [rows_succ h1 h2]
        have hl := rows_len m h1
        rcases Nat.lt_or_ge i m with h3 | h3
        · obtain ⟨h4, h5⟩ := rows_each m h1 i h3
          exact ⟨h4, by rw [List.getElem?_append_left (by omega)]; exact h5⟩
        · obtain rfl : i = m := by omega
          exact ⟨h2, by rw [List.getElem?_append_right (by omega), hl]; simp⟩
      · rw [rows_err h1 h2] at h; exact absurd h h2
    · rw [rows_stop h1 (m + 1) (by omega)] at h; exact absurd h h1
/-- A list of rows has no error where none of them has one. -/
theorem rows_go {f : Nat → FR} : ∀ m, (∀ i, i < m → (f i).e = 0) → (rowsOf f m).2 = 0
  | 0, _ => rfl
  | m + 1, h => by rw [rows_succ (rows_go m fun i hi => h i (by omega)) (h m (by omega))]
theorem rows_list {f : Nat → FR} {g : Nat → Rat} {m : Nat} (h : ∀ i, i < m → f i = uf (g i)) : rowsOf f m = ((List.range m).map fun i => up (g i), 0) := by
  have h0 : (rowsOf f m).2 = 0 := rows_go (f := f) m fun i hi => by rw [h i hi]; rfl
  have hl := rows_len m h0
  refine Prod.ext (List.ext_getElem? fun i => ?_) h0
  rcases Nat.lt_or_ge i m with hi | hi
  · rw [(rows_each m h0 i hi).2, h i hi, List.getElem?_map, List.getElem?_range hi]; rfl
  · rw [List.getElem?_eq_none (by omega), List.getElem?_eq_none (by simp; omega)]
theorem inr_frac {a b : Int} (hb : 0 < b) (h1 : b ≤ 1000000000000000000) (h2 : -1000000000000000000 ≤ a) (h3 : a ≤ 1000000000000000000) : inr ((a : Rat) / (b : Rat)) := by
  rw [← Rat.divInt_eq_div]
  have := (fmk_ok (num := a) (den := b) (by omega) h1 h2 h3).1
  rw [fmk_pack (by omega)] at this
  exact pack_e.1 this
theorem fmk_uf {a b : Int} (hb : 0 < b) (h1 : b ≤ 1000000000000000000) (h2 : -1000000000000000000 ≤ a) (h3 : a ≤ 1000000000000000000) : fmk a b = uf ((a : Rat) / (b : Rat)) := by
  have := inr_frac hb h1 h2 h3
  rw [fmk_pack (by omega), ← Rat.divInt_eq_div] at *
  exact pack_ok this
theorem sm_div (u : Nat → Int) (D : Int) : ∀ k, sm (fun j => ((u j : Int) : Rat) / (D : Rat)) k = ((si u k : Int) : Rat) / (D : Rat)
  | 0 => by rw [sm_zero]; show (0 : Rat) = ((0 : Int) : Rat) / _; rw [Rat.div_def]; show (0 : Rat) = 0 * _; grind
  | k + 1 => by rw [sm_succ, sm_div u D k, si_succ, Rat.intCast_add, Rat.div_def, Rat.div_def, Rat.div_def]; grind
theorem mul_div' (a n D : Int) : (a : Rat) * ((n : Rat) / (D : Rat)) = ((a * n : Int) : Rat) / (D : Rat) := by
  rw [Rat.intCast_mul, Rat.div_def, Rat.div_def]; grind
end Go.Proofs.Ytpjhiojdnebgoaa

/- What is proved here: lists of visibilities, their mean and their groups in plain Lean. No program in sight. -/
namespace Go.Proofs.Ytpjhiojdnebgoaa
open Go.RowKit

/-- A visibility: the baseline, the value, the weight. -/
structure Vs where
  i : Int
  j : Int
  re : Int
  im : Int
  den : Int
  n : Int
deriving DecidableEq
def Vs.cs (v : Vs) : List Value := [.int .i64 v.i, .int .i64 v.j, .int .i64 v.re, .int .i64 v.im, .int .i64 v.den, .int .i64 v.n]
/-- The visibility as a value. -/
def Vs.val (v : Vs) : Value := .agg #[.int .i64 v.i, .int .i64 v.j, .int .i64 v.re, .int .i64 v.im, .int .i64 v.den, .int .i64 v.n]
def vcs (l : List Vs) : List Value := l.flatMap Vs.cs
theorem vcs_nil : vcs [] = [] := rfl
theorem vcs_append (xs ys : List Vs) : vcs (xs ++ ys) = vcs xs ++ vcs ys := by simp [vcs]
theorem vcs_cons (v : Vs) (xs : List Vs) : vcs (v :: xs) = v.cs ++ vcs xs := by simp [vcs]
theorem vcs_len (xs : List Vs) : (vcs xs).length = xs.length * 6 := by
  induction xs with
  | nil => rfl
  | cons v xs ih => rw [vcs_cons, List.length_append, ih]; simp [Vs.cs]; omega
theorem vcs_get : ∀ (xs : List Vs) (i : Nat) (h : i < xs.length) (k : Nat), k < 6 → (vcs xs)[i * 6 + k]? = (xs[i]).cs[k]?
  | v :: xs, 0, _, k, hk => by
    rw [vcs_cons, List.getElem?_append_left (by simp [Vs.cs]; omega)]; simp
  | v :: xs, i + 1, h, k, hk => by
    have hl : i < xs.length := by simpa using h
    have ih := vcs_get xs i hl k hk
    rw [vcs_cons, List.getElem?_append_right (by simp [Vs.cs]; omega)]
    have e : (i + 1) * 6 + k - v.cs.length = i * 6 + k := by simp [Vs.cs]; omega
    rw [e, ih]; rfl
def SV (w : World) (v : Value) (xs : List Vs) : Prop := Sl w v xs.length (vcs xs)
theorem SV.below {w w' : World} {v : Value} {xs : List Vs} (h : SV w v xs) (hb : Below w.heap.size w w') : SV w' v xs := Sl.below h hb
theorem SV.grow {w : World} {v : Value} {xs : List Vs} (h : SV w v xs) (e : World) : SV (grow w e) v xs := Sl.grow h e
/-- All numbers are 64-bit ones. -/
def VI (l : List Vs) : Prop := ∀ v ∈ l, i64 v.i ∧ i64 v.j ∧ i64 v.re ∧ i64 v.im ∧ i64 v.den ∧ i64 v.n
theorem VI.get {l : List Vs} (h : VI l) {k : Nat} (hk : k < l.length) : i64 l[k].i ∧ i64 l[k].j ∧ i64 l[k].re ∧ i64 l[k].im ∧ i64 l[k].den ∧ i64 l[k].n := h _ (List.getElem_mem hk)
theorem SV.open {w : World} {v : Value} {xs : List Vs} (h : SV w v xs) : ∃ ad cap, v = .slice ad xs.length cap ∧ xs.length ≤ cap ∧ xs.length ≤ 9223372036854775807 ∧
    Hid (∀ i (h : i < xs.length), ∃ b off, ad = some ⟨b, off, none⟩ ∧ w.cell? ⟨b, off + i * 6, none⟩ = some (.int .i64 xs[i].i) ∧ w.cell? ⟨b, off + i * 6 + 1, none⟩ = some (.int .i64 xs[i].j) ∧ w.cell? ⟨b, off + i * 6 + 2, none⟩ = some (.int .i64 xs[i].re) ∧ w.cell? ⟨b, off + i * 6 + 3, none⟩ = some (.int .i64 xs[i].im) ∧ w.cell? ⟨b, off + i * 6 + 4, none⟩ = some (.int .i64 xs[i].den) ∧ w.cell? ⟨b, off + i * 6 + 5, none⟩ = some (.int .i64 xs[i].n)) := by
  obtain ⟨ad, cap, h1, h2, h3, h4⟩ := h
  refine ⟨ad, cap, h1, h2, h3, fun i hi => ?_⟩
  have g := vcs_get xs i hi
  obtain ⟨b, off, e, c0⟩ := h4 (i * 6 + 0) _ (by rw [g 0 (by decide)]; rfl)
  refine ⟨b, off, e, c0, ?_, ?_, ?_, ?_, ?_⟩
  all_goals subst e
  · obtain ⟨_, _, e, c⟩ := h4 (i * 6 + 1) _ (by rw [g 1 (by decide)]; rfl); cases e; exact c
  · obtain ⟨_, _, e, c⟩ := h4 (i * 6 + 2) _ (by rw [g 2 (by decide)]; rfl); cases e; exact c
  · obtain ⟨_, _, e, c⟩ := h4 (i * 6 + 3) _ (by rw [g 3 (by decide)]; rfl); cases e; exact c
  · obtain ⟨_, _, e, c⟩ := h4 (i * 6 + 4) _ (by rw [g 4 (by decide)]; rfl); cases e; exact c
  · obtain ⟨_, _, e, c⟩ := h4 (i * 6 + 5) _ (by rw [g 5 (by decide)]; rfl); cases e; exact c
theorem sv_nil (w : World) : SV w (.slice none 0 0) [] := ⟨none, 0, rfl, Nat.le_refl _, by decide, fun i x hx => by simp [vcs] at hx⟩

/-- The error of a visibility. -/
def Vs.chk (v : Vs) : Int := vchk v.i v.j v.re v.im v.den v.n
theorem Vs.chk_cases (v : Vs) : v.chk = 0 ∨ v.chk = 8 := by unfold Vs.chk vchk; split <;> simp
theorem Vs.chk_ok {v : Vs} (h : v.chk = 0) : 0 ≤ v.i ∧ v.i < v.j ∧ v.j < 8 ∧ cokB v.re v.im v.den = true ∧ 0 ≤ v.n ∧ v.n ≤ 1000000 := by
  unfold Vs.chk vchk vokB at h
  split at h
  · rename_i h'
    simp only [Bool.and_eq_true, decide_eq_true_eq] at h'
    exact ⟨h'.1.1.1.1.1, h'.1.1.1.1.2, h'.1.1.1.2, h'.1.1.2, h'.1.2, h'.2⟩
  · cases h
def vall (l : List Vs) : Bool := l.all fun v => v.chk == 0
theorem vall_get {l : List Vs} (h : vall l = true) {k : Nat} (hk : k < l.length) : l[k].chk = 0 := by
  unfold vall at h; rw [List.all_eq_true] at h; simpa using h _ (List.getElem_mem hk)
theorem vall_mem {l : List Vs} (h : vall l = true) {v : Vs} (hv : v ∈ l) : v.chk = 0 := by
  unfold vall at h; rw [List.all_eq_true] at h; simpa using h _ hv
theorem vall_take {l : List Vs} {k : Nat} (hk : k < l.length) (h : vall (l.take k) = true) (hz : l[k].chk = 0) : vall (l.take (k + 1)) = true := by
  unfold vall at *
  rw [List.take_succ_eq_append_getElem hk, List.all_append, h]; simp [hz]
theorem vall_not {l : List Vs} {k : Nat} (hk : k < l.length) (hz : ¬ l[k].chk = 0) : vall l = false := by
  unfold vall
  rw [List.all_eq_false]
  exact ⟨l[k], List.getElem_mem hk, by simpa using hz⟩
theorem vall_end {l : List Vs} {k : Nat} (hk : ¬ k < l.length) (h : vall (l.take k) = true) : vall l = true := by rwa [List.take_of_length_le (by omega)] at h
/-- The error of a list. -/
def vlist (l : List Vs) : Int := if 200 < l.length then 4 else if vall l = false then 8 else 0
theorem vlist_0 {l : List Vs} (h : vlist l = 0) : l.length ≤ 200 ∧ vall l = true := by
  unfold vlist at h
  split at h
  · cases h
  · split at h
    · cases h
    · rename_i h1 h2; exact ⟨by omega, by simpa using h2⟩
/-- The sum of the weights of the first k. -/
def wsum (l : List Vs) : Nat → Int
  | 0 => 0
  | k + 1 => wsum l k + (l.map Vs.n).getD k 0
theorem wsum_succ {l : List Vs} {k : Nat} (hk : k < l.length) : wsum l (k + 1) = wsum l k + l[k].n := by
  rw [wsum]; simp [List.getD, hk]
theorem wsum_bd {l : List Vs} (h : vall l = true) : ∀ k, k ≤ l.length → 0 ≤ wsum l k ∧ wsum l k ≤ 1000000 * (k : Int)
  | 0, _ => by simp [wsum]
  | k + 1, hk => by
    have ih := wsum_bd h k (by omega)
    have := (Vs.chk_ok (vall_get h (show k < l.length by omega)))
    rw [wsum_succ (by omega)]; omega
/-- What a mean adds up: the weight times a part. -/
def meanT (p : Vs → Int) (l : List Vs) (k : Nat) : (Int × Int) × (Int × Int) :=
  (((l.map Vs.n).getD k 0, 1), ((l.map fun v => ((fmk (p v) v.den).n, (fmk (p v) v.den).d)).getD k (0, 0)))
theorem mean_succ {p : Vs → Int} {l : List Vs} {k : Nat} (hk : k < l.length) (h : (gsum (meanT p l) k).e = 0) :
    gsum (meanT p l) (k + 1) = fplus (gsum (meanT p l) k).n (gsum (meanT p l) k).d l[k].n 1 (fmk (p l[k]) l[k].den).n (fmk (p l[k]) l[k].den).d := by
  rw [gsum_succ h]; simp [meanT, List.getD, hk]
/-- The mean of one part of the values. -/
def fmean (p : Vs → Int) (l : List Vs) : FR := if (gsum (meanT p l) l.length).e = 0 then fdiv (gsum (meanT p l) l.length).n (gsum (meanT p l) l.length).d (wsum l l.length) 1 else ⟨0, 0, (gsum (meanT p l) l.length).e⟩
theorem fmean_0 {p : Vs → Int} {l : List Vs} (h : (gsum (meanT p l) l.length).e = 0) : fmean p l = fdiv (gsum (meanT p l) l.length).n (gsum (meanT p l) l.length).d (wsum l l.length) 1 := if_pos h
theorem fmean_1 {p : Vs → Int} {l : List Vs} (h : ¬ (gsum (meanT p l) l.length).e = 0) : fmean p l = ⟨0, 0, (gsum (meanT p l) l.length).e⟩ := if_neg h
theorem fmean_end {p : Vs → Int} {l : List Vs} {k : Nat} (hk : k < l.length) (h : ¬ (gsum (meanT p l) (k + 1)).e = 0) : fmean p l = ⟨0, 0, (gsum (meanT p l) (k + 1)).e⟩ := by
  have := gsum_stop h l.length hk
  rw [fmean_1 (by rw [this]; exact h), this]
theorem fmean_i64 (p : Vs → Int) (l : List Vs) : i64 (fmean p l).n ∧ i64 (fmean p l).d := by
  by_cases h : (gsum (meanT p l) l.length).e = 0
  · rw [fmean_0 h]; exact fdiv_i64 _ _ _ _
  · rw [fmean_1 h]; exact ⟨i64_0, i64_0⟩
def VR.bad (e : Int) : VR := ⟨0, 0, 0, 0, 0, 0, e⟩
/-- The mean of visibilities of one baseline. -/
def vmean (l : List Vs) : VR :=
  if wsum l l.length = 0 then VR.bad 18 else if (fmean Vs.re l).e ≠ 0 then VR.bad (fmean Vs.re l).e else if (fmean Vs.im l).e ≠ 0 then VR.bad (fmean Vs.im l).e
  else if wok (fmean Vs.re l).n (fmean Vs.re l).d (fmean Vs.im l).n (fmean Vs.im l).d = false ∨ 1000000 < wsum l l.length then VR.bad 16
  else ⟨(l.headD ⟨0, 0, 0, 0, 0, 0⟩).i, (l.headD ⟨0, 0, 0, 0, 0, 0⟩).j, (wval (fmean Vs.re l).n (fmean Vs.re l).d (fmean Vs.im l).n (fmean Vs.im l).d).re, (wval (fmean Vs.re l).n (fmean Vs.re l).d (fmean Vs.im l).n (fmean Vs.im l).d).im, (wval (fmean Vs.re l).n (fmean Vs.re l).d (fmean Vs.im l).n (fmean Vs.im l).d).den, wsum l l.length, 0⟩
/-- All are of the baseline of the first one. -/
def vsame (l : List Vs) (a b : Int) : Bool := l.all fun v => v.i == a && v.j == b
theorem vsame_take {l : List Vs} {a b : Int} {k : Nat} (hk : k < l.length) (h : vsame (l.take k) a b = true) (h1 : l[k].i = a) (h2 : l[k].j = b) : vsame (l.take (k + 1)) a b = true := by
  unfold vsame at *
  rw [List.take_succ_eq_append_getElem hk, List.all_append, h]; simp [h1, h2]
theorem vsame_not {l : List Vs} {a b : Int} {k : Nat} (hk : k < l.length) (h : ¬ (l[k].i = a ∧ l[k].j = b)) : vsame l a b = false := by
  unfold vsame
  rw [List.all_eq_false]
  exact ⟨l[k], List.getElem_mem hk, by simpa using h⟩
theorem vsame_end {l : List Vs} {a b : Int} {k : Nat} (hk : ¬ k < l.length) (h : vsame (l.take k) a b = true) : vsame l a b = true := by rwa [List.take_of_length_le (by omega)] at h
/-- Mean. -/
def vMean (l : List Vs) : VR :=
  if vlist l ≠ 0 then VR.bad (vlist l) else if l.length = 0 then VR.bad 2 else if vsame l (l.headD ⟨0, 0, 0, 0, 0, 0⟩).i (l.headD ⟨0, 0, 0, 0, 0, 0⟩).j = false then VR.bad 2 else vmean l
/-- The visibilities of a baseline. -/
def vof (l : List Vs) (a b : Int) : List Vs := l.filter fun v => v.i == a && v.j == b
theorem vof_take {l : List Vs} {a b : Int} {k : Nat} (hk : k < l.length) : vof (l.take (k + 1)) a b = if l[k].i = a ∧ l[k].j = b then vof (l.take k) a b ++ [l[k]] else vof (l.take k) a b := by
  unfold vof
  rw [List.take_succ_eq_append_getElem hk, List.filter_append]
  by_cases h : l[k].i = a ∧ l[k].j = b
  · rw [if_pos h]; simp [h.1, h.2]
  · rw [if_neg h]
    have : ([l[k]].filter fun v => v.i == a && v.j == b) = [] := by
      rw [List.filter_cons_of_neg (by simpa using h)]; rfl
    rw [this, List.append_nil]
/-- The means of the first m baselines. -/
def vgrp (l : List Vs) : Nat → List Vs × Int
  | 0 => ([], 0)
  | m + 1 => if (vgrp l m).2 ≠ 0 then vgrp l m else if wsum (vof l ((m / 8 : Nat) : Int) ((m % 8 : Nat) : Int)) (vof l ((m / 8 : Nat) : Int) ((m % 8 : Nat) : Int)).length = 0 then vgrp l m
    else if (vmean (vof l ((m / 8 : Nat) : Int) ((m % 8 : Nat) : Int))).e ≠ 0 then ([], (vmean (vof l ((m / 8 : Nat) : Int) ((m % 8 : Nat) : Int))).e)
    else ((vgrp l m).1 ++ [⟨(vmean (vof l ((m / 8 : Nat) : Int) ((m % 8 : Nat) : Int))).i, (vmean (vof l ((m / 8 : Nat) : Int) ((m % 8 : Nat) : Int))).j, (vmean (vof l ((m / 8 : Nat) : Int) ((m % 8 : Nat) : Int))).re, (vmean (vof l ((m / 8 : Nat) : Int) ((m % 8 : Nat) : Int))).im, (vmean (vof l ((m / 8 : Nat) : Int) ((m % 8 : Nat) : Int))).den, (vmean (vof l ((m / 8 : Nat) : Int) ((m % 8 : Nat) : Int))).n⟩], 0)
def vGroup (l : List Vs) : List Vs × Int := if vlist l ≠ 0 then ([], vlist l) else vgrp l 64
theorem vgrp_stop {l : List Vs} {m : Nat} (h : (vgrp l m).2 ≠ 0) : ∀ k, vgrp l (m + k) = vgrp l m
  | 0 => rfl
  | k + 1 => by
    have ih := vgrp_stop h k
    have e : vgrp l (m + (k + 1)) = vgrp l (m + k) := by
      show vgrp l ((m + k) + 1) = _
      rw [vgrp, if_pos (by rw [ih]; exact h)]
    rw [e, ih]
end Go.Proofs.Ytpjhiojdnebgoaa

/- What is proved here: parts of valid visibilities are valid fractions, in plain Lean. No program in sight. -/
namespace Go.Proofs.Ytpjhiojdnebgoaa
open Go.RowKit

theorem fmk_i64 (a b : Int) : i64 (fmk a b).n ∧ i64 (fmk a b).d := by
  by_cases h : b = 0
  · subst h; rw [fmk_0]; exact ⟨i64_0, i64_0⟩
  · rw [fmk_pack h]; exact pack_i64 _
/-- What a part of a visibility is. -/
structure PartOk (p : Vs → Int) (v : Vs) : Prop where
  e : (fmk (p v) v.den).e = 0
  p : i64 (p v)
  d : i64 v.den
  n : i64 v.n
theorem Vs.small {v : Vs} (h : v.chk = 0) : 1 ≤ v.den ∧ v.den ≤ 1000000000 ∧ -1000000000 ≤ v.re ∧ v.re ≤ 1000000000 ∧ -1000000000 ≤ v.im ∧ v.im ≤ 1000000000 := by
  obtain ⟨_, _, _, h, _, _⟩ := Vs.chk_ok h
  exact cok_fit h
theorem part_re {v : Vs} (h : v.chk = 0) : PartOk Vs.re v := by
  obtain ⟨h1, h2, h3, h4, h5, h6⟩ := Vs.small h
  obtain ⟨_, _, _, _, n1, n2⟩ := Vs.chk_ok h
  exact ⟨by rw [fmk_uf (by omega) (by omega) (by omega) (by omega)]; rfl, ⟨by omega, by omega⟩, ⟨by omega, by omega⟩, ⟨by omega, by omega⟩⟩
theorem part_im {v : Vs} (h : v.chk = 0) : PartOk Vs.im v := by
  obtain ⟨h1, h2, h3, h4, h5, h6⟩ := Vs.small h
  obtain ⟨_, _, _, _, n1, n2⟩ := Vs.chk_ok h
  exact ⟨by rw [fmk_uf (by omega) (by omega) (by omega) (by omega)]; rfl, ⟨by omega, by omega⟩, ⟨by omega, by omega⟩, ⟨by omega, by omega⟩⟩
theorem fdiv_chk {a b c d : Int} (h : (fdiv a b c d).e = 0) : fchk (fdiv a b c d).n (fdiv a b c d).d = 0 := by
  by_cases h1 : fboth a b c d = 0
  · by_cases h2 : c = 0
    · rw [fdiv_0 h1 h2] at h; cases h
    · rw [fdiv_1 h1 h2] at h ⊢
      have := pack_e.1 h
      rw [pack_ok this]; exact fchk_inr this
  · rw [fdiv_8 h1] at h; exact absurd h h1
theorem fmean_chk {p : Vs → Int} {l : List Vs} (h : (fmean p l).e = 0) : fchk (fmean p l).n (fmean p l).d = 0 := by
  by_cases h1 : (gsum (meanT p l) l.length).e = 0
  · rw [fmean_0 h1] at h ⊢; exact fdiv_chk h
  · rw [fmean_1 h1] at h; exact absurd h h1
section
variable {l : List Vs}
theorem vmean_18 (h : wsum l l.length = 0) : vmean l = VR.bad 18 := if_pos h
theorem vmean_re (h : ¬ wsum l l.length = 0) (h1 : ¬ (fmean Vs.re l).e = 0) : vmean l = VR.bad (fmean Vs.re l).e := by unfold vmean; rw [if_neg h, if_pos h1]
theorem vmean_im (h : ¬ wsum l l.length = 0) (h1 : (fmean Vs.re l).e = 0) (h2 : ¬ (fmean Vs.im l).e = 0) : vmean l = VR.bad (fmean Vs.im l).e := by unfold vmean; rw [if_neg h, if_neg (by simp [h1]), if_pos h2]
theorem vmean_16 (h : ¬ wsum l l.length = 0) (h1 : (fmean Vs.re l).e = 0) (h2 : (fmean Vs.im l).e = 0) (h3 : wok (fmean Vs.re l).n (fmean Vs.re l).d (fmean Vs.im l).n (fmean Vs.im l).d = false ∨ 1000000 < wsum l l.length) : vmean l = VR.bad 16 := by
  unfold vmean; rw [if_neg h, if_neg (by simp [h1]), if_neg (by simp [h2]), if_pos h3]
theorem vmean_0 (h0 : 0 < l.length) (h : ¬ wsum l l.length = 0) (h1 : (fmean Vs.re l).e = 0) (h2 : (fmean Vs.im l).e = 0) (h3 : wok (fmean Vs.re l).n (fmean Vs.re l).d (fmean Vs.im l).n (fmean Vs.im l).d = true) (h4 : wsum l l.length ≤ 1000000) :
    vmean l = ⟨l[0].i, l[0].j, (wval (fmean Vs.re l).n (fmean Vs.re l).d (fmean Vs.im l).n (fmean Vs.im l).d).re, (wval (fmean Vs.re l).n (fmean Vs.re l).d (fmean Vs.im l).n (fmean Vs.im l).d).im, (wval (fmean Vs.re l).n (fmean Vs.re l).d (fmean Vs.im l).n (fmean Vs.im l).d).den, wsum l l.length, 0⟩ := by
  unfold vmean
  rw [if_neg h, if_neg (by simp [h1]), if_neg (by simp [h2]), if_neg (by rw [h3]; simp; omega)]
  have e : l.headD ⟨0, 0, 0, 0, 0, 0⟩ = l[0] := by
    cases l with
    | nil => exact absurd h0 (Nat.lt_irrefl _)
    | cons v l => rfl
  rw [e]
theorem vs_head (h0 : 0 < l.length) : l.headD ⟨0, 0, 0, 0, 0, 0⟩ = l[0] := by
  cases l with
  | nil => exact absurd h0 (Nat.lt_irrefl _)
  | cons v l => rfl
theorem vMean_l (h : ¬ vlist l = 0) : vMean l = VR.bad (vlist l) := if_pos h
theorem vMean_e (h : vlist l = 0) (h1 : l.length = 0) : vMean l = VR.bad 2 := by unfold vMean; rw [if_neg (by simp [h]), if_pos h1]
theorem vMean_2 (h : vlist l = 0) (h0 : 0 < l.length) (h1 : vsame l l[0].i l[0].j = false) : vMean l = VR.bad 2 := by unfold vMean; rw [if_neg (by simp [h]), if_neg (by omega), vs_head h0, if_pos h1]
theorem vMean_0 (h : vlist l = 0) (h0 : 0 < l.length) (h1 : vsame l l[0].i l[0].j = true) : vMean l = vmean l := by unfold vMean; rw [if_neg (by simp [h]), if_neg (by omega), vs_head h0, if_neg (by rw [h1]; decide)]
end
end Go.Proofs.Ytpjhiojdnebgoaa
