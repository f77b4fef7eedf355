/- What is proved here: contracts of functions and plain facts, several texts in one; each one says ahead what it proves, and its conditions. -/
import Derived.Test.YtpjhiojdnebgoaaC41
import Derived.Test.YtpjhiojdnebgoaaC42
/- What is proved here: sums of products of fractions, and lists of such sums, are the rational ones where no error comes. No program in sight. Condition: as each theorem says. -/
namespace Go.Proofs.Ytpjhiojdnebgoaa
open Go.RowKit

/-- A fraction as a rational number. -/
def qq (p : Int × Int) : Rat := Rat.divInt p.1 p.2
/-- A rational number as a fraction. -/
def up (x : Rat) : Int × Int := (x.num, (x.den : Int))
def uf (x : Rat) : FR := ⟨x.num, (x.den : Int), 0⟩
theorem qq_up (x : Rat) : qq (up x) = x := Q_self x
theorem up_qq {p : Int × Int} (h : fchk p.1 p.2 = 0) : up (qq p) = p := by obtain ⟨h1, h2, _⟩ := Q_ok h; exact Prod.ext h1 h2
theorem up_chk {x : Rat} (h : inr x) : fchk (up x).1 (up x).2 = 0 := fchk_inr h
theorem qq_inr {p : Int × Int} (h : fchk p.1 p.2 = 0) : inr (qq p) := (Q_ok h).2.2
theorem qq_int (n : Int) : qq (n, 1) = (n : Rat) := by unfold qq; rw [Rat.divInt_eq_div]; grind
theorem qq_00 : qq (0, 0) = 0 := by unfold qq; simp
theorem pack_val {x : Rat} (h : (pack x).e = 0) : inr x ∧ pack x = uf x := ⟨pack_e.1 h, pack_ok (pack_e.1 h)⟩
theorem fmul_qq {a b : Int × Int} (h1 : fchk a.1 a.2 = 0) (h2 : fchk b.1 b.2 = 0) : fmul a.1 a.2 b.1 b.2 = pack (qq a * qq b) := by rw [fmul_0 (fboth_of h1 h2), fmulV_pack h1 h2]; rfl
theorem fadd_qq {a b : Int × Int} (h1 : fchk a.1 a.2 = 0) (h2 : fchk b.1 b.2 = 0) : fadd a.1 a.2 b.1 b.2 = pack (qq a + qq b) := by rw [fadd_0 (fboth_of h1 h2)]; rfl
theorem fsub_qq {a b : Int × Int} (h1 : fchk a.1 a.2 = 0) (h2 : fchk b.1 b.2 = 0) : fsub a.1 a.2 b.1 b.2 = pack (qq a - qq b) := by rw [fsub_0 (fboth_of h1 h2)]; rfl
theorem fplus_go {s : Rat} {a b : Int × Int} (hs : inr s) (h1 : fchk a.1 a.2 = 0) (h2 : fchk b.1 b.2 = 0) (hp : inr (qq a * qq b)) (ht : inr (s + qq a * qq b)) :
    fplus (uf s).n (uf s).d a.1 a.2 b.1 b.2 = uf (s + qq a * qq b) := by
  have hm := fmul_qq h1 h2
  rw [pack_ok hp] at hm
  rw [fplus_0 (by rw [hm]), hm]
  have := fadd_qq (a := up s) (b := up (qq a * qq b)) (up_chk hs) (up_chk hp)
  rw [qq_up, qq_up, pack_ok ht] at this
  exact this
theorem fplus_val {s : Rat} {a b : Int × Int} (hs : inr s) (h1 : fchk a.1 a.2 = 0) (h2 : fchk b.1 b.2 = 0) (he : (fplus (uf s).n (uf s).d a.1 a.2 b.1 b.2).e = 0) :
    inr (s + qq a * qq b) ∧ fplus (uf s).n (uf s).d a.1 a.2 b.1 b.2 = uf (s + qq a * qq b) := by
  have hm := fmul_qq h1 h2
  by_cases hp : inr (qq a * qq b)
  · by_cases ht : inr (s + qq a * qq b)
    · exact ⟨ht, fplus_go hs h1 h2 hp ht⟩
    · exfalso
      rw [pack_ok hp] at hm
      rw [fplus_0 (by rw [hm]), hm] at he
      have := fadd_qq (a := up s) (b := up (qq a * qq b)) (up_chk hs) (up_chk hp)
      rw [qq_up, qq_up, pack_no ht] at this
      have he' : (fadd (up s).1 (up s).2 (up (qq a * qq b)).1 (up (qq a * qq b)).2).e = 0 := he
      rw [this] at he'
      cases he'
  · exfalso
    rw [pack_no hp] at hm
    rw [fplus_1 (by rw [hm]; decide), hm] at he
    cases he
/-- What a sum of products adds up, as a rational number. -/
def tq (t : Nat → (Int × Int) × (Int × Int)) (j : Nat) : Rat := qq (t j).1 * qq (t j).2
/-- The fractions of a sum of products are valid. -/
def tval (t : Nat → (Int × Int) × (Int × Int)) (k : Nat) : Prop := ∀ j, j < k → fchk (t j).1.1 (t j).1.2 = 0 ∧ fchk (t j).2.1 (t j).2.2 = 0
theorem inr_0 : inr 0 := by decide
theorem gsum_go {t : Nat → (Int × Int) × (Int × Int)} : ∀ k, tval t k → (∀ j, j < k → inr (tq t j)) → (∀ j, j ≤ k → inr (sm (tq t) j)) → gsum t k = uf (sm (tq t) k)
  | 0, _, _, _ => rfl
  | k + 1, hv, hp, hs => by
    have ih := gsum_go k (fun j hj => hv j (by omega)) (fun j hj => hp j (by omega)) (fun j hj => hs j (by omega))
    obtain ⟨h1, h2⟩ := hv k (by omega)
    rw [gsum_succ (by rw [ih]; rfl), ih, sm_succ]
    exact fplus_go (hs k (by omega)) h1 h2 (hp k (by omega)) (by have := hs (k + 1) (by omega); rw [sm_succ] at this; exact this)
theorem gsum_val {t : Nat → (Int × Int) × (Int × Int)} : ∀ k, tval t k → (gsum t k).e = 0 → inr (sm (tq t) k) ∧ gsum t k = uf (sm (tq t) k)
  | 0, _, _ => ⟨inr_0, rfl⟩
  | k + 1, hv, he => by
    have he' : (gsum t k).e = 0 := by
      apply Classical.byContradiction
      intro h
      rw [gsum_stop h (k + 1) (by omega)] at he
      exact h he
    obtain ⟨i1, i2⟩ := gsum_val k (fun j hj => hv j (by omega)) he'
    obtain ⟨h1, h2⟩ := hv k (by omega)
    rw [gsum_succ he', i2] at he ⊢
    rw [sm_succ]
    exact fplus_val i1 h1 h2 he
theorem sm_more {f : Nat → Rat} {n : Nat} : ∀ N, n ≤ N → (∀ j, n ≤ j → f j = 0) → sm f N = sm f n
  | 0, h, _ => by obtain rfl : n = 0 := by omega
                  rfl
  | N + 1, h, hz => by
    rcases Nat.lt_or_ge n (N + 1) with h1 | h1
    · rw [sm_succ, sm_more N (by omega) hz, hz N (by omega)]; grind
    · obtain rfl : n = N + 1 := by omega
      rfl
/-- The numbers of a list of rows without an error. -/
theorem rows_each {f : Nat → FR} : ∀ m, (rowsOf f m).2 = 0 → ∀ i, i < m → (f i).e = 0 ∧ (rowsOf f m).1[i]? = some ((f i).n, (f i).d)
  | 0, _, i, hi => by omega
  | m + 1, h, i, hi => by
    by_cases h1 : (rowsOf f m).2 = 0
    · by_cases h2 : (f m).e = 0
      · rw [rows_succ h1 h2]
        have hl := rows_len m h1
        rcases Nat.lt_or_ge i m with h3 | h3
        · obtain ⟨h4, h5⟩ := rows_each m h1 i h3
          exact ⟨h4, by rw [List.getElem?_append_left (by omega)]; exact h5⟩
        · obtain rfl : i = m := by omega
          exact ⟨h2, by rw [List.getElem?_append_right (by omega), hl]; simp⟩
      · rw [rows_err h1 h2] at h; exact absurd h h2
    · rw [rows_stop h1 (m + 1) (by omega)] at h; exact absurd h h1
/-- A list of rows has no error where none of them has one. -/
theorem rows_go {f : Nat → FR} : ∀ m, (∀ i, i < m → (f i).e = 0) → (rowsOf f m).2 = 0
  | 0, _ => rfl
  | m + 1, h => by rw [rows_succ (rows_go m fun i hi => h i (by omega)) (h m (by omega))]
theorem rows_list {f : Nat → FR} {g : Nat → Rat} {m : Nat} (h : ∀ i, i < m → f i = uf (g i)) : rowsOf f m = ((List.range m).map fun i => up (g i), 0) := by
  have h0 : (rowsOf f m).2 = 0 := rows_go (f := f) m fun i hi => by rw [h i hi]; rfl
  have hl := rows_len m h0
  refine Prod.ext (List.ext_getElem? fun i => ?_) h0
  rcases Nat.lt_or_ge i m with hi | hi
  · rw [(rows_each m h0 i hi).2, h i hi, List.getElem?_map, List.getElem?_range hi]; rfl
  · rw [List.getElem?_eq_none (by omega), List.getElem?_eq_none (by simp; omega)]
theorem inr_frac {a b : Int} (hb : 0 < b) (h1 : b ≤ 1000000000000000000) (h2 : -1000000000000000000 ≤ a) (h3 : a ≤ 1000000000000000000) : inr ((a : Rat) / (b : Rat)) := by
  rw [← Rat.divInt_eq_div]
  have := (fmk_ok (num := a) (den := b) (by omega) h1 h2 h3).1
  rw [fmk_pack (by omega)] at this
  exact pack_e.1 this
theorem fmk_uf {a b : Int} (hb : 0 < b) (h1 : b ≤ 1000000000000000000) (h2 : -1000000000000000000 ≤ a) (h3 : a ≤ 1000000000000000000) : fmk a b = uf ((a : Rat) / (b : Rat)) := by
  have := inr_frac hb h1 h2 h3
  rw [fmk_pack (by omega), ← Rat.divInt_eq_div] at *
  exact pack_ok this
theorem sm_div (u : Nat → Int) (D : Int) : ∀ k, sm (fun j => ((u j : Int) : Rat) / (D : Rat)) k = ((si u k : Int) : Rat) / (D : Rat)
  | 0 => by rw [sm_zero]; show (0 : Rat) = ((0 : Int) : Rat) / _; rw [Rat.div_def]; show (0 : Rat) = 0 * _; grind
  | k + 1 => by rw [sm_succ, sm_div u D k, si_succ, Rat.intCast_add, Rat.div_def, Rat.div_def, Rat.div_def]; grind
theorem mul_div' (a n D : Int) : (a : Rat) * ((n : Rat) / (D : Rat)) = ((a * n : Int) : Rat) / (D : Rat) := by
  rw [Rat.intCast_mul, Rat.div_def, Rat.div_def]; grind
end Go.Proofs.Ytpjhiojdnebgoaa

/- What is proved here: filtered and joined lists of fractions as rational numbers; two filters one after the other are the joined one, and filtering is linear, where no error comes. No program in sight. -/
namespace Go.Proofs.Ytpjhiojdnebgoaa
open Go.RowKit

/-- A list of fractions as rational numbers, 0 behind its end. -/
def nq (l : List (Int × Int)) (k : Nat) : Rat := qq (l.getD k (0, 0))
theorem nq_out {l : List (Int × Int)} {k : Nat} (h : l.length ≤ k) : nq l k = 0 := by unfold nq; simp [List.getD, List.getElem?_eq_none h, qq_00]
theorem nq_get {l : List (Int × Int)} {k : Nat} (h : k < l.length) : nq l k = qq l[k] := by unfold nq; simp [List.getD, h]
/-- What a filter adds up. -/
def filtT (l t : List (Int × Int)) (i k : Nat) : (Int × Int) × (Int × Int) := (t.getD k (0, 0), l.getD (i + k) (0, 0))
theorem fsumN_g (l t : List (Int × Int)) (i : Nat) : ∀ k, fsumN l t i k = gsum (filtT l t i) k
  | 0 => rfl
  | k + 1 => by rw [fsumN, gsum, fsumN_g l t i k]; rfl
theorem frows_rows (l t : List (Int × Int)) : ∀ m, frows l t m = rowsOf (fun i => fsumN l t i t.length) m
  | 0 => rfl
  | m + 1 => by rw [frows, rowsOf, frows_rows l t m]
theorem fvalid_at {l : List (Int × Int)} (h : fvalid l = true) {i : Nat} (hi : i < l.length) : fchk (l.getD i (0, 0)).1 (l.getD i (0, 0)).2 = 0 := by
  have := fvalid_get h i hi
  simpa [List.getD, hi] using this
/-- The number i of a filtered list. -/
def filq (l t : Nat → Rat) (n i : Nat) : Rat := sm (fun k => t k * l (i + k)) n
/-- What a filter without an error gives. -/
structure FiltOk (l t : List (Int × Int)) (r : List (Int × Int)) : Prop where
  pos : 0 < t.length
  vl : fvalid l = true
  vt : fvalid t = true
  len : r.length = l.length + 1 - t.length
  val : ∀ i (h : i < r.length), inr (filq (nq l) (nq t) t.length i) ∧ r[i] = up (filq (nq l) (nq t) t.length i)
theorem ffilt_ok {l t : List (Int × Int)} (h : (ffilt l t).2 = 0) : FiltOk l t (ffilt l t).1 := by
  unfold ffilt at h ⊢
  split at h
  · cases h
  · split at h
    · cases h
    · rename_i h1 h2
      rw [if_neg h1, if_neg h2]
      have vl : fvalid l = true := by
        cases hv : fvalid l with
        | true => rfl
        | false => exact absurd (.inr (.inl hv)) h2
      have vt : fvalid t = true := by
        cases hv : fvalid t with
        | true => rfl
        | false => exact absurd (.inr (.inr hv)) h2
      have tp : 0 < t.length := by
        apply Nat.pos_of_ne_zero; intro h0; exact h2 (.inl h0)
      rw [frows_rows] at h ⊢
      have hl := rows_len _ h
      refine ⟨tp, vl, vt, hl, fun i hi => ?_⟩
      obtain ⟨e1, e2⟩ := rows_each _ h i (by omega)
      rw [fsumN_g] at e1
      obtain ⟨g1, g2⟩ := gsum_val t.length (fun j hj => ⟨fvalid_at vt hj, fvalid_at vl (by omega)⟩) e1
      have e3 : sm (tq (filtT l t i)) t.length = filq (nq l) (nq t) t.length i := rfl
      rw [e3] at g1 g2
      rw [fsumN_g, g2] at e2
      refine ⟨g1, ?_⟩
      rw [List.getElem?_eq_getElem hi] at e2
      exact Option.some.inj e2
theorem FiltOk.nq {l t r : List (Int × Int)} (h : FiltOk l t r) {i : Nat} (hi : i < r.length) : nq r i = filq (nq l) (nq t) t.length i := by
  rw [nq_get hi, (h.val i hi).2, qq_up]

/-- What a row of a joined filter adds up. -/
def joinq (a b : Nat → Rat) (nb k j : Nat) : Rat := if j ≤ k ∧ k - j < nb then a j * b (k - j) else 0
theorem jsumN_val {a b : List (Int × Int)} (va : fvalid a = true) (vb : fvalid b = true) (k : Nat) : ∀ j, j ≤ a.length → (jsumN a b k j).e = 0 → inr (sm (joinq (nq a) (nq b) b.length k) j) ∧ jsumN a b k j = uf (sm (joinq (nq a) (nq b) b.length k) j)
  | 0, _, _ => ⟨inr_0, rfl⟩
  | j + 1, hj, he => by
    by_cases hs : j ≤ k ∧ k - j < b.length
    · have he' : (jsumN a b k j).e = 0 := by
        apply Classical.byContradiction
        intro h
        rw [jsumN_stop h (j + 1) (by omega)] at he
        exact h he
      obtain ⟨i1, i2⟩ := jsumN_val va vb k j (by omega) he'
      rw [jsumN_succ (by omega) hs.1 hs.2 he', i2] at he ⊢
      have h1 := fvalid_get va j (by omega)
      have h2 := fvalid_get vb (k - j) hs.2
      have e : sm (joinq (nq a) (nq b) b.length k) (j + 1) = sm (joinq (nq a) (nq b) b.length k) j + qq a[j] * qq b[k - j] := by
        rw [sm_succ]; unfold joinq; rw [if_pos hs, nq_get (by omega), nq_get hs.2]
      rw [e]
      exact fplus_val i1 h1 h2 he
    · rw [jsumN_skip hs] at he ⊢
      obtain ⟨i1, i2⟩ := jsumN_val va vb k j (by omega) he
      have e : sm (joinq (nq a) (nq b) b.length k) (j + 1) = sm (joinq (nq a) (nq b) b.length k) j := by
        rw [sm_succ]
        have : joinq (nq a) (nq b) b.length k j = 0 := by unfold joinq; rw [if_neg hs]
        rw [this]; grind
      rw [e]
      exact ⟨i1, i2⟩
structure JoinOk (a b r : List (Int × Int)) : Prop where
  pa : 0 < a.length
  pb : 0 < b.length
  va : fvalid a = true
  vb : fvalid b = true
  len : r.length = a.length + b.length - 1
  val : ∀ k (h : k < r.length), r[k] = up (sm (joinq (nq a) (nq b) b.length k) a.length)
theorem fjoin_ok {a b : List (Int × Int)} (h : (fjoin a b).2 = 0) : JoinOk a b (fjoin a b).1 := by
  unfold fjoin at h ⊢
  split at h
  · cases h
  · split at h
    · cases h
    · rename_i h1 h2
      rw [if_neg h1, if_neg h2]
      have va : fvalid a = true := by
        cases hv : fvalid a with
        | true => rfl
        | false => exact absurd (.inr (.inr (.inl hv))) h2
      have vb : fvalid b = true := by
        cases hv : fvalid b with
        | true => rfl
        | false => exact absurd (.inr (.inr (.inr hv))) h2
      have pa : 0 < a.length := by
        apply Nat.pos_of_ne_zero; intro h0; exact h2 (.inl h0)
      have pb : 0 < b.length := by
        apply Nat.pos_of_ne_zero; intro h0; exact h2 (.inr (.inl h0))
      have hl := rows_len _ h
      refine ⟨pa, pb, va, vb, hl, fun k hk => ?_⟩
      obtain ⟨e1, e2⟩ := rows_each _ h k (by omega)
      obtain ⟨g1, g2⟩ := jsumN_val va vb k a.length (Nat.le_refl _) e1
      have e3 : jrow a b k = jsumN a b k a.length := rfl
      rw [e3, g2, List.getElem?_eq_getElem hk] at e2
      exact Option.some.inj e2
theorem JoinOk.nq {a b r : List (Int × Int)} (h : JoinOk a b r) {k : Nat} (hk : k < r.length) : nq r k = sm (joinq (nq a) (nq b) b.length k) a.length := by
  rw [nq_get hk, h.val k hk, qq_up]

/-- Sums in two orders. -/
theorem sm_swap (f : Nat → Nat → Rat) (n : Nat) : ∀ m, sm (fun i => sm (f i) n) m = sm (fun j => sm (fun i => f i j) m) n
  | 0 => by rw [sm_zero]; exact (sm_0 n fun _ _ => rfl).symm
  | m + 1 => by
    rw [sm_succ, sm_swap f n m, ← sm_add]
    exact sm_congr n fun j _ => rfl
/-- A sum of terms from s on, the others being 0. -/
theorem sm_shift (f : Nat → Rat) (s : Nat) : ∀ n, (∀ i, i < s → f i = 0) → sm f (s + n) = sm (fun i => f (s + i)) n
  | 0, h => by rw [Nat.add_zero, sm_zero]; exact sm_0 s h
  | n + 1, h => by rw [← Nat.add_assoc, sm_succ, sm_succ, sm_shift f s n h]
theorem joined_row (l a b : Nat → Rat) (na nb i : Nat) (ha : 0 < na) (hb : 0 < nb) :
    sm (fun s => sm (joinq a b nb s) na * l (i + s)) (na + nb - 1) = filq (fun k => filq l a na k) b nb i := by
  have e1 : sm (fun s => sm (joinq a b nb s) na * l (i + s)) (na + nb - 1) = sm (fun s => sm (fun j => joinq a b nb s j * l (i + s)) na) (na + nb - 1) :=
    sm_congr _ fun s _ => by
      have h := sm_mul (l (i + s)) (joinq a b nb s) na
      rw [Rat.mul_comm, ← h]
      exact sm_congr na fun j _ => Rat.mul_comm _ _
  rw [e1, sm_swap (fun s j => joinq a b nb s j * l (i + s)) na (na + nb - 1)]
  have e2 : ∀ j, j < na → sm (fun s => joinq a b nb s j * l (i + s)) (na + nb - 1) = sm (fun k => a j * b k * l (i + k + j)) nb := fun j hj => by
    have h1 : sm (fun s => joinq a b nb s j * l (i + s)) (na + nb - 1) = sm (fun s => joinq a b nb s j * l (i + s)) (j + nb) :=
      sm_more (na + nb - 1) (by omega) fun s hs => by
        have : joinq a b nb s j = 0 := by unfold joinq; rw [if_neg (by omega)]
        rw [this]; grind
    rw [h1, sm_shift (fun s => joinq a b nb s j * l (i + s)) j nb fun s hs => by
      have : joinq a b nb s j = 0 := by unfold joinq; rw [if_neg (by omega)]
      rw [this]; grind]
    refine sm_congr nb fun k hk => ?_
    unfold joinq
    rw [if_pos (by omega), show j + k - j = k by omega, show i + (j + k) = i + k + j by omega]
  rw [sm_congr na e2, sm_swap (fun j k => a j * b k * l (i + k + j)) nb na]
  unfold filq
  refine sm_congr nb fun k _ => ?_
  rw [← sm_mul]
  exact sm_congr na fun j _ => by grind
/-- Filtering with one filter, and then with another one, is filtering with the joined one. -/
theorem filt_filt {l a b x y j z : List (Int × Int)} (hx : FiltOk l a x) (hy : FiltOk x b y) (hj : JoinOk a b j) (hz : FiltOk l j z) (hl : a.length + b.length - 1 ≤ l.length) : y = z := by
  have pa := hx.pos
  have pb := hy.pos
  have l1 := hx.len
  have l2 := hy.len
  have l3 := hj.len
  have l4 := hz.len
  refine List.ext_getElem (by omega) fun i h1 h2 => ?_
  rw [(hy.val i h1).2, (hz.val i h2).2]
  congr 1
  have e1 : filq (nq x) (nq b) b.length i = filq (fun k => filq (nq l) (nq a) a.length k) (nq b) b.length i :=
    sm_congr b.length fun k hk => by rw [hx.nq (by omega)]
  rw [e1, ← joined_row (nq l) (nq a) (nq b) a.length b.length i pa pb, ← l3]
  exact sm_congr j.length fun s hs => by rw [hj.nq hs]
/-- Filtering is linear. -/
theorem filt_add {l m s a x u v : List (Int × Int)} (hx : FiltOk l a x) (hu : FiltOk m a u) (hv : FiltOk s a v) (h1 : l.length = m.length) (h2 : s.length = l.length)
    (hs : ∀ k, k < l.length → nq s k = nq l k + nq m k) : x.length = u.length ∧ v.length = x.length ∧ ∀ i (h : i < x.length) (h' : i < u.length) (h'' : i < v.length), (fadd x[i].1 x[i].2 u[i].1 u[i].2).e = 0 → ((fadd x[i].1 x[i].2 u[i].1 u[i].2).n, (fadd x[i].1 x[i].2 u[i].1 u[i].2).d) = v[i] := by
  have pa := hx.pos
  have l1 := hx.len
  have l2 := hu.len
  have l3 := hv.len
  refine ⟨by omega, by omega, fun i h h' h'' he => ?_⟩
  obtain ⟨i1, e1⟩ := hx.val i h
  obtain ⟨i2, e2⟩ := hu.val i h'
  obtain ⟨i3, e3⟩ := hv.val i h''
  rw [e1, e2, fadd_qq (up_chk i1) (up_chk i2), qq_up, qq_up] at he ⊢
  obtain ⟨j1, j2⟩ := pack_val he
  rw [j2, e3]
  have : filq (nq s) (nq a) a.length i = filq (nq l) (nq a) a.length i + filq (nq m) (nq a) a.length i := by
    unfold filq
    rw [← sm_add]
    exact sm_congr a.length fun k hk => by rw [hs (i + k) (by omega)]; grind
  rw [this]; rfl
/-- The sum of two fractions without an error. -/
theorem fadd_val {p q : Int × Int} (h1 : fchk p.1 p.2 = 0) (h2 : fchk q.1 q.2 = 0) (he : (fadd p.1 p.2 q.1 q.2).e = 0) : qq ((fadd p.1 p.2 q.1 q.2).n, (fadd p.1 p.2 q.1 q.2).d) = qq p + qq q := by
  rw [fadd_qq h1 h2] at he ⊢
  obtain ⟨_, j2⟩ := pack_val he
  rw [j2]; exact Q_self _
end Go.Proofs.Ytpjhiojdnebgoaa

/- What is proved here: what the law InterpJoins asks of filtered lists, in plain Lean. No program in sight. -/
namespace Go.Proofs.Ytpjhiojdnebgoaa
open Go.RowKit

/-- The sums of the first numbers of two lists. -/
def addF (l m : List (Int × Int)) (i : Nat) : FR := fadd (l.getD i (0, 0)).1 (l.getD i (0, 0)).2 (m.getD i (0, 0)).1 (m.getD i (0, 0)).2
def addsN (l m : List (Int × Int)) (k : Nat) : List (Int × Int) := (List.range k).map fun i => ((addF l m i).n, (addF l m i).d)
theorem addsN_len (l m : List (Int × Int)) (k : Nat) : (addsN l m k).length = k := by simp [addsN]
theorem addsN_succ (l m : List (Int × Int)) (k : Nat) : addsN l m (k + 1) = addsN l m k ++ [((addF l m k).n, (addF l m k).d)] := by simp [addsN, List.range_succ]
theorem addsN_FI (l m : List (Int × Int)) (k : Nat) : FI (addsN l m k) := by
  intro p hp
  obtain ⟨j, _, rfl⟩ := List.mem_map.1 hp
  exact fadd_i64 _ _ _ _
theorem ffilt_FI (l t : List (Int × Int)) : FI (ffilt l t).1 := by
  by_cases h : (ffilt l t).2 = 0
  · have ok := ffilt_ok h
    intro p hp
    obtain ⟨i, hi, rfl⟩ := List.getElem_of_mem hp
    obtain ⟨h1, h2⟩ := ok.val i hi
    rw [h2]
    exact fr_i64 (up_chk h1)
  · have : (ffilt l t).1 = [] := by
      unfold ffilt at *
      split
      · rfl
      · split
        · rfl
        · rename_i h1 h2
          rw [if_neg h1, if_neg h2, frows_rows] at h
          rw [frows_rows]
          generalize l.length + 1 - t.length = N at *
          induction N with
          | zero => exact absurd rfl h
          | succ N ih =>
            by_cases h3 : (rowsOf (fun i => fsumN l t i t.length) N).2 = 0
            · by_cases h4 : (fsumN l t N t.length).e = 0
              · rw [rows_succ h3 h4] at h; exact absurd rfl h
              · rw [rows_err h3 h4]
            · rw [rows_stop h3 (N + 1) (by omega)]; exact ih h3
    rw [this]; intro p hp; cases hp
theorem fjoin_FI (a b : List (Int × Int)) : FI (fjoin a b).1 := by
  by_cases h : (fjoin a b).2 = 0
  · have ok := fjoin_ok h
    intro p hp
    obtain ⟨i, hi, rfl⟩ := List.getElem_of_mem hp
    unfold fjoin at hi ⊢
    split
    · rename_i h1; unfold fjoin at h; rw [if_pos h1] at h; cases h
    · split
      · rename_i h1 h2; unfold fjoin at h; rw [if_neg h1, if_pos h2] at h; cases h
      · rename_i h1 h2
        unfold fjoin at h
        rw [if_neg h1, if_neg h2] at h hi
        have hl := rows_len _ h
        obtain ⟨_, e2⟩ := rows_each _ h i (by omega)
        rw [List.getElem?_eq_getElem hi] at e2
        have e3 := Option.some.inj e2
        rw [e3]
        exact jsumN_i64 _ _ _ _
  · have : (fjoin a b).1 = [] := by
      unfold fjoin at *
      split
      · rfl
      · split
        · rfl
        · rename_i h1 h2
          rw [if_neg h1, if_neg h2] at h
          generalize a.length + b.length - 1 = N at *
          induction N with
          | zero => exact absurd rfl h
          | succ N ih =>
            by_cases h3 : (rowsOf (jrow a b) N).2 = 0
            · by_cases h4 : (jrow a b N).e = 0
              · rw [rows_succ h3 h4] at h; exact absurd rfl h
              · rw [rows_err h3 h4]
            · rw [rows_stop h3 (N + 1) (by omega)]; exact ih h3
    rw [this]; intro p hp; cases hp
/-- What the law asks of the sums. -/
theorem adds_law {l m a : List (Int × Int)} (h1 : l.length = m.length) (hv : ∀ i, i < l.length → fchk (l.getD i (0, 0)).1 (l.getD i (0, 0)).2 = 0 ∧ fchk (m.getD i (0, 0)).1 (m.getD i (0, 0)).2 = 0 ∧ (addF l m i).e = 0)
    (hx : (ffilt l a).2 = 0) (hu : (ffilt m a).2 = 0) (hw : (ffilt (addsN l m l.length) a).2 = 0) :
    (ffilt l a).1.length = (ffilt m a).1.length ∧ (ffilt (addsN l m l.length) a).1.length = (ffilt l a).1.length ∧ ∀ i, i < (ffilt l a).1.length → (addF (ffilt l a).1 (ffilt m a).1 i).e = 0 → ((addF (ffilt l a).1 (ffilt m a).1 i).n, (addF (ffilt l a).1 (ffilt m a).1 i).d) = (ffilt (addsN l m l.length) a).1.getD i (0, 0) := by
  have := filt_add (ffilt_ok hx) (ffilt_ok hu) (ffilt_ok hw) h1 (addsN_len l m l.length) fun k hk => by
    obtain ⟨g1, g2, g3⟩ := hv k hk
    have e := fadd_val g1 g2 g3
    have q : nq (addsN l m l.length) k = qq ((addF l m k).n, (addF l m k).d) := by
      unfold nq
      rw [show (addsN l m l.length).getD k (0, 0) = ((addF l m k).n, (addF l m k).d) from by simp [addsN, List.getD, hk]]
    rw [q]; exact e
  obtain ⟨e1, e2, e3⟩ := this
  refine ⟨e1, e2, fun i hi he => ?_⟩
  have := e3 i hi (by omega) (by omega)
  have q1 : (ffilt l a).1.getD i (0, 0) = (ffilt l a).1[i] := by simp [List.getD, hi]
  have q2 : (ffilt m a).1.getD i (0, 0) = (ffilt m a).1[i]'(by omega) := by simp [List.getD, show i < (ffilt m a).1.length by omega]
  have q3 : (ffilt (addsN l m l.length) a).1.getD i (0, 0) = (ffilt (addsN l m l.length) a).1[i]'(by omega) := by simp [List.getD, show i < (ffilt (addsN l m l.length) a).1.length by omega]
  unfold addF at *
  rw [q1, q2] at he ⊢
  rw [q3]
  exact this he
theorem join_law {l a b : List (Int × Int)} (h1 : (ffilt l a).2 = 0) (h2 : (ffilt (ffilt l a).1 b).2 = 0) (h3 : (fjoin a b).2 = 0) (h4 : (ffilt l (fjoin a b).1).2 = 0) (h5 : a.length + b.length - 1 ≤ l.length) : (ffilt (ffilt l a).1 b).1 = (ffilt l (fjoin a b).1).1 :=
  filt_filt (ffilt_ok h1) (ffilt_ok h2) (fjoin_ok h3) (ffilt_ok h4) h5
end Go.Proofs.Ytpjhiojdnebgoaa
