/- What is proved here: contracts of functions and plain facts, several texts in one; each one says ahead what it proves, and its conditions. -/
import Derived.Test.YtpjhiojdnebgoaaC11
/- What is proved here: the mean of visibilities as rational numbers: what it is where no error comes, and which errors come. No program in sight. Condition: valid visibilities. -/
namespace Go.Proofs.Ytpjhiojdnebgoaa
open Go.RowKit

/-- A part of a visibility as a rational number. -/
def prt (p : Vs → Int) (v : Vs) : Rat := ((p v : Int) : Rat) / ((v.den : Int) : Rat)
/-- The weighted sum of a part. -/
def qs (p : Vs → Int) : List Vs → Rat
  | [] => 0
  | v :: l => ((v.n : Int) : Rat) * prt p v + qs p l
/-- The sum of the weights. -/
def ws : List Vs → Int
  | [] => 0
  | v :: l => v.n + ws l
theorem qs_append (p : Vs → Int) : ∀ a b, qs p (a ++ b) = qs p a + qs p b
  | [], b => by simp only [List.nil_append, qs]; grind
  | v :: a, b => by simp only [List.cons_append, qs]; rw [qs_append p a b]; grind
theorem ws_append : ∀ a b, ws (a ++ b) = ws a + ws b
  | [], b => by simp only [List.nil_append, ws]; omega
  | v :: a, b => by simp only [List.cons_append, ws]; rw [ws_append a b]; omega
theorem qs_reverse (p : Vs → Int) : ∀ a, qs p a.reverse = qs p a
  | [] => rfl
  | v :: a => by rw [List.reverse_cons, qs_append, qs_reverse p a]; simp only [qs]; grind
theorem ws_reverse : ∀ a, ws a.reverse = ws a
  | [] => rfl
  | v :: a => by rw [List.reverse_cons, ws_append, ws_reverse a]; simp only [ws]; omega
theorem wsum_ws (l : List Vs) : ∀ k, k ≤ l.length → wsum l k = ws (l.take k)
  | 0, _ => by simp [wsum, ws]
  | k + 1, hk => by
    rw [wsum_succ (by omega), wsum_ws l k (by omega), List.take_succ_eq_append_getElem (by omega), ws_append]
    simp [ws]
theorem wsum_all (l : List Vs) : wsum l l.length = ws l := by rw [wsum_ws l _ (Nat.le_refl _), List.take_of_length_le (Nat.le_refl _)]
theorem ws_nn {l : List Vs} (h : vall l = true) : 0 ≤ ws l := by rw [← wsum_all]; exact (wsum_bd h _ (Nat.le_refl _)).1
theorem ws_le {l : List Vs} (h : vall l = true) : ws l ≤ 1000000 * (l.length : Int) := by rw [← wsum_all]; exact (wsum_bd h _ (Nat.le_refl _)).2
theorem vall_cons {v : Vs} {l : List Vs} : vall (v :: l) = true ↔ v.chk = 0 ∧ vall l = true := by unfold vall; simp
theorem vall_append {a b : List Vs} : vall (a ++ b) = true ↔ vall a = true ∧ vall b = true := by unfold vall; rw [List.all_append]; simp
theorem ws_zero : ∀ {l : List Vs}, vall l = true → ws l = 0 → ∀ v ∈ l, v.n = 0
  | [], _, _, v, hv => by simp at hv
  | u :: l, h, hz, v, hv => by
    obtain ⟨h1, h2⟩ := vall_cons.1 h
    have n1 := (Vs.chk_ok h1)
    have n2 := ws_nn h2
    have hz' : u.n + ws l = 0 := hz
    rcases List.mem_cons.1 hv with rfl | hv
    · omega
    · exact ws_zero h2 (by omega) v hv
theorem qs_none {p : Vs → Int} : ∀ {l : List Vs}, (∀ v ∈ l, v.n = 0) → qs p l = 0
  | [], _ => rfl
  | u :: l, h => by
    have h1 := h u (List.mem_cons_self ..)
    have h2 := qs_none (p := p) (l := l) fun v hv => h v (List.mem_cons_of_mem _ hv)
    simp only [qs]; rw [h1, h2]
    show ((0 : Int) : Rat) * _ + 0 = 0
    grind
/-- A part that makes a valid fraction of every valid visibility. -/
def PartR (p : Vs → Int) : Prop := ∀ v : Vs, v.chk = 0 → -1000000000 ≤ p v ∧ p v ≤ 1000000000
theorem re_r : PartR Vs.re := fun v h => by obtain ⟨_, _, h3, h4, _, _⟩ := Vs.small h; exact ⟨h3, h4⟩
theorem im_r : PartR Vs.im := fun v h => by obtain ⟨_, _, _, _, h3, h4⟩ := Vs.small h; exact ⟨h3, h4⟩
theorem part_uf {p : Vs → Int} (hp : PartR p) {v : Vs} (h : v.chk = 0) : fmk (p v) v.den = uf (prt p v) ∧ inr (prt p v) := by
  obtain ⟨h1, h2, _⟩ := Vs.small h
  obtain ⟨h3, h4⟩ := hp v h
  exact ⟨fmk_uf (by omega) (by omega) (by omega) (by omega), inr_frac (by omega) (by omega) (by omega) (by omega)⟩
theorem mt_getD {p : Vs → Int} {l : List Vs} {k : Nat} (hk : k < l.length) : meanT p l k = ((l[k].n, 1), ((fmk (p l[k]) l[k].den).n, (fmk (p l[k]) l[k].den).d)) := by
  simp [meanT, List.getD, hk]
theorem one_chk {n : Int} (h0 : 0 ≤ n) (h1 : n ≤ 1000000) : fchk n 1 = 0 := fchk_ok (by decide) (by decide) (by omega) (by omega) (by simp)
theorem mt_val {p : Vs → Int} (hp : PartR p) {l : List Vs} (h : vall l = true) : tval (meanT p l) l.length := fun j hj => by
  have hc := vall_get h hj
  have n1 := Vs.chk_ok hc
  rw [mt_getD hj]
  obtain ⟨e1, e2⟩ := part_uf hp hc
  rw [e1]
  exact ⟨one_chk n1.2.2.2.2.1 n1.2.2.2.2.2, fchk_inr e2⟩
theorem mt_tq {p : Vs → Int} (hp : PartR p) {l : List Vs} (h : vall l = true) {j : Nat} (hj : j < l.length) : tq (meanT p l) j = ((l[j].n : Int) : Rat) * prt p l[j] := by
  unfold tq
  rw [mt_getD hj, (part_uf hp (vall_get h hj)).1]
  show qq (l[j].n, 1) * qq (up (prt p l[j])) = _
  rw [qq_int, qq_up]
theorem mt_sum {p : Vs → Int} (hp : PartR p) {l : List Vs} (h : vall l = true) : ∀ k, k ≤ l.length → sm (tq (meanT p l)) k = qs p (l.take k)
  | 0, _ => by rw [sm_zero]; simp [qs]
  | k + 1, hk => by
    rw [sm_succ, mt_sum hp h k (by omega), mt_tq hp h (by omega), List.take_succ_eq_append_getElem (by omega), qs_append]
    simp only [qs]; grind
theorem gsum_e16 {t : Nat → (Int × Int) × (Int × Int)} : ∀ k, tval t k → (gsum t k).e = 0 ∨ (gsum t k).e = 16
  | 0, _ => Or.inl rfl
  | k + 1, hv => by
    rcases gsum_e16 k (fun j hj => hv j (by omega)) with h | h
    · obtain ⟨i1, i2⟩ := gsum_val k (fun j hj => hv j (by omega)) h
      obtain ⟨h1, h2⟩ := hv k (by omega)
      rw [gsum_succ h, i2]
      have hm := fmul_qq h1 h2
      by_cases hp : inr (qq (t k).1 * qq (t k).2)
      · rw [pack_ok hp] at hm
        rw [fplus_0 (by rw [hm]), hm]
        have := fadd_qq (a := up (sm (tq t) k)) (b := up (qq (t k).1 * qq (t k).2)) (up_chk i1) (up_chk hp)
        have e : fadd (uf (sm (tq t) k)).n (uf (sm (tq t) k)).d (qq (t k).1 * qq (t k).2).num ((qq (t k).1 * qq (t k).2).den : Int) = pack (qq (up (sm (tq t) k)) + qq (up (qq (t k).1 * qq (t k).2))) := this
        rw [e]
        unfold pack; split <;> simp
      · rw [pack_no hp] at hm
        rw [fplus_1 (by rw [hm]; decide), hm]
        exact Or.inr rfl
    · right
      rw [gsum_stop (by rw [h]; decide) (k + 1) (by omega)]; exact h
theorem fdiv_uf {x : Rat} {W : Int} (hx : inr x) (h0 : 0 < W) (h1 : W ≤ 1000000000) : fdiv x.num x.den W 1 = pack (x / (W : Rat)) := by
  rw [fdiv_1 (fboth_of (fchk_inr hx) (fchk_ok (by decide) (by decide) (by omega) (by omega) (by simp))) (by omega), Q_self]
  congr 1
  have : Rat.divInt W 1 = (W : Rat) := qq_int W
  rw [this]
theorem fmean_val {p : Vs → Int} (hp : PartR p) {l : List Vs} (h : vall l = true) (hl : l.length ≤ 200) (hw : ¬ ws l = 0) :
    ((fmean p l).e = 0 → inr (qs p l / (ws l : Rat)) ∧ fmean p l = uf (qs p l / (ws l : Rat))) ∧ ((fmean p l).e = 0 ∨ (fmean p l).e = 16) := by
  have hv := mt_val hp h
  have hs := mt_sum hp h l.length (Nat.le_refl _)
  rw [List.take_of_length_le (Nat.le_refl _)] at hs
  have b1 := ws_nn h
  have b2 := ws_le h
  by_cases he : (gsum (meanT p l) l.length).e = 0
  · obtain ⟨i1, i2⟩ := gsum_val _ hv he
    have : fmean p l = pack (qs p l / (ws l : Rat)) := by
      rw [fmean_0 he, i2, wsum_all]
      rw [hs] at i1 ⊢
      exact fdiv_uf i1 (by omega) (by omega)
    rw [this]
    refine ⟨fun h => pack_val h, ?_⟩
    unfold pack; split <;> simp
  · have h16 : (gsum (meanT p l) l.length).e = 16 := (gsum_e16 _ hv).resolve_left he
    rw [fmean_1 he]
    exact ⟨fun h => absurd h he, Or.inr h16⟩
/-- A mean of a list of given parts. -/
def vmk (i j : Int) (x y : Rat) (n : Int) : VR := ⟨i, j, (wval x.num x.den y.num y.den).re, (wval x.num x.den y.num y.den).im, (wval x.num x.den y.num y.den).den, n, 0⟩
theorem vmean_ok {l : List Vs} (h : vall l = true) (hl : l.length ≤ 200) (h0 : 0 < l.length) (he : (vmean l).e = 0) :
    0 < ws l ∧ ws l ≤ 1000000 ∧ inr (qs Vs.re l / (ws l : Rat)) ∧ inr (qs Vs.im l / (ws l : Rat))
      ∧ wok (qs Vs.re l / (ws l : Rat)).num (qs Vs.re l / (ws l : Rat)).den (qs Vs.im l / (ws l : Rat)).num (qs Vs.im l / (ws l : Rat)).den = true
      ∧ vmean l = vmk l[0].i l[0].j (qs Vs.re l / (ws l : Rat)) (qs Vs.im l / (ws l : Rat)) (ws l) := by
  have b1 := ws_nn h
  by_cases hw : ws l = 0
  · rw [vmean_18 (by rw [wsum_all]; exact hw)] at he; exact absurd he (by decide)
  obtain ⟨r1, r2⟩ := fmean_val re_r h hl hw
  obtain ⟨m1, m2⟩ := fmean_val im_r h hl hw
  have hw' : ¬ wsum l l.length = 0 := by rw [wsum_all]; exact hw
  by_cases hr : (fmean Vs.re l).e = 0
  case neg => rw [vmean_re hw' hr] at he; exact absurd he hr
  by_cases hm : (fmean Vs.im l).e = 0
  case neg => rw [vmean_im hw' hr hm] at he; exact absurd he hm
  obtain ⟨r3, r4⟩ := r1 hr
  obtain ⟨m3, m4⟩ := m1 hm
  by_cases hk : wok (fmean Vs.re l).n (fmean Vs.re l).d (fmean Vs.im l).n (fmean Vs.im l).d = false ∨ 1000000 < wsum l l.length
  · rw [vmean_16 hw' hr hm hk] at he; exact absurd he (by decide)
  have hk1 : wok (fmean Vs.re l).n (fmean Vs.re l).d (fmean Vs.im l).n (fmean Vs.im l).d = true := by
    cases hc : wok (fmean Vs.re l).n (fmean Vs.re l).d (fmean Vs.im l).n (fmean Vs.im l).d with
    | true => rfl
    | false => exact absurd (Or.inl hc) hk
  have hk2 : wsum l l.length ≤ 1000000 := by
    rcases Int.lt_or_le 1000000 (wsum l l.length) with h' | h'
    · exact absurd (Or.inr h') hk
    · exact h'
  have e := vmean_0 h0 hw' hr hm hk1 hk2
  rw [r4, m4] at hk1 e
  rw [wsum_all] at hk2 e
  exact ⟨by omega, hk2, r3, m3, hk1, e⟩
theorem vmean_e {l : List Vs} (h : vall l = true) (hl : l.length ≤ 200) (_h0 : 0 < l.length) (hw : ¬ ws l = 0) : (vmean l).e = 0 ∨ (vmean l).e = 16 := by
  obtain ⟨r1, r2⟩ := fmean_val re_r h hl hw
  obtain ⟨m1, m2⟩ := fmean_val im_r h hl hw
  have hw' : ¬ wsum l l.length = 0 := by rw [wsum_all]; exact hw
  by_cases hr : (fmean Vs.re l).e = 0
  case neg => rw [vmean_re hw' hr]; exact r2
  by_cases hm : (fmean Vs.im l).e = 0
  case neg => rw [vmean_im hw' hr hm]; exact m2
  by_cases hk : wok (fmean Vs.re l).n (fmean Vs.re l).d (fmean Vs.im l).n (fmean Vs.im l).d = false ∨ 1000000 < wsum l l.length
  · rw [vmean_16 hw' hr hm hk]; exact Or.inr rfl
  left
  unfold vmean
  rw [if_neg hw', if_neg (by simp [hr]), if_neg (by simp [hm]), if_neg hk]
theorem vlist_of {l : List Vs} (h : vall l = true) (hl : l.length ≤ 200) : vlist l = 0 := by
  unfold vlist; rw [if_neg (by omega), if_neg (by rw [h]; decide)]
theorem vMean_ok {l : List Vs} (he : (vMean l).e = 0) : vall l = true ∧ l.length ≤ 200 ∧ ∃ h0 : 0 < l.length, vsame l l[0].i l[0].j = true ∧ vMean l = vmean l := by
  by_cases h1 : vlist l = 0
  case neg => rw [vMean_l h1] at he; exact absurd he h1
  obtain ⟨a, b⟩ := vlist_0 h1
  by_cases h0 : l.length = 0
  · rw [vMean_e h1 h0] at he; exact absurd he (by decide)
  have h0' : 0 < l.length := by omega
  cases hs : vsame l l[0].i l[0].j with
  | false => rw [vMean_2 h1 h0' hs] at he; exact absurd he (by decide)
  | true => exact ⟨b, a, h0', hs, vMean_0 h1 h0' hs⟩
theorem vMean_e18 {l : List Vs} (h : vall l = true) (hl : l.length ≤ 200) (h0 : 0 < l.length) : (vMean l).e = 18 ↔ vsame l l[0].i l[0].j = true ∧ ws l = 0 := by
  have h1 := vlist_of h hl
  cases hs : vsame l l[0].i l[0].j with
  | false => rw [vMean_2 h1 h0 hs]; simp [VR.bad]
  | true =>
    rw [vMean_0 h1 h0 hs]
    by_cases hw : ws l = 0
    · rw [vmean_18 (by rw [wsum_all]; exact hw)]; simp [VR.bad, hw]
    · rcases vmean_e h hl h0 hw with e | e <;> rw [e] <;> simp [hw]
theorem vsame_iff {l : List Vs} {a b : Int} : vsame l a b = true ↔ ∀ v ∈ l, v.i = a ∧ v.j = b := by
  unfold vsame; rw [List.all_eq_true]; simp
/-- What the value of two fractions is, as rational numbers. -/
theorem wval_q {x y : Rat} (h : wok x.num x.den y.num y.den = true) :
    let r := wval x.num x.den y.num y.den
    1 ≤ r.den ∧ (r.re : Rat) / (r.den : Rat) = x ∧ (r.im : Rat) / (r.den : Rat) = y ∧ cokB r.re r.im r.den = true := by
  have hx : (1 : Int) ≤ (x.den : Int) := by have := x.den_pos; omega
  have hy : (1 : Int) ≤ (y.den : Int) := by have := y.den_pos; omega
  obtain ⟨w1, w2, w3, w4, w5⟩ := wden_facts hx hy
  rw [wval_1 h]
  have hc : cokB (x.num * (wden x.den y.den / x.den)) (y.num * (wden x.den y.den / y.den)) (wden x.den y.den) = true := by
    unfold wok at h
    simp only [Bool.and_eq_true] at h
    exact h.2
  have key : ∀ z : Rat, (z.den : Int) ∣ wden x.den y.den → ((z.num * (wden x.den y.den / z.den) : Int) : Rat) / ((wden x.den y.den : Int) : Rat) = z := fun z hz => by
    have hz0 : (z.den : Int) ≠ 0 := by have := z.den_pos; omega
    obtain ⟨k, hk⟩ := hz
    have hk0 : k ≠ 0 := by intro h0; rw [h0] at hk; omega
    rw [hk, Int.mul_ediv_cancel_left _ hz0, ← Rat.divInt_eq_div, Rat.divInt_mul_right hk0]
    exact Rat.num_divInt_den z
  exact ⟨w1, key x w2, key y w3, hc⟩
/-- A mean without an error, as a visibility. -/
theorem vMean_is {l : List Vs} (he : (vMean l).e = 0) (h0 : 0 < l.length) :
    vall l = true ∧ l.length ≤ 200 ∧ vsame l l[0].i l[0].j = true ∧ 0 < ws l ∧ ws l ≤ 1000000
      ∧ wok (qs Vs.re l / (ws l : Rat)).num (qs Vs.re l / (ws l : Rat)).den (qs Vs.im l / (ws l : Rat)).num (qs Vs.im l / (ws l : Rat)).den = true
      ∧ vMean l = vmk l[0].i l[0].j (qs Vs.re l / (ws l : Rat)) (qs Vs.im l / (ws l : Rat)) (ws l) := by
  obtain ⟨h1, h2, _, h4, h5⟩ := vMean_ok he
  rw [h5] at he
  obtain ⟨a, b, c, d, e, f⟩ := vmean_ok h1 h2 h0 he
  exact ⟨h1, h2, h4, a, b, e, by rw [h5]; exact f⟩
theorem vmk_chk {i j n : Int} {x y : Rat} (hi : 0 ≤ i) (hij : i < j) (hj : j < 8) (hn : 0 ≤ n) (hn2 : n ≤ 1000000) (h : wok x.num x.den y.num y.den = true) :
    (vmk i j x y n).vs.chk = 0 ∧ prt Vs.re (vmk i j x y n).vs = x ∧ prt Vs.im (vmk i j x y n).vs = y := by
  obtain ⟨h1, h2, h3, h4⟩ := wval_q h
  refine ⟨?_, h2, h3⟩
  unfold Vs.chk vchk vokB
  show (if (decide (0 ≤ i) && decide (i < j) && decide (j < 8) && cokB (wval x.num x.den y.num y.den).re (wval x.num x.den y.num y.den).im (wval x.num x.den y.num y.den).den && decide (0 ≤ n) && decide (n ≤ 1000000)) = true then (0 : Int) else 8) = 0
  rw [h4, decide_eq_true hi, decide_eq_true hij, decide_eq_true hj, decide_eq_true hn, decide_eq_true hn2]
  rfl
end Go.Proofs.Ytpjhiojdnebgoaa

/- What is proved here: a mean of means is the mean; the order and a common factor of the weights do not matter; in plain Lean. No program in sight. Condition: valid visibilities. -/
namespace Go.Proofs.Ytpjhiojdnebgoaa
open Go.RowKit

theorem vsame_same {l : List Vs} {a b : Int} {k : Nat} (h : vsame l a b = true) (hk : k < l.length) : l[k].i = a ∧ l[k].j = b := vsame_iff.1 h _ (List.getElem_mem hk)
theorem vmk_ij (i j : Int) (x y : Rat) (n : Int) : (vmk i j x y n).vs.i = i ∧ (vmk i j x y n).vs.j = j ∧ (vmk i j x y n).vs.n = n := ⟨rfl, rfl, rfl⟩
theorem gsum_shift {t1 t2 : Nat → (Int × Int) × (Int × Int)} {m : Nat} (h0 : gsum t1 m = gsum t2 0) : ∀ k, (∀ j, j < k → t1 (m + j) = t2 j) → gsum t1 (m + k) = gsum t2 k
  | 0, _ => h0
  | k + 1, h => by
    have ih := gsum_shift h0 k fun j hj => h j (by omega)
    have hk := h k (by omega)
    show gsum t1 ((m + k) + 1) = _
    by_cases he : (gsum t2 k).e = 0
    · rw [gsum_succ (by rw [ih]; exact he), gsum_succ he, ih, hk]
    · rw [gsum_stop he (k + 1) (by omega), gsum_stop (t := t1) (k := m + k) (by rw [ih]; exact he) ((m + k) + 1) (by omega), ih]
theorem fmean_zero {p : Vs → Int} (hp : PartR p) {l1 l2 : List Vs} (h : vall (l1 ++ l2) = true) (hz : ∀ v ∈ l1, v.n = 0) (hw : ws l1 = 0) : fmean p (l1 ++ l2) = fmean p l2 := by
  have e1 : gsum (meanT p (l1 ++ l2)) l1.length = uf 0 := by
    have ht : ∀ j, j < l1.length → tq (meanT p (l1 ++ l2)) j = 0 := fun j hj => by
      rw [mt_tq hp h (by rw [List.length_append]; omega), List.getElem_append_left hj, hz _ (List.getElem_mem hj)]
      show ((0 : Int) : Rat) * _ = 0
      grind
    have hs : ∀ j, j ≤ l1.length → sm (tq (meanT p (l1 ++ l2))) j = 0 := fun j hj => by
      have : ∀ j, j ≤ l1.length → sm (tq (meanT p (l1 ++ l2))) j = 0 := fun j => by
        induction j with
        | zero => intro _; exact sm_zero _
        | succ j ih => intro hj; rw [sm_succ, ih (by omega), ht j (by omega)]; grind
      exact this j hj
    have := gsum_go (t := meanT p (l1 ++ l2)) l1.length (fun j hj => mt_val hp h j (by rw [List.length_append]; omega)) (fun j hj => by rw [ht j hj]; exact inr_0) (fun j hj => by rw [hs j hj]; exact inr_0)
    rw [this, hs _ (Nat.le_refl _)]
  have e2 : ∀ k, k ≤ l2.length → gsum (meanT p (l1 ++ l2)) (l1.length + k) = gsum (meanT p l2) k := fun k hk => by
    refine gsum_shift (by rw [e1]; rfl) k fun j hj => ?_
    rw [mt_getD (by rw [List.length_append]; omega), mt_getD (by omega), List.getElem_append_right (by omega)]
    simp
  have e3 : (l1 ++ l2).length = l1.length + l2.length := List.length_append
  have e4 : wsum (l1 ++ l2) (l1.length + l2.length) = wsum l2 l2.length := by rw [← e3, wsum_all, wsum_all, ws_append, hw]; omega
  unfold fmean
  rw [e3, e2 _ (Nat.le_refl _), e4]
/-- The first part has only weights 0. -/
theorem twice_zero {l1 l2 : List Vs} (h : vall (l1 ++ l2) = true) (hl : (l1 ++ l2).length ≤ 200) (h1 : 0 < l1.length) (h2 : 0 < l2.length) (he : (vMean l1).e = 18) (hf : (vMean l2).e = 0) :
    (vMean (l1 ++ l2) = vMean l2) ∨ (vMean (l1 ++ l2)).e = 2 := by
  obtain ⟨a1, a2⟩ := vall_append.1 h
  have hl' : l1.length + l2.length ≤ 200 := by rw [← List.length_append]; exact hl
  obtain ⟨s1, z1⟩ := (vMean_e18 a1 (by omega) h1).1 he
  obtain ⟨_, _, _, s2, v2⟩ := vMean_ok hf
  have h0 : 0 < (l1 ++ l2).length := by rw [List.length_append]; omega
  cases hs : vsame (l1 ++ l2) (l1 ++ l2)[0].i (l1 ++ l2)[0].j with
  | false => right; rw [vMean_2 (vlist_of h hl) h0 hs]; rfl
  | true =>
    left
    have zn := ws_zero a1 z1
    rw [vMean_0 (vlist_of h hl) h0 hs, v2]
    have q1 := fmean_zero re_r h zn z1
    have q2 := fmean_zero im_r h zn z1
    have e3 : (l1 ++ l2).length = l1.length + l2.length := List.length_append
    have e4 : wsum (l1 ++ l2) (l1 ++ l2).length = wsum l2 l2.length := by rw [wsum_all, wsum_all, ws_append, z1]; omega
    have e5 := vsame_iff.1 hs l2[0] (List.mem_append_right _ (List.getElem_mem h2))
    unfold vmean
    rw [q1, q2, e4, vs_head h0, vs_head h2, e5.1, e5.2]
/-- A mean of two means. -/
theorem twice_mean {l1 l2 : List Vs} (h : vall (l1 ++ l2) = true) (h1 : 0 < l1.length) (h2 : 0 < l2.length) (he : (vMean l1).e = 0) (hf : (vMean l2).e = 0) (hg : (vMean (l1 ++ l2)).e = 0) :
    (vMean [(vMean l1).vs, (vMean l2).vs] = vMean (l1 ++ l2)) ∨ (vMean [(vMean l1).vs, (vMean l2).vs]).e = 16 := by
  have h0 : 0 < (l1 ++ l2).length := by rw [List.length_append]; omega
  obtain ⟨a1, a2⟩ := vall_append.1 h
  obtain ⟨_, l0, s0, w0, x0, k0, v0⟩ := vMean_is hg h0
  obtain ⟨_, _, s1, w1, x1, k1, v1⟩ := vMean_is he h1
  obtain ⟨_, _, s2, w2, x2, k2, v2⟩ := vMean_is hf h2
  have c1 := vall_get h h0
  have c2 := Vs.chk_ok c1
  have e0 : (l1 ++ l2)[0] = l1[0] := List.getElem_append_left h1
  have e5 := vsame_iff.1 s0 l2[0] (List.mem_append_right _ (List.getElem_mem h2))
  rw [e0] at v0 e5 c2 c1
  rw [e5.1, e5.2] at v2
  obtain ⟨p1, p2, p3⟩ := vmk_chk (n := ws l1) c2.1 c2.2.1 c2.2.2.1 (by omega) x1 k1
  obtain ⟨q1, q2, q3⟩ := vmk_chk (n := ws l2) c2.1 c2.2.1 c2.2.2.1 (by omega) x2 k2
  rw [← v1] at p1 p2 p3
  rw [← v2] at q1 q2 q3
  have n1 : (vMean l1).vs.n = ws l1 := by rw [v1]; rfl
  have n2 : (vMean l2).vs.n = ws l2 := by rw [v2]; rfl
  have i1 : (vMean l1).vs.i = l1[0].i ∧ (vMean l1).vs.j = l1[0].j := by rw [v1]; exact ⟨rfl, rfl⟩
  have i2 : (vMean l2).vs.i = l1[0].i ∧ (vMean l2).vs.j = l1[0].j := by rw [v2]; exact ⟨rfl, rfl⟩
  generalize (vMean l1).vs = a at *
  generalize (vMean l2).vs = b at *
  have hv : vall [a, b] = true := by rw [vall_cons, vall_cons]; exact ⟨p1, q1, rfl⟩
  have hw : ws [a, b] = ws (l1 ++ l2) := by simp only [ws]; rw [n1, n2, ws_append]; omega
  have W1 : ((ws l1 : Int) : Rat) ≠ 0 := by intro h'; rw [Rat.intCast_eq_zero_iff] at h'; omega
  have W2 : ((ws l2 : Int) : Rat) ≠ 0 := by intro h'; rw [Rat.intCast_eq_zero_iff] at h'; omega
  have hq : ∀ x y n1 n2 : Rat, n1 ≠ 0 → n2 ≠ 0 → n1 * (x / n1) + (n2 * (y / n2) + 0) = x + y := fun x y n1 n2 h1 h2 => by
    grind
  have hr : qs Vs.re [a, b] = qs Vs.re (l1 ++ l2) := by
    simp only [qs]; rw [n1, n2, p2, q2, qs_append, hq _ _ _ _ W1 W2]
  have hi : qs Vs.im [a, b] = qs Vs.im (l1 ++ l2) := by
    simp only [qs]; rw [n1, n2, p3, q3, qs_append, hq _ _ _ _ W1 W2]
  have hs : vsame [a, b] a.i a.j = true := by
    rw [vsame_iff]; intro v hv
    simp only [List.mem_cons, List.mem_nil_iff, or_false] at hv
    rcases hv with rfl | rfl
    · exact ⟨rfl, rfl⟩
    · rw [i1.1, i1.2]; exact i2
  have hm : vMean [a, b] = vmean [a, b] := vMean_0 (vlist_of hv (by simp)) (by simp) hs
  rcases vmean_e hv (by simp) (by simp) (by rw [hw]; omega) with e | e
  · left
    obtain ⟨_, _, _, _, _, z⟩ := vmean_ok hv (by simp) (by simp) e
    rw [hm, z, v0, hw, hr, hi]
    show vmk a.i a.j _ _ _ = _
    rw [i1.1, i1.2]
  · right; rw [hm]; exact e
/-- The same list turned. -/
theorem turned_mean {l : List Vs} (he : (vMean l).e = 0) (hf : (vMean l.reverse).e = 0) : vMean l.reverse = vMean l := by
  obtain ⟨h1, h2, h0, _⟩ := vMean_ok he
  have h0r : 0 < l.reverse.length := by rw [List.length_reverse]; exact h0
  obtain ⟨_, _, s0, _, _, _, v0⟩ := vMean_is he h0
  obtain ⟨_, _, _, _, _, _, v1⟩ := vMean_is hf h0r
  have := vsame_iff.1 s0 l.reverse[0] (List.mem_reverse.1 (List.getElem_mem h0r))
  rw [v0, v1, qs_reverse, qs_reverse, ws_reverse, this.1, this.2]
theorem vall_reverse {l : List Vs} : vall l.reverse = vall l := by unfold vall; rw [List.all_reverse]
theorem turned_18 {l : List Vs} (h : vall l = true) (hl : l.length ≤ 200) (h0 : 0 < l.length) : (vMean l.reverse).e = 18 ↔ (vMean l).e = 18 := by
  have h0r : 0 < l.reverse.length := by rw [List.length_reverse]; exact h0
  rw [vMean_e18 h hl h0, vMean_e18 (by rw [vall_reverse]; exact h) (by rw [List.length_reverse]; exact hl) h0r, ws_reverse]
  have a1 : l[0] ∈ l := List.getElem_mem h0
  have a2 : l.reverse[0] ∈ l := List.mem_reverse.1 (List.getElem_mem h0r)
  constructor
  · rintro ⟨h1, h2⟩
    refine ⟨?_, h2⟩
    rw [vsame_iff] at h1 ⊢
    have b := h1 _ (List.mem_reverse.2 a1)
    intro v hv
    have := h1 v (List.mem_reverse.2 hv)
    exact ⟨by rw [this.1, b.1], by rw [this.2, b.2]⟩
  · rintro ⟨h1, h2⟩
    refine ⟨?_, h2⟩
    rw [vsame_iff] at h1 ⊢
    have b := h1 _ a2
    intro v hv
    have := h1 v (List.mem_reverse.1 hv)
    exact ⟨by rw [this.1, b.1], by rw [this.2, b.2]⟩
/-- A visibility with so many times the weight. -/
def Vs.by (v : Vs) (b : Int) : Vs := ⟨v.i, v.j, v.re, v.im, v.den, v.n * b⟩
theorem ws_by (b : Int) : ∀ l : List Vs, ws (l.map fun v => v.by b) = ws l * b
  | [] => by simp [ws]
  | v :: l => by simp only [List.map_cons, ws]; rw [ws_by b l]; show v.n * b + _ = _; rw [Int.add_mul]
theorem qs_by {p : Vs → Int} (hp : ∀ v b, prt p (Vs.by v b) = prt p v) (b : Int) : ∀ l : List Vs, qs p (l.map fun v => v.by b) = qs p l * (b : Rat)
  | [] => by simp only [List.map_nil, qs]; grind
  | v :: l => by
    simp only [List.map_cons, qs]; rw [qs_by hp b l, hp]
    show ((v.n * b : Int) : Rat) * _ + _ = _
    rw [Rat.intCast_mul]; grind
theorem more_mean {l : List Vs} {b : Int} (hb : 1 ≤ b) (he : (vMean l).e = 0) (hf : (vMean (l.map fun v => v.by b)).e = 0) :
    vMean (l.map fun v => v.by b) = ⟨(vMean l).i, (vMean l).j, (vMean l).re, (vMean l).im, (vMean l).den, (vMean l).n * b, 0⟩ := by
  obtain ⟨h1, h2, h0, _⟩ := vMean_ok he
  have h0r : 0 < (l.map fun v => v.by b).length := by rw [List.length_map]; exact h0
  obtain ⟨_, _, s0, w0, _, _, v0⟩ := vMean_is he h0
  obtain ⟨_, _, _, _, _, _, v1⟩ := vMean_is hf h0r
  have e0 : (l.map fun v => v.by b)[0] = l[0].by b := by simp
  have B : (b : Rat) ≠ 0 := by intro h'; rw [Rat.intCast_eq_zero_iff] at h'; omega
  have W : ((ws l : Int) : Rat) ≠ 0 := by intro h'; rw [Rat.intCast_eq_zero_iff] at h'; omega
  have hq : ∀ x n b : Rat, n ≠ 0 → b ≠ 0 → x * b / (n * b) = x / n := fun x n b h1 h2 => by grind
  rw [v1, v0, e0, ws_by, qs_by (fun _ _ => rfl), qs_by (fun _ _ => rfl), Rat.intCast_mul, hq _ _ _ W B, hq _ _ _ W B]
  rfl
theorem more_18 {l : List Vs} {b : Int} (hb : 1 ≤ b) (h : vall l = true) (hl : l.length ≤ 200) (h0 : 0 < l.length) (hv : vall (l.map fun v => v.by b) = true) : (vMean (l.map fun v => v.by b)).e = 18 ↔ (vMean l).e = 18 := by
  have h0r : 0 < (l.map fun v => v.by b).length := by rw [List.length_map]; exact h0
  rw [vMean_e18 h hl h0, vMean_e18 hv (by rw [List.length_map]; exact hl) h0r, ws_by]
  have e0 : (l.map fun v => v.by b)[0] = l[0].by b := by simp
  have e1 : vsame (l.map fun v => v.by b) (l.map fun v => v.by b)[0].i (l.map fun v => v.by b)[0].j = vsame l l[0].i l[0].j := by
    rw [e0]
    unfold vsame
    rw [List.all_map]
    rfl
  rw [e1]
  constructor
  · rintro ⟨a, c⟩
    refine ⟨a, ?_⟩
    rcases Int.mul_eq_zero.1 c with h | h <;> omega
  · rintro ⟨a, c⟩
    exact ⟨a, by rw [c]; simp⟩
end Go.Proofs.Ytpjhiojdnebgoaa
