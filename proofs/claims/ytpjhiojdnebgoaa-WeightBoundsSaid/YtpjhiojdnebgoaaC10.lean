/- What is proved here: contracts of functions and plain facts, several texts in one; each one says ahead what it proves, and its conditions. -/
import Derived.Test.YtpjhiojdnebgoaaC09
import Derived.Test.YtpjhiojdnebgoaaC05
import Derived.Test.YtpjhiojdnebgoaaC07
/- What is proved here: the contract of the reference's Make. Condition: the numbers are 64-bit integers. -/
namespace Go.Proofs.Ytpjhiojdnebgoaa
open Go.RowKit

set_option maxHeartbeats 800000 in
theorem rmake_any (num den : Int) (w : World) (h1 : i64 num) (h2 : i64 den) :
    Calls Try.prog 104 #[.int .i64 num, .int .i64 den] w fun e w' => e = .returned (.tuple #[.agg #[.int .i64 (fmk num den).n, .int .i64 (fmk num den).d], .int .i64 (fmk num den).e]) ∧ Below w.heap.size w w' := by
  by_cases h : den = 0
  · subst h
    rw [fmk_0]
    go_enter Try.func104, Try.ntmps104
    go_wp2
    refine bodyPost_ret (v := .tuple #[.agg #[.int .i64 0, .int .i64 0], .int .i64 18]) (by simp [results, Try.results104, go_sem]) rfl ⟨rfl, ?_⟩
    repeat (refine Below.setCell ?_ (by first | omega | (simp; done) | (simp; omega)) _)
    exact ba1 _ _
  · have H := Lib.hid (fmk_ne (num := num) h)
    obtain ⟨n1, n2⟩ := h1
    obtain ⟨d1, d2⟩ := h2
    have b1 : (den == 0) = false := by simpa using h
    have hg : 0 < Nat.gcd num.natAbs den.natAbs := Nat.gcd_pos_of_pos_right _ (by omega)
    have hgl : Nat.gcd num.natAbs den.natAbs ≤ den.natAbs := Nat.gcd_le_right _ (by omega)
    have na : num.natAbs ≤ 9223372036854775808 := by omega
    have da : den.natAbs ≤ 9223372036854775808 := by omega
    have q1 := Nat.div_le_self num.natAbs (Nat.gcd num.natAbs den.natAbs)
    have q2 := Nat.div_le_self den.natAbs (Nat.gcd num.natAbs den.natAbs)
    have e1 := wrap_quo num.natAbs (Nat.gcd num.natAbs den.natAbs) na
    have e2 := wrap_quo den.natAbs (Nat.gcd num.natAbs den.natAbs) da
    have k1 : (num.natAbs : Int) / ((Nat.gcd num.natAbs den.natAbs : Nat) : Int) = ((num.natAbs / Nat.gcd num.natAbs den.natAbs : Nat) : Int) := (Int.natCast_ediv _ _).symm
    have k2 : (den.natAbs : Int) / ((Nat.gcd num.natAbs den.natAbs : Nat) : Int) = ((den.natAbs / Nat.gcd num.natAbs den.natAbs : Nat) : Int) := (Int.natCast_ediv _ _).symm
    have H' : Hid (fmk num den = bld (decide (num < 0) != decide (den < 0)) (num.natAbs / Nat.gcd num.natAbs den.natAbs : Nat) (den.natAbs / Nat.gcd num.natAbs den.natAbs : Nat)) := by show _ = _; rw [H.out, k1, k2]
    clear H
    generalize hgg : Nat.gcd num.natAbs den.natAbs = g at *
    have HG := Lib.hid hgg
    have g0 : ((g : Int) == 0) = false := by simp; omega
    have g1 : ¬ ((g : Int) = 0) := by omega
    clear hgg h
    generalize num.natAbs / g = u at *
    generalize den.natAbs / g = v at *
    go_enter Try.func104, Try.ntmps104
    go_wp2_with fail
    refine (abs_any _ _ (by omega) (by omega)).mono ?_
    rintro e _ ⟨rfl, rfl⟩
    go_wp2_with fail
    refine (abs_any _ _ (by omega) (by omega)).mono ?_
    rintro e _ ⟨rfl, rfl⟩
    go_wp2_with fail
    refine (rgcd_any _ _ _ (by omega) (by omega)).mono ?_
    rintro e w1 ⟨rfl, nd, rfl⟩
    rw [HG.out]
    go_wp2_with fail
    refine (abs_any _ _ (by omega) (by omega)).mono ?_
    rintro e _ ⟨rfl, rfl⟩
    go_wp2_with fail
    refine (big_any u _ (by omega)).mono ?_
    rintro e w1 ⟨rfl, hb1⟩
    obtain ⟨c1, f1⟩ := bcell hb1
    have z1 := (hb1).size
    try simp at z1
    try simp at c1
    try simp at f1
    have z1a : w.heap.size < w1.heap.size := by omega
    go_wp2_with fail
    refine (abs_any _ _ (by omega) (by omega)).mono ?_
    rintro e _ ⟨rfl, rfl⟩
    go_wp2_with fail
    refine (big_any v _ (by omega)).mono ?_
    rintro e w2 ⟨rfl, hb2⟩
    obtain ⟨c2, f2⟩ := bcell hb2
    have z2 := (hb2).size
    try simp at z2
    try simp at c2
    try simp at f2
    have z2a : w.heap.size < w2.heap.size := by omega
    go_wp2_with fail
    refine (lowest_any _ u v _ (by omega) (by omega)).mono ?_
    rintro e w3 ⟨rfl, hb3⟩
    obtain ⟨c3, f3⟩ := bcell hb3
    have z3 := (hb3).size
    try simp at z3
    try simp at c3
    try simp at f3
    have z3a : w.heap.size < w3.heap.size := by omega
    generalize hr : bld (!decide (num < 0) == decide (den < 0)) ↑u ↑v = r at *
    have HR : Hid (fmk num den = r) := by show _ = _; rw [H'.out, ← hr]; try rfl
    clear hr H'
    go_wp2
    refine bodyPost_ret (v := .tuple #[.agg #[.int .i64 r.n, .int .i64 r.d], .int .i64 r.e]) (by simp [results, Try.results104, go_sem, c1, c2, c3, z1a, z2a]) rfl ⟨by rw [HR.out], ?_⟩
    repeat (refine Below.setCell ?_ (by first | omega | (simp; done) | (simp; omega)) _)
    exact below_to (below_to (below_to (below_to (ba1 _ _) (below_drewN _ _)) hb1) hb2) hb3

end Go.Proofs.Ytpjhiojdnebgoaa

/- What is proved here: the contracts of weight.isWeight, fits, gcd, isValue and Check, and of the reference's divides, common, Valid and Check. Condition: the numbers are 64-bit integers. -/
namespace Go.Proofs.Ytpjhiojdnebgoaa
open Go.RowKit

def cntB (n : Int) : Bool := decide (0 ≤ n) && decide (n ≤ 1000000)
def fit9 (x : Int) : Bool := decide (-1000000000 ≤ x) && decide (x ≤ 1000000000)
theorem fit9_1 {x : Int} (h : fit9 x = true) : -1000000000 ≤ x ∧ x ≤ 1000000000 := by unfold fit9 at h; simpa using h
theorem fit9_0 {x : Int} (h : fit9 x = false) : ¬ (-1000000000 ≤ x ∧ x ≤ 1000000000) := by unfold fit9 at h; simp at h; omega
theorem cnt_1 {x : Int} (h : cntB x = true) : 0 ≤ x ∧ x ≤ 1000000 := by unfold cntB at h; simpa using h
theorem cnt_0 {x : Int} (h : cntB x = false) : ¬ (0 ≤ x ∧ x ≤ 1000000) := by unfold cntB at h; simp at h; omega
theorem isWeight_any (n : Int) (w : World) : Calls Try.prog 81 #[.int .i64 n] w fun e w' => e = .returned (.bool (cntB n)) ∧ w = w' := by
  unfold cntB
  by_cases h1 : 0 ≤ n
  all_goals by_cases h2 : n ≤ 1000000
  all_goals
    go_enter Try.func81, Try.ntmps81
    go_wp2
    go_ret
    exact ⟨by simp [h1, h2], rfl⟩
theorem fits_any (n : Int) (w : World) : Calls Try.prog 110 #[.int .i64 n] w fun e w' => e = .returned (.bool (fit9 n)) ∧ w = w' := by
  unfold fit9
  by_cases h1 : -1000000000 ≤ n
  all_goals by_cases h2 : n ≤ 1000000000
  all_goals
    go_enter Try.func110, Try.ntmps110
    go_wp2
    go_ret
    exact ⟨by simp [h1, h2], rfl⟩
theorem fits_of (n : Int) (b : Bool) (w : World) (h : fit9 n = b) : Calls Try.prog 110 #[.int .i64 n] w fun e w' => e = .returned (.bool b) ∧ w = w' := by
  subst h; exact fits_any n w
theorem isWeight_of (n : Int) (b : Bool) (w : World) (h : cntB n = b) : Calls Try.prog 81 #[.int .i64 n] w fun e w' => e = .returned (.bool b) ∧ w = w' := by
  subst h; exact isWeight_any n w

def s63 (n : Int) : Prop := -9223372036854775807 ≤ n ∧ n ≤ 9223372036854775807
set_option maxHeartbeats 800000 in
theorem wgcd_any (a b : Int) (w : World) (h1 : s63 a) (h2 : s63 b) :
    Calls Try.prog 111 #[.int .i64 a, .int .i64 b] w fun e w' => e = .returned (.int .i64 (Nat.gcd a.natAbs b.natAbs : Nat)) ∧ ∃ n, w' = w.drewN n := by
  obtain ⟨a1, a2⟩ := h1
  obtain ⟨b1, b2⟩ := h2
  go_enter Try.func111, Try.ntmps111
  go_wp2
  go_loopw [0, 1] (fun x y wr => ∃ (a' b' : Int) (n : Nat), x = .int .i64 a' ∧ y = .int .i64 b' ∧ -9223372036854775807 ≤ a' ∧ a' ≤ 9223372036854775807 ∧ -9223372036854775807 ≤ b' ∧ b' ≤ 9223372036854775807 ∧ Hid (Nat.gcd a'.natAbs b'.natAbs = Nat.gcd a.natAbs b.natAbs) ∧ wr = w.drewN n) (fun _ y _ => (intOf y).natAbs)
  case atStart => exact ⟨a, b, 0, rfl, rfl, a1, a2, b1, b2, rfl, rfl⟩
  case round =>
    obtain ⟨a', b', n, rfl, rfl, ha1, ha2, hb1, hb2, hg, rfl⟩ := hrel
    by_cases hz : b' = 0
    · subst hz
      have hg : Hid (((Nat.gcd a.natAbs b.natAbs : Nat) : Int) = a'.natAbs) := by
        show _ = _; have := hg.out; simp at this; omega
      by_cases hs : 0 ≤ a'
      · go_wp2
        go_ret
        exact ⟨ret_int (by rw [hg.out]; omega), n, rfl⟩
      · go_wp2
        go_ret
        exact ⟨ret_int (by rw [hg.out]; omega), n, rfl⟩
    · have hz' : (b' == 0) = false := by simpa using hz
      have hz2 : (b' != 0) = true := by simpa using hz
      have hm := tmod_lt a' b' hz
      have hG : Hid (Nat.gcd b'.natAbs (a'.tmod b').natAbs = Nat.gcd a.natAbs b.natAbs) := by
        show _ = _; rw [gcd_tmod]; exact hg.out
      generalize hr : a'.tmod b' = r at *
      go_wp2
      go_quiet (fail)
      go_wp2
      go_roundw
      case rel => exact ⟨b', r, n + nq, rfl, by first | rfl | (congr 1; rw [← hr]; omega), hb1, hb2, by omega, by omega, hG, by simp⟩
      case measure => simp [intOf]; omega

theorem wgcd_of (x y : Int) (a b : Int) (w : World) (hx : x = a) (hy : y = b) (h1 : s63 a) (h2 : s63 b) :
    Calls Try.prog 111 #[.int .i64 x, .int .i64 y] w fun e w' => e = .returned (.int .i64 (Nat.gcd a.natAbs b.natAbs : Nat)) ∧ ∃ n, w' = w.drewN n := by
  subst hx hy; exact wgcd_any _ _ w h1 h2
theorem gcd_s63 {a b : Int} (h : b ≠ 0) (hb : b.natAbs ≤ 1000000000) : s63 ((Nat.gcd a.natAbs b.natAbs : Nat) : Int) := by
  have := Nat.gcd_le_right a.natAbs (show 0 < b.natAbs by omega)
  unfold s63; omega
theorem gcd_s63' {a b : Int} (ha : a.natAbs ≤ 1000000000) (hb : b.natAbs ≤ 1000000000) : s63 ((Nat.gcd a.natAbs b.natAbs : Nat) : Int) := by
  have : Nat.gcd a.natAbs b.natAbs ≤ 1000000000 := by
    by_cases h : b = 0
    · subst h; simpa using ha
    · exact Nat.le_trans (Nat.gcd_le_right a.natAbs (show 0 < b.natAbs by omega)) hb
  unfold s63; omega

set_option maxRecDepth 100000 in
set_option maxHeartbeats 8000000 in
theorem isValue_any (re im den : Int) (w : World) : Calls Try.prog 86 #[.agg #[.int .i64 re, .int .i64 im, .int .i64 den]] w fun e w' => e = .returned (.bool (cokB re im den)) ∧ Below w.heap.size w w' := by
  by_cases h1 : 1 ≤ den
  case neg =>
    have e1 : decide (1 ≤ den) = false := decide_eq_false h1
    have HV : Hid (cokB re im den = false) := cok_no (by unfold CFit; omega)
    go_enter Try.func86, Try.ntmps86
    go_wp2
    go_quiet (fail)
    go_wp2
    go_ret
    exact ⟨by rw [HV.out]; rfl, bd (ba1 _ _) _⟩
  have e1 : decide (1 ≤ den) = true := decide_eq_true h1
  by_cases h2 : den ≤ 1000000000
  case neg =>
    have e2 : decide (den ≤ 1000000000) = false := decide_eq_false h2
    have HV : Hid (cokB re im den = false) := cok_no (by unfold CFit; omega)
    go_enter Try.func86, Try.ntmps86
    go_wp2
    go_quiet (fail)
    go_wp2
    go_ret
    exact ⟨by rw [HV.out]; rfl, bd (ba1 _ _) _⟩
  have e2 : decide (den ≤ 1000000000) = true := decide_eq_true h2
  cases h3 : fit9 re with
  | false =>
    have f3 := fit9_0 h3
    have HV : Hid (cokB re im den = false) := cok_no (by unfold CFit; omega)
    go_enter Try.func86, Try.ntmps86
    go_wp2
    go_quiet ((go_at_call 110; first | exact Calls.quiet_same (fits_of _ true _ (by assumption)) | exact Calls.quiet_same (fits_of _ false _ (by assumption))))
    go_wp2
    go_ret
    exact ⟨by rw [HV.out]; rfl, bd (ba1 _ _) _⟩
  | true =>
    have f3 := fit9_1 h3
    cases h4 : fit9 im with
    | false =>
      have f4 := fit9_0 h4
      have HV : Hid (cokB re im den = false) := cok_no (by unfold CFit; omega)
      go_enter Try.func86, Try.ntmps86
      go_wp2
      go_quiet ((go_at_call 110; first | exact Calls.quiet_same (fits_of _ true _ (by assumption)) | exact Calls.quiet_same (fits_of _ false _ (by assumption))))
      go_wp2
      go_ret
      exact ⟨by rw [HV.out]; rfl, bd (ba1 _ _) _⟩
    | true =>
      have f4 := fit9_1 h4
      have s1 : s63 re := ⟨by omega, by omega⟩
      have s2 : s63 im := ⟨by omega, by omega⟩
      have s3 : s63 den := ⟨by omega, by omega⟩
      have s4 : s63 ((Nat.gcd re.natAbs im.natAbs : Nat) : Int) := gcd_s63' (by omega) (by omega)
      have H := Lib.hid (cok_gcd (re := re) (im := im) (den := den) ⟨by omega, by omega, by omega, by omega, by omega, by omega⟩)
      by_cases hg : Nat.gcd (Nat.gcd re.natAbs im.natAbs) den.natAbs = 1
      · have b1 : (((Nat.gcd (Nat.gcd re.natAbs im.natAbs) den.natAbs : Nat) : Int) == 1) = true := by simp [hg]
        have HV : Hid (cokB re im den = true) := by show _ = _; rw [H.out, decide_eq_true hg]
        clear hg H
        go_enter Try.func86, Try.ntmps86
        go_wp2
        go_quiet (first | (go_at_call 110; first | exact Calls.quiet_same (fits_of _ true _ (by assumption)) | exact Calls.quiet_same (fits_of _ false _ (by assumption))) | (go_at_call 111; refine Calls.quiet_of (wgcd_any _ _ _ ?_ ?_) <;> assumption))
        go_wp2
        go_ret
        exact ⟨by rw [HV.out]; rfl, bd (ba1 _ _) _⟩
      · have b1 : (((Nat.gcd (Nat.gcd re.natAbs im.natAbs) den.natAbs : Nat) : Int) == 1) = false := by simp; omega
        have HV : Hid (cokB re im den = false) := by show _ = _; rw [H.out, decide_eq_false hg]
        clear hg H
        go_enter Try.func86, Try.ntmps86
        go_wp2
        go_quiet (first | (go_at_call 110; first | exact Calls.quiet_same (fits_of _ true _ (by assumption)) | exact Calls.quiet_same (fits_of _ false _ (by assumption))) | (go_at_call 111; refine Calls.quiet_of (wgcd_any _ _ _ ?_ ?_) <;> assumption))
        go_wp2
        go_ret
        exact ⟨by rw [HV.out]; rfl, bd (ba1 _ _) _⟩
theorem isValue_of (re im den : Int) (b : Bool) (w : World) (h : cokB re im den = b) : Calls Try.prog 86 #[.agg #[.int .i64 re, .int .i64 im, .int .i64 den]] w fun e w' => e = .returned (.bool b) ∧ Below w.heap.size w w' := by
  subst h; exact isValue_any re im den w
theorem vchk_no {i j re im den n : Int} (h : ¬ (0 ≤ i ∧ i < j ∧ j < 8 ∧ cokB re im den = true ∧ 0 ≤ n ∧ n ≤ 1000000)) : vchk i j re im den n = 8 := by
  unfold vchk vokB; rw [if_neg]
  simp only [Bool.and_eq_true, decide_eq_true_eq]
  exact fun h' => h ⟨h'.1.1.1.1.1, h'.1.1.1.1.2, h'.1.1.1.2, h'.1.1.2, h'.1.2, h'.2⟩
theorem vchk_yes {i j re im den n : Int} (h1 : 0 ≤ i) (h2 : i < j) (h3 : j < 8) (h4 : cokB re im den = true) (h5 : 0 ≤ n) (h6 : n ≤ 1000000) : vchk i j re im den n = 0 := by
  unfold vchk vokB; rw [if_pos]
  simp [h1, h2, h3, h4, h5, h6]
theorem vchk_ok {i j re im den n : Int} (h : vchk i j re im den n = 0) : 0 ≤ i ∧ i < j ∧ j < 8 ∧ cokB re im den = true ∧ 0 ≤ n ∧ n ≤ 1000000 := by
  unfold vchk vokB at h
  split at h
  · rename_i h'
    simp only [Bool.and_eq_true, decide_eq_true_eq] at h'
    exact ⟨h'.1.1.1.1.1, h'.1.1.1.1.2, h'.1.1.1.2, h'.1.1.2, h'.1.2, h'.2⟩
  · cases h
set_option maxRecDepth 100000 in
set_option maxHeartbeats 8000000 in
theorem vcheck_any (i j re im den n : Int) (w : World) : Calls Try.prog 47 #[.agg #[.int .i64 i, .int .i64 j, .int .i64 re, .int .i64 im, .int .i64 den, .int .i64 n]] w fun e w' => e = .returned (.int .i64 (vchk i j re im den n)) ∧ Below w.heap.size w w' := by
  by_cases h1 : 0 ≤ i
  case neg =>
    have HV : Hid (vchk i j re im den n = 8) := vchk_no (by omega)
    have e1 : decide (i < 0) = true := decide_eq_true (by omega)
    go_enter Try.func47, Try.ntmps47
    go_wp2
    go_ret
    exact ⟨by rw [HV.out]; rfl, ba1 _ _⟩
  have e1 : decide (i < 0) = false := decide_eq_false (by omega)
  by_cases h2 : i < j
  case neg =>
    have HV : Hid (vchk i j re im den n = 8) := vchk_no (by omega)
    have e2 : decide (j ≤ i) = true := decide_eq_true (by omega)
    go_enter Try.func47, Try.ntmps47
    go_wp2
    go_ret
    exact ⟨by rw [HV.out]; rfl, ba1 _ _⟩
  have e2 : decide (j ≤ i) = false := decide_eq_false (by omega)
  by_cases h3 : j < 8
  case neg =>
    have HV : Hid (vchk i j re im den n = 8) := vchk_no (by omega)
    have e3 : decide (8 ≤ j) = true := decide_eq_true (by omega)
    go_enter Try.func47, Try.ntmps47
    go_wp2
    go_ret
    exact ⟨by rw [HV.out]; rfl, ba1 _ _⟩
  have e3 : decide (8 ≤ j) = false := decide_eq_false (by omega)
  cases h4 : cokB re im den with
  | false =>
    have HV : Hid (vchk i j re im den n = 8) := vchk_no (by rw [h4]; simp)
    go_enter Try.func47, Try.ntmps47
    go_wp2_with fail
    refine (isValue_of re im den _ _ h4).mono ?_
    rintro e w1 ⟨rfl, hb1⟩
    go_wp2
    go_ret
    exact ⟨by rw [HV.out]; rfl, below_to (ba1 _ _) hb1⟩
  | true =>
    cases h5 : cntB n with
    | false =>
      have f5 := cnt_0 h5
      have HV : Hid (vchk i j re im den n = 8) := vchk_no (by omega)
      go_enter Try.func47, Try.ntmps47
      go_wp2_with fail
      refine (isValue_of re im den _ _ h4).mono ?_
      rintro e w1 ⟨rfl, hb1⟩
      obtain ⟨c1, f1⟩ := bcell hb1
      have z1 := (hb1).size
      try simp at z1
      try simp at c1
      try simp at f1
      have z1a : w.heap.size < w1.heap.size := by omega
      go_wp2_with fail
      refine (isWeight_of _ _ _ h5).mono ?_
      rintro e _ ⟨rfl, rfl⟩
      go_wp2
      go_ret
      exact ⟨by rw [HV.out]; rfl, below_to (ba1 _ _) hb1⟩
    | true =>
      have f5 := cnt_1 h5
      have HV : Hid (vchk i j re im den n = 0) := vchk_yes h1 h2 h3 h4 f5.1 f5.2
      go_enter Try.func47, Try.ntmps47
      go_wp2_with fail
      refine (isValue_of re im den _ _ h4).mono ?_
      rintro e w1 ⟨rfl, hb1⟩
      obtain ⟨c1, f1⟩ := bcell hb1
      have z1 := (hb1).size
      try simp at z1
      try simp at c1
      try simp at f1
      have z1a : w.heap.size < w1.heap.size := by omega
      go_wp2_with fail
      refine (isWeight_of _ _ _ h5).mono ?_
      rintro e _ ⟨rfl, rfl⟩
      go_wp2
      go_ret
      exact ⟨by rw [HV.out]; rfl, below_to (ba1 _ _) hb1⟩

end Go.Proofs.Ytpjhiojdnebgoaa

/- What is proved here: the contracts of the reference's divides, common, Valid and Check of layer 22. Condition: the numbers are 64-bit integers. -/
namespace Go.Proofs.Ytpjhiojdnebgoaa
open Go.RowKit

theorem divides_1 (w : World) : Calls Try.prog 106 #[.int .i64 1, .int .i64 1] w fun e w' => e = .returned (.bool true) ∧ w = w' := by
  go_enter Try.func106, Try.ntmps106
  go_wp2
  go_ret
  exact ⟨rfl, rfl⟩
set_option maxHeartbeats 1600000 in
theorem common_any (a b c : Int) (w : World) (h1 : s63 a) (h2 : s63 b) (h3 : s63 c) :
    Calls Try.prog 105 #[.int .i64 a, .int .i64 b, .int .i64 c] w fun e w' => e = .returned (.int .i64 (Nat.gcd b.natAbs (Nat.gcd a.natAbs c.natAbs) : Nat)) ∧ w = w' := by
  obtain ⟨a1, a2⟩ := h1
  obtain ⟨b1, b2⟩ := h2
  obtain ⟨c1, c2⟩ := h3
  go_enter Try.func105, Try.ntmps105
  go_wp2
  go_loopw [0, 2] (fun x y wr => ∃ (a' c' : Int), x = .int .i64 a' ∧ y = .int .i64 c' ∧ -9223372036854775807 ≤ a' ∧ a' ≤ 9223372036854775807 ∧ -9223372036854775807 ≤ c' ∧ c' ≤ 9223372036854775807 ∧ Hid (Nat.gcd a'.natAbs c'.natAbs = Nat.gcd a.natAbs c.natAbs) ∧ wr = w) (fun x _ _ => (intOf x).natAbs)
  case atStart => exact ⟨a, c, rfl, rfl, a1, a2, c1, c2, rfl, rfl⟩
  case round =>
    obtain ⟨a', c', rfl, rfl, ha1, ha2, hc1, hc2, hg, rfl⟩ := hrel
    by_cases hz : a' = 0
    case neg =>
      have hz' : (a' == 0) = false := by simpa using hz
      have hz2 : (a' != 0) = true := by simpa using hz
      have hm := tmod_lt c' a' hz
      have hG : Hid (Nat.gcd (c'.tmod a').natAbs a'.natAbs = Nat.gcd a.natAbs c.natAbs) := by
        show _ = _; rw [Nat.gcd_comm, gcd_tmod, Nat.gcd_comm]; exact hg.out
      generalize hr : c'.tmod a' = r at *
      go_wp2
      go_roundw
      case rel => exact ⟨r, a', by first | rfl | (congr 1; rw [← hr]; omega), rfl, by omega, by omega, ha1, ha2, hG, trivial⟩
      case measure => simp [intOf]; omega
    case pos =>
      subst hz
      have hg : Hid (c'.natAbs = Nat.gcd a.natAbs c.natAbs) := by
        show _ = _; have := hg.out; simpa using this
      go_wp2
      go_loopw [1, 2] (fun x y wq => ∃ (b' d' : Int), x = .int .i64 b' ∧ y = .int .i64 d' ∧ -9223372036854775807 ≤ b' ∧ b' ≤ 9223372036854775807 ∧ -9223372036854775807 ≤ d' ∧ d' ≤ 9223372036854775807 ∧ Hid (Nat.gcd b'.natAbs d'.natAbs = Nat.gcd b.natAbs (Nat.gcd a.natAbs c.natAbs)) ∧ wq = wr) (fun x _ _ => (intOf x).natAbs)
      case atStart => exact ⟨b, c', rfl, rfl, b1, b2, hc1, hc2, Lib.hid (by rw [hg.out]), rfl⟩
      case round =>
        obtain ⟨b', d', rfl, rfl, hb1, hb2, hd1, hd2, hh, rfl⟩ := hrel
        by_cases hz : b' = 0
        case neg =>
          have hz' : (b' == 0) = false := by simpa using hz
          have hz2 : (b' != 0) = true := by simpa using hz
          have hm := tmod_lt d' b' hz
          have hG : Hid (Nat.gcd (d'.tmod b').natAbs b'.natAbs = Nat.gcd b.natAbs (Nat.gcd a.natAbs c.natAbs)) := by
            show _ = _; rw [Nat.gcd_comm, gcd_tmod, Nat.gcd_comm]; exact hh.out
          generalize hr : d'.tmod b' = r at *
          go_wp2
          go_roundw
          case rel => exact ⟨r, b', by first | rfl | (congr 1; rw [← hr]; omega), rfl, by omega, by omega, hb1, hb2, hG, trivial⟩
          case measure => simp [intOf]; omega
        case pos =>
          subst hz
          have hh : Hid (((Nat.gcd b.natAbs (Nat.gcd a.natAbs c.natAbs) : Nat) : Int) = d'.natAbs) := by
            show _ = _; have := hh.out; simp at this; omega
          by_cases hs : d' < 0
          · go_wp2
            go_ret
            exact ⟨ret_int (by rw [hh.out]; omega), rfl⟩
          · go_wp2
            go_ret
            exact ⟨ret_int (by rw [hh.out]; omega), rfl⟩

theorem common_of (a b c : Int) (b' : Bool) (w : World) (h1 : s63 a) (h2 : s63 b) (h3 : s63 c) (h : decide (Nat.gcd b.natAbs (Nat.gcd a.natAbs c.natAbs) = 1) = b') :
    Calls Try.prog 105 #[.int .i64 a, .int .i64 b, .int .i64 c] w fun e w' => (∃ k : Int, e = .returned (.int .i64 k) ∧ (k == 1) = b') ∧ w = w' := by
  refine (common_any a b c w h1 h2 h3).mono ?_
  rintro e w' ⟨he, hw⟩
  refine ⟨⟨_, he, ?_⟩, hw⟩
  rw [← h, Bool.beq_eq_decide_eq]
  exact decide_eq_decide.2 (by omega)
set_option maxRecDepth 100000 in
set_option maxHeartbeats 8000000 in
theorem valid_any (re im den : Int) (w : World) : Calls Try.prog 84 #[.agg #[.int .i64 re, .int .i64 im, .int .i64 den]] w fun e w' => e = .returned (.bool (cokB re im den)) ∧ Below w.heap.size w w' := by
  by_cases h0 : 1 ≤ den
  case neg =>
    have HV : Hid (cokB re im den = false) := cok_no (by unfold CFit; omega)
    have e0 : decide (den < 1) = true := decide_eq_true (by omega)
    go_enter Try.func84, Try.ntmps84
    go_wp2
    go_ret
    exact ⟨by rw [HV.out]; rfl, ba1 _ _⟩
  have e0 : decide (den < 1) = false := decide_eq_false (by omega)
  by_cases h1 : den ≤ 1000000000
  case neg =>
    have HV : Hid (cokB re im den = false) := cok_no (by unfold CFit; omega)
    have e1 : decide (1000000000 < den) = true := decide_eq_true (by omega)
    go_enter Try.func84, Try.ntmps84
    go_wp2
    go_ret
    exact ⟨by rw [HV.out]; rfl, ba1 _ _⟩
  have e1 : decide (1000000000 < den) = false := decide_eq_false (by omega)
  by_cases h2 : -1000000000 ≤ re
  case neg =>
    have HV : Hid (cokB re im den = false) := cok_no (by unfold CFit; omega)
    have e2 : decide (re < -1000000000) = true := decide_eq_true (by omega)
    go_enter Try.func84, Try.ntmps84
    go_wp2
    go_ret
    exact ⟨by rw [HV.out]; rfl, ba1 _ _⟩
  have e2 : decide (re < -1000000000) = false := decide_eq_false (by omega)
  by_cases h3 : re ≤ 1000000000
  case neg =>
    have HV : Hid (cokB re im den = false) := cok_no (by unfold CFit; omega)
    have e3 : decide (1000000000 < re) = true := decide_eq_true (by omega)
    go_enter Try.func84, Try.ntmps84
    go_wp2
    go_ret
    exact ⟨by rw [HV.out]; rfl, ba1 _ _⟩
  have e3 : decide (1000000000 < re) = false := decide_eq_false (by omega)
  by_cases h4 : -1000000000 ≤ im
  case neg =>
    have HV : Hid (cokB re im den = false) := cok_no (by unfold CFit; omega)
    have e4 : decide (im < -1000000000) = true := decide_eq_true (by omega)
    go_enter Try.func84, Try.ntmps84
    go_wp2
    go_ret
    exact ⟨by rw [HV.out]; rfl, ba1 _ _⟩
  have e4 : decide (im < -1000000000) = false := decide_eq_false (by omega)
  by_cases h5 : im ≤ 1000000000
  case neg =>
    have HV : Hid (cokB re im den = false) := cok_no (by unfold CFit; omega)
    have e5 : decide (1000000000 < im) = true := decide_eq_true (by omega)
    go_enter Try.func84, Try.ntmps84
    go_wp2
    go_ret
    exact ⟨by rw [HV.out]; rfl, ba1 _ _⟩
  have e5 : decide (1000000000 < im) = false := decide_eq_false (by omega)
  have HV : Hid (cokB re im den = decide (Nat.gcd im.natAbs (Nat.gcd re.natAbs den.natAbs) = 1)) := by
    show _ = _; rw [cok_gcd ⟨h0, h1, h2, h3, h4, h5⟩]; exact decide_eq_decide.2 (by rw [gcd3])
  go_enter Try.func84, Try.ntmps84
  go_wp2_with fail
  refine (common_of re im den _ _ ⟨by omega, by omega⟩ ⟨by omega, by omega⟩ ⟨by omega, by omega⟩ HV.out.symm).mono ?_
  rintro e _ ⟨⟨k, rfl, hk⟩, rfl⟩
  go_wp2
  go_ret
  exact ⟨rfl, ba1 _ _⟩
theorem valid_of (re im den : Int) (b : Bool) (w : World) (h : cokB re im den = b) : Calls Try.prog 84 #[.agg #[.int .i64 re, .int .i64 im, .int .i64 den]] w fun e w' => e = .returned (.bool b) ∧ Below w.heap.size w w' := by
  subst h; exact valid_any re im den w
set_option maxRecDepth 100000 in
set_option maxHeartbeats 8000000 in
theorem rvcheck_any (i j re im den n : Int) (w : World) : Calls Try.prog 43 #[.agg #[.int .i64 i, .int .i64 j, .int .i64 re, .int .i64 im, .int .i64 den, .int .i64 n]] w fun e w' => e = .returned (.int .i64 (vchk i j re im den n)) ∧ Below w.heap.size w w' := by
  by_cases h0 : 0 ≤ i
  case neg =>
    have HV : Hid (vchk i j re im den n = 8) := vchk_no (by omega)
    have e0 : decide (0 ≤ i) = false := decide_eq_false h0
    go_enter Try.func43, Try.ntmps43
    go_wp2
    go_ret
    exact ⟨by rw [HV.out]; rfl, ba1 _ _⟩
  have e0 : decide (0 ≤ i) = true := decide_eq_true h0
  by_cases h1 : i < j
  case neg =>
    have HV : Hid (vchk i j re im den n = 8) := vchk_no (by omega)
    have e1 : decide (i < j) = false := decide_eq_false h1
    go_enter Try.func43, Try.ntmps43
    go_wp2
    go_ret
    exact ⟨by rw [HV.out]; rfl, ba1 _ _⟩
  have e1 : decide (i < j) = true := decide_eq_true h1
  by_cases h2 : j < 8
  case neg =>
    have HV : Hid (vchk i j re im den n = 8) := vchk_no (by omega)
    have e2 : decide (j < 8) = false := decide_eq_false h2
    go_enter Try.func43, Try.ntmps43
    go_wp2
    go_ret
    exact ⟨by rw [HV.out]; rfl, ba1 _ _⟩
  have e2 : decide (j < 8) = true := decide_eq_true h2
  cases h4 : cokB re im den with
  | false =>
    have HV : Hid (vchk i j re im den n = 8) := vchk_no (by rw [h4]; simp)
    go_enter Try.func43, Try.ntmps43
    go_wp2_with fail
    refine (valid_of re im den _ _ h4).mono ?_
    rintro e w1 ⟨rfl, hb1⟩
    go_wp2
    go_ret
    exact ⟨by rw [HV.out]; rfl, below_to (ba1 _ _) hb1⟩
  | true =>
    by_cases k0 : 0 ≤ n
    case neg =>
      have HV : Hid (vchk i j re im den n = 8) := vchk_no (by omega)
      have d0 : decide (0 ≤ n) = false := decide_eq_false k0
      go_enter Try.func43, Try.ntmps43
      go_wp2_with fail
      refine (valid_of re im den _ _ h4).mono ?_
      rintro e w1 ⟨rfl, hb1⟩
      obtain ⟨c1, f1⟩ := bcell hb1
      have z1 := (hb1).size
      try simp at z1
      try simp at c1
      try simp at f1
      have z1a : w.heap.size < w1.heap.size := by omega
      go_wp2
      go_ret
      exact ⟨by rw [HV.out]; rfl, below_to (ba1 _ _) hb1⟩
    have d0 : decide (0 ≤ n) = true := decide_eq_true k0
    by_cases k1 : n ≤ 1000000
    case neg =>
      have HV : Hid (vchk i j re im den n = 8) := vchk_no (by omega)
      have d1 : decide (n ≤ 1000000) = false := decide_eq_false k1
      go_enter Try.func43, Try.ntmps43
      go_wp2_with fail
      refine (valid_of re im den _ _ h4).mono ?_
      rintro e w1 ⟨rfl, hb1⟩
      obtain ⟨c1, f1⟩ := bcell hb1
      have z1 := (hb1).size
      try simp at z1
      try simp at c1
      try simp at f1
      have z1a : w.heap.size < w1.heap.size := by omega
      go_wp2
      go_ret
      exact ⟨by rw [HV.out]; rfl, below_to (ba1 _ _) hb1⟩
    have d1 : decide (n ≤ 1000000) = true := decide_eq_true k1
    have HV : Hid (vchk i j re im den n = 0) := vchk_yes h0 h1 h2 h4 k0 k1
    go_enter Try.func43, Try.ntmps43
    go_wp2_with fail
    refine (valid_of re im den _ _ h4).mono ?_
    rintro e w1 ⟨rfl, hb1⟩
    obtain ⟨c1, f1⟩ := bcell hb1
    have z1 := (hb1).size
    try simp at z1
    try simp at c1
    try simp at f1
    have z1a : w.heap.size < w1.heap.size := by omega
    go_wp2
    go_ret
    exact ⟨by rw [HV.out]; rfl, below_to (ba1 _ _) hb1⟩
end Go.Proofs.Ytpjhiojdnebgoaa
