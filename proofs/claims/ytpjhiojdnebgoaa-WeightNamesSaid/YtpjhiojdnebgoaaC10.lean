/- What is proved here: contracts of functions and plain facts, several texts in one; each one says ahead what it proves, and its conditions. -/
import Derived.Test.YtpjhiojdnebgoaaC05
import Derived.Test.YtpjhiojdnebgoaaC09
import Derived.Test.YtpjhiojdnebgoaaC07
/- What is proved here: the contracts of weight.isWeight, fits, gcd, isValue and Check, and of the reference's divides, common, Valid and Check. Condition: the numbers are 64-bit integers. -/
namespace Go.Proofs.Ytpjhiojdnebgoaa
open Go.RowKit

def cntB (n : Int) : Bool := decide (0 ≤ n) && decide (n ≤ 1000000)
def fit9 (x : Int) : Bool := decide (-1000000000 ≤ x) && decide (x ≤ 1000000000)
theorem fit9_1 {x : Int} (h : fit9 x = true) : -1000000000 ≤ x ∧ x ≤ 1000000000 := by unfold fit9 at h; simpa using h
theorem fit9_0 {x : Int} (h : fit9 x = false) : ¬ (-1000000000 ≤ x ∧ x ≤ 1000000000) := by unfold fit9 at h; simp at h; omega
theorem cnt_1 {x : Int} (h : cntB x = true) : 0 ≤ x ∧ x ≤ 1000000 := by unfold cntB at h; simpa using h
theorem cnt_0 {x : Int} (h : cntB x = false) : ¬ (0 ≤ x ∧ x ≤ 1000000) := by unfold cntB at h; simp at h; omega
theorem isWeight_any (n : Int) (w : World) : Calls Try.prog 81 #[.int .i64 n] w fun e w' => e = .returned (.bool (cntB n)) ∧ w = w' := by
  unfold cntB
  by_cases h1 : 0 ≤ n
  all_goals by_cases h2 : n ≤ 1000000
  all_goals
    go_enter Try.func81, Try.ntmps81
    go_wp2
    go_ret
    exact ⟨by simp [h1, h2], rfl⟩
theorem fits_any (n : Int) (w : World) : Calls Try.prog 110 #[.int .i64 n] w fun e w' => e = .returned (.bool (fit9 n)) ∧ w = w' := by
  unfold fit9
  by_cases h1 : -1000000000 ≤ n
  all_goals by_cases h2 : n ≤ 1000000000
  all_goals
    go_enter Try.func110, Try.ntmps110
    go_wp2
    go_ret
    exact ⟨by simp [h1, h2], rfl⟩
theorem fits_of (n : Int) (b : Bool) (w : World) (h : fit9 n = b) : Calls Try.prog 110 #[.int .i64 n] w fun e w' => e = .returned (.bool b) ∧ w = w' := by
  subst h; exact fits_any n w
theorem isWeight_of (n : Int) (b : Bool) (w : World) (h : cntB n = b) : Calls Try.prog 81 #[.int .i64 n] w fun e w' => e = .returned (.bool b) ∧ w = w' := by
  subst h; exact isWeight_any n w

def s63 (n : Int) : Prop := -9223372036854775807 ≤ n ∧ n ≤ 9223372036854775807
set_option maxHeartbeats 800000 in
theorem wgcd_any (a b : Int) (w : World) (h1 : s63 a) (h2 : s63 b) :
    Calls Try.prog 111 #[.int .i64 a, .int .i64 b] w fun e w' => e = .returned (.int .i64 (Nat.gcd a.natAbs b.natAbs : Nat)) ∧ ∃ n, w' = w.drewN n := by
  obtain ⟨a1, a2⟩ := h1
  obtain ⟨b1, b2⟩ := h2
  go_enter Try.func111, Try.ntmps111
  go_wp2
  go_loopw [0, 1] (fun x y wr => ∃ (a' b' : Int) (n : Nat), x = .int .i64 a' ∧ y = .int .i64 b' ∧ -9223372036854775807 ≤ a' ∧ a' ≤ 9223372036854775807 ∧ -9223372036854775807 ≤ b' ∧ b' ≤ 9223372036854775807 ∧ Hid (Nat.gcd a'.natAbs b'.natAbs = Nat.gcd a.natAbs b.natAbs) ∧ wr = w.drewN n) (fun _ y _ => (intOf y).natAbs)
  case atStart => exact ⟨a, b, 0, rfl, rfl, a1, a2, b1, b2, rfl, rfl⟩
  case round =>
    obtain ⟨a', b', n, rfl, rfl, ha1, ha2, hb1, hb2, hg, rfl⟩ := hrel
    by_cases hz : b' = 0
    · subst hz
      have hg : Hid (((Nat.gcd a.natAbs b.natAbs : Nat) : Int) = a'.natAbs) := by
        show _ = _; have := hg.out; simp at this; omega
      by_cases hs : 0 ≤ a'
      · go_wp2
        go_ret
        exact ⟨ret_int (by rw [hg.out]; omega), n, rfl⟩
      · go_wp2
        go_ret
        exact ⟨ret_int (by rw [hg.out]; omega), n, rfl⟩
    · have hz' : (b' == 0) = false := by simpa using hz
      have hz2 : (b' != 0) = true := by simpa using hz
      have hm := tmod_lt a' b' hz
      have hG : Hid (Nat.gcd b'.natAbs (a'.tmod b').natAbs = Nat.gcd a.natAbs b.natAbs) := by
        show _ = _; rw [gcd_tmod]; exact hg.out
      generalize hr : a'.tmod b' = r at *
      go_wp2
      go_quiet (fail)
      go_wp2
      go_roundw
      case rel => exact ⟨b', r, n + nq, rfl, by first | rfl | (congr 1; rw [← hr]; omega), hb1, hb2, by omega, by omega, hG, by simp⟩
      case measure => simp [intOf]; omega

theorem wgcd_of (x y : Int) (a b : Int) (w : World) (hx : x = a) (hy : y = b) (h1 : s63 a) (h2 : s63 b) :
    Calls Try.prog 111 #[.int .i64 x, .int .i64 y] w fun e w' => e = .returned (.int .i64 (Nat.gcd a.natAbs b.natAbs : Nat)) ∧ ∃ n, w' = w.drewN n := by
  subst hx hy; exact wgcd_any _ _ w h1 h2
theorem gcd_s63 {a b : Int} (h : b ≠ 0) (hb : b.natAbs ≤ 1000000000) : s63 ((Nat.gcd a.natAbs b.natAbs : Nat) : Int) := by
  have := Nat.gcd_le_right a.natAbs (show 0 < b.natAbs by omega)
  unfold s63; omega
theorem gcd_s63' {a b : Int} (ha : a.natAbs ≤ 1000000000) (hb : b.natAbs ≤ 1000000000) : s63 ((Nat.gcd a.natAbs b.natAbs : Nat) : Int) := by
  have : Nat.gcd a.natAbs b.natAbs ≤ 1000000000 := by
    by_cases h : b = 0
    · subst h; simpa using ha
    · exact Nat.le_trans (Nat.gcd_le_right a.natAbs (show 0 < b.natAbs by omega)) hb
  unfold s63; omega

set_option maxRecDepth 100000 in
set_option maxHeartbeats 8000000 in
theorem isValue_any (re im den : Int) (w : World) : Calls Try.prog 86 #[.agg #[.int .i64 re, .int .i64 im, .int .i64 den]] w fun e w' => e = .returned (.bool (cokB re im den)) ∧ Below w.heap.size w w' := by
  by_cases h1 : 1 ≤ den
  case neg =>
    have e1 : decide (1 ≤ den) = false := decide_eq_false h1
    have HV : Hid (cokB re im den = false) := cok_no (by unfold CFit; omega)
    go_enter Try.func86, Try.ntmps86
    go_wp2
    go_quiet (fail)
    go_wp2
    go_ret
    exact ⟨by rw [HV.out]; rfl, bd (ba1 _ _) _⟩
  have e1 : decide (1 ≤ den) = true := decide_eq_true h1
  by_cases h2 : den ≤ 1000000000
  case neg =>
    have e2 : decide (den ≤ 1000000000) = false := decide_eq_false h2
    have HV : Hid (cokB re im den = false) := cok_no (by unfold CFit; omega)
    go_enter Try.func86, Try.ntmps86
    go_wp2
    go_quiet (fail)
    go_wp2
    go_ret
    exact ⟨by rw [HV.out]; rfl, bd (ba1 _ _) _⟩
  have e2 : decide (den ≤ 1000000000) = true := decide_eq_true h2
  cases h3 : fit9 re with
  | false =>
    have f3 := fit9_0 h3
    have HV : Hid (cokB re im den = false) := cok_no (by unfold CFit; omega)
    go_enter Try.func86, Try.ntmps86
    go_wp2
    go_quiet ((go_at_call 110; first | exact Calls.quiet_same (fits_of _ true _ (by assumption)) | exact Calls.quiet_same (fits_of _ false _ (by assumption))))
    go_wp2
    go_ret
    exact ⟨by rw [HV.out]; rfl, bd (ba1 _ _) _⟩
  | true =>
    have f3 := fit9_1 h3
    cases h4 : fit9 im with
    | false =>
      have f4 := fit9_0 h4
      have HV : Hid (cokB re im den = false) := cok_no (by unfold CFit; omega)
      go_enter Try.func86, Try.ntmps86
      go_wp2
      go_quiet ((go_at_call 110; first | exact Calls.quiet_same (fits_of _ true _ (by assumption)) | exact Calls.quiet_same (fits_of _ false _ (by assumption))))
      go_wp2
      go_ret
      exact ⟨by rw [HV.out]; rfl, bd (ba1 _ _) _⟩
    | true =>
      have f4 := fit9_1 h4
      have s1 : s63 re := ⟨by omega, by omega⟩
      have s2 : s63 im := ⟨by omega, by omega⟩
      have s3 : s63 den := ⟨by omega, by omega⟩
      have s4 : s63 ((Nat.gcd re.natAbs im.natAbs : Nat) : Int) := gcd_s63' (by omega) (by omega)
      have H := Lib.hid (cok_gcd (re := re) (im := im) (den := den) ⟨by omega, by omega, by omega, by omega, by omega, by omega⟩)
      by_cases hg : Nat.gcd (Nat.gcd re.natAbs im.natAbs) den.natAbs = 1
      · have b1 : (((Nat.gcd (Nat.gcd re.natAbs im.natAbs) den.natAbs : Nat) : Int) == 1) = true := by simp [hg]
        have HV : Hid (cokB re im den = true) := by show _ = _; rw [H.out, decide_eq_true hg]
        clear hg H
        go_enter Try.func86, Try.ntmps86
        go_wp2
        go_quiet (first | (go_at_call 110; first | exact Calls.quiet_same (fits_of _ true _ (by assumption)) | exact Calls.quiet_same (fits_of _ false _ (by assumption))) | (go_at_call 111; refine Calls.quiet_of (wgcd_any _ _ _ ?_ ?_) <;> assumption))
        go_wp2
        go_ret
        exact ⟨by rw [HV.out]; rfl, bd (ba1 _ _) _⟩
      · have b1 : (((Nat.gcd (Nat.gcd re.natAbs im.natAbs) den.natAbs : Nat) : Int) == 1) = false := by simp; omega
        have HV : Hid (cokB re im den = false) := by show _ = _; rw [H.out, decide_eq_false hg]
        clear hg H
        go_enter Try.func86, Try.ntmps86
        go_wp2
        go_quiet (first | (go_at_call 110; first | exact Calls.quiet_same (fits_of _ true _ (by assumption)) | exact Calls.quiet_same (fits_of _ false _ (by assumption))) | (go_at_call 111; refine Calls.quiet_of (wgcd_any _ _ _ ?_ ?_) <;> assumption))
        go_wp2
        go_ret
        exact ⟨by rw [HV.out]; rfl, bd (ba1 _ _) _⟩
theorem isValue_of (re im den : Int) (b : Bool) (w : World) (h : cokB re im den = b) : Calls Try.prog 86 #[.agg #[.int .i64 re, .int .i64 im, .int .i64 den]] w fun e w' => e = .returned (.bool b) ∧ Below w.heap.size w w' := by
  subst h; exact isValue_any re im den w
theorem vchk_no {i j re im den n : Int} (h : ¬ (0 ≤ i ∧ i < j ∧ j < 8 ∧ cokB re im den = true ∧ 0 ≤ n ∧ n ≤ 1000000)) : vchk i j re im den n = 8 := by
  unfold vchk vokB; rw [if_neg]
  simp only [Bool.and_eq_true, decide_eq_true_eq]
  exact fun h' => h ⟨h'.1.1.1.1.1, h'.1.1.1.1.2, h'.1.1.1.2, h'.1.1.2, h'.1.2, h'.2⟩
theorem vchk_yes {i j re im den n : Int} (h1 : 0 ≤ i) (h2 : i < j) (h3 : j < 8) (h4 : cokB re im den = true) (h5 : 0 ≤ n) (h6 : n ≤ 1000000) : vchk i j re im den n = 0 := by
  unfold vchk vokB; rw [if_pos]
  simp [h1, h2, h3, h4, h5, h6]
theorem vchk_ok {i j re im den n : Int} (h : vchk i j re im den n = 0) : 0 ≤ i ∧ i < j ∧ j < 8 ∧ cokB re im den = true ∧ 0 ≤ n ∧ n ≤ 1000000 := by
  unfold vchk vokB at h
  split at h
  · rename_i h'
    simp only [Bool.and_eq_true, decide_eq_true_eq] at h'
    exact ⟨h'.1.1.1.1.1, h'.1.1.1.1.2, h'.1.1.1.2, h'.1.1.2, h'.1.2, h'.2⟩
  · cases h
set_option maxRecDepth 100000 in
set_option maxHeartbeats 8000000 in
theorem vcheck_any (i j re im den n : Int) (w : World) : Calls Try.prog 47 #[.agg #[.int .i64 i, .int .i64 j, .int .i64 re, .int .i64 im, .int .i64 den, .int .i64 n]] w fun e w' => e = .returned (.int .i64 (vchk i j re im den n)) ∧ Below w.heap.size w w' := by
  by_cases h1 : 0 ≤ i
  case neg =>
    have HV : Hid (vchk i j re im den n = 8) := vchk_no (by omega)
    have e1 : decide (i < 0) = true := decide_eq_true (by omega)
    go_enter Try.func47, Try.ntmps47
    go_wp2
    go_ret
    exact ⟨by rw [HV.out]; rfl, ba1 _ _⟩
  have e1 : decide (i < 0) = false := decide_eq_false (by omega)
  by_cases h2 : i < j
  case neg =>
    have HV : Hid (vchk i j re im den n = 8) := vchk_no (by omega)
    have e2 : decide (j ≤ i) = true := decide_eq_true (by omega)
    go_enter Try.func47, Try.ntmps47
    go_wp2
    go_ret
    exact ⟨by rw [HV.out]; rfl, ba1 _ _⟩
  have e2 : decide (j ≤ i) = false := decide_eq_false (by omega)
  by_cases h3 : j < 8
  case neg =>
    have HV : Hid (vchk i j re im den n = 8) := vchk_no (by omega)
    have e3 : decide (8 ≤ j) = true := decide_eq_true (by omega)
    go_enter Try.func47, Try.ntmps47
    go_wp2
    go_ret
    exact ⟨by rw [HV.out]; rfl, ba1 _ _⟩
  have e3 : decide (8 ≤ j) = false := decide_eq_false (by omega)
  cases h4 : cokB re im den with
  | false =>
    have HV : Hid (vchk i j re im den n = 8) := vchk_no (by rw [h4]; simp)
    go_enter Try.func47, Try.ntmps47
    go_wp2_with fail
    refine (isValue_of re im den _ _ h4).mono ?_
    rintro e w1 ⟨rfl, hb1⟩
    go_wp2
    go_ret
    exact ⟨by rw [HV.out]; rfl, below_to (ba1 _ _) hb1⟩
  | true =>
    cases h5 : cntB n with
    | false =>
      have f5 := cnt_0 h5
      have HV : Hid (vchk i j re im den n = 8) := vchk_no (by omega)
      go_enter Try.func47, Try.ntmps47
      go_wp2_with fail
      refine (isValue_of re im den _ _ h4).mono ?_
      rintro e w1 ⟨rfl, hb1⟩
      obtain ⟨c1, f1⟩ := bcell hb1
      have z1 := (hb1).size
      try simp at z1
      try simp at c1
      try simp at f1
      have z1a : w.heap.size < w1.heap.size := by omega
      go_wp2_with fail
      refine (isWeight_of _ _ _ h5).mono ?_
      rintro e _ ⟨rfl, rfl⟩
      go_wp2
      go_ret
      exact ⟨by rw [HV.out]; rfl, below_to (ba1 _ _) hb1⟩
    | true =>
      have f5 := cnt_1 h5
      have HV : Hid (vchk i j re im den n = 0) := vchk_yes h1 h2 h3 h4 f5.1 f5.2
      go_enter Try.func47, Try.ntmps47
      go_wp2_with fail
      refine (isValue_of re im den _ _ h4).mono ?_
      rintro e w1 ⟨rfl, hb1⟩
      obtain ⟨c1, f1⟩ := bcell hb1
      have z1 := (hb1).size
      try simp at z1
      try simp at c1
      try simp at f1
      have z1a : w.heap.size < w1.heap.size := by omega
      go_wp2_with fail
      refine (isWeight_of _ _ _ h5).mono ?_
      rintro e _ ⟨rfl, rfl⟩
      go_wp2
      go_ret
      exact ⟨by rw [HV.out]; rfl, below_to (ba1 _ _) hb1⟩

end Go.Proofs.Ytpjhiojdnebgoaa

/- What is proved here: the contracts of the reference's divides, common, Valid and Check of layer 22. Condition: the numbers are 64-bit integers. -/
namespace Go.Proofs.Ytpjhiojdnebgoaa
open Go.RowKit

theorem divides_1 (w : World) : Calls Try.prog 106 #[.int .i64 1, .int .i64 1] w fun e w' => e = .returned (.bool true) ∧ w = w' := by
  go_enter Try.func106, Try.ntmps106
  go_wp2
  go_ret
  exact ⟨rfl, rfl⟩
set_option maxHeartbeats 1600000 in
theorem common_any (a b c : Int) (w : World) (h1 : s63 a) (h2 : s63 b) (h3 : s63 c) :
    Calls Try.prog 105 #[.int .i64 a, .int .i64 b, .int .i64 c] w fun e w' => e = .returned (.int .i64 (Nat.gcd b.natAbs (Nat.gcd a.natAbs c.natAbs) : Nat)) ∧ w = w' := by
  obtain ⟨a1, a2⟩ := h1
  obtain ⟨b1, b2⟩ := h2
  obtain ⟨c1, c2⟩ := h3
  go_enter Try.func105, Try.ntmps105
  go_wp2
  go_loopw [0, 2] (fun x y wr => ∃ (a' c' : Int), x = .int .i64 a' ∧ y = .int .i64 c' ∧ -9223372036854775807 ≤ a' ∧ a' ≤ 9223372036854775807 ∧ -9223372036854775807 ≤ c' ∧ c' ≤ 9223372036854775807 ∧ Hid (Nat.gcd a'.natAbs c'.natAbs = Nat.gcd a.natAbs c.natAbs) ∧ wr = w) (fun x _ _ => (intOf x).natAbs)
  case atStart => exact ⟨a, c, rfl, rfl, a1, a2, c1, c2, rfl, rfl⟩
  case round =>
    obtain ⟨a', c', rfl, rfl, ha1, ha2, hc1, hc2, hg, rfl⟩ := hrel
    by_cases hz : a' = 0
    case neg =>
      have hz' : (a' == 0) = false := by simpa using hz
      have hz2 : (a' != 0) = true := by simpa using hz
      have hm := tmod_lt c' a' hz
      have hG : Hid (Nat.gcd (c'.tmod a').natAbs a'.natAbs = Nat.gcd a.natAbs c.natAbs) := by
        show _ = _; rw [Nat.gcd_comm, gcd_tmod, Nat.gcd_comm]; exact hg.out
      generalize hr : c'.tmod a' = r at *
      go_wp2
      go_roundw
      case rel => exact ⟨r, a', by first | rfl | (congr 1; rw [← hr]; omega), rfl, by omega, by omega, ha1, ha2, hG, trivial⟩
      case measure => simp [intOf]; omega
    case pos =>
      subst hz
      have hg : Hid (c'.natAbs = Nat.gcd a.natAbs c.natAbs) := by
        show _ = _; have := hg.out; simpa using this
      go_wp2
      go_loopw [1, 2] (fun x y wq => ∃ (b' d' : Int), x = .int .i64 b' ∧ y = .int .i64 d' ∧ -9223372036854775807 ≤ b' ∧ b' ≤ 9223372036854775807 ∧ -9223372036854775807 ≤ d' ∧ d' ≤ 9223372036854775807 ∧ Hid (Nat.gcd b'.natAbs d'.natAbs = Nat.gcd b.natAbs (Nat.gcd a.natAbs c.natAbs)) ∧ wq = wr) (fun x _ _ => (intOf x).natAbs)
      case atStart => exact ⟨b, c', rfl, rfl, b1, b2, hc1, hc2, Lib.hid (by rw [hg.out]), rfl⟩
      case round =>
        obtain ⟨b', d', rfl, rfl, hb1, hb2, hd1, hd2, hh, rfl⟩ := hrel
        by_cases hz : b' = 0
        case neg =>
          have hz' : (b' == 0) = false := by simpa using hz
          have hz2 : (b' != 0) = true := by simpa using hz
          have hm := tmod_lt d' b' hz
          have hG : Hid (Nat.gcd (d'.tmod b').natAbs b'.natAbs = Nat.gcd b.natAbs (Nat.gcd a.natAbs c.natAbs)) := by
            show _ = _; rw [Nat.gcd_comm, gcd_tmod, Nat.gcd_comm]; exact hh.out
          generalize hr : d'.tmod b' = r at *
          go_wp2
          go_roundw
          case rel => exact ⟨r, b', by first | rfl | (congr 1; rw [← hr]; omega), rfl, by omega, by omega, hb1, hb2, hG, trivial⟩
          case measure => simp [intOf]; omega
        case pos =>
          subst hz
          have hh : Hid (((Nat.gcd b.natAbs (Nat.gcd a.natAbs c.natAbs) : Nat) : Int) = d'.natAbs) := by
            show _ = _; have := hh.out; simp at this; omega
          by_cases hs : d' < 0
          · go_wp2
            go_ret
            exact ⟨ret_int (by rw [hh.out]; omega), rfl⟩
          · go_wp2
            go_ret
            exact ⟨ret_int (by rw [hh.out]; omega), rfl⟩

theorem common_of (a b c : Int) (b' : Bool) (w : World) (h1 : s63 a) (h2 : s63 b) (h3 : s63 c) (h : decide (Nat.gcd b.natAbs (Nat.gcd a.natAbs c.natAbs) = 1) = b') :
    Calls Try.prog 105 #[.int .i64 a, .int .i64 b, .int .i64 c] w fun e w' => (∃ k : Int, e = .returned (.int .i64 k) ∧ (k == 1) = b') ∧ w = w' := by
  refine (common_any a b c w h1 h2 h3).mono ?_
  rintro e w' ⟨he, hw⟩
  refine ⟨⟨_, he, ?_⟩, hw⟩
  rw [← h, Bool.beq_eq_decide_eq]
  exact decide_eq_decide.2 (by omega)
set_option maxRecDepth 100000 in
set_option maxHeartbeats 8000000 in
theorem valid_any (re im den : Int) (w : World) : Calls Try.prog 84 #[.agg #[.int .i64 re, .int .i64 im, .int .i64 den]] w fun e w' => e = .returned (.bool (cokB re im den)) ∧ Below w.heap.size w w' := by
  by_cases h0 : 1 ≤ den
  case neg =>
    have HV : Hid (cokB re im den = false) := cok_no (by unfold CFit; omega)
    have e0 : decide (den < 1) = true := decide_eq_true (by omega)
    go_enter Try.func84, Try.ntmps84
    go_wp2
    go_ret
    exact ⟨by rw [HV.out]; rfl, ba1 _ _⟩
  have e0 : decide (den < 1) = false := decide_eq_false (by omega)
  by_cases h1 : den ≤ 1000000000
  case neg =>
    have HV : Hid (cokB re im den = false) := cok_no (by unfold CFit; omega)
    have e1 : decide (1000000000 < den) = true := decide_eq_true (by omega)
    go_enter Try.func84, Try.ntmps84
    go_wp2
    go_ret
    exact ⟨by rw [HV.out]; rfl, ba1 _ _⟩
  have e1 : decide (1000000000 < den) = false := decide_eq_false (by omega)
  by_cases h2 : -1000000000 ≤ re
  case neg =>
    have HV : Hid (cokB re im den = false) := cok_no (by unfold CFit; omega)
    have e2 : decide (re < -1000000000) = true := decide_eq_true (by omega)
    go_enter Try.func84, Try.ntmps84
    go_wp2
    go_ret
    exact ⟨by rw [HV.out]; rfl, ba1 _ _⟩
  have e2 : decide (re < -1000000000) = false := decide_eq_false (by omega)
  by_cases h3 : re ≤ 1000000000
  case neg =>
    have HV : Hid (cokB re im den = false) := cok_no (by unfold CFit; omega)
    have e3 : decide (1000000000 < re) = true := decide_eq_true (by omega)
    go_enter Try.func84, Try.ntmps84
    go_wp2
    go_ret
    exact ⟨by rw [HV.out]; rfl, ba1 _ _⟩
  have e3 : decide (1000000000 < re) = false := decide_eq_false (by omega)
  by_cases h4 : -1000000000 ≤ im
  case neg =>
    have HV : Hid (cokB re im den = false) := cok_no (by unfold CFit; omega)
    have e4 : decide (im < -1000000000) = true := decide_eq_true (by omega)
    go_enter Try.func84, Try.ntmps84
    go_wp2
    go_ret
    exact ⟨by rw [HV.out]; rfl, ba1 _ _⟩
  have e4 : decide (im < -1000000000) = false := decide_eq_false (by omega)
  by_cases h5 : im ≤ 1000000000
  case neg =>
    have HV : Hid (cokB re im den = false) := cok_no (by unfold CFit; omega)
    have e5 : decide (1000000000 < im) = true := decide_eq_true (by omega)
    go_enter Try.func84, Try.ntmps84
    go_wp2
    go_ret
    exact ⟨by rw [HV.out]; rfl, ba1 _ _⟩
  have e5 : decide (1000000000 < im) = false := decide_eq_false (by omega)
  have HV : Hid (cokB re im den = decide (Nat.gcd im.natAbs (Nat.gcd re.natAbs den.natAbs) = 1)) := by
    show _ = _; rw [cok_gcd ⟨h0, h1, h2, h3, h4, h5⟩]; exact decide_eq_decide.2 (by rw [gcd3])
  go_enter Try.func84, Try.ntmps84
  go_wp2_with fail
  refine (common_of re im den _ _ ⟨by omega, by omega⟩ ⟨by omega, by omega⟩ ⟨by omega, by omega⟩ HV.out.symm).mono ?_
  rintro e _ ⟨⟨k, rfl, hk⟩, rfl⟩
  go_wp2
  go_ret
  exact ⟨rfl, ba1 _ _⟩
theorem valid_of (re im den : Int) (b : Bool) (w : World) (h : cokB re im den = b) : Calls Try.prog 84 #[.agg #[.int .i64 re, .int .i64 im, .int .i64 den]] w fun e w' => e = .returned (.bool b) ∧ Below w.heap.size w w' := by
  subst h; exact valid_any re im den w
set_option maxRecDepth 100000 in
set_option maxHeartbeats 8000000 in
theorem rvcheck_any (i j re im den n : Int) (w : World) : Calls Try.prog 43 #[.agg #[.int .i64 i, .int .i64 j, .int .i64 re, .int .i64 im, .int .i64 den, .int .i64 n]] w fun e w' => e = .returned (.int .i64 (vchk i j re im den n)) ∧ Below w.heap.size w w' := by
  by_cases h0 : 0 ≤ i
  case neg =>
    have HV : Hid (vchk i j re im den n = 8) := vchk_no (by omega)
    have e0 : decide (0 ≤ i) = false := decide_eq_false h0
    go_enter Try.func43, Try.ntmps43
    go_wp2
    go_ret
    exact ⟨by rw [HV.out]; rfl, ba1 _ _⟩
  have e0 : decide (0 ≤ i) = true := decide_eq_true h0
  by_cases h1 : i < j
  case neg =>
    have HV : Hid (vchk i j re im den n = 8) := vchk_no (by omega)
    have e1 : decide (i < j) = false := decide_eq_false h1
    go_enter Try.func43, Try.ntmps43
    go_wp2
    go_ret
    exact ⟨by rw [HV.out]; rfl, ba1 _ _⟩
  have e1 : decide (i < j) = true := decide_eq_true h1
  by_cases h2 : j < 8
  case neg =>
    have HV : Hid (vchk i j re im den n = 8) := vchk_no (by omega)
    have e2 : decide (j < 8) = false := decide_eq_false h2
    go_enter Try.func43, Try.ntmps43
    go_wp2
    go_ret
    exact ⟨by rw [HV.out]; rfl, ba1 _ _⟩
  have e2 : decide (j < 8) = true := decide_eq_true h2
  cases h4 : cokB re im den with
  | false =>
    have HV : Hid (vchk i j re im den n = 8) := vchk_no (by rw [h4]; simp)
    go_enter Try.func43, Try.ntmps43
    go_wp2_with fail
    refine (valid_of re im den _ _ h4).mono ?_
    rintro e w1 ⟨rfl, hb1⟩
    go_wp2
    go_ret
    exact ⟨by rw [HV.out]; rfl, below_to (ba1 _ _) hb1⟩
  | true =>
    by_cases k0 : 0 ≤ n
    case neg =>
      have HV : Hid (vchk i j re im den n = 8) := vchk_no (by omega)
      have d0 : decide (0 ≤ n) = false := decide_eq_false k0
      go_enter Try.func43, Try.ntmps43
      go_wp2_with fail
      refine (valid_of re im den _ _ h4).mono ?_
      rintro e w1 ⟨rfl, hb1⟩
      obtain ⟨c1, f1⟩ := bcell hb1
      have z1 := (hb1).size
      try simp at z1
      try simp at c1
      try simp at f1
      have z1a : w.heap.size < w1.heap.size := by omega
      go_wp2
      go_ret
      exact ⟨by rw [HV.out]; rfl, below_to (ba1 _ _) hb1⟩
    have d0 : decide (0 ≤ n) = true := decide_eq_true k0
    by_cases k1 : n ≤ 1000000
    case neg =>
      have HV : Hid (vchk i j re im den n = 8) := vchk_no (by omega)
      have d1 : decide (n ≤ 1000000) = false := decide_eq_false k1
      go_enter Try.func43, Try.ntmps43
      go_wp2_with fail
      refine (valid_of re im den _ _ h4).mono ?_
      rintro e w1 ⟨rfl, hb1⟩
      obtain ⟨c1, f1⟩ := bcell hb1
      have z1 := (hb1).size
      try simp at z1
      try simp at c1
      try simp at f1
      have z1a : w.heap.size < w1.heap.size := by omega
      go_wp2
      go_ret
      exact ⟨by rw [HV.out]; rfl, below_to (ba1 _ _) hb1⟩
    have d1 : decide (n ≤ 1000000) = true := decide_eq_true k1
    have HV : Hid (vchk i j re im den n = 0) := vchk_yes h0 h1 h2 h4 k0 k1
    go_enter Try.func43, Try.ntmps43
    go_wp2_with fail
    refine (valid_of re im den _ _ h4).mono ?_
    rintro e w1 ⟨rfl, hb1⟩
    obtain ⟨c1, f1⟩ := bcell hb1
    have z1 := (hb1).size
    try simp at z1
    try simp at c1
    try simp at f1
    have z1a : w.heap.size < w1.heap.size := by omega
    go_wp2
    go_ret
    exact ⟨by rw [HV.out]; rfl, below_to (ba1 _ _) hb1⟩
end Go.Proofs.Ytpjhiojdnebgoaa

/- What is proved here: the contract of weight.valueOf. Condition: both fractions are valid. -/
namespace Go.Proofs.Ytpjhiojdnebgoaa
open Go.RowKit

theorem wok_yes {rn rd n d : Int} (h : wok rn rd n d = true) : (-1000000000 ≤ rn ∧ rn ≤ 1000000000 ∧ rd ≤ 1000000000 ∧ -1000000000 ≤ n ∧ n ≤ 1000000000 ∧ d ≤ 1000000000) ∧ wden rd d ≤ 1000000000 ∧ cokB (rn * (wden rd d / rd)) (n * (wden rd d / d)) (wden rd d) = true := by
  unfold wok at h
  simp only [Bool.and_eq_true, decide_eq_true_eq] at h
  exact ⟨⟨h.1.1.1.1.1.1.1, h.1.1.1.1.1.1.2, h.1.1.1.1.1.2, h.1.1.1.1.2, h.1.1.1.2, h.1.1.2⟩, h.1.2, h.2⟩

set_option maxRecDepth 100000 in
set_option maxHeartbeats 8000000 in
theorem valueOf_0 (rn rd n d : Int) (w : World) (h1 : fchk rn rd = 0) (h2 : fchk n d = 0) (hw : wok rn rd n d = false) : Calls Try.prog 83 #[.agg #[.int .i64 rn, .int .i64 rd], .agg #[.int .i64 n, .int .i64 d]] w fun e w' => (∃ x y z : Int, e = .returned (.tuple #[.agg #[.int .i64 x, .int .i64 y, .int .i64 z], .bool false])) ∧ Below w.heap.size w w' := by
  obtain ⟨r1, r2, r3, r4, _⟩ := fok_of h1
  obtain ⟨n1, n2, n3, n4, _⟩ := fok_of h2
  have HW := Lib.hid hw
  clear hw h1 h2
  cases t0 : fit9 rn with
  | false =>
    go_enter Try.func83, Try.ntmps83
    go_wp2_with fail
    refine (fits_of _ _ _ t0).mono ?_
    rintro e _ ⟨rfl, rfl⟩
    go_wp2
    refine bodyPost_ret (v := .tuple #[.agg #[.int .i64 0, .int .i64 0, .int .i64 0], .bool false]) (by simp [results, Try.results83, go_sem]) rfl ⟨⟨_, _, _, rfl⟩, ?_⟩
    repeat (refine Below.setCell ?_ (by first | omega | (simp; done) | (simp; omega)) _)
    exact ba3 _ _ _ _
  | true =>
    have f0 := fit9_1 t0
    cases t1 : fit9 rd with
    | false =>
      go_enter Try.func83, Try.ntmps83
      go_wp2_with fail
      refine (fits_of _ _ _ t0).mono ?_
      rintro e _ ⟨rfl, rfl⟩
      go_wp2_with fail
      refine (fits_of _ _ _ t1).mono ?_
      rintro e _ ⟨rfl, rfl⟩
      go_wp2
      refine bodyPost_ret (v := .tuple #[.agg #[.int .i64 0, .int .i64 0, .int .i64 0], .bool false]) (by simp [results, Try.results83, go_sem]) rfl ⟨⟨_, _, _, rfl⟩, ?_⟩
      repeat (refine Below.setCell ?_ (by first | omega | (simp; done) | (simp; omega)) _)
      exact ba3 _ _ _ _
    | true =>
      have f1 := fit9_1 t1
      cases t2 : fit9 n with
      | false =>
        go_enter Try.func83, Try.ntmps83
        go_wp2_with fail
        refine (fits_of _ _ _ t0).mono ?_
        rintro e _ ⟨rfl, rfl⟩
        go_wp2_with fail
        refine (fits_of _ _ _ t1).mono ?_
        rintro e _ ⟨rfl, rfl⟩
        go_wp2_with fail
        refine (fits_of _ _ _ t2).mono ?_
        rintro e _ ⟨rfl, rfl⟩
        go_wp2
        refine bodyPost_ret (v := .tuple #[.agg #[.int .i64 0, .int .i64 0, .int .i64 0], .bool false]) (by simp [results, Try.results83, go_sem]) rfl ⟨⟨_, _, _, rfl⟩, ?_⟩
        repeat (refine Below.setCell ?_ (by first | omega | (simp; done) | (simp; omega)) _)
        exact ba3 _ _ _ _
      | true =>
        have f2 := fit9_1 t2
        cases t3 : fit9 d with
        | false =>
          go_enter Try.func83, Try.ntmps83
          go_wp2_with fail
          refine (fits_of _ _ _ t0).mono ?_
          rintro e _ ⟨rfl, rfl⟩
          go_wp2_with fail
          refine (fits_of _ _ _ t1).mono ?_
          rintro e _ ⟨rfl, rfl⟩
          go_wp2_with fail
          refine (fits_of _ _ _ t2).mono ?_
          rintro e _ ⟨rfl, rfl⟩
          go_wp2_with fail
          refine (fits_of _ _ _ t3).mono ?_
          rintro e _ ⟨rfl, rfl⟩
          go_wp2
          refine bodyPost_ret (v := .tuple #[.agg #[.int .i64 0, .int .i64 0, .int .i64 0], .bool false]) (by simp [results, Try.results83, go_sem]) rfl ⟨⟨_, _, _, rfl⟩, ?_⟩
          repeat (refine Below.setCell ?_ (by first | omega | (simp; done) | (simp; omega)) _)
          exact ba3 _ _ _ _
        | true =>
          have f3 := fit9_1 t3
          obtain ⟨D1, D2, D3, D4, D5⟩ := wden_facts r1 n1
          have s1 : s63 rd := ⟨by omega, by omega⟩
          have s2 : s63 d := ⟨by omega, by omega⟩
          have Hq := Lib.hid (wden_prog r1 n1)
          obtain ⟨q1, q2⟩ := quo_le (d := d) r1
          have gp : 0 < Nat.gcd rd.natAbs d.natAbs := Nat.gcd_pos_of_pos_left _ (by omega)
          have gb : ((((Nat.gcd rd.natAbs d.natAbs : Nat) : Int)) == 0) = false := by simp; omega
          have m1 := mul_bd9 (n := d) (k := rd.tdiv ((Nat.gcd rd.natAbs d.natAbs : Nat) : Int)) (by omega) (by omega) (by omega) (by omega)
          generalize hgq : rd.tdiv ((Nat.gcd rd.natAbs d.natAbs : Nat) : Int) = q at *
          have hqd : q * d = wden rd d := Hq.out
          have DB : wden rd d ≤ 1000000000000000000 := by rw [← hqd, Int.mul_comm]; exact m1.2
          clear Hq m1
          by_cases hD : wden rd d ≤ 1000000000
          case neg =>
            generalize hDD : wden rd d = D at *
            clear hDD D2 D3 D4 D5
            go_enter Try.func83, Try.ntmps83
            go_wp2_with fail
            refine (fits_of _ _ _ t0).mono ?_
            rintro e _ ⟨rfl, rfl⟩
            go_wp2_with fail
            refine (fits_of _ _ _ t1).mono ?_
            rintro e _ ⟨rfl, rfl⟩
            go_wp2_with fail
            refine (fits_of _ _ _ t2).mono ?_
            rintro e _ ⟨rfl, rfl⟩
            go_wp2_with fail
            refine (fits_of _ _ _ t3).mono ?_
            rintro e _ ⟨rfl, rfl⟩
            go_wp2
            go_quiet (first | (go_at_call 111; refine Calls.quiet_of (wgcd_any _ _ _ ?_ ?_) <;> assumption))
            go_wp2
            refine bodyPost_ret (v := .tuple #[.agg #[.int .i64 0, .int .i64 0, .int .i64 0], .bool false]) (by simp [results, Try.results83, go_sem]) rfl ⟨⟨_, _, _, rfl⟩, ?_⟩
            repeat (refine Below.setCell ?_ (by first | omega | (simp; done) | (simp; omega)) _)
            exact bd (ba3 _ _ _ _) _
          have Hc := Lib.hid (wok_ref (rn := rn) (n := n) r1 n1 (by omega) (by omega) hD)
          generalize hDD : wden rd d = D at *
          have HD := Lib.hid hDD
          clear hDD
          have T1 : D.tdiv rd = D / rd := Int.tdiv_eq_ediv_of_nonneg (by omega)
          have T2 : D.tdiv d = D / d := Int.tdiv_eq_ediv_of_nonneg (by omega)
          obtain ⟨a1, a2⟩ := quo_bd9 (m := D) r1 D1 hD
          obtain ⟨b1, b2⟩ := quo_bd9 (m := D) n1 D1 hD
          generalize hk1 : D / rd = k1 at *
          generalize hk2 : D / d = k2 at *
          have HK1 := Lib.hid hk1
          have HK2 := Lib.hid hk2
          clear hk1 hk2 D2 D3
          obtain ⟨u1, u2⟩ := mul_bd9 (n := rn) (k := k1) (by omega) (by omega) a1 a2
          obtain ⟨v1, v2⟩ := mul_bd9 (n := n) (k := k2) (by omega) (by omega) b1 b2
          have y1 : (rd == 0) = false := by simp; omega
          have y2 : (d == 0) = false := by simp; omega
          have hc : cokB (rn * k1) (n * k2) D = false := by rw [← Hc.out]; exact HW.out
          clear HW Hc
          go_enter Try.func83, Try.ntmps83
          go_wp2_with fail
          refine (fits_of _ _ _ t0).mono ?_
          rintro e _ ⟨rfl, rfl⟩
          go_wp2_with fail
          refine (fits_of _ _ _ t1).mono ?_
          rintro e _ ⟨rfl, rfl⟩
          go_wp2_with fail
          refine (fits_of _ _ _ t2).mono ?_
          rintro e _ ⟨rfl, rfl⟩
          go_wp2_with fail
          refine (fits_of _ _ _ t3).mono ?_
          rintro e _ ⟨rfl, rfl⟩
          go_wp2
          go_quiet (first | (go_at_call 111; refine Calls.quiet_of (wgcd_any _ _ _ ?_ ?_) <;> assumption))
          go_wp2
          have gl := @grow_lt
          go_wp2_with fail
          refine wp_region_st [.t [0, 1, 2, 3, 4, 5, 6, 7, 8, 9, 10, 11, 12, 13, 14, 15], .f 16] [17] (by kernel_rfl) (by kernel_rfl) (fun _ _ _ _ _ h => h) ?_
          refine wpX_t ?_
          try simp only [opsAt, List.getElem?_toArray, List.getElem?_cons_zero, List.getElem?_cons_succ, Option.getD_some]
          repeat (go_big_quiet_step (fail))
          refine wpQuiet_nil ?_
          refine wpX_f rfl rfl (fun K' hK' => ?_)
          go_simp
          refine hK' _ _ (grow_of (below_to ((Below.refl _ _).drew) (ba1 _ _))) ?_
          clear hK' K'
          refine wpX_nil ?_
          try simp only [opsAt, List.getElem?_toArray, List.getElem?_cons_zero, List.getElem?_cons_succ, Option.getD_some]
          clear gl
          go_wp2
          have gl := @grow_lt
          go_wp2_with fail
          refine wp_region_st [.t [0, 1], .f 2] [3, 4] (by kernel_rfl) (by kernel_rfl) (fun _ _ _ _ _ h => h) ?_
          refine wpX_t ?_
          try simp only [opsAt, List.getElem?_toArray, List.getElem?_cons_zero, List.getElem?_cons_succ, Option.getD_some]
          repeat (go_big_quiet_step (fail))
          refine wpQuiet_nil ?_
          refine wpX_f rfl rfl (fun K' hK' => ?_)
          go_simp
          refine (isValue_of _ _ _ _ _ hc).mono ?_
          rintro e w1 ⟨rfl, hb1⟩
          refine hK' _ _ (grow_of (below_to ((Below.refl _ _).drew) hb1)) ?_
          clear hK' K'
          obtain ⟨c1, f1⟩ := bcell hb1
          have z1 := (hb1).size
          try simp at z1
          try simp at c1
          try simp at f1
          have z1a : w.heap.size < w1.heap.size := by omega
          have z1b : w.heap.size + 1 < w1.heap.size := by omega
          have z1c : w.heap.size + 1 + 1 < w1.heap.size := by omega
          refine wpX_nil ?_
          try simp only [opsAt, List.getElem?_toArray, List.getElem?_cons_zero, List.getElem?_cons_succ, Option.getD_some]
          clear gl
          go_wp2
          refine bodyPost_ret (v := .tuple #[.agg #[.int .i64 (rn * k1), .int .i64 (n * k2), .int .i64 D], .bool false]) (by simp [results, Try.results83, go_sem, c1]) rfl ⟨⟨_, _, _, rfl⟩, ?_⟩
          repeat (refine Below.setCell ?_ (by first | omega | (simp; done) | (simp; omega)) _)
          exact below_to (Below.drew (below_to (bd (ba3 _ _ _ _) _) (ba1 _ _))) hb1

set_option maxRecDepth 100000 in
set_option maxHeartbeats 8000000 in
theorem valueOf_1 (rn rd n d : Int) (w : World) (h1 : fchk rn rd = 0) (h2 : fchk n d = 0) (hw : wok rn rd n d = true) : Calls Try.prog 83 #[.agg #[.int .i64 rn, .int .i64 rd], .agg #[.int .i64 n, .int .i64 d]] w fun e w' => e = .returned (.tuple #[.agg #[.int .i64 (wval rn rd n d).re, .int .i64 (wval rn rd n d).im, .int .i64 (wval rn rd n d).den], .bool true]) ∧ Below w.heap.size w w' := by
  obtain ⟨r1, r2, r3, r4, _⟩ := fok_of h1
  obtain ⟨n1, n2, n3, n4, _⟩ := fok_of h2
  obtain ⟨hfit, hD, _⟩ := wok_yes hw
  obtain ⟨g0, g1, g2, g3, g4, g5⟩ := hfit
  have t0 : fit9 rn = true := by unfold fit9; rw [decide_eq_true g0, decide_eq_true g1]; rfl
  have t1 : fit9 rd = true := by unfold fit9; rw [decide_eq_true (show -1000000000 ≤ rd by omega), decide_eq_true g2]; rfl
  have t2 : fit9 n = true := by unfold fit9; rw [decide_eq_true g3, decide_eq_true g4]; rfl
  have t3 : fit9 d = true := by unfold fit9; rw [decide_eq_true (show -1000000000 ≤ d by omega), decide_eq_true g5]; rfl
  have f0 := fit9_1 t0
  have f1 := fit9_1 t1
  have f2 := fit9_1 t2
  have f3 := fit9_1 t3
  have HW := Lib.hid hw
  have HVAL := Lib.hid (wval_1 hw)
  clear hw h1 h2
  obtain ⟨D1, D2, D3, D4, D5⟩ := wden_facts r1 n1
  have s1 : s63 rd := ⟨by omega, by omega⟩
  have s2 : s63 d := ⟨by omega, by omega⟩
  have Hq := Lib.hid (wden_prog r1 n1)
  obtain ⟨q1, q2⟩ := quo_le (d := d) r1
  have gp : 0 < Nat.gcd rd.natAbs d.natAbs := Nat.gcd_pos_of_pos_left _ (by omega)
  have gb : ((((Nat.gcd rd.natAbs d.natAbs : Nat) : Int)) == 0) = false := by simp; omega
  have m1 := mul_bd9 (n := d) (k := rd.tdiv ((Nat.gcd rd.natAbs d.natAbs : Nat) : Int)) (by omega) (by omega) (by omega) (by omega)
  generalize hgq : rd.tdiv ((Nat.gcd rd.natAbs d.natAbs : Nat) : Int) = q at *
  have hqd : q * d = wden rd d := Hq.out
  have DB : wden rd d ≤ 1000000000000000000 := by rw [← hqd, Int.mul_comm]; exact m1.2
  clear Hq m1
  have Hc := Lib.hid (wok_ref (rn := rn) (n := n) r1 n1 (by omega) (by omega) hD)
  generalize hDD : wden rd d = D at *
  have HD := Lib.hid hDD
  clear hDD
  have T1 : D.tdiv rd = D / rd := Int.tdiv_eq_ediv_of_nonneg (by omega)
  have T2 : D.tdiv d = D / d := Int.tdiv_eq_ediv_of_nonneg (by omega)
  obtain ⟨a1, a2⟩ := quo_bd9 (m := D) r1 D1 hD
  obtain ⟨b1, b2⟩ := quo_bd9 (m := D) n1 D1 hD
  generalize hk1 : D / rd = k1 at *
  generalize hk2 : D / d = k2 at *
  have HK1 := Lib.hid hk1
  have HK2 := Lib.hid hk2
  clear hk1 hk2 D2 D3
  obtain ⟨u1, u2⟩ := mul_bd9 (n := rn) (k := k1) (by omega) (by omega) a1 a2
  obtain ⟨v1, v2⟩ := mul_bd9 (n := n) (k := k2) (by omega) (by omega) b1 b2
  have y1 : (rd == 0) = false := by simp; omega
  have y2 : (d == 0) = false := by simp; omega
  have hc : cokB (rn * k1) (n * k2) D = true := by rw [← Hc.out]; exact HW.out
  clear HW Hc
  have HV : Hid (wval rn rd n d = ⟨rn * k1, n * k2, D, 0⟩) := HVAL
  clear HVAL
  go_enter Try.func83, Try.ntmps83
  go_wp2_with fail
  refine (fits_of _ _ _ t0).mono ?_
  rintro e _ ⟨rfl, rfl⟩
  go_wp2_with fail
  refine (fits_of _ _ _ t1).mono ?_
  rintro e _ ⟨rfl, rfl⟩
  go_wp2_with fail
  refine (fits_of _ _ _ t2).mono ?_
  rintro e _ ⟨rfl, rfl⟩
  go_wp2_with fail
  refine (fits_of _ _ _ t3).mono ?_
  rintro e _ ⟨rfl, rfl⟩
  go_wp2
  go_quiet (first | (go_at_call 111; refine Calls.quiet_of (wgcd_any _ _ _ ?_ ?_) <;> assumption))
  go_wp2
  have gl := @grow_lt
  go_wp2_with fail
  refine wp_region_st [.t [0, 1, 2, 3, 4, 5, 6, 7, 8, 9, 10, 11, 12, 13, 14, 15], .f 16] [17] (by kernel_rfl) (by kernel_rfl) (fun _ _ _ _ _ h => h) ?_
  refine wpX_t ?_
  try simp only [opsAt, List.getElem?_toArray, List.getElem?_cons_zero, List.getElem?_cons_succ, Option.getD_some]
  repeat (go_big_quiet_step (fail))
  refine wpQuiet_nil ?_
  refine wpX_f rfl rfl (fun K' hK' => ?_)
  go_simp
  refine hK' _ _ (grow_of (below_to ((Below.refl _ _).drew) (ba1 _ _))) ?_
  clear hK' K'
  refine wpX_nil ?_
  try simp only [opsAt, List.getElem?_toArray, List.getElem?_cons_zero, List.getElem?_cons_succ, Option.getD_some]
  clear gl
  go_wp2
  have gl := @grow_lt
  go_wp2_with fail
  refine wp_region_st [.t [0, 1], .f 2] [3, 4] (by kernel_rfl) (by kernel_rfl) (fun _ _ _ _ _ h => h) ?_
  refine wpX_t ?_
  try simp only [opsAt, List.getElem?_toArray, List.getElem?_cons_zero, List.getElem?_cons_succ, Option.getD_some]
  repeat (go_big_quiet_step (fail))
  refine wpQuiet_nil ?_
  refine wpX_f rfl rfl (fun K' hK' => ?_)
  go_simp
  refine (isValue_of _ _ _ _ _ hc).mono ?_
  rintro e w1 ⟨rfl, hb1⟩
  refine hK' _ _ (grow_of (below_to ((Below.refl _ _).drew) hb1)) ?_
  clear hK' K'
  obtain ⟨c1, f1⟩ := bcell hb1
  have z1 := (hb1).size
  try simp at z1
  try simp at c1
  try simp at f1
  have z1a : w.heap.size < w1.heap.size := by omega
  have z1b : w.heap.size + 1 < w1.heap.size := by omega
  have z1c : w.heap.size + 1 + 1 < w1.heap.size := by omega
  refine wpX_nil ?_
  try simp only [opsAt, List.getElem?_toArray, List.getElem?_cons_zero, List.getElem?_cons_succ, Option.getD_some]
  clear gl
  go_wp2
  refine bodyPost_ret (v := .tuple #[.agg #[.int .i64 (rn * k1), .int .i64 (n * k2), .int .i64 D], .bool true]) (by simp [results, Try.results83, go_sem, c1]) rfl ⟨by rw [HV.out], ?_⟩
  repeat (refine Below.setCell ?_ (by first | omega | (simp; done) | (simp; omega)) _)
  exact below_to (Below.drew (below_to (bd (ba3 _ _ _ _) _) (ba1 _ _))) hb1
end Go.Proofs.Ytpjhiojdnebgoaa

/- What is proved here: groups of visibilities, step by step, in plain Lean. No program in sight. -/
namespace Go.Proofs.Ytpjhiojdnebgoaa
open Go.RowKit

section
variable {l : List Vs}
/-- The visibilities of a baseline by its number. -/
def vgr (l : List Vs) (m : Nat) : List Vs := vof l ((m / 8 : Nat) : Int) ((m % 8 : Nat) : Int)
def VR.vs (r : VR) : Vs := ⟨r.i, r.j, r.re, r.im, r.den, r.n⟩
theorem vgrp_0 : vgrp l 0 = ([], 0) := rfl
theorem vgrp_skip {m : Nat} (h : (vgrp l m).2 = 0) (hz : wsum (vgr l m) (vgr l m).length = 0) : vgrp l (m + 1) = vgrp l m := by
  unfold vgr at hz
  rw [vgrp, if_neg (by simp [h]), if_pos hz]
theorem vgrp_err {m : Nat} (h : (vgrp l m).2 = 0) (hz : ¬ wsum (vgr l m) (vgr l m).length = 0) (he : ¬ (vmean (vgr l m)).e = 0) : vgrp l (m + 1) = ([], (vmean (vgr l m)).e) := by
  unfold vgr at hz he ⊢
  rw [vgrp, if_neg (by simp [h]), if_neg hz, if_pos he]
theorem vgrp_ok {m : Nat} (h : (vgrp l m).2 = 0) (hz : ¬ wsum (vgr l m) (vgr l m).length = 0) (he : (vmean (vgr l m)).e = 0) : vgrp l (m + 1) = ((vgrp l m).1 ++ [(vmean (vgr l m)).vs], 0) := by
  unfold vgr at hz he ⊢
  rw [vgrp, if_neg (by simp [h]), if_neg hz, if_neg (fun h' => h' he)]; rfl
theorem vGroup_l (h : ¬ vlist l = 0) : vGroup l = ([], vlist l) := if_pos h
theorem vGroup_0 (h : vlist l = 0) : vGroup l = vgrp l 64 := if_neg (by simp [h])
theorem vGroup_err {m : Nat} (h : vlist l = 0) (hm : m < 64) (he : ¬ (vgrp l (m + 1)).2 = 0) : vGroup l = vgrp l (m + 1) := by
  have := vgrp_stop he (64 - (m + 1))
  rw [show m + 1 + (64 - (m + 1)) = 64 by omega] at this
  rw [vGroup_0 h, this]
theorem vof_all {a b : Int} (h : vall l = true) : vall (vof l a b) = true := by
  unfold vall vof at *
  rw [List.all_eq_true] at *
  intro x hx
  exact h x (List.mem_filter.1 hx).1
theorem vof_len (l : List Vs) (a b : Int) : (vof l a b).length ≤ l.length := List.length_filter_le _ _
theorem vof_at {a b : Int} {k : Nat} (hk : k < (vof l a b).length) : (vof l a b)[k].i = a ∧ (vof l a b)[k].j = b := by
  have : (vof l a b)[k] ∈ vof l a b := List.getElem_mem hk
  have := (List.mem_filter.1 this).2
  simpa using this
theorem wsum_nz (h : vall l = true) {k : Nat} (hk : k < l.length) (hn : ¬ l[k].n = 0) : ¬ wsum l l.length = 0 := by
  have key : ∀ d, k + 1 + d ≤ l.length → 0 < wsum l (k + 1 + d) := fun d => by
    induction d with
    | zero =>
      intro _
      have b := wsum_bd h k (by omega)
      have := Vs.chk_ok (vall_get h hk)
      rw [Nat.add_zero, wsum_succ hk]; omega
    | succ d ih =>
      intro hd
      have := ih (by omega)
      have hk2 : k + 1 + d < l.length := by omega
      have := Vs.chk_ok (vall_get h hk2)
      rw [show k + 1 + (d + 1) = (k + 1 + d) + 1 by omega, wsum_succ hk2]; omega
  have := key (l.length - (k + 1)) (by omega)
  rw [show k + 1 + (l.length - (k + 1)) = l.length by omega] at this
  omega
theorem vgrp_len (l : List Vs) : ∀ m, (vgrp l m).1.length ≤ m
  | 0 => Nat.zero_le _
  | m + 1 => by
    have ih := vgrp_len l m
    rw [vgrp]
    split
    · omega
    · split
      · omega
      · split
        · exact Nat.zero_le _
        · rw [List.length_append]; simp; omega
theorem vgr_at {l : List Vs} {i j : Nat} (h : j < 8) : vgr l (8 * i + j) = vof l (i : Int) (j : Int) := by
  unfold vgr
  rw [show (8 * i + j) / 8 = i by omega, show (8 * i + j) % 8 = j by omega]
theorem vof_none {l : List Vs} (h : vall l = true) {a b : Int} (hab : ¬ a < b) : vof l a b = [] := by
  unfold vof
  rw [List.filter_eq_nil_iff]
  intro v hv
  have := Vs.chk_ok (vall_mem h hv)
  simp only [Bool.and_eq_true, beq_iff_eq]
  omega
theorem vgrp_low {l : List Vs} (h : vall l = true) {i : Nat} (hi : i < 8) (h0 : (vgrp l (8 * i)).2 = 0) : ∀ d, d ≤ i + 1 → vgrp l (8 * i + d) = vgrp l (8 * i)
  | 0, _ => rfl
  | d + 1, hd => by
    have ih := vgrp_low h hi h0 d (by omega)
    rw [show 8 * i + (d + 1) = (8 * i + d) + 1 from rfl]
    rw [vgrp_skip (by rw [ih]; exact h0) (by rw [vgr_at (by omega), vof_none h (by omega)]; rfl), ih]
theorem vMean_of {G : List Vs} {a b : Int} (h : vall G = true) (hl : G.length ≤ 200) (h0 : 0 < G.length) (hs : ∀ v ∈ G, v.i = a ∧ v.j = b) : vMean G = vmean G := by
  refine vMean_0 ?_ h0 ?_
  · unfold vlist; rw [if_neg (by omega), if_neg (by rw [h]; decide)]
  · unfold vsame
    rw [List.all_eq_true]
    intro v hv
    have e1 := hs v hv
    have e2 := hs G[0] (List.getElem_mem h0)
    simp only [Bool.and_eq_true, beq_iff_eq]
    exact ⟨by rw [e1.1, e2.1], by rw [e1.2, e2.2]⟩
theorem vof_mem {l : List Vs} {a b : Int} {v : Vs} (h : v ∈ vof l a b) : v.i = a ∧ v.j = b := by
  have := (List.mem_filter.1 h).2
  simpa using this
theorem wsum_pos {G : List Vs} (h : ¬ wsum G G.length = 0) : 0 < G.length := by
  cases G with
  | nil => exact absurd rfl h
  | cons v G => simp
theorem vof_end {a b : Int} {k : Nat} (hk : ¬ k < l.length) : vof (l.take k) a b = vof l a b := by rw [List.take_of_length_le (by omega)]
end
end Go.Proofs.Ytpjhiojdnebgoaa
