/- What is proved here: the contracts of weight.isWeight, fits, gcd, isValue and Check, and of the reference's divides, common, Valid and Check. Condition: the numbers are 64-bit integers. -/
import Derived.Test.YtapdkmonfoooiaaWeightP
import Derived.Test.YtapdkmonfoooiaaFracE
namespace Go.Proofs.Ytapdkmonfoooiaa
open Go.RowKit

def cntB (n : Int) : Bool := decide (0 ≤ n) && decide (n ≤ 1000000)
def fit9 (x : Int) : Bool := decide (-1000000000 ≤ x) && decide (x ≤ 1000000000)
theorem fit9_1 {x : Int} (h : fit9 x = true) : -1000000000 ≤ x ∧ x ≤ 1000000000 := by unfold fit9 at h; simpa using h
theorem fit9_0 {x : Int} (h : fit9 x = false) : ¬ (-1000000000 ≤ x ∧ x ≤ 1000000000) := by unfold fit9 at h; simp at h; omega
theorem cnt_1 {x : Int} (h : cntB x = true) : 0 ≤ x ∧ x ≤ 1000000 := by unfold cntB at h; simpa using h
theorem cnt_0 {x : Int} (h : cntB x = false) : ¬ (0 ≤ x ∧ x ≤ 1000000) := by unfold cntB at h; simp at h; omega
theorem isWeight_any (n : Int) (w : World) : Calls Try.prog 27 #[.int .i64 n] w fun e w' => e = .returned (.bool (cntB n)) ∧ w = w' := by
  unfold cntB
  by_cases h1 : 0 ≤ n
  all_goals by_cases h2 : n ≤ 1000000
  all_goals
    go_enter Try.func27, Try.ntmps27
    go_wp2
    go_ret
    exact ⟨by simp [h1, h2], rfl⟩
theorem fits_any (n : Int) (w : World) : Calls Try.prog 46 #[.int .i64 n] w fun e w' => e = .returned (.bool (fit9 n)) ∧ w = w' := by
  unfold fit9
  by_cases h1 : -1000000000 ≤ n
  all_goals by_cases h2 : n ≤ 1000000000
  all_goals
    go_enter Try.func46, Try.ntmps46
    go_wp2
    go_ret
    exact ⟨by simp [h1, h2], rfl⟩
theorem fits_of (n : Int) (b : Bool) (w : World) (h : fit9 n = b) : Calls Try.prog 46 #[.int .i64 n] w fun e w' => e = .returned (.bool b) ∧ w = w' := by
  subst h; exact fits_any n w
theorem isWeight_of (n : Int) (b : Bool) (w : World) (h : cntB n = b) : Calls Try.prog 27 #[.int .i64 n] w fun e w' => e = .returned (.bool b) ∧ w = w' := by
  subst h; exact isWeight_any n w

def s63 (n : Int) : Prop := -9223372036854775807 ≤ n ∧ n ≤ 9223372036854775807
set_option maxHeartbeats 800000 in
theorem wgcd_any (a b : Int) (w : World) (h1 : s63 a) (h2 : s63 b) :
    Calls Try.prog 47 #[.int .i64 a, .int .i64 b] w fun e w' => e = .returned (.int .i64 (Nat.gcd a.natAbs b.natAbs : Nat)) ∧ ∃ n, w' = w.drewN n := by
  obtain ⟨a1, a2⟩ := h1
  obtain ⟨b1, b2⟩ := h2
  go_enter Try.func47, Try.ntmps47
  go_wp2
  go_loopw [0, 1] (fun x y wr => ∃ (a' b' : Int) (n : Nat), x = .int .i64 a' ∧ y = .int .i64 b' ∧ -9223372036854775807 ≤ a' ∧ a' ≤ 9223372036854775807 ∧ -9223372036854775807 ≤ b' ∧ b' ≤ 9223372036854775807 ∧ Hid (Nat.gcd a'.natAbs b'.natAbs = Nat.gcd a.natAbs b.natAbs) ∧ wr = w.drewN n) (fun _ y _ => (intOf y).natAbs)
  case atStart => exact ⟨a, b, 0, rfl, rfl, a1, a2, b1, b2, rfl, rfl⟩
  case round =>
    obtain ⟨a', b', n, rfl, rfl, ha1, ha2, hb1, hb2, hg, rfl⟩ := hrel
    by_cases hz : b' = 0
    · subst hz
      have hg : Hid (((Nat.gcd a.natAbs b.natAbs : Nat) : Int) = a'.natAbs) := by
        show _ = _; have := hg.out; simp at this; omega
      by_cases hs : 0 ≤ a'
      · go_wp2
        go_ret
        exact ⟨ret_int (by rw [hg.out]; omega), n, rfl⟩
      · go_wp2
        go_ret
        exact ⟨ret_int (by rw [hg.out]; omega), n, rfl⟩
    · have hz' : (b' == 0) = false := by simpa using hz
      have hz2 : (b' != 0) = true := by simpa using hz
      have hm := tmod_lt a' b' hz
      have hG : Hid (Nat.gcd b'.natAbs (a'.tmod b').natAbs = Nat.gcd a.natAbs b.natAbs) := by
        show _ = _; rw [gcd_tmod]; exact hg.out
      generalize hr : a'.tmod b' = r at *
      go_wp2
      go_quiet (fail)
      go_wp2
      go_roundw
      case rel => exact ⟨b', r, n + nq, rfl, by first | rfl | (congr 1; rw [← hr]; omega), hb1, hb2, by omega, by omega, hG, by simp⟩
      case measure => simp [intOf]; omega

theorem wgcd_of (x y : Int) (a b : Int) (w : World) (hx : x = a) (hy : y = b) (h1 : s63 a) (h2 : s63 b) :
    Calls Try.prog 47 #[.int .i64 x, .int .i64 y] w fun e w' => e = .returned (.int .i64 (Nat.gcd a.natAbs b.natAbs : Nat)) ∧ ∃ n, w' = w.drewN n := by
  subst hx hy; exact wgcd_any _ _ w h1 h2
theorem gcd_s63 {a b : Int} (h : b ≠ 0) (hb : b.natAbs ≤ 1000000000) : s63 ((Nat.gcd a.natAbs b.natAbs : Nat) : Int) := by
  have := Nat.gcd_le_right a.natAbs (show 0 < b.natAbs by omega)
  unfold s63; omega
theorem gcd_s63' {a b : Int} (ha : a.natAbs ≤ 1000000000) (hb : b.natAbs ≤ 1000000000) : s63 ((Nat.gcd a.natAbs b.natAbs : Nat) : Int) := by
  have : Nat.gcd a.natAbs b.natAbs ≤ 1000000000 := by
    by_cases h : b = 0
    · subst h; simpa using ha
    · exact Nat.le_trans (Nat.gcd_le_right a.natAbs (show 0 < b.natAbs by omega)) hb
  unfold s63; omega

set_option maxRecDepth 100000 in
set_option maxHeartbeats 8000000 in
theorem isValue_any (re im den : Int) (w : World) : Calls Try.prog 35 #[.agg #[.int .i64 re, .int .i64 im, .int .i64 den]] w fun e w' => e = .returned (.bool (cokB re im den)) ∧ Below w.heap.size w w' := by
  by_cases h1 : 1 ≤ den
  case neg =>
    have e1 : decide (1 ≤ den) = false := decide_eq_false h1
    have HV : Hid (cokB re im den = false) := cok_no (by unfold CFit; omega)
    go_enter Try.func35, Try.ntmps35
    go_wp2
    go_quiet (fail)
    go_wp2
    go_ret
    exact ⟨by rw [HV.out]; rfl, bd (ba1 _ _) _⟩
  have e1 : decide (1 ≤ den) = true := decide_eq_true h1
  by_cases h2 : den ≤ 1000000000
  case neg =>
    have e2 : decide (den ≤ 1000000000) = false := decide_eq_false h2
    have HV : Hid (cokB re im den = false) := cok_no (by unfold CFit; omega)
    go_enter Try.func35, Try.ntmps35
    go_wp2
    go_quiet (fail)
    go_wp2
    go_ret
    exact ⟨by rw [HV.out]; rfl, bd (ba1 _ _) _⟩
  have e2 : decide (den ≤ 1000000000) = true := decide_eq_true h2
  cases h3 : fit9 re with
  | false =>
    have f3 := fit9_0 h3
    have HV : Hid (cokB re im den = false) := cok_no (by unfold CFit; omega)
    go_enter Try.func35, Try.ntmps35
    go_wp2
    go_quiet ((go_at_call 46; first | exact Calls.quiet_same (fits_of _ true _ (by assumption)) | exact Calls.quiet_same (fits_of _ false _ (by assumption))))
    go_wp2
    go_ret
    exact ⟨by rw [HV.out]; rfl, bd (ba1 _ _) _⟩
  | true =>
    have f3 := fit9_1 h3
    cases h4 : fit9 im with
    | false =>
      have f4 := fit9_0 h4
      have HV : Hid (cokB re im den = false) := cok_no (by unfold CFit; omega)
      go_enter Try.func35, Try.ntmps35
      go_wp2
      go_quiet ((go_at_call 46; first | exact Calls.quiet_same (fits_of _ true _ (by assumption)) | exact Calls.quiet_same (fits_of _ false _ (by assumption))))
      go_wp2
      go_ret
      exact ⟨by rw [HV.out]; rfl, bd (ba1 _ _) _⟩
    | true =>
      have f4 := fit9_1 h4
      have s1 : s63 re := ⟨by omega, by omega⟩
      have s2 : s63 im := ⟨by omega, by omega⟩
      have s3 : s63 den := ⟨by omega, by omega⟩
      have s4 : s63 ((Nat.gcd re.natAbs im.natAbs : Nat) : Int) := gcd_s63' (by omega) (by omega)
      have H := Lib.hid (cok_gcd (re := re) (im := im) (den := den) ⟨by omega, by omega, by omega, by omega, by omega, by omega⟩)
      by_cases hg : Nat.gcd (Nat.gcd re.natAbs im.natAbs) den.natAbs = 1
      · have b1 : (((Nat.gcd (Nat.gcd re.natAbs im.natAbs) den.natAbs : Nat) : Int) == 1) = true := by simp [hg]
        have HV : Hid (cokB re im den = true) := by show _ = _; rw [H.out, decide_eq_true hg]
        clear hg H
        go_enter Try.func35, Try.ntmps35
        go_wp2
        go_quiet (first | (go_at_call 46; first | exact Calls.quiet_same (fits_of _ true _ (by assumption)) | exact Calls.quiet_same (fits_of _ false _ (by assumption))) | (go_at_call 47; refine Calls.quiet_of (wgcd_any _ _ _ ?_ ?_) <;> assumption))
        go_wp2
        go_ret
        exact ⟨by rw [HV.out]; rfl, bd (ba1 _ _) _⟩
      · have b1 : (((Nat.gcd (Nat.gcd re.natAbs im.natAbs) den.natAbs : Nat) : Int) == 1) = false := by simp; omega
        have HV : Hid (cokB re im den = false) := by show _ = _; rw [H.out, decide_eq_false hg]
        clear hg H
        go_enter Try.func35, Try.ntmps35
        go_wp2
        go_quiet (first | (go_at_call 46; first | exact Calls.quiet_same (fits_of _ true _ (by assumption)) | exact Calls.quiet_same (fits_of _ false _ (by assumption))) | (go_at_call 47; refine Calls.quiet_of (wgcd_any _ _ _ ?_ ?_) <;> assumption))
        go_wp2
        go_ret
        exact ⟨by rw [HV.out]; rfl, bd (ba1 _ _) _⟩
theorem isValue_of (re im den : Int) (b : Bool) (w : World) (h : cokB re im den = b) : Calls Try.prog 35 #[.agg #[.int .i64 re, .int .i64 im, .int .i64 den]] w fun e w' => e = .returned (.bool b) ∧ Below w.heap.size w w' := by
  subst h; exact isValue_any re im den w
theorem vchk_no {i j re im den n : Int} (h : ¬ (0 ≤ i ∧ i < j ∧ j < 8 ∧ cokB re im den = true ∧ 0 ≤ n ∧ n ≤ 1000000)) : vchk i j re im den n = 8 := by
  unfold vchk vokB; rw [if_neg]
  simp only [Bool.and_eq_true, decide_eq_true_eq]
  exact fun h' => h ⟨h'.1.1.1.1.1, h'.1.1.1.1.2, h'.1.1.1.2, h'.1.1.2, h'.1.2, h'.2⟩
theorem vchk_yes {i j re im den n : Int} (h1 : 0 ≤ i) (h2 : i < j) (h3 : j < 8) (h4 : cokB re im den = true) (h5 : 0 ≤ n) (h6 : n ≤ 1000000) : vchk i j re im den n = 0 := by
  unfold vchk vokB; rw [if_pos]
  simp [h1, h2, h3, h4, h5, h6]
theorem vchk_ok {i j re im den n : Int} (h : vchk i j re im den n = 0) : 0 ≤ i ∧ i < j ∧ j < 8 ∧ cokB re im den = true ∧ 0 ≤ n ∧ n ≤ 1000000 := by
  unfold vchk vokB at h
  split at h
  · rename_i h'
    simp only [Bool.and_eq_true, decide_eq_true_eq] at h'
    exact ⟨h'.1.1.1.1.1, h'.1.1.1.1.2, h'.1.1.1.2, h'.1.1.2, h'.1.2, h'.2⟩
  · cases h
set_option maxRecDepth 100000 in
set_option maxHeartbeats 8000000 in
theorem vcheck_any (i j re im den n : Int) (w : World) : Calls Try.prog 15 #[.agg #[.int .i64 i, .int .i64 j, .int .i64 re, .int .i64 im, .int .i64 den, .int .i64 n]] w fun e w' => e = .returned (.int .i64 (vchk i j re im den n)) ∧ Below w.heap.size w w' := by
  by_cases h1 : 0 ≤ i
  case neg =>
    have HV : Hid (vchk i j re im den n = 8) := vchk_no (by omega)
    have e1 : decide (i < 0) = true := decide_eq_true (by omega)
    go_enter Try.func15, Try.ntmps15
    go_wp2
    go_ret
    exact ⟨by rw [HV.out]; rfl, ba1 _ _⟩
  have e1 : decide (i < 0) = false := decide_eq_false (by omega)
  by_cases h2 : i < j
  case neg =>
    have HV : Hid (vchk i j re im den n = 8) := vchk_no (by omega)
    have e2 : decide (j ≤ i) = true := decide_eq_true (by omega)
    go_enter Try.func15, Try.ntmps15
    go_wp2
    go_ret
    exact ⟨by rw [HV.out]; rfl, ba1 _ _⟩
  have e2 : decide (j ≤ i) = false := decide_eq_false (by omega)
  by_cases h3 : j < 8
  case neg =>
    have HV : Hid (vchk i j re im den n = 8) := vchk_no (by omega)
    have e3 : decide (8 ≤ j) = true := decide_eq_true (by omega)
    go_enter Try.func15, Try.ntmps15
    go_wp2
    go_ret
    exact ⟨by rw [HV.out]; rfl, ba1 _ _⟩
  have e3 : decide (8 ≤ j) = false := decide_eq_false (by omega)
  cases h4 : cokB re im den with
  | false =>
    have HV : Hid (vchk i j re im den n = 8) := vchk_no (by rw [h4]; simp)
    go_enter Try.func15, Try.ntmps15
    go_wp2_with fail
    refine (isValue_of re im den _ _ h4).mono ?_
    rintro e w1 ⟨rfl, hb1⟩
    go_wp2
    go_ret
    exact ⟨by rw [HV.out]; rfl, below_to (ba1 _ _) hb1⟩
  | true =>
    cases h5 : cntB n with
    | false =>
      have f5 := cnt_0 h5
      have HV : Hid (vchk i j re im den n = 8) := vchk_no (by omega)
      go_enter Try.func15, Try.ntmps15
      go_wp2_with fail
      refine (isValue_of re im den _ _ h4).mono ?_
      rintro e w1 ⟨rfl, hb1⟩
      obtain ⟨c1, f1⟩ := bcell hb1
      have z1 := (hb1).size
      try simp at z1
      try simp at c1
      try simp at f1
      have z1a : w.heap.size < w1.heap.size := by omega
      go_wp2_with fail
      refine (isWeight_of _ _ _ h5).mono ?_
      rintro e _ ⟨rfl, rfl⟩
      go_wp2
      go_ret
      exact ⟨by rw [HV.out]; rfl, below_to (ba1 _ _) hb1⟩
    | true =>
      have f5 := cnt_1 h5
      have HV : Hid (vchk i j re im den n = 0) := vchk_yes h1 h2 h3 h4 f5.1 f5.2
      go_enter Try.func15, Try.ntmps15
      go_wp2_with fail
      refine (isValue_of re im den _ _ h4).mono ?_
      rintro e w1 ⟨rfl, hb1⟩
      obtain ⟨c1, f1⟩ := bcell hb1
      have z1 := (hb1).size
      try simp at z1
      try simp at c1
      try simp at f1
      have z1a : w.heap.size < w1.heap.size := by omega
      go_wp2_with fail
      refine (isWeight_of _ _ _ h5).mono ?_
      rintro e _ ⟨rfl, rfl⟩
      go_wp2
      go_ret
      exact ⟨by rw [HV.out]; rfl, below_to (ba1 _ _) hb1⟩

end Go.Proofs.Ytapdkmonfoooiaa
