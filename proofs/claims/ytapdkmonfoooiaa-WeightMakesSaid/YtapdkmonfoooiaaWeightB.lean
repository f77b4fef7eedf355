/- What is proved here: the contracts of the reference's divides, common, Valid and Check of layer 22. Condition: the numbers are 64-bit integers. -/
import Derived.Test.YtapdkmonfoooiaaWeightA
namespace Go.Proofs.Ytapdkmonfoooiaa
open Go.RowKit

theorem divides_1 (w : World) : Calls Try.prog 52 #[.int .i64 1, .int .i64 1] w fun e w' => e = .returned (.bool true) ∧ w = w' := by
  go_enter Try.func52, Try.ntmps52
  go_wp2
  go_ret
  exact ⟨rfl, rfl⟩
set_option maxHeartbeats 1600000 in
theorem common_any (a b c : Int) (w : World) (h1 : s63 a) (h2 : s63 b) (h3 : s63 c) :
    Calls Try.prog 50 #[.int .i64 a, .int .i64 b, .int .i64 c] w fun e w' => e = .returned (.int .i64 (Nat.gcd b.natAbs (Nat.gcd a.natAbs c.natAbs) : Nat)) ∧ w = w' := by
  obtain ⟨a1, a2⟩ := h1
  obtain ⟨b1, b2⟩ := h2
  obtain ⟨c1, c2⟩ := h3
  go_enter Try.func50, Try.ntmps50
  go_wp2
  go_loopw [0, 2] (fun x y wr => ∃ (a' c' : Int), x = .int .i64 a' ∧ y = .int .i64 c' ∧ -9223372036854775807 ≤ a' ∧ a' ≤ 9223372036854775807 ∧ -9223372036854775807 ≤ c' ∧ c' ≤ 9223372036854775807 ∧ Hid (Nat.gcd a'.natAbs c'.natAbs = Nat.gcd a.natAbs c.natAbs) ∧ wr = w) (fun x _ _ => (intOf x).natAbs)
  case atStart => exact ⟨a, c, rfl, rfl, a1, a2, c1, c2, rfl, rfl⟩
  case round =>
    obtain ⟨a', c', rfl, rfl, ha1, ha2, hc1, hc2, hg, rfl⟩ := hrel
    by_cases hz : a' = 0
    case neg =>
      have hz' : (a' == 0) = false := by simpa using hz
      have hz2 : (a' != 0) = true := by simpa using hz
      have hm := tmod_lt c' a' hz
      have hG : Hid (Nat.gcd (c'.tmod a').natAbs a'.natAbs = Nat.gcd a.natAbs c.natAbs) := by
        show _ = _; rw [Nat.gcd_comm, gcd_tmod, Nat.gcd_comm]; exact hg.out
      generalize hr : c'.tmod a' = r at *
      go_wp2
      go_roundw
      case rel => exact ⟨r, a', by first | rfl | (congr 1; rw [← hr]; omega), rfl, by omega, by omega, ha1, ha2, hG, trivial⟩
      case measure => simp [intOf]; omega
    case pos =>
      subst hz
      have hg : Hid (c'.natAbs = Nat.gcd a.natAbs c.natAbs) := by
        show _ = _; have := hg.out; simpa using this
      go_wp2
      go_loopw [1, 2] (fun x y wq => ∃ (b' d' : Int), x = .int .i64 b' ∧ y = .int .i64 d' ∧ -9223372036854775807 ≤ b' ∧ b' ≤ 9223372036854775807 ∧ -9223372036854775807 ≤ d' ∧ d' ≤ 9223372036854775807 ∧ Hid (Nat.gcd b'.natAbs d'.natAbs = Nat.gcd b.natAbs (Nat.gcd a.natAbs c.natAbs)) ∧ wq = wr) (fun x _ _ => (intOf x).natAbs)
      case atStart => exact ⟨b, c', rfl, rfl, b1, b2, hc1, hc2, Lib.hid (by rw [hg.out]), rfl⟩
      case round =>
        obtain ⟨b', d', rfl, rfl, hb1, hb2, hd1, hd2, hh, rfl⟩ := hrel
        by_cases hz : b' = 0
        case neg =>
          have hz' : (b' == 0) = false := by simpa using hz
          have hz2 : (b' != 0) = true := by simpa using hz
          have hm := tmod_lt d' b' hz
          have hG : Hid (Nat.gcd (d'.tmod b').natAbs b'.natAbs = Nat.gcd b.natAbs (Nat.gcd a.natAbs c.natAbs)) := by
            show _ = _; rw [Nat.gcd_comm, gcd_tmod, Nat.gcd_comm]; exact hh.out
          generalize hr : d'.tmod b' = r at *
          go_wp2
          go_roundw
          case rel => exact ⟨r, b', by first | rfl | (congr 1; rw [← hr]; omega), rfl, by omega, by omega, hb1, hb2, hG, trivial⟩
          case measure => simp [intOf]; omega
        case pos =>
          subst hz
          have hh : Hid (((Nat.gcd b.natAbs (Nat.gcd a.natAbs c.natAbs) : Nat) : Int) = d'.natAbs) := by
            show _ = _; have := hh.out; simp at this; omega
          by_cases hs : d' < 0
          · go_wp2
            go_ret
            exact ⟨ret_int (by rw [hh.out]; omega), rfl⟩
          · go_wp2
            go_ret
            exact ⟨ret_int (by rw [hh.out]; omega), rfl⟩

theorem common_of (a b c : Int) (b' : Bool) (w : World) (h1 : s63 a) (h2 : s63 b) (h3 : s63 c) (h : decide (Nat.gcd b.natAbs (Nat.gcd a.natAbs c.natAbs) = 1) = b') :
    Calls Try.prog 50 #[.int .i64 a, .int .i64 b, .int .i64 c] w fun e w' => (∃ k : Int, e = .returned (.int .i64 k) ∧ (k == 1) = b') ∧ w = w' := by
  refine (common_any a b c w h1 h2 h3).mono ?_
  rintro e w' ⟨he, hw⟩
  refine ⟨⟨_, he, ?_⟩, hw⟩
  rw [← h, Bool.beq_eq_decide_eq]
  exact decide_eq_decide.2 (by omega)
set_option maxRecDepth 100000 in
set_option maxHeartbeats 8000000 in
theorem valid_any (re im den : Int) (w : World) : Calls Try.prog 36 #[.agg #[.int .i64 re, .int .i64 im, .int .i64 den]] w fun e w' => e = .returned (.bool (cokB re im den)) ∧ Below w.heap.size w w' := by
  by_cases h0 : 1 ≤ den
  case neg =>
    have HV : Hid (cokB re im den = false) := cok_no (by unfold CFit; omega)
    have e0 : decide (den < 1) = true := decide_eq_true (by omega)
    go_enter Try.func36, Try.ntmps36
    go_wp2
    go_ret
    exact ⟨by rw [HV.out]; rfl, ba1 _ _⟩
  have e0 : decide (den < 1) = false := decide_eq_false (by omega)
  by_cases h1 : den ≤ 1000000000
  case neg =>
    have HV : Hid (cokB re im den = false) := cok_no (by unfold CFit; omega)
    have e1 : decide (1000000000 < den) = true := decide_eq_true (by omega)
    go_enter Try.func36, Try.ntmps36
    go_wp2
    go_ret
    exact ⟨by rw [HV.out]; rfl, ba1 _ _⟩
  have e1 : decide (1000000000 < den) = false := decide_eq_false (by omega)
  by_cases h2 : -1000000000 ≤ re
  case neg =>
    have HV : Hid (cokB re im den = false) := cok_no (by unfold CFit; omega)
    have e2 : decide (re < -1000000000) = true := decide_eq_true (by omega)
    go_enter Try.func36, Try.ntmps36
    go_wp2
    go_ret
    exact ⟨by rw [HV.out]; rfl, ba1 _ _⟩
  have e2 : decide (re < -1000000000) = false := decide_eq_false (by omega)
  by_cases h3 : re ≤ 1000000000
  case neg =>
    have HV : Hid (cokB re im den = false) := cok_no (by unfold CFit; omega)
    have e3 : decide (1000000000 < re) = true := decide_eq_true (by omega)
    go_enter Try.func36, Try.ntmps36
    go_wp2
    go_ret
    exact ⟨by rw [HV.out]; rfl, ba1 _ _⟩
  have e3 : decide (1000000000 < re) = false := decide_eq_false (by omega)
  by_cases h4 : -1000000000 ≤ im
  case neg =>
    have HV : Hid (cokB re im den = false) := cok_no (by unfold CFit; omega)
    have e4 : decide (im < -1000000000) = true := decide_eq_true (by omega)
    go_enter Try.func36, Try.ntmps36
    go_wp2
    go_ret
    exact ⟨by rw [HV.out]; rfl, ba1 _ _⟩
  have e4 : decide (im < -1000000000) = false := decide_eq_false (by omega)
  by_cases h5 : im ≤ 1000000000
  case neg =>
    have HV : Hid (cokB re im den = false) := cok_no (by unfold CFit; omega)
    have e5 : decide (1000000000 < im) = true := decide_eq_true (by omega)
    go_enter Try.func36, Try.ntmps36
    go_wp2
    go_ret
    exact ⟨by rw [HV.out]; rfl, ba1 _ _⟩
  have e5 : decide (1000000000 < im) = false := decide_eq_false (by omega)
  have HV : Hid (cokB re im den = decide (Nat.gcd im.natAbs (Nat.gcd re.natAbs den.natAbs) = 1)) := by
    show _ = _; rw [cok_gcd ⟨h0, h1, h2, h3, h4, h5⟩]; exact decide_eq_decide.2 (by rw [gcd3])
  go_enter Try.func36, Try.ntmps36
  go_wp2_with fail
  refine (common_of re im den _ _ ⟨by omega, by omega⟩ ⟨by omega, by omega⟩ ⟨by omega, by omega⟩ HV.out.symm).mono ?_
  rintro e _ ⟨⟨k, rfl, hk⟩, rfl⟩
  go_wp2
  go_ret
  exact ⟨rfl, ba1 _ _⟩
theorem valid_of (re im den : Int) (b : Bool) (w : World) (h : cokB re im den = b) : Calls Try.prog 36 #[.agg #[.int .i64 re, .int .i64 im, .int .i64 den]] w fun e w' => e = .returned (.bool b) ∧ Below w.heap.size w w' := by
  subst h; exact valid_any re im den w
set_option maxRecDepth 100000 in
set_option maxHeartbeats 8000000 in
theorem rvcheck_any (i j re im den n : Int) (w : World) : Calls Try.prog 16 #[.agg #[.int .i64 i, .int .i64 j, .int .i64 re, .int .i64 im, .int .i64 den, .int .i64 n]] w fun e w' => e = .returned (.int .i64 (vchk i j re im den n)) ∧ Below w.heap.size w w' := by
  by_cases h0 : 0 ≤ i
  case neg =>
    have HV : Hid (vchk i j re im den n = 8) := vchk_no (by omega)
    have e0 : decide (0 ≤ i) = false := decide_eq_false h0
    go_enter Try.func16, Try.ntmps16
    go_wp2
    go_ret
    exact ⟨by rw [HV.out]; rfl, ba1 _ _⟩
  have e0 : decide (0 ≤ i) = true := decide_eq_true h0
  by_cases h1 : i < j
  case neg =>
    have HV : Hid (vchk i j re im den n = 8) := vchk_no (by omega)
    have e1 : decide (i < j) = false := decide_eq_false h1
    go_enter Try.func16, Try.ntmps16
    go_wp2
    go_ret
    exact ⟨by rw [HV.out]; rfl, ba1 _ _⟩
  have e1 : decide (i < j) = true := decide_eq_true h1
  by_cases h2 : j < 8
  case neg =>
    have HV : Hid (vchk i j re im den n = 8) := vchk_no (by omega)
    have e2 : decide (j < 8) = false := decide_eq_false h2
    go_enter Try.func16, Try.ntmps16
    go_wp2
    go_ret
    exact ⟨by rw [HV.out]; rfl, ba1 _ _⟩
  have e2 : decide (j < 8) = true := decide_eq_true h2
  cases h4 : cokB re im den with
  | false =>
    have HV : Hid (vchk i j re im den n = 8) := vchk_no (by rw [h4]; simp)
    go_enter Try.func16, Try.ntmps16
    go_wp2_with fail
    refine (valid_of re im den _ _ h4).mono ?_
    rintro e w1 ⟨rfl, hb1⟩
    go_wp2
    go_ret
    exact ⟨by rw [HV.out]; rfl, below_to (ba1 _ _) hb1⟩
  | true =>
    by_cases k0 : 0 ≤ n
    case neg =>
      have HV : Hid (vchk i j re im den n = 8) := vchk_no (by omega)
      have d0 : decide (0 ≤ n) = false := decide_eq_false k0
      go_enter Try.func16, Try.ntmps16
      go_wp2_with fail
      refine (valid_of re im den _ _ h4).mono ?_
      rintro e w1 ⟨rfl, hb1⟩
      obtain ⟨c1, f1⟩ := bcell hb1
      have z1 := (hb1).size
      try simp at z1
      try simp at c1
      try simp at f1
      have z1a : w.heap.size < w1.heap.size := by omega
      go_wp2
      go_ret
      exact ⟨by rw [HV.out]; rfl, below_to (ba1 _ _) hb1⟩
    have d0 : decide (0 ≤ n) = true := decide_eq_true k0
    by_cases k1 : n ≤ 1000000
    case neg =>
      have HV : Hid (vchk i j re im den n = 8) := vchk_no (by omega)
      have d1 : decide (n ≤ 1000000) = false := decide_eq_false k1
      go_enter Try.func16, Try.ntmps16
      go_wp2_with fail
      refine (valid_of re im den _ _ h4).mono ?_
      rintro e w1 ⟨rfl, hb1⟩
      obtain ⟨c1, f1⟩ := bcell hb1
      have z1 := (hb1).size
      try simp at z1
      try simp at c1
      try simp at f1
      have z1a : w.heap.size < w1.heap.size := by omega
      go_wp2
      go_ret
      exact ⟨by rw [HV.out]; rfl, below_to (ba1 _ _) hb1⟩
    have d1 : decide (n ≤ 1000000) = true := decide_eq_true k1
    have HV : Hid (vchk i j re im den n = 0) := vchk_yes h0 h1 h2 h4 k0 k1
    go_enter Try.func16, Try.ntmps16
    go_wp2_with fail
    refine (valid_of re im den _ _ h4).mono ?_
    rintro e w1 ⟨rfl, hb1⟩
    obtain ⟨c1, f1⟩ := bcell hb1
    have z1 := (hb1).size
    try simp at z1
    try simp at c1
    try simp at f1
    have z1a : w.heap.size < w1.heap.size := by omega
    go_wp2
    go_ret
    exact ⟨by rw [HV.out]; rfl, below_to (ba1 _ _) hb1⟩
end Go.Proofs.Ytapdkmonfoooiaa
