/- What is proved here: contracts of functions and plain facts, several texts in one; each one says ahead what it proves, and its conditions. -/
import Derived.Test.YtpjhiojdnebgoaaProg
import Derived.Test.YtpjhiojdnebgoaaC01
/- What is proved here: the contracts of frac.size, frac.gcd, frac.Check and of the reference's abs, gcd, Check. Condition: the numbers are 64-bit integers. -/
namespace Go.Proofs.Ytpjhiojdnebgoaa
open Go.RowKit

/-- A 64-bit signed number. -/
def i64 (n : Int) : Prop := -9223372036854775808 ≤ n ∧ n ≤ 9223372036854775807

theorem wrap_neg (n : Int) (h1 : -9223372036854775808 ≤ n) (h : n < 0) : IntKind.u64.wrap (-IntKind.u64.wrap n) = (n.natAbs : Int) := by
  simp only [IntKind.wrap, IntKind.bits, IntKind.signed]; simp; omega

theorem size_any (n : Int) (w : World) (h1 : -9223372036854775808 ≤ n) (h2 : n ≤ 9223372036854775807) :
    Calls Try.prog 107 #[.int .i64 n] w fun e w' => e = .returned (.int .u64 (n.natAbs : Int)) ∧ w = w' := by
  by_cases h : n < 0
  · go_enter Try.func107, Try.ntmps107
    go_wp2
    go_ret
    refine ⟨?_, rfl⟩
    show Ending.returned (Value.int IntKind.u64 (IntKind.u64.wrap (-IntKind.u64.wrap n))) = _
    rw [wrap_neg n h1 h]
  · go_enter Try.func107, Try.ntmps107
    go_wp2
    go_ret
    refine ⟨?_, rfl⟩
    show Ending.returned (Value.int IntKind.u64 n) = _
    exact ret_int (by omega)

theorem abs_any (n : Int) (w : World) (h1 : -9223372036854775808 ≤ n) (h2 : n ≤ 9223372036854775807) :
    Calls Try.prog 65 #[.int .i64 n] w fun e w' => e = .returned (.int .u64 (n.natAbs : Int)) ∧ w = w' := by
  by_cases h : n < 0
  · go_enter Try.func65, Try.ntmps65
    go_wp2
    go_ret
    refine ⟨?_, rfl⟩
    exact ret_int (by omega)
  · go_enter Try.func65, Try.ntmps65
    go_wp2
    go_ret
    refine ⟨?_, rfl⟩
    exact ret_int (by omega)

set_option maxHeartbeats 400000 in
theorem gcd_any (a b : Nat) (w : World) (h1 : a ≤ 18446744073709551615) (h2 : b ≤ 18446744073709551615) :
    Calls Try.prog 108 #[.int .u64 a, .int .u64 b] w fun e w' => e = .returned (.int .u64 (Nat.gcd a b : Int)) ∧ ∃ n, w' = w.drewN n := by
  go_enter Try.func108, Try.ntmps108
  go_wp2
  go_loopw [0, 1] (fun x y wr => ∃ a' b' n : Nat, x = .int .u64 a' ∧ y = .int .u64 b' ∧ a' ≤ 18446744073709551615 ∧ b' ≤ 18446744073709551615 ∧ Hid (Nat.gcd a' b' = Nat.gcd a b) ∧ wr = w.drewN n) (fun _ y _ => (intOf y).toNat)
  case atStart => exact ⟨a, b, 0, rfl, rfl, h1, h2, rfl, rfl⟩
  case round =>
    obtain ⟨a', b', n, rfl, rfl, ha, hb, hg, rfl⟩ := hrel
    by_cases hz : b' = 0
    · subst hz
      go_wp2
      go_ret
      exact ⟨ret_int (by have := hg.out; simp at this; simpa using congrArg Int.ofNat this), n, rfl⟩
    · have hz' : ((b' : Int) == 0) = false := by simp; omega
      have hz2 : ((b' : Int) != 0) = true := by simp; omega
      have hm := Nat.mod_lt a' (show b' > 0 by omega)
      have hG : Hid (Nat.gcd b' (a' % b') = Nat.gcd a b) := by
        have := hg.out; rw [Nat.gcd_comm, Nat.gcd_rec] at this; rw [Nat.gcd_comm]; exact this
      go_wp2
      go_quiet (fail)
      go_wp2
      go_roundw
      case rel => exact ⟨b', a' % b', n + nq, rfl, by go_num, hb, by omega, hG, by simp⟩
      case measure => simp [intOf]; omega

set_option maxHeartbeats 400000 in
theorem rgcd_any (a b : Nat) (w : World) (h1 : a ≤ 18446744073709551615) (h2 : b ≤ 18446744073709551615) :
    Calls Try.prog 63 #[.int .u64 a, .int .u64 b] w fun e w' => e = .returned (.int .u64 (Nat.gcd a b : Int)) ∧ ∃ n, w' = w.drewN n := by
  go_enter Try.func63, Try.ntmps63
  go_wp2
  go_loopw [0, 1] (fun x y wr => ∃ a' b' n : Nat, x = .int .u64 a' ∧ y = .int .u64 b' ∧ a' ≤ 18446744073709551615 ∧ b' ≤ 18446744073709551615 ∧ Hid (Nat.gcd a' b' = Nat.gcd a b) ∧ wr = w.drewN n) (fun _ y _ => (intOf y).toNat)
  case atStart => exact ⟨a, b, 0, rfl, rfl, h1, h2, rfl, rfl⟩
  case round =>
    obtain ⟨a', b', n, rfl, rfl, ha, hb, hg, rfl⟩ := hrel
    by_cases hz : b' = 0
    · subst hz
      go_wp2
      go_ret
      exact ⟨ret_int (by have := hg.out; simp at this; simpa using congrArg Int.ofNat this), n, rfl⟩
    · have hz' : ((b' : Int) == 0) = false := by simp; omega
      have hz2 : ((b' : Int) != 0) = true := by simp; omega
      have hm := Nat.mod_lt a' (show b' > 0 by omega)
      have hG : Hid (Nat.gcd b' (a' % b') = Nat.gcd a b) := by
        have := hg.out; rw [Nat.gcd_comm, Nat.gcd_rec] at this; rw [Nat.gcd_comm]; exact this
      go_wp2
      go_quiet (fail)
      go_wp2
      go_roundw
      case rel => exact ⟨b', a' % b', n + nq, rfl, by go_num, hb, by omega, hG, by simp⟩
      case measure => simp [intOf]; omega

theorem gcd_of (a b : Int) (x y : Nat) (w : World) (ha : a = x) (hb : b = y) (h1 : x ≤ 18446744073709551615) (h2 : y ≤ 18446744073709551615) :
    Calls Try.prog 108 #[.int .u64 a, .int .u64 b] w fun e w' => e = .returned (.int .u64 (Nat.gcd x y : Int)) ∧ ∃ n, w' = w.drewN n := by
  subst ha hb; exact gcd_any x y w h1 h2
theorem rgcd_of (a b : Int) (x y : Nat) (w : World) (ha : a = x) (hb : b = y) (h1 : x ≤ 18446744073709551615) (h2 : y ≤ 18446744073709551615) :
    Calls Try.prog 63 #[.int .u64 a, .int .u64 b] w fun e w' => e = .returned (.int .u64 (Nat.gcd x y : Int)) ∧ ∃ n, w' = w.drewN n := by
  subst ha hb; exact rgcd_any x y w h1 h2

/-- A fraction's numbers are valid: in lowest terms, within 10^18. -/
def fokB (n d : Int) : Bool := decide (1 ≤ d) && decide (d ≤ 1000000000000000000) && decide (-1000000000000000000 ≤ n) && decide (n ≤ 1000000000000000000) && Nat.gcd n.natAbs d.natAbs == 1
/-- The error of a fraction: 8 or 0. -/
def fchk (n d : Int) : Int := if fokB n d then 0 else 8

theorem fchk_no {n d : Int} (h : ¬ (1 ≤ d ∧ d ≤ 1000000000000000000 ∧ -1000000000000000000 ≤ n ∧ n ≤ 1000000000000000000)) : fchk n d = 8 := by
  unfold fchk fokB; rw [if_neg]; simp; omega
theorem fchk_gcd {n d : Int} (h1 : 1 ≤ d) (h2 : d ≤ 1000000000000000000) (h3 : -1000000000000000000 ≤ n) (h4 : n ≤ 1000000000000000000) : fchk n d = if Nat.gcd n.natAbs d.natAbs = 1 then 0 else 8 := by
  unfold fchk fokB; simp [h1, h2, h3, h4]

set_option maxHeartbeats 400000 in
theorem check_any (n d : Int) (w : World) (h1 : i64 n) (h2 : i64 d) :
    Calls Try.prog 82 #[.agg #[.int .i64 n, .int .i64 d]] w fun e w' => e = .returned (.int .i64 (fchk n d)) ∧ Below w.heap.size w w' := by
  obtain ⟨n1, n2⟩ := h1
  obtain ⟨d1, d2⟩ := h2
  by_cases hv : 1 ≤ d ∧ d ≤ 1000000000000000000 ∧ -1000000000000000000 ≤ n ∧ n ≤ 1000000000000000000
  · have H := Lib.hid (fchk_gcd hv.1 hv.2.1 hv.2.2.1 hv.2.2.2)
    obtain ⟨v1, v2, v3, v4⟩ := hv
    by_cases hg : Nat.gcd n.natAbs d.natAbs = 1
    · have b1 : (((Nat.gcd n.natAbs d.natAbs : Nat) : Int) != 1) = false := by simp [hg]
      have HV : Hid (fchk n d = 0) := by show fchk n d = 0; rw [H.out, if_pos hg]
      clear hg H
      go_enter Try.func82, Try.ntmps82
      go_wp2
      go_quiet (first | (go_at_call 107; exact Calls.quiet_same (size_any _ _ (by omega) (by omega))) | (go_at_call 108; refine Calls.quiet_of (gcd_any n.natAbs d.natAbs _ (by omega) (by omega))))
      go_wp2
      go_ret
      exact ⟨by rw [HV.out]; rfl, ((Below.refl _ _).alloc (Nat.le_refl _) _).trans ((below_drewN _ _).mono (by simp))⟩
    · have b1 : (((Nat.gcd n.natAbs d.natAbs : Nat) : Int) != 1) = true := by simp; omega
      have HV : Hid (fchk n d = 8) := by show fchk n d = 8; rw [H.out, if_neg hg]
      clear hg H
      go_enter Try.func82, Try.ntmps82
      go_wp2
      go_quiet (first | (go_at_call 107; exact Calls.quiet_same (size_any _ _ (by omega) (by omega))) | (go_at_call 108; refine Calls.quiet_of (gcd_any n.natAbs d.natAbs _ (by omega) (by omega))))
      go_wp2
      go_ret
      exact ⟨by rw [HV.out]; rfl, ((Below.refl _ _).alloc (Nat.le_refl _) _).trans ((below_drewN _ _).mono (by simp))⟩
  · have H := Lib.hid (fchk_no hv)
    go_enter Try.func82, Try.ntmps82
    go_wp2
    all_goals first | (exfalso; omega) | skip
    all_goals
      go_ret
      exact ⟨by rw [H.out]; rfl, (Below.refl _ _).alloc (Nat.le_refl _) _⟩

set_option maxHeartbeats 800000 in
theorem rcheck_any (n d : Int) (w : World) (h1 : i64 n) (h2 : i64 d) :
    Calls Try.prog 32 #[.agg #[.int .i64 n, .int .i64 d]] w fun e w' => e = .returned (.int .i64 (fchk n d)) ∧ Below w.heap.size w w' := by
  obtain ⟨n1, n2⟩ := h1
  obtain ⟨d1, d2⟩ := h2
  by_cases v1 : 1 ≤ d
  · by_cases v2 : d ≤ 1000000000000000000
    · by_cases v3 : -1000000000000000000 ≤ n
      · by_cases v4 : n ≤ 1000000000000000000
        · have H := Lib.hid (fchk_gcd v1 v2 v3 v4)
          have e1 : decide (d < 1) = false := by simp; omega
          have e2 : decide (1000000000000000000 < d) = false := by simp; omega
          have e3 : decide (n < -1000000000000000000) = false := by simp; omega
          have e4 : decide (1000000000000000000 < n) = false := by simp; omega
          by_cases hg : Nat.gcd n.natAbs d.natAbs = 1
          · have b1 : (((Nat.gcd n.natAbs d.natAbs : Nat) : Int) != 1) = false := by simp [hg]
            have HV : Hid (fchk n d = 0) := by show fchk n d = 0; rw [H.out, if_pos hg]
            clear hg H
            go_enter Try.func32, Try.ntmps32
            go_wp2
            go_quiet (first | (go_at_call 65; exact Calls.quiet_same (abs_any _ _ (by omega) (by omega))) | (go_at_call 63; exact Calls.quiet_of (rgcd_of _ _ n.natAbs d.natAbs _ rfl (by omega) (by omega) (by omega))))
            go_wp2
            go_ret
            exact ⟨by rw [HV.out]; rfl, ((Below.refl _ _).alloc (Nat.le_refl _) _).trans ((below_drewN _ _).mono (by simp))⟩
          · have b1 : (((Nat.gcd n.natAbs d.natAbs : Nat) : Int) != 1) = true := by simp; omega
            have HV : Hid (fchk n d = 8) := by show fchk n d = 8; rw [H.out, if_neg hg]
            clear hg H
            go_enter Try.func32, Try.ntmps32
            go_wp2
            go_quiet (first | (go_at_call 65; exact Calls.quiet_same (abs_any _ _ (by omega) (by omega))) | (go_at_call 63; exact Calls.quiet_of (rgcd_of _ _ n.natAbs d.natAbs _ rfl (by omega) (by omega) (by omega))))
            go_wp2
            go_ret
            exact ⟨by rw [HV.out]; rfl, ((Below.refl _ _).alloc (Nat.le_refl _) _).trans ((below_drewN _ _).mono (by simp))⟩
        · have H := Lib.hid (fchk_no (n := n) (d := d) (by omega))
          have e1 : decide (d < 1) = false := by simp; omega
          have e2 : decide (1000000000000000000 < d) = false := by simp; omega
          have e3 : decide (n < -1000000000000000000) = false := by simp; omega
          have e4 : decide (1000000000000000000 < n) = true := by simp; omega
          go_enter Try.func32, Try.ntmps32
          go_wp2
          go_quiet (fail)
          go_wp2
          go_ret
          exact ⟨by rw [H.out]; rfl, ((Below.refl _ _).alloc (Nat.le_refl _) _).trans ((below_drewN _ _).mono (by simp))⟩
      · have H := Lib.hid (fchk_no (n := n) (d := d) (by omega))
        have e1 : decide (d < 1) = false := by simp; omega
        have e2 : decide (1000000000000000000 < d) = false := by simp; omega
        have e3 : decide (n < -1000000000000000000) = true := by simp; omega
        go_enter Try.func32, Try.ntmps32
        go_wp2
        go_quiet (fail)
        go_wp2
        go_ret
        exact ⟨by rw [H.out]; rfl, ((Below.refl _ _).alloc (Nat.le_refl _) _).trans ((below_drewN _ _).mono (by simp))⟩
    · have H := Lib.hid (fchk_no (n := n) (d := d) (by omega))
      have e1 : decide (d < 1) = false := by simp; omega
      have e2 : decide (1000000000000000000 < d) = true := by simp; omega
      go_enter Try.func32, Try.ntmps32
      go_wp2
      go_quiet (fail)
      go_wp2
      go_ret
      exact ⟨by rw [H.out]; rfl, ((Below.refl _ _).alloc (Nat.le_refl _) _).trans ((below_drewN _ _).mono (by simp))⟩
  · have H := Lib.hid (fchk_no (n := n) (d := d) (by omega))
    have e1 : decide (d < 1) = true := by simp; omega
    go_enter Try.func32, Try.ntmps32
    go_wp2
    go_quiet (fail)
    go_wp2
    go_ret
    exact ⟨by rw [H.out]; rfl, ((Below.refl _ _).alloc (Nat.le_refl _) _).trans ((below_drewN _ _).mono (by simp))⟩

end Go.Proofs.Ytpjhiojdnebgoaa

/- What is proved here: what making a row of numbers gives. Condition: at most 100,000 numbers. -/
namespace Go.Proofs.Ytpjhiojdnebgoaa
open Go.RowKit

theorem Try.infoInt : (Try.prog.info? 3).map (fun i => (i.zero, i.size, i.bytes)) = some (some (.int .i64 0), 1, 8) := by kernel_rfl
/-- The cells of numbers. -/
def ics (xs : List Int) : List Value := xs.map (Value.int .i64)
theorem ics_len (xs : List Int) : (ics xs).length = xs.length := by simp [ics]
theorem made_ints (n : Nat) : madeCells (Value.int .i64 0).cells (n * 1) = (ics (List.replicate n 0)).toArray := by
  apply Array.ext
  · simp [size_madeCells, ics]
  · intro i h1 h2
    simp [madeCells, Value.cells, Nat.mod_one, ics]
theorem mk_ints (n : Nat) (hn : n ≤ 100000) (w : World) : (Instr.makeSlice 22 (.int .i64 (n : Int)) (.int .i64 (n : Int))).run Try.prog w = .ok (.slice (some ⟨w.heap.size, 0, none⟩) n n) (w.alloc (.cells (ics (List.replicate n 0)).toArray 3)) := by
  obtain ⟨i0, hi, hz0, hz1, hz2⟩ := info_parts Try.infoInt
  have h := run_make w 22 3 i0 (.int .i64 0) Try.underlying22 hi hz0 .i64 .i64 (n : Int) (n : Int) (by omega) (by omega) (by rw [hz2]; omega) (by omega)
  rw [Int.toNat_natCast, hz1, made_ints] at h
  exact h
theorem ics_some (xs : List Int) (i : Nat) (h : i < xs.length) : ∃ v, (ics xs)[i]? = some v := ⟨_, by simp [ics, h]; rfl⟩
end Go.Proofs.Ytpjhiojdnebgoaa
