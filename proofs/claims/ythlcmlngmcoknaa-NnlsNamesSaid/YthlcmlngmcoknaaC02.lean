/- What is proved here: contracts of functions and plain facts, several texts in one; each one says ahead what it proves, and its conditions. -/
import Derived.Test.YthlcmlngmcoknaaProg
import Derived.Test.YthlcmlngmcoknaaC01
/- What is proved here: the contracts of frac.size, frac.gcd, frac.Check and of the reference's abs, gcd, Check. Condition: the numbers are 64-bit integers. -/
namespace Go.Proofs.Ythlcmlngmcoknaa
open Go.RowKit

/-- A 64-bit signed number. -/
def i64 (n : Int) : Prop := -9223372036854775808 ≤ n ∧ n ≤ 9223372036854775807

theorem wrap_neg (n : Int) (h1 : -9223372036854775808 ≤ n) (h : n < 0) : IntKind.u64.wrap (-IntKind.u64.wrap n) = (n.natAbs : Int) := by
  simp only [IntKind.wrap, IntKind.bits, IntKind.signed]; simp; omega

theorem size_any (n : Int) (w : World) (h1 : -9223372036854775808 ≤ n) (h2 : n ≤ 9223372036854775807) :
    Calls Try.prog 153 #[.int .i64 n] w fun e w' => e = .returned (.int .u64 (n.natAbs : Int)) ∧ w = w' := by
  by_cases h : n < 0
  · go_enter Try.func153, Try.ntmps153
    go_wp2
    go_ret
    refine ⟨?_, rfl⟩
    show Ending.returned (Value.int IntKind.u64 (IntKind.u64.wrap (-IntKind.u64.wrap n))) = _
    rw [wrap_neg n h1 h]
  · go_enter Try.func153, Try.ntmps153
    go_wp2
    go_ret
    refine ⟨?_, rfl⟩
    show Ending.returned (Value.int IntKind.u64 n) = _
    exact ret_int (by omega)

theorem abs_any (n : Int) (w : World) (h1 : -9223372036854775808 ≤ n) (h2 : n ≤ 9223372036854775807) :
    Calls Try.prog 103 #[.int .i64 n] w fun e w' => e = .returned (.int .u64 (n.natAbs : Int)) ∧ w = w' := by
  by_cases h : n < 0
  · go_enter Try.func103, Try.ntmps103
    go_wp2
    go_ret
    refine ⟨?_, rfl⟩
    exact ret_int (by omega)
  · go_enter Try.func103, Try.ntmps103
    go_wp2
    go_ret
    refine ⟨?_, rfl⟩
    exact ret_int (by omega)

set_option maxHeartbeats 400000 in
theorem gcd_any (a b : Nat) (w : World) (h1 : a ≤ 18446744073709551615) (h2 : b ≤ 18446744073709551615) :
    Calls Try.prog 154 #[.int .u64 a, .int .u64 b] w fun e w' => e = .returned (.int .u64 (Nat.gcd a b : Int)) ∧ ∃ n, w' = w.drewN n := by
  go_enter Try.func154, Try.ntmps154
  go_wp2
  go_loopw [0, 1] (fun x y wr => ∃ a' b' n : Nat, x = .int .u64 a' ∧ y = .int .u64 b' ∧ a' ≤ 18446744073709551615 ∧ b' ≤ 18446744073709551615 ∧ Hid (Nat.gcd a' b' = Nat.gcd a b) ∧ wr = w.drewN n) (fun _ y _ => (intOf y).toNat)
  case atStart => exact ⟨a, b, 0, rfl, rfl, h1, h2, rfl, rfl⟩
  case round =>
    obtain ⟨a', b', n, rfl, rfl, ha, hb, hg, rfl⟩ := hrel
    by_cases hz : b' = 0
    · subst hz
      go_wp2
      go_ret
      exact ⟨ret_int (by have := hg.out; simp at this; simpa using congrArg Int.ofNat this), n, rfl⟩
    · have hz' : ((b' : Int) == 0) = false := by simp; omega
      have hz2 : ((b' : Int) != 0) = true := by simp; omega
      have hm := Nat.mod_lt a' (show b' > 0 by omega)
      have hG : Hid (Nat.gcd b' (a' % b') = Nat.gcd a b) := by
        have := hg.out; rw [Nat.gcd_comm, Nat.gcd_rec] at this; rw [Nat.gcd_comm]; exact this
      go_wp2
      go_quiet (fail)
      go_wp2
      go_roundw
      case rel => exact ⟨b', a' % b', n + nq, rfl, by go_num, hb, by omega, hG, by simp⟩
      case measure => simp [intOf]; omega

set_option maxHeartbeats 400000 in
theorem rgcd_any (a b : Nat) (w : World) (h1 : a ≤ 18446744073709551615) (h2 : b ≤ 18446744073709551615) :
    Calls Try.prog 102 #[.int .u64 a, .int .u64 b] w fun e w' => e = .returned (.int .u64 (Nat.gcd a b : Int)) ∧ ∃ n, w' = w.drewN n := by
  go_enter Try.func102, Try.ntmps102
  go_wp2
  go_loopw [0, 1] (fun x y wr => ∃ a' b' n : Nat, x = .int .u64 a' ∧ y = .int .u64 b' ∧ a' ≤ 18446744073709551615 ∧ b' ≤ 18446744073709551615 ∧ Hid (Nat.gcd a' b' = Nat.gcd a b) ∧ wr = w.drewN n) (fun _ y _ => (intOf y).toNat)
  case atStart => exact ⟨a, b, 0, rfl, rfl, h1, h2, rfl, rfl⟩
  case round =>
    obtain ⟨a', b', n, rfl, rfl, ha, hb, hg, rfl⟩ := hrel
    by_cases hz : b' = 0
    · subst hz
      go_wp2
      go_ret
      exact ⟨ret_int (by have := hg.out; simp at this; simpa using congrArg Int.ofNat this), n, rfl⟩
    · have hz' : ((b' : Int) == 0) = false := by simp; omega
      have hz2 : ((b' : Int) != 0) = true := by simp; omega
      have hm := Nat.mod_lt a' (show b' > 0 by omega)
      have hG : Hid (Nat.gcd b' (a' % b') = Nat.gcd a b) := by
        have := hg.out; rw [Nat.gcd_comm, Nat.gcd_rec] at this; rw [Nat.gcd_comm]; exact this
      go_wp2
      go_quiet (fail)
      go_wp2
      go_roundw
      case rel => exact ⟨b', a' % b', n + nq, rfl, by go_num, hb, by omega, hG, by simp⟩
      case measure => simp [intOf]; omega

theorem gcd_of (a b : Int) (x y : Nat) (w : World) (ha : a = x) (hb : b = y) (h1 : x ≤ 18446744073709551615) (h2 : y ≤ 18446744073709551615) :
    Calls Try.prog 154 #[.int .u64 a, .int .u64 b] w fun e w' => e = .returned (.int .u64 (Nat.gcd x y : Int)) ∧ ∃ n, w' = w.drewN n := by
  subst ha hb; exact gcd_any x y w h1 h2
theorem rgcd_of (a b : Int) (x y : Nat) (w : World) (ha : a = x) (hb : b = y) (h1 : x ≤ 18446744073709551615) (h2 : y ≤ 18446744073709551615) :
    Calls Try.prog 102 #[.int .u64 a, .int .u64 b] w fun e w' => e = .returned (.int .u64 (Nat.gcd x y : Int)) ∧ ∃ n, w' = w.drewN n := by
  subst ha hb; exact rgcd_any x y w h1 h2

/-- A fraction's numbers are valid: in lowest terms, within 10^18. -/
def fokB (n d : Int) : Bool := decide (1 ≤ d) && decide (d ≤ 1000000000000000000) && decide (-1000000000000000000 ≤ n) && decide (n ≤ 1000000000000000000) && Nat.gcd n.natAbs d.natAbs == 1
/-- The error of a fraction: 8 or 0. -/
def fchk (n d : Int) : Int := if fokB n d then 0 else 8

theorem fchk_no {n d : Int} (h : ¬ (1 ≤ d ∧ d ≤ 1000000000000000000 ∧ -1000000000000000000 ≤ n ∧ n ≤ 1000000000000000000)) : fchk n d = 8 := by
  unfold fchk fokB; rw [if_neg]; simp; omega
theorem fchk_gcd {n d : Int} (h1 : 1 ≤ d) (h2 : d ≤ 1000000000000000000) (h3 : -1000000000000000000 ≤ n) (h4 : n ≤ 1000000000000000000) : fchk n d = if Nat.gcd n.natAbs d.natAbs = 1 then 0 else 8 := by
  unfold fchk fokB; simp [h1, h2, h3, h4]

set_option maxHeartbeats 400000 in
theorem check_any (n d : Int) (w : World) (h1 : i64 n) (h2 : i64 d) :
    Calls Try.prog 125 #[.agg #[.int .i64 n, .int .i64 d]] w fun e w' => e = .returned (.int .i64 (fchk n d)) ∧ Below w.heap.size w w' := by
  obtain ⟨n1, n2⟩ := h1
  obtain ⟨d1, d2⟩ := h2
  by_cases hv : 1 ≤ d ∧ d ≤ 1000000000000000000 ∧ -1000000000000000000 ≤ n ∧ n ≤ 1000000000000000000
  · have H := Lib.hid (fchk_gcd hv.1 hv.2.1 hv.2.2.1 hv.2.2.2)
    obtain ⟨v1, v2, v3, v4⟩ := hv
    by_cases hg : Nat.gcd n.natAbs d.natAbs = 1
    · have b1 : (((Nat.gcd n.natAbs d.natAbs : Nat) : Int) != 1) = false := by simp [hg]
      have HV : Hid (fchk n d = 0) := by show fchk n d = 0; rw [H.out, if_pos hg]
      clear hg H
      go_enter Try.func125, Try.ntmps125
      go_wp2
      go_quiet (first | (go_at_call 153; exact Calls.quiet_same (size_any _ _ (by omega) (by omega))) | (go_at_call 154; refine Calls.quiet_of (gcd_any n.natAbs d.natAbs _ (by omega) (by omega))))
      go_wp2
      go_ret
      exact ⟨by rw [HV.out]; rfl, ((Below.refl _ _).alloc (Nat.le_refl _) _).trans ((below_drewN _ _).mono (by simp))⟩
    · have b1 : (((Nat.gcd n.natAbs d.natAbs : Nat) : Int) != 1) = true := by simp; omega
      have HV : Hid (fchk n d = 8) := by show fchk n d = 8; rw [H.out, if_neg hg]
      clear hg H
      go_enter Try.func125, Try.ntmps125
      go_wp2
      go_quiet (first | (go_at_call 153; exact Calls.quiet_same (size_any _ _ (by omega) (by omega))) | (go_at_call 154; refine Calls.quiet_of (gcd_any n.natAbs d.natAbs _ (by omega) (by omega))))
      go_wp2
      go_ret
      exact ⟨by rw [HV.out]; rfl, ((Below.refl _ _).alloc (Nat.le_refl _) _).trans ((below_drewN _ _).mono (by simp))⟩
  · have H := Lib.hid (fchk_no hv)
    go_enter Try.func125, Try.ntmps125
    go_wp2
    all_goals first | (exfalso; omega) | skip
    all_goals
      go_ret
      exact ⟨by rw [H.out]; rfl, (Below.refl _ _).alloc (Nat.le_refl _) _⟩

set_option maxHeartbeats 800000 in
theorem rcheck_any (n d : Int) (w : World) (h1 : i64 n) (h2 : i64 d) :
    Calls Try.prog 46 #[.agg #[.int .i64 n, .int .i64 d]] w fun e w' => e = .returned (.int .i64 (fchk n d)) ∧ Below w.heap.size w w' := by
  obtain ⟨n1, n2⟩ := h1
  obtain ⟨d1, d2⟩ := h2
  by_cases v1 : 1 ≤ d
  · by_cases v2 : d ≤ 1000000000000000000
    · by_cases v3 : -1000000000000000000 ≤ n
      · by_cases v4 : n ≤ 1000000000000000000
        · have H := Lib.hid (fchk_gcd v1 v2 v3 v4)
          have e1 : decide (d < 1) = false := by simp; omega
          have e2 : decide (1000000000000000000 < d) = false := by simp; omega
          have e3 : decide (n < -1000000000000000000) = false := by simp; omega
          have e4 : decide (1000000000000000000 < n) = false := by simp; omega
          by_cases hg : Nat.gcd n.natAbs d.natAbs = 1
          · have b1 : (((Nat.gcd n.natAbs d.natAbs : Nat) : Int) != 1) = false := by simp [hg]
            have HV : Hid (fchk n d = 0) := by show fchk n d = 0; rw [H.out, if_pos hg]
            clear hg H
            go_enter Try.func46, Try.ntmps46
            go_wp2
            go_quiet (first | (go_at_call 103; exact Calls.quiet_same (abs_any _ _ (by omega) (by omega))) | (go_at_call 102; exact Calls.quiet_of (rgcd_of _ _ n.natAbs d.natAbs _ rfl (by omega) (by omega) (by omega))))
            go_wp2
            go_ret
            exact ⟨by rw [HV.out]; rfl, ((Below.refl _ _).alloc (Nat.le_refl _) _).trans ((below_drewN _ _).mono (by simp))⟩
          · have b1 : (((Nat.gcd n.natAbs d.natAbs : Nat) : Int) != 1) = true := by simp; omega
            have HV : Hid (fchk n d = 8) := by show fchk n d = 8; rw [H.out, if_neg hg]
            clear hg H
            go_enter Try.func46, Try.ntmps46
            go_wp2
            go_quiet (first | (go_at_call 103; exact Calls.quiet_same (abs_any _ _ (by omega) (by omega))) | (go_at_call 102; exact Calls.quiet_of (rgcd_of _ _ n.natAbs d.natAbs _ rfl (by omega) (by omega) (by omega))))
            go_wp2
            go_ret
            exact ⟨by rw [HV.out]; rfl, ((Below.refl _ _).alloc (Nat.le_refl _) _).trans ((below_drewN _ _).mono (by simp))⟩
        · have H := Lib.hid (fchk_no (n := n) (d := d) (by omega))
          have e1 : decide (d < 1) = false := by simp; omega
          have e2 : decide (1000000000000000000 < d) = false := by simp; omega
          have e3 : decide (n < -1000000000000000000) = false := by simp; omega
          have e4 : decide (1000000000000000000 < n) = true := by simp; omega
          go_enter Try.func46, Try.ntmps46
          go_wp2
          go_quiet (fail)
          go_wp2
          go_ret
          exact ⟨by rw [H.out]; rfl, ((Below.refl _ _).alloc (Nat.le_refl _) _).trans ((below_drewN _ _).mono (by simp))⟩
      · have H := Lib.hid (fchk_no (n := n) (d := d) (by omega))
        have e1 : decide (d < 1) = false := by simp; omega
        have e2 : decide (1000000000000000000 < d) = false := by simp; omega
        have e3 : decide (n < -1000000000000000000) = true := by simp; omega
        go_enter Try.func46, Try.ntmps46
        go_wp2
        go_quiet (fail)
        go_wp2
        go_ret
        exact ⟨by rw [H.out]; rfl, ((Below.refl _ _).alloc (Nat.le_refl _) _).trans ((below_drewN _ _).mono (by simp))⟩
    · have H := Lib.hid (fchk_no (n := n) (d := d) (by omega))
      have e1 : decide (d < 1) = false := by simp; omega
      have e2 : decide (1000000000000000000 < d) = true := by simp; omega
      go_enter Try.func46, Try.ntmps46
      go_wp2
      go_quiet (fail)
      go_wp2
      go_ret
      exact ⟨by rw [H.out]; rfl, ((Below.refl _ _).alloc (Nat.le_refl _) _).trans ((below_drewN _ _).mono (by simp))⟩
  · have H := Lib.hid (fchk_no (n := n) (d := d) (by omega))
    have e1 : decide (d < 1) = true := by simp; omega
    go_enter Try.func46, Try.ntmps46
    go_wp2
    go_quiet (fail)
    go_wp2
    go_ret
    exact ⟨by rw [H.out]; rfl, ((Below.refl _ _).alloc (Nat.le_refl _) _).trans ((below_drewN _ _).mono (by simp))⟩

end Go.Proofs.Ythlcmlngmcoknaa

/- What is proved here: the cells of a square of three by three numbers, and of three numbers, and storing one of them. No condition. -/
namespace Go.Proofs.Ythlcmlngmcoknaa
open Go.RowKit

/-- The cells of a square. -/
def mcs (f : Nat → Nat → Int) : List Value := (List.range 9).map fun p => .int .i64 (f (p / 3) (p % 3))
/-- The cells of three numbers. -/
def lcs (f : Nat → Int) : List Value := (List.range 3).map fun p => .int .i64 (f p)
theorem mcs_is (f : Nat → Nat → Int) : mcs f = [.int .i64 (f 0 0), .int .i64 (f 0 1), .int .i64 (f 0 2), .int .i64 (f 1 0), .int .i64 (f 1 1), .int .i64 (f 1 2), .int .i64 (f 2 0), .int .i64 (f 2 1), .int .i64 (f 2 2)] := rfl
theorem lcs_is (f : Nat → Int) : lcs f = [.int .i64 (f 0), .int .i64 (f 1), .int .i64 (f 2)] := rfl
theorem mcs_get (f : Nat → Nat → Int) {k l : Nat} (hk : k < 3) (hl : l < 3) : (mcs f)[k * 3 + l]? = some (.int .i64 (f k l)) := by
  rcases (by omega : k = 0 ∨ k = 1 ∨ k = 2) with rfl | rfl | rfl <;> rcases (by omega : l = 0 ∨ l = 1 ∨ l = 2) with rfl | rfl | rfl <;> rfl
theorem lcs_get (f : Nat → Int) {k : Nat} (hk : k < 3) : (lcs f)[k]? = some (.int .i64 (f k)) := by
  rcases (by omega : k = 0 ∨ k = 1 ∨ k = 2) with rfl | rfl | rfl <;> rfl
/-- A square with one number changed. -/
def mput (f : Nat → Nat → Int) (k l : Nat) (v : Int) (i j : Nat) : Int := if i = k ∧ j = l then v else f i j
def lput (f : Nat → Int) (k : Nat) (v : Int) (i : Nat) : Int := if i = k then v else f i
theorem mcs_set (f : Nat → Nat → Int) {k l : Nat} (hk : k < 3) (hl : l < 3) (v : Int) : (mcs f).set (k * 3 + l) (.int .i64 v) = mcs (mput f k l v) := by
  rcases (by omega : k = 0 ∨ k = 1 ∨ k = 2) with rfl | rfl | rfl <;> rcases (by omega : l = 0 ∨ l = 1 ∨ l = 2) with rfl | rfl | rfl <;> rfl
theorem lcs_set (f : Nat → Int) {k : Nat} (hk : k < 3) (v : Int) : (lcs f).set k (.int .i64 v) = lcs (lput f k v) := by
  rcases (by omega : k = 0 ∨ k = 1 ∨ k = 2) with rfl | rfl | rfl <;> rfl
theorem mcs_congr {f g : Nat → Nat → Int} (h : ∀ i, i < 3 → ∀ j, j < 3 → f i j = g i j) : mcs f = mcs g := by
  rw [mcs_is, mcs_is, h 0 (by omega) 0 (by omega), h 0 (by omega) 1 (by omega), h 0 (by omega) 2 (by omega), h 1 (by omega) 0 (by omega), h 1 (by omega) 1 (by omega), h 1 (by omega) 2 (by omega), h 2 (by omega) 0 (by omega), h 2 (by omega) 1 (by omega), h 2 (by omega) 2 (by omega)]
theorem lcs_congr {f g : Nat → Int} (h : ∀ i, i < 3 → f i = g i) : lcs f = lcs g := by
  rw [lcs_is, lcs_is, h 0 (by omega), h 1 (by omega), h 2 (by omega)]
/-- Nine cells of one block and three of another are stored. -/
def refilled (W : World) (G C : Nat) (v0 v1 v2 v3 v4 v5 v6 v7 v8 u0 u1 u2 : Value) : World :=
  (((((((((((W.setCell ⟨G, 0, none⟩ v0).setCell ⟨G, 1, none⟩ v1).setCell ⟨G, 2, none⟩ v2).setCell ⟨G, 3, none⟩ v3).setCell ⟨G, 4, none⟩ v4).setCell ⟨G, 5, none⟩ v5).setCell ⟨G, 6, none⟩ v6).setCell ⟨G, 7, none⟩ v7).setCell ⟨G, 8, none⟩ v8).setCell ⟨C, 0, none⟩ u0).setCell ⟨C, 1, none⟩ u1).setCell ⟨C, 2, none⟩ u2
theorem refill_own {B : Nat} {w W : World} {G C : Nat} {T U : TypeId} {v0 v1 v2 v3 v4 v5 v6 v7 v8 u0 u1 u2 : Value} (hG : Own W G T [v0, v1, v2, v3, v4, v5, v6, v7, v8]) (hC : Own W C U [u0, u1, u2]) (hne : G ≠ C) (h : Below B w W) (h1 : B ≤ G) (h2 : B ≤ C) :
    Own (refilled W G C v0 v1 v2 v3 v4 v5 v6 v7 v8 u0 u1 u2) G T [v0, v1, v2, v3, v4, v5, v6, v7, v8] ∧ Own (refilled W G C v0 v1 v2 v3 v4 v5 v6 v7 v8 u0 u1 u2) C U [u0, u1, u2] ∧ Below B w (refilled W G C v0 v1 v2 v3 v4 v5 v6 v7 v8 u0 u1 u2) :=
  ⟨(((((((((((hG.set 0 v0).set 1 v1).set 2 v2).set 3 v3).set 4 v4).set 5 v5).set 6 v6).set 7 v7).set 8 v8).other hne 0 u0).other hne 1 u1).other hne 2 u2,
   (((((((((((hC.other hne.symm 0 v0).other hne.symm 1 v1).other hne.symm 2 v2).other hne.symm 3 v3).other hne.symm 4 v4).other hne.symm 5 v5).other hne.symm 6 v6).other hne.symm 7 v7).other hne.symm 8 v8).set 0 u0).set 1 u1).set 2 u2,
   (((((((((((h.setCell (p := ⟨G, 0, none⟩) h1 v0).setCell (p := ⟨G, 1, none⟩) h1 v1).setCell (p := ⟨G, 2, none⟩) h1 v2).setCell (p := ⟨G, 3, none⟩) h1 v3).setCell (p := ⟨G, 4, none⟩) h1 v4).setCell (p := ⟨G, 5, none⟩) h1 v5).setCell (p := ⟨G, 6, none⟩) h1 v6).setCell (p := ⟨G, 7, none⟩) h1 v7).setCell (p := ⟨G, 8, none⟩) h1 v8).setCell (p := ⟨C, 0, none⟩) h2 u0).setCell (p := ⟨C, 1, none⟩) h2 u1).setCell (p := ⟨C, 2, none⟩) h2 u2⟩
end Go.Proofs.Ythlcmlngmcoknaa

/- What is proved here: what making a row of numbers gives. Condition: at most 100,000 numbers. -/
namespace Go.Proofs.Ythlcmlngmcoknaa
open Go.RowKit

theorem Try.infoInt : (Try.prog.info? 3).map (fun i => (i.zero, i.size, i.bytes)) = some (some (.int .i64 0), 1, 8) := by kernel_rfl
/-- The cells of numbers. -/
def ics (xs : List Int) : List Value := xs.map (Value.int .i64)
theorem ics_len (xs : List Int) : (ics xs).length = xs.length := by simp [ics]
theorem made_ints (n : Nat) : madeCells (Value.int .i64 0).cells (n * 1) = (ics (List.replicate n 0)).toArray := by
  apply Array.ext
  · simp [size_madeCells, ics]
  · intro i h1 h2
    simp [madeCells, Value.cells, Nat.mod_one, ics]
theorem mk_ints (n : Nat) (hn : n ≤ 100000) (w : World) : (Instr.makeSlice 23 (.int .i64 (n : Int)) (.int .i64 (n : Int))).run Try.prog w = .ok (.slice (some ⟨w.heap.size, 0, none⟩) n n) (w.alloc (.cells (ics (List.replicate n 0)).toArray 3)) := by
  obtain ⟨i0, hi, hz0, hz1, hz2⟩ := info_parts Try.infoInt
  have h := run_make w 23 3 i0 (.int .i64 0) Try.underlying23 hi hz0 .i64 .i64 (n : Int) (n : Int) (by omega) (by omega) (by rw [hz2]; omega) (by omega)
  rw [Int.toNat_natCast, hz1, made_ints] at h
  exact h
theorem ics_some (xs : List Int) (i : Nat) (h : i < xs.length) : ∃ v, (ics xs)[i]? = some v := ⟨_, by simp [ics, h]; rfl⟩
end Go.Proofs.Ythlcmlngmcoknaa
