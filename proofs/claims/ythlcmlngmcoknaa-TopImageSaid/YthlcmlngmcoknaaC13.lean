/- What is proved here: contracts of functions and plain facts, several texts in one; each one says ahead what it proves, and its conditions. -/
import Derived.Test.YthlcmlngmcoknaaC11
import Derived.Test.YthlcmlngmcoknaaC02
import Derived.Test.YthlcmlngmcoknaaProg
import Derived.WalkKit
import Derived.WalkMore
import Derived.OwnWalkIn
import Derived.IntWalk
import Derived.Deep.DeepCutAuto
import Derived.Test.YthlcmlngmcoknaaC06
/- What is proved here: the contracts of the reference's Cleaning, Same, Beam and Image of layer 40. Condition: images that can be read. -/
namespace Go.Proofs.Ythlcmlngmcoknaa
open Go.RowKit

/-- A Bool that tells whether something holds. -/
def bool_post (w : World) (p : Prop) (e : Ending) (w' : World) : Prop := ∃ r : Bool, e = .returned (.bool r) ∧ (r = true ↔ p) ∧ Below w.heap.size w w'
def cleanB (a b c d : Int) : Bool := decide (1 ≤ a) && decide (a ≤ b) && decide (b ≤ 10) && decide (1 ≤ c) && decide (c ≤ 1000000) && decide (0 ≤ d) && decide (d ≤ 100)
set_option maxRecDepth 100000 in
set_option maxHeartbeats 4000000 in
theorem rcleaning_any (a b c d : Int) (w : World) : Calls Try.prog 31 #[.agg #[.int .i64 a, .int .i64 b, .int .i64 c, .int .i64 d]] w fun e w' => e = .returned (.bool (cleanB a b c d)) ∧ Below w.heap.size w w' := by
  unfold cleanB
  have oR := Own.new w 56 [.int .i64 a, .int .i64 b, .int .i64 c, .int .i64 d]
  have hB := ba1 w (.cells #[.int .i64 a, .int .i64 b, .int .i64 c, .int .i64 d] 56)
  go_enter Try.func31, Try.ntmps31
  go_upto_region 1 with fail
  generalize w.alloc (.cells #[.int .i64 a, .int .i64 b, .int .i64 c, .int .i64 d] 56) = y at *
  obtain ⟨rR, fR⟩ := oR.rules
  have zR := oR.lt
  by_cases h1 : 1 ≤ a
  case neg =>
    go_wp2
    go_ret
    exact ⟨by simp; omega, hB⟩
  by_cases h2 : a ≤ b
  case neg =>
    go_wp2
    go_ret
    exact ⟨by simp; omega, hB⟩
  by_cases h3 : b ≤ 10
  case neg =>
    go_wp2
    go_ret
    exact ⟨by simp; omega, hB⟩
  by_cases h4 : 1 ≤ c
  case neg =>
    go_wp2
    go_ret
    exact ⟨by simp; omega, hB⟩
  by_cases h5 : c ≤ 1000000
  case neg =>
    go_wp2
    go_ret
    exact ⟨by simp; omega, hB⟩
  by_cases h6 : 0 ≤ d
  case neg =>
    go_wp2
    go_ret
    exact ⟨by simp; omega, hB⟩
  by_cases h7 : d ≤ 100
  case neg =>
    go_wp2
    go_ret
    exact ⟨by simp; omega, hB⟩
  go_wp2
  go_ret
  exact ⟨by simp [h1, h2, h3, h4, h5, h6, h7], hB⟩
set_option maxRecDepth 100000 in
set_option maxHeartbeats 4000000 in
theorem rsame40_any (n : Nat) (M : Nat → Nat → Int) (va vb : Value) (w : World) (hA : IM w va n M) (hB : IM w vb n M) :
    Calls Try.prog 35 #[va, vb] w fun e w' => e = .returned (.bool true) ∧ Below w.heap.size w w' := by
  have A0 := Lib.hid hA
  have B0 := Lib.hid hB
  obtain ⟨ada, capa, rfl, ha1, n1, _⟩ := hA.open
  obtain ⟨adb, capb, rfl, hb1, _, _⟩ := hB.open
  clear hA hB
  have b1 : ((n : Int) != (n : Int)) = false := by simp
  go_enter Try.func35, Try.ntmps35
  go_wp2
  go_loopw [5] (fun iv wr => ∃ y : Nat, y ≤ n ∧ iv = .int .i64 y ∧ Below w.heap.size w wr) (fun iv _ => n - (intOf iv).toNat)
  case atStart => exact ⟨0, Nat.zero_le _, rfl, Below.refl _ _⟩
  case round =>
    obtain ⟨y, hy, rfl, hC⟩ := hrel
    rename World => V
    by_cases hlt : y < n
    · obtain ⟨_, _, e, _, _, HA⟩ := (A0.out.below hC).open
      cases e
      obtain ⟨_, _, e, _, _, HB⟩ := (B0.out.below hC).open
      cases e
      obtain ⟨ba, oa, ba', oa', ca', rfl, ca1, ca2, HA'⟩ := HA.out y hlt
      obtain ⟨bb, ob, bb', ob', cb', rfl, cb1, cb2, HB'⟩ := HB.out y hlt
      clear HA HB
      go_wp2
      go_quiet (fail)
      go_wp2
      go_loopw [6] (fun iv wr => ∃ x : Nat, x ≤ n ∧ iv = .int .i64 x ∧ Below V.heap.size V wr) (fun iv _ => n - (intOf iv).toNat)
      case atStart => exact ⟨0, Nat.zero_le _, rfl, below_drewN _ _⟩
      case round =>
        obtain ⟨x, hx, rfl, hD⟩ := hrel
        rename World => U
        replace ca1 := below_cell hD ca1
        replace cb1 := below_cell hD cb1
        by_cases hxl : x < n
        · have ca3 := below_cell hD (HA'.out x hxl)
          have cb3 := below_cell hD (HB'.out x hxl)
          generalize M y x = z at *
          have b2 : (z != z) = false := by simp
          go_wp2
          go_quiet (fail)
          go_wp2
          go_roundw
          case rel => exact ⟨x + 1, by omega, by go_num, bd hD _⟩
          case measure => simp [intOf]; try omega
        · obtain rfl : x = n := by omega
          go_wp2
          go_roundw
          case rel => exact ⟨y + 1, by omega, by go_num, below_to hC hD⟩
          case measure => simp [intOf]; try omega
    · obtain rfl : y = n := by omega
      go_wp2
      go_ret
      exact ⟨rfl, hC⟩
set_option maxRecDepth 100000 in
set_option maxHeartbeats 4000000 in
theorem rbeam_any (n m : Nat) (M : Nat → Nat → Int) (va : Value) (w : World) (hA : IM w va m M) (n1 : 1 ≤ n) (n8 : n ≤ 8) (hm : m = 2 * n - 1) (hr : inR 1000 m M) (hc : 0 < M (n - 1) (n - 1)) :
    Calls Try.prog 36 #[va, .int .i64 n] w fun e w' => e = .returned (.bool true) ∧ Below w.heap.size w w' := by
  have A0 := Lib.hid hA
  have HR := Lib.hid hr
  obtain ⟨ada, capa, rfl, ha1, _, _⟩ := hA.open
  clear hA hr
  have b1 : ((m : Int) != 2 * (n : Int) - 1) = false := by simp; omega
  go_enter Try.func36, Try.ntmps36
  go_wp2
  go_loopw [5] (fun iv wr => ∃ y : Nat, y ≤ m ∧ iv = .int .i64 y ∧ Below w.heap.size w wr) (fun iv _ => m - (intOf iv).toNat)
  case atStart => exact ⟨0, Nat.zero_le _, rfl, Below.refl _ _⟩
  case round =>
    obtain ⟨y, hy, rfl, hC⟩ := hrel
    rename World => V
    obtain ⟨_, _, e, _, _, HA⟩ := (A0.out.below hC).open
    cases e
    by_cases hlt : y < m
    · obtain ⟨ba, oa, ba', oa', ca', rfl, ca1, ca2, HA'⟩ := HA.out y hlt
      clear HA
      go_wp2
      go_loopw [6] (fun iv wr => ∃ x : Nat, x ≤ m ∧ iv = .int .i64 x ∧ Below V.heap.size V wr) (fun iv _ => m - (intOf iv).toNat)
      case atStart => exact ⟨0, Nat.zero_le _, rfl, Below.refl _ _⟩
      case round =>
        obtain ⟨x, hx, rfl, hD⟩ := hrel
        rename World => U
        replace ca1 := below_cell hD ca1
        by_cases hxl : x < m
        · have ca3 := below_cell hD (HA'.out x hxl)
          have RB := HR.out y x hlt hxl
          generalize M y x = z at *
          have g1 : decide (z < -1000) = false := by simp; omega
          have g2 : decide (1000 < z) = false := by simp; omega
          go_wp2
          go_roundw
          case rel => exact ⟨x + 1, by omega, by go_num, hD⟩
          case measure => simp [intOf]; try omega
        · obtain rfl : x = m := by omega
          go_wp2
          go_roundw
          case rel => exact ⟨y + 1, by omega, by go_num, below_to hC hD⟩
          case measure => simp [intOf]; try omega
    · obtain rfl : y = m := by omega
      obtain ⟨ba, oa, ba', oa', ca', rfl, ca1, ca2, HA'⟩ := HA.out (n - 1) (by omega)
      have ca3 := HA'.out (n - 1) (by omega)
      clear HA HA'
      generalize M (n - 1) (n - 1) = z at *
      have e1 : (n : Int) - 1 = ((n - 1 : Nat) : Int) := by omega
      generalize n - 1 = q at *
      go_wp2
      go_ret
      exact ⟨by simp, hC⟩
set_option maxRecDepth 100000 in
set_option maxHeartbeats 4000000 in
theorem rimage_any (n : Nat) (t : Int) (M : Nat → Nat → Int) (va : Value) (w : World) (hA : IM w va n M) (n1 : 1 ≤ n) (n8 : n ≤ 8) (t0 : 0 ≤ t) (t1 : t ≤ 1000000000) :
    Calls Try.prog 37 #[va, .int .i64 t] w (bool_post w (inR t n M)) := by
  have A0 := Lib.hid hA
  obtain ⟨ada, capa, rfl, ha1, _, _⟩ := hA.open
  clear hA
  have b1 : decide ((n : Int) < 1) = false := by simp; omega
  have b2 : decide (8 < (n : Int)) = false := by simp; omega
  have b3 : ((n : Int) != (n : Int)) = false := by simp
  go_enter Try.func37, Try.ntmps37
  go_wp2
  go_loopw [5] (fun iv wr => ∃ y : Nat, y ≤ n ∧ iv = .int .i64 y ∧ Hid (∀ v u, v < y → u < n → -t ≤ M v u ∧ M v u ≤ t) ∧ Below w.heap.size w wr) (fun iv _ => n - (intOf iv).toNat)
  case atStart => exact ⟨0, Nat.zero_le _, rfl, fun v u h => absurd h (Nat.not_lt_zero _), Below.refl _ _⟩
  case round =>
    obtain ⟨y, hy, rfl, hR, hC⟩ := hrel
    rename World => V
    by_cases hlt : y < n
    · obtain ⟨_, _, e, _, _, HA⟩ := (A0.out.below hC).open
      cases e
      obtain ⟨ba, oa, ba', oa', ca', rfl, ca1, ca2, HA'⟩ := HA.out y hlt
      clear HA
      go_wp2
      go_loopw [6] (fun iv wr => ∃ x : Nat, x ≤ n ∧ iv = .int .i64 x ∧ Hid (∀ u, u < x → -t ≤ M y u ∧ M y u ≤ t) ∧ Below V.heap.size V wr) (fun iv _ => n - (intOf iv).toNat)
      case atStart => exact ⟨0, Nat.zero_le _, rfl, fun u h => absurd h (Nat.not_lt_zero _), Below.refl _ _⟩
      case round =>
        obtain ⟨x, hx, rfl, hX, hD⟩ := hrel
        rename World => U
        replace ca1 := below_cell hD ca1
        by_cases hxl : x < n
        · have ca3 := below_cell hD (HA'.out x hxl)
          have NO : Hid (¬ (-t ≤ M y x ∧ M y x ≤ t) → ¬ inR t n M) := fun h h2 => h (h2 y x hlt hxl)
          have YES : Hid ((-t ≤ M y x ∧ M y x ≤ t) → ∀ u, u < x + 1 → -t ≤ M y u ∧ M y u ≤ t) := fun h u hu => by
            rcases Nat.lt_or_ge u x with h1 | h1
            · exact hX.out u h1
            · obtain rfl : u = x := by omega
              exact h
          generalize M y x = z at *
          have wt : wrap64 (-t) = -t := Go.IntWalk.wrap64_in _ (by omega)
          by_cases g1 : z < -t
          · have q1 : decide (z < -t) = true := by simpa using g1
            have HN := Lib.hid (NO.out (by omega))
            go_wp2
            refine bodyPost_ret (v := .bool false) (by simp [results, Try.results37, go_sem]) rfl ⟨false, rfl, ⟨fun h => (by cases h), fun h => absurd h HN.out⟩, below_to hC hD⟩
          have q1 : decide (z < -t) = false := by simpa using g1
          by_cases g2 : t < z
          · have q2 : decide (t < z) = true := by simpa using g2
            have HN := Lib.hid (NO.out (by omega))
            go_wp2
            refine bodyPost_ret (v := .bool false) (by simp [results, Try.results37, go_sem]) rfl ⟨false, rfl, ⟨fun h => (by cases h), fun h => absurd h HN.out⟩, below_to hC hD⟩
          have q2 : decide (t < z) = false := by simpa using g2
          have HY := Lib.hid (YES.out (by omega))
          clear g1 g2
          go_wp2
          go_roundw
          case rel => exact ⟨x + 1, by omega, by go_num, HY, hD⟩
          case measure => simp [intOf]; try omega
        · obtain rfl : x = n := by omega
          go_wp2
          go_roundw
          case rel =>
            refine ⟨y + 1, by omega, by go_num, fun v u hv hu => ?_, below_to hC hD⟩
            rcases Nat.lt_or_ge v y with h1 | h1
            · exact hR.out v u h1 hu
            · obtain rfl : v = y := by omega
              exact hX.out u hu
          case measure => simp [intOf]; try omega
    · obtain rfl : y = n := by omega
      go_wp2
      refine bodyPost_ret (v := .bool true) (by simp [results, Try.results37, go_sem]) rfl ⟨true, rfl, ⟨fun _ => hR.out, fun _ => rfl⟩, hC⟩
end Go.Proofs.Ythlcmlngmcoknaa

/- What is proved here: the contracts of clean.inRange, isSquare, isImage, isBeam, Check and isLog, where what they ask holds. Condition: images and logs that can be read. -/
namespace Go.Proofs.Ythlcmlngmcoknaa
open Go.RowKit

def inB9 (v : Int) : Bool := decide (-1000000000 ≤ v) && decide (v ≤ 1000000000)
theorem inRange_any (v : Int) (w : World) : Calls Try.prog 130 #[.int .i64 v] w fun e w' => e = .returned (.bool (inB9 v)) ∧ w = w' := by
  unfold inB9
  by_cases h1 : -1000000000 ≤ v
  all_goals by_cases h2 : v ≤ 1000000000
  all_goals
    go_enter Try.func130, Try.ntmps130
    go_wp2
    go_ret
    exact ⟨by simp [h1, h2], rfl⟩
theorem inRange_of (v : Int) (b : Bool) (w : World) (h : inB9 v = b) : Calls Try.prog 130 #[.int .i64 v] w fun e w' => e = .returned (.bool b) ∧ w = w' := by
  subst h; exact inRange_any v w
theorem inB9_iff (v : Int) : inB9 v = true ↔ -1000000000 ≤ v ∧ v ≤ 1000000000 := by unfold inB9; simp
set_option maxRecDepth 100000 in
set_option maxHeartbeats 4000000 in
theorem isSquare_any (n : Nat) (t : Int) (M : Nat → Nat → Int) (va : Value) (w : World) (hA : IM w va n M) (n1 : 1 ≤ n) (t0 : 0 ≤ t) (t1 : t ≤ 1000000000) (hr : inR t n M) :
    Calls Try.prog 129 #[va, .int .i64 n, .int .i64 t] w fun e w' => e = .returned (.bool true) ∧ Below w.heap.size w w' := by
  have A0 := Lib.hid hA
  have HR := Lib.hid hr
  obtain ⟨ada, capa, rfl, ha1, _, _⟩ := hA.open
  clear hA hr
  have b3 : ((n : Int) != (n : Int)) = false := by simp
  go_enter Try.func129, Try.ntmps129
  go_wp2
  go_loopw [17] (fun iv wr => ∃ y : Nat, y ≤ n ∧ iv = .int .i64 y ∧ Below w.heap.size w wr) (fun iv _ => n - (intOf iv).toNat)
  case atStart => exact ⟨0, Nat.zero_le _, rfl, Below.refl _ _⟩
  case round =>
    obtain ⟨y, hy, rfl, hC⟩ := hrel
    rename World => V
    by_cases hlt : y < n
    · obtain ⟨_, _, e, _, _, HA⟩ := (A0.out.below hC).open
      cases e
      obtain ⟨ba, oa, ba', oa', ca', rfl, ca1, ca2, HA'⟩ := HA.out y hlt
      clear HA
      go_wp2
      go_loopw [27] (fun iv wr => ∃ x : Nat, x ≤ n ∧ iv = .int .i64 x ∧ Below V.heap.size V wr) (fun iv _ => n - (intOf iv).toNat)
      case atStart => exact ⟨0, Nat.zero_le _, rfl, Below.refl _ _⟩
      case round =>
        obtain ⟨x, hx, rfl, hD⟩ := hrel
        rename World => U
        by_cases hxl : x < n
        · have ca3 := below_cell hD (HA'.out x hxl)
          have RB := HR.out y x hlt hxl
          generalize M y x = z at *
          have wt : wrap64 (-t) = -t := Go.IntWalk.wrap64_in _ (by omega)
          have q1 : decide (z < -t) = false := by simp; omega
          have q2 : decide (t < z) = false := by simp; omega
          go_wp2
          go_roundw
          case rel => exact ⟨x + 1, by omega, by go_num, hD⟩
          case measure => simp [intOf]; try omega
        · obtain rfl : x = n := by omega
          go_wp2
          go_roundw
          case rel => exact ⟨y + 1, by omega, by go_num, below_to hC hD⟩
          case measure => simp [intOf]; try omega
    · obtain rfl : y = n := by omega
      go_wp2
      go_ret
      exact ⟨rfl, hC⟩
set_option maxHeartbeats 4000000 in
theorem isImage_any (n : Nat) (t : Int) (M : Nat → Nat → Int) (va : Value) (w : World) (hA : IM w va n M) (n1 : 1 ≤ n) (n8 : n ≤ 8) (t0 : 0 ≤ t) (t1 : t ≤ 1000000000) (hr : inR t n M) :
    Calls Try.prog 82 #[va, .int .i64 t] w fun e w' => e = .returned (.bool true) ∧ Below w.heap.size w w' := by
  have A0 := Lib.hid hA
  obtain ⟨ada, capa, rfl, ha1, _, _⟩ := hA.open
  clear hA
  have b1 : decide (1 ≤ (n : Int)) = true := by simp; omega
  have b2 : decide ((n : Int) ≤ 8) = true := by simp; omega
  go_enter Try.func82, Try.ntmps82
  go_wp2_with fail
  refine (isSquare_any n t M _ _ A0.out n1 t0 t1 hr).mono ?_
  rintro e w1 ⟨rfl, hb⟩
  go_wp2
  go_ret
  exact ⟨rfl, hb⟩
/-- A beam for n by n cells. -/
structure BM (n m : Nat) (M : Nat → Nat → Int) : Prop where
  n1 : 1 ≤ n
  n8 : n ≤ 8
  hm : m = 2 * n - 1
  rng : inR 1000 m M
  mid : 0 < M (n - 1) (n - 1)
set_option maxRecDepth 100000 in
set_option maxHeartbeats 4000000 in
theorem isBeam_any (n m : Nat) (M : Nat → Nat → Int) (va : Value) (w : World) (hA : IM w va m M) (hb : BM n m M) :
    Calls Try.prog 83 #[va, .int .i64 n] w fun e w' => e = .returned (.bool true) ∧ Below w.heap.size w w' := by
  have A0 := Lib.hid hA
  obtain ⟨n1, n8, hm, hr, hc⟩ := hb
  obtain ⟨ada, capa, rfl, ha1, _, _⟩ := hA.open
  clear hA
  have e2 : 2 * (n : Int) - 1 = (m : Int) := by omega
  have hnm : n - 1 < m := by omega
  have hm1 : 1 ≤ m := by omega
  clear hm
  go_enter Try.func83, Try.ntmps83
  go_wp2_with fail
  refine (isSquare_any m 1000 M _ _ A0.out hm1 (by omega) (by omega) hr).mono ?_
  rintro e w1 ⟨rfl, hB⟩
  obtain ⟨_, _, e, _, _, HA⟩ := (A0.out.below hB).open
  cases e
  obtain ⟨ba, oa, ba', oa', ca', rfl, ca1, ca2, HA'⟩ := HA.out (n - 1) hnm
  have ca3 := HA'.out (n - 1) hnm
  clear HA HA' hr
  generalize M (n - 1) (n - 1) = z at *
  have e1 : (n : Int) - 1 = ((n - 1 : Nat) : Int) := by omega
  generalize n - 1 = q at *
  go_wp2
  go_ret
  exact ⟨by simp, hB⟩
set_option maxRecDepth 100000 in
set_option maxHeartbeats 4000000 in
theorem cleanCheck_any (n m : Nat) (M N : Nat → Nat → Int) (a b c d : Int) (va vb : Value) (w : World) (hA : IM w va n M) (hB : IM w vb m N) (hb : BM n m N) (hr : inR 1000000 n M) (hc : cleanB a b c d = true) :
    Calls Try.prog 86 #[va, vb, .agg #[.int .i64 a, .int .i64 b, .int .i64 c, .int .i64 d]] w fun e w' => e = .returned (.int .i64 0) ∧ Below w.heap.size w w' := by
  unfold cleanB at hc
  simp only [Bool.and_eq_true, decide_eq_true_eq] at hc
  obtain ⟨⟨⟨⟨⟨⟨h1, h2⟩, h3⟩, h4⟩, h5⟩, h6⟩, h7⟩ := hc
  obtain ⟨ada, capa, rfl, ha1, _, _⟩ := hA.open
  have oR := Own.new w 56 [.int .i64 a, .int .i64 b, .int .i64 c, .int .i64 d]
  have hy := ba1 w (.cells #[.int .i64 a, .int .i64 b, .int .i64 c, .int .i64 d] 56)
  go_enter Try.func86, Try.ntmps86
  go_upto_region 1 with fail
  obtain ⟨bR, hbR⟩ : ∃ B, B = w.heap.size := ⟨_, rfl⟩
  rw [← hbR] at oR ⊢
  clear hbR
  generalize w.alloc (.cells #[.int .i64 a, .int .i64 b, .int .i64 c, .int .i64 d] 56) = y at *
  replace hA := hA.below hy
  replace hB := hB.below hy
  go_wp2_with fail
  refine (isImage_any n 1000000 M _ _ hA hb.n1 hb.n8 (by omega) (by omega) hr).mono ?_
  rintro e w1 ⟨rfl, hq⟩
  replace oR := oR.below hq
  replace hB := hB.below hq
  replace hy := below_to hy hq
  clear hq hA
  go_wp2_with fail
  refine (isBeam_any n m N _ _ hB hb).mono ?_
  rintro e w2 ⟨rfl, hq⟩
  replace oR := oR.below hq
  replace hy := below_to hy hq
  clear hq hB
  have q1 : decide (a < 1) = false := by simp; omega
  have q2 : decide (b < a) = false := by simp; omega
  have q3 : decide (10 < b) = false := by simp; omega
  have q4 : decide (c < 1) = false := by simp; omega
  have q5 : decide (1000000 < c) = false := by simp; omega
  have q6 : decide (d < 0) = false := by simp; omega
  have q7 : decide (100 < d) = false := by simp; omega
  obtain ⟨rR, fR⟩ := oR.rules
  have zR := oR.lt
  go_wp2
  go_ret
  exact ⟨rfl, hy⟩
/-- A log for n by n cells. -/
def LogN (n : Nat) (l : List T3) : Prop := l.length ≤ 100 ∧ Inn l n ∧ ∀ s ∈ l, -1000000000 ≤ s.f ∧ s.f ≤ 1000000000
set_option maxRecDepth 100000 in
set_option maxHeartbeats 4000000 in
theorem isLog_any (n : Nat) (l : List T3) (v : Value) (w : World) (hs : ST w v l) (hl : LogN n l) :
    Calls Try.prog 89 #[.int .i64 n, v] w fun e w' => e = .returned (.bool true) ∧ Below w.heap.size w w' := by
  have S0 := Lib.hid hs
  have HL := Lib.hid hl
  obtain ⟨ad, cap, rfl, h1, h2, _⟩ := hs.open
  have b0 : decide (100 < (l.length : Int)) = false := by simp; have := hl.1; omega
  clear hs hl
  go_enter Try.func89, Try.ntmps89
  go_wp2
  go_loopw [12] (fun i wr => ∃ k : Nat, k ≤ l.length ∧ i = .int .i64 k ∧ Below w.heap.size w wr) (fun i _ => l.length - (intOf i).toNat)
  case atStart => exact ⟨0, Nat.zero_le _, rfl, Below.refl _ _⟩
  case round =>
    obtain ⟨k, hk, rfl, hB⟩ := hrel
    rename World => V
    by_cases hlt : k < l.length
    · obtain ⟨_, _, e, _, _, H⟩ := (S0.out.below hB).open
      cases e
      obtain ⟨b, off, rfl, c0, c1, c2⟩ := H.out k hlt
      clear H
      have i1 := HL.out.2.1 l[k] (List.getElem_mem hlt)
      have i2 := HL.out.2.2 l[k] (List.getElem_mem hlt)
      generalize l[k] = x at *
      have q1 : decide (x.x < 0) = false := by simp; omega
      have q2 : decide ((n : Int) ≤ x.x) = false := by simp; omega
      have q3 : decide (x.y < 0) = false := by simp; omega
      have q4 : decide ((n : Int) ≤ x.y) = false := by simp; omega
      have q5 : inB9 x.f = true := (inB9_iff _).2 i2
      clear i1 i2
      go_wp2_with fail
      refine (inRange_of _ true _ q5).mono ?_
      rintro e _ ⟨rfl, rfl⟩
      go_wp2
      go_roundw
      case rel => exact ⟨k + 1, by omega, by go_num, below_to hB (ba1 _ _)⟩
      case measure => simp [intOf]; try omega
    · obtain rfl : k = l.length := by omega
      go_wp2
      go_ret
      exact ⟨rfl, hB⟩
end Go.Proofs.Ythlcmlngmcoknaa

/- What is proved here: the contract of clean.cells, for the closure of Spread. Condition: 1 to 8 cells. -/
namespace Go.Proofs.Ythlcmlngmcoknaa
open Go.RowKit

/-- An image, or the error that a number is out of range. -/
def cells_post (w : World) (n : Nat) (M : Nat → Nat → Int) (e : Ending) (w' : World) : Prop :=
  ((∃ u, e = .returned (.tuple #[u, .int .i64 0]) ∧ IM w' u n M ∧ inR 1000000000 n M) ∨ (e = .returned (.tuple #[.slice none 0 0, .int .i64 16]) ∧ ¬ inR 1000000000 n M)) ∧ Below w.heap.size w w'
set_option maxRecDepth 100000 in
set_option maxHeartbeats 16000000 in
theorem cellsS_any (n : Nat) (D : Nat → Nat → Int) (c0 c1 c2 : Value) (w : World) (n1 : 1 ≤ n) (n8 : n ≤ 8)
    (hat : ∀ (y x : Nat) (wr : World), y < n → x < n → Below w.heap.size w wr → Calls Try.prog 85 #[.int .i64 x, .int .i64 y, c0, c1, c2] wr (fun e w' => e = .returned (.int .i64 (D y x)) ∧ Below wr.heap.size wr w')) :
    Calls Try.prog 84 #[.int .i64 n, .func (.func 85) #[] #[c0, c1, c2]] w (cells_post w n D) := by
  have HAT := Lib.hid hat
  clear hat
  go_enter Try.func84, Try.ntmps84
  have MK := mk_rowz n (by omega)
  have oG := Own.new w 23 (List.replicate n (Value.slice none 0 0))
  have hG := ba1 w (.cells (List.replicate n (Value.slice none 0 0)).toArray 23)
  have eA : (List.replicate n (Value.slice none 0 0)).toArray = Array.replicate n (.slice none 0 0) := by simp
  rw [eA] at oG hG
  clear eA
  go_upto_region 2 with fail
  obtain ⟨g, hg⟩ : ∃ g, g = w.heap.size := ⟨_, rfl⟩
  rw [← hg] at oG ⊢
  have hGle : w.heap.size ≤ g := by omega
  clear hg
  generalize w.alloc (.cells (Array.replicate n (Value.slice none 0 0)) 23) = Y at *
  go_wp2
  clear MK
  have MR := mk_ints n (by omega)
  go_loopw [14] (fun iv wr => ∃ y : Nat, y ≤ n ∧ iv = .int .i64 y ∧ Hid (∀ v u, v < y → u < n → -1000000000 ≤ D v u ∧ D v u ≤ 1000000000) ∧ (∃ bb cp ex, MatO wr w.heap.size wr.heap.size g 23 3 (List.replicate (n - y) (Value.slice none 0 0)) bb cp ex y n (fillM D y 0)) ∧ Below w.heap.size w wr) (fun iv _ => n - (intOf iv).toNat)
  case atStart => exact ⟨0, Nat.zero_le _, rfl, fun v u h => absurd h (Nat.not_lt_zero _), ⟨fun _ => 0, fun _ => 0, fun _ => [], MatO.zero oG hGle oG.lt _ _ _ _ _⟩, hG⟩
  case round =>
    clear oG hG
    obtain ⟨y, hyn, rfl, hR, ⟨bb, cp, ex, MX⟩, hC⟩ := hrel
    rename World => V
    by_cases hlt : y < n
    · rw [show n - y = (n - y - 1) + 1 by omega, List.replicate_succ] at MX
      have CO : V.cell? ⟨g, y, none⟩ = some (.slice none 0 0) := by
        have := MX.out.cell y (by rw [List.length_append, mout_len]; simp)
        rw [this]; congr 1; rw [List.getElem_append_right (by rw [mout_len]; exact Nat.le_refl _)]; simp [mout_len]
      have FO := MX.out.free y
      have ZG := MX.out.lt
      have MV := MX.below (ba1 V (.cells (ics (List.replicate n 0)).toArray 3))
      have MP := MV.push (b := V.heap.size) (c := n) (e := []) (by rw [List.append_nil, ← ics_zero n _ y (fun j _ => fillM_zero _ y j)]; exact Own.new V 3 _) (Nat.le_refl _) hC.size (Nat.le_refl _)
      have hC2 := MV.outB (hC.trans ((ba1 V (.cells (ics (List.replicate n 0)).toArray 3)).mono hC.size)) y (.slice (some ⟨V.heap.size, 0, none⟩) n n)
      rw [World.setCell_alloc_past _ _ _ _ ZG] at MP hC2
      have ZV1 : V.heap.size + 1 ≤ ((V.setCell ⟨g, y, none⟩ (.slice (some ⟨V.heap.size, 0, none⟩) n n)).alloc (.cells (ics (List.replicate n 0)).toArray 3)).heap.size := by simp
      go_upto_region 6 with fail
      clear CO FO MX MV hC ZG MR
      generalize (V.setCell ⟨g, y, none⟩ (.slice (some ⟨V.heap.size, 0, none⟩) n n)).alloc (.cells (ics (List.replicate n 0)).toArray 3) = V1 at *
      generalize updN bb y V.heap.size = bb1 at *
      generalize updN cp y n = cp1 at *
      generalize updN ex y [] = ex1 at *
      obtain ⟨L, hL⟩ : ∃ L, L = V.heap.size + 1 := ⟨_, rfl⟩
      rw [← hL] at MP ZV1
      clear hL
      have CO1 := MP.cell_out (i := y) (by omega)
      go_wp2
      go_loopw [27] (fun iv wr => ∃ x : Nat, x ≤ n ∧ iv = .int .i64 x ∧ Hid (∀ u, u < x → -1000000000 ≤ D y u ∧ D y u ≤ 1000000000) ∧ MatO wr w.heap.size L g 23 3 (List.replicate (n - y - 1) (Value.slice none 0 0)) bb1 cp1 ex1 (y + 1) n (fillM D y x) ∧ L ≤ wr.heap.size ∧ Below w.heap.size w wr) (fun iv _ => n - (intOf iv).toNat)
      case atStart => exact ⟨0, Nat.zero_le _, rfl, fun u h => absurd h (Nat.not_lt_zero _), MP, ZV1, hC2⟩
      case round =>
        clear MP ZV1 hC2 CO1
        obtain ⟨x, hxn, rfl, hX, MX, hL, hC⟩ := hrel
        rename World => V
        by_cases hxl : x < n
        · have NO : Hid (¬ (-1000000000 ≤ D y x ∧ D y x ≤ 1000000000) → ¬ inR 1000000000 n D) := fun h h2 => h (h2 y x hlt hxl)
          have YES : Hid ((-1000000000 ≤ D y x ∧ D y x ≤ 1000000000) → ∀ u, u < x + 1 → -1000000000 ≤ D y u ∧ D y u ≤ 1000000000) := fun h u hu => by
            rcases Nat.lt_or_ge u x with h1 | h1
            · exact hX.out u h1
            · obtain rfl : u = x := by omega
              exact h
          go_wp2_with fail
          refine (HAT.out y x _ hlt hxl hC).mono ?_
          rintro e V2 ⟨rfl, hq⟩
          have MY := MX.below hq
          have hC2 := below_to hC hq
          have hL2 : L ≤ V2.heap.size := by have := hq.size; omega
          have PC := Lib.hid (fun z => (MY.put (i := y) (j := x) (by omega) hxl z))
          have PD := Lib.hid (fillM_put D y x)
          clear MX hC hL hq
          generalize D y x = z at *
          by_cases q5 : inB9 z = true
          · have HY := Lib.hid (YES.out ((inB9_iff _).1 q5))
            go_wp2_with fail
            refine (inRange_of _ true _ q5).mono ?_
            rintro e _ ⟨rfl, rfl⟩
            have CO := MY.cell_out (i := y) (by omega)
            have CA := MY.cell_at (i := y) (j := x) (by omega) hxl
            have FA := MY.free_at (i := y) (by omega) x
            go_wp2
            go_roundw
            case rel => exact ⟨x + 1, by omega, by go_num, HY, (PC.out z).congr (fun r c _ _ => PD.out r c), by simp; omega, MY.putB hC2 (by omega) x _⟩
            case measure => simp [intOf]; try omega
          · have q6 : inB9 z = false := by simpa using q5
            have HN := Lib.hid (NO.out (fun h => q5 ((inB9_iff _).2 h)))
            go_wp2_with fail
            refine (inRange_of _ false _ q6).mono ?_
            rintro e _ ⟨rfl, rfl⟩
            go_wp2
            refine bodyPost_ret (v := .tuple #[.slice none 0 0, .int .i64 16]) (by simp [results, Try.results84, go_sem]) rfl ⟨.inr ⟨rfl, HN.out⟩, hC2⟩
        · obtain rfl : x = n := by omega
          go_wp2
          go_roundw
          case rel =>
            refine ⟨y + 1, by omega, by go_num, fun v u hv hu => ?_, ⟨_, _, _, ((MX.mono hL).congr (fun r c _ hc => fillM_row _ y x r c hc))⟩, hC⟩
            rcases Nat.lt_or_ge v y with h1 | h1
            · exact hR.out v u h1 hu
            · obtain rfl : v = y := by omega
              exact hX.out u hu
          case measure => simp [intOf]; try omega
    · obtain rfl : y = n := by omega
      rw [Nat.sub_self, List.replicate_zero] at MX
      have IX := (MX.congr (fun r c hr _ => fillM_end _ y r c hr)).im (cap := y) (Nat.le_refl _) (by omega)
      go_wp2
      refine bodyPost_ret (v := .tuple #[.slice (some ⟨g, 0, none⟩) y y, .int .i64 0]) (by simp [results, Try.results84, go_sem]) rfl ⟨.inl ⟨_, rfl, IX, hR.out⟩, hC⟩
end Go.Proofs.Ythlcmlngmcoknaa

/- What is proved here: the contract of clean.cells, for the closure of Model. Condition: 1 to 8 cells. -/
namespace Go.Proofs.Ythlcmlngmcoknaa
open Go.RowKit

set_option maxRecDepth 100000 in
set_option maxHeartbeats 16000000 in
theorem cellsM_any (n : Nat) (D : Nat → Nat → Int) (c0 : Value) (w : World) (n1 : 1 ≤ n) (n8 : n ≤ 8)
    (hat : ∀ (y x : Nat) (wr : World), y < n → x < n → Below w.heap.size w wr → Calls Try.prog 90 #[.int .i64 x, .int .i64 y, c0] wr (fun e w' => e = .returned (.int .i64 (D y x)) ∧ Below wr.heap.size wr w')) :
    Calls Try.prog 84 #[.int .i64 n, .func (.func 90) #[] #[c0]] w (cells_post w n D) := by
  have HAT := Lib.hid hat
  clear hat
  go_enter Try.func84, Try.ntmps84
  have MK := mk_rowz n (by omega)
  have oG := Own.new w 23 (List.replicate n (Value.slice none 0 0))
  have hG := ba1 w (.cells (List.replicate n (Value.slice none 0 0)).toArray 23)
  have eA : (List.replicate n (Value.slice none 0 0)).toArray = Array.replicate n (.slice none 0 0) := by simp
  rw [eA] at oG hG
  clear eA
  go_upto_region 2 with fail
  obtain ⟨g, hg⟩ : ∃ g, g = w.heap.size := ⟨_, rfl⟩
  rw [← hg] at oG ⊢
  have hGle : w.heap.size ≤ g := by omega
  clear hg
  generalize w.alloc (.cells (Array.replicate n (Value.slice none 0 0)) 23) = Y at *
  go_wp2
  clear MK
  have MR := mk_ints n (by omega)
  go_loopw [14] (fun iv wr => ∃ y : Nat, y ≤ n ∧ iv = .int .i64 y ∧ Hid (∀ v u, v < y → u < n → -1000000000 ≤ D v u ∧ D v u ≤ 1000000000) ∧ (∃ bb cp ex, MatO wr w.heap.size wr.heap.size g 23 3 (List.replicate (n - y) (Value.slice none 0 0)) bb cp ex y n (fillM D y 0)) ∧ Below w.heap.size w wr) (fun iv _ => n - (intOf iv).toNat)
  case atStart => exact ⟨0, Nat.zero_le _, rfl, fun v u h => absurd h (Nat.not_lt_zero _), ⟨fun _ => 0, fun _ => 0, fun _ => [], MatO.zero oG hGle oG.lt _ _ _ _ _⟩, hG⟩
  case round =>
    clear oG hG
    obtain ⟨y, hyn, rfl, hR, ⟨bb, cp, ex, MX⟩, hC⟩ := hrel
    rename World => V
    by_cases hlt : y < n
    · rw [show n - y = (n - y - 1) + 1 by omega, List.replicate_succ] at MX
      have CO : V.cell? ⟨g, y, none⟩ = some (.slice none 0 0) := by
        have := MX.out.cell y (by rw [List.length_append, mout_len]; simp)
        rw [this]; congr 1; rw [List.getElem_append_right (by rw [mout_len]; exact Nat.le_refl _)]; simp [mout_len]
      have FO := MX.out.free y
      have ZG := MX.out.lt
      have MV := MX.below (ba1 V (.cells (ics (List.replicate n 0)).toArray 3))
      have MP := MV.push (b := V.heap.size) (c := n) (e := []) (by rw [List.append_nil, ← ics_zero n _ y (fun j _ => fillM_zero _ y j)]; exact Own.new V 3 _) (Nat.le_refl _) hC.size (Nat.le_refl _)
      have hC2 := MV.outB (hC.trans ((ba1 V (.cells (ics (List.replicate n 0)).toArray 3)).mono hC.size)) y (.slice (some ⟨V.heap.size, 0, none⟩) n n)
      rw [World.setCell_alloc_past _ _ _ _ ZG] at MP hC2
      have ZV1 : V.heap.size + 1 ≤ ((V.setCell ⟨g, y, none⟩ (.slice (some ⟨V.heap.size, 0, none⟩) n n)).alloc (.cells (ics (List.replicate n 0)).toArray 3)).heap.size := by simp
      go_upto_region 6 with fail
      clear CO FO MX MV hC ZG MR
      generalize (V.setCell ⟨g, y, none⟩ (.slice (some ⟨V.heap.size, 0, none⟩) n n)).alloc (.cells (ics (List.replicate n 0)).toArray 3) = V1 at *
      generalize updN bb y V.heap.size = bb1 at *
      generalize updN cp y n = cp1 at *
      generalize updN ex y [] = ex1 at *
      obtain ⟨L, hL⟩ : ∃ L, L = V.heap.size + 1 := ⟨_, rfl⟩
      rw [← hL] at MP ZV1
      clear hL
      have CO1 := MP.cell_out (i := y) (by omega)
      go_wp2
      go_loopw [27] (fun iv wr => ∃ x : Nat, x ≤ n ∧ iv = .int .i64 x ∧ Hid (∀ u, u < x → -1000000000 ≤ D y u ∧ D y u ≤ 1000000000) ∧ MatO wr w.heap.size L g 23 3 (List.replicate (n - y - 1) (Value.slice none 0 0)) bb1 cp1 ex1 (y + 1) n (fillM D y x) ∧ L ≤ wr.heap.size ∧ Below w.heap.size w wr) (fun iv _ => n - (intOf iv).toNat)
      case atStart => exact ⟨0, Nat.zero_le _, rfl, fun u h => absurd h (Nat.not_lt_zero _), MP, ZV1, hC2⟩
      case round =>
        clear MP ZV1 hC2 CO1
        obtain ⟨x, hxn, rfl, hX, MX, hL, hC⟩ := hrel
        rename World => V
        by_cases hxl : x < n
        · have NO : Hid (¬ (-1000000000 ≤ D y x ∧ D y x ≤ 1000000000) → ¬ inR 1000000000 n D) := fun h h2 => h (h2 y x hlt hxl)
          have YES : Hid ((-1000000000 ≤ D y x ∧ D y x ≤ 1000000000) → ∀ u, u < x + 1 → -1000000000 ≤ D y u ∧ D y u ≤ 1000000000) := fun h u hu => by
            rcases Nat.lt_or_ge u x with h1 | h1
            · exact hX.out u h1
            · obtain rfl : u = x := by omega
              exact h
          go_wp2_with fail
          refine (HAT.out y x _ hlt hxl hC).mono ?_
          rintro e V2 ⟨rfl, hq⟩
          have MY := MX.below hq
          have hC2 := below_to hC hq
          have hL2 : L ≤ V2.heap.size := by have := hq.size; omega
          have PC := Lib.hid (fun z => (MY.put (i := y) (j := x) (by omega) hxl z))
          have PD := Lib.hid (fillM_put D y x)
          clear MX hC hL hq
          generalize D y x = z at *
          by_cases q5 : inB9 z = true
          · have HY := Lib.hid (YES.out ((inB9_iff _).1 q5))
            go_wp2_with fail
            refine (inRange_of _ true _ q5).mono ?_
            rintro e _ ⟨rfl, rfl⟩
            have CO := MY.cell_out (i := y) (by omega)
            have CA := MY.cell_at (i := y) (j := x) (by omega) hxl
            have FA := MY.free_at (i := y) (by omega) x
            go_wp2
            go_roundw
            case rel => exact ⟨x + 1, by omega, by go_num, HY, (PC.out z).congr (fun r c _ _ => PD.out r c), by simp; omega, MY.putB hC2 (by omega) x _⟩
            case measure => simp [intOf]; try omega
          · have q6 : inB9 z = false := by simpa using q5
            have HN := Lib.hid (NO.out (fun h => q5 ((inB9_iff _).2 h)))
            go_wp2_with fail
            refine (inRange_of _ false _ q6).mono ?_
            rintro e _ ⟨rfl, rfl⟩
            go_wp2
            refine bodyPost_ret (v := .tuple #[.slice none 0 0, .int .i64 16]) (by simp [results, Try.results84, go_sem]) rfl ⟨.inr ⟨rfl, HN.out⟩, hC2⟩
        · obtain rfl : x = n := by omega
          go_wp2
          go_roundw
          case rel =>
            refine ⟨y + 1, by omega, by go_num, fun v u hv hu => ?_, ⟨_, _, _, ((MX.mono hL).congr (fun r c _ hc => fillM_row _ y x r c hc))⟩, hC⟩
            rcases Nat.lt_or_ge v y with h1 | h1
            · exact hR.out v u h1 hu
            · obtain rfl : v = y := by omega
              exact hX.out u hu
          case measure => simp [intOf]; try omega
    · obtain rfl : y = n := by omega
      rw [Nat.sub_self, List.replicate_zero] at MX
      have IX := (MX.congr (fun r c hr _ => fillM_end _ y r c hr)).im (cap := y) (Nat.le_refl _) (by omega)
      go_wp2
      refine bodyPost_ret (v := .tuple #[.slice (some ⟨g, 0, none⟩) y y, .int .i64 0]) (by simp [results, Try.results84, go_sem]) rfl ⟨.inl ⟨_, rfl, IX, hR.out⟩, hC⟩
end Go.Proofs.Ythlcmlngmcoknaa
