/- What is proved here: the contracts of the reference's Count, pair. Condition: the arguments are slices of bools that can be read, and 64-bit integers. -/
import Derived.Test.YtpkggglifahioaaFlagA
namespace Go.Proofs.Ytpkggglifahioaa
open Go.RowKit

theorem idx_lt {i j T C : Nat} (hi : i < T) (hj : j < C) : i * C + j < T * C := by
  have h : (i + 1) * C ≤ T * C := Nat.mul_le_mul_right C hi
  rw [Nat.add_mul] at h; omega
theorem cast_mul (a b : Nat) : (a : Int) * (b : Int) = ((a * b : Nat) : Int) := by simp

set_option maxHeartbeats 1600000 in
theorem rcount_any (t c : Int) (v : Value) (xs : List Bool) (w : World) (h : SB w v xs) :
    Calls Try.prog 12 #[.agg #[.int .i64 t, .int .i64 c, v]] w fun e w' => e = .returned (.tuple #[.int .i64 (mcount t c xs), .int .i64 (mchk t c xs.length)]) ∧ Below w.heap.size w w' := by
  have hs := h
  obtain ⟨ad, cap, rfl, h1, h2, h3⟩ := h.open
  clear h h3
  rcases mchk_cases t c xs.length with hz | hz
  · have HM : Hid (mcount t c xs = xs.count true) := by show mcount t c xs = _; unfold mcount; rw [if_pos hz]
    obtain ⟨t1, t2, c1, c2, hn⟩ := mchk_ok hz
    have b0 : (mchk t c xs.length != 0) = false := by simp [hz]
    have HZ := Lib.hid hz
    clear hz
    obtain ⟨T, rfl⟩ := Int.eq_ofNat_of_zero_le (show 0 ≤ t by omega)
    obtain ⟨C, rfl⟩ := Int.eq_ofNat_of_zero_le (show 0 ≤ c by omega)
    rw [cast_mul] at hn
    have HN : Hid (xs.length = T * C) := by show xs.length = T * C; exact_mod_cast hn
    clear hn
    go_enter Try.func12, Try.ntmps12
    go_wp2_with fail
    refine (rmcheck_any _ _ _ xs _ (hs.below (ba1 _ _))).mono ?_
    rintro e w1 ⟨rfl, hb1⟩
    have hb := below_to (ba1 _ _) hb1
    have hs1 := hs.below hb
    have k0 : w1.cell? ⟨w.heap.size, 0, none⟩ = some (.int .i64 T) := below_cell hb1 (by simp)
    have k1 : w1.cell? ⟨w.heap.size, 1, none⟩ = some (.int .i64 C) := below_cell hb1 (by simp)
    have k2 : w1.cell? ⟨w.heap.size, 2, none⟩ = some (.slice ad xs.length cap) := below_cell hb1 (by simp)
    clear hb1 hs
    go_wp2
    go_loopw [4, 5] (fun n i wr => ∃ a : Nat, a ≤ T ∧ i = .int .i64 a ∧ n = .int .i64 ((xs.take (a * C)).count true : Nat) ∧ Below w1.heap.size w1 wr) (fun _ i _ => T - (intOf i).toNat)
    case atStart => exact ⟨0, Nat.zero_le _, rfl, by simp, Below.refl _ _⟩
    case round =>
      obtain ⟨a, ha, rfl, rfl, hbr⟩ := hrel
      obtain ⟨wo, rfl⟩ : ∃ wo : World, wo = wr := ⟨_, rfl⟩
      have q0 := below_cell hbr k0
      have q1 := below_cell hbr k1
      have q2 := below_cell hbr k2
      by_cases hlt : a < T
      · go_wp2
        go_loopw [4, 6] (fun n j wr => ∃ b : Nat, b ≤ C ∧ j = .int .i64 b ∧ n = .int .i64 ((xs.take (a * C + b)).count true : Nat) ∧ Below w1.heap.size w1 wr) (fun _ j _ => C - (intOf j).toNat)
        case atStart => exact ⟨0, Nat.zero_le _, rfl, rfl, hbr⟩
        case round =>
          obtain ⟨b, hb2, rfl, rfl, hbr2⟩ := hrel
          obtain ⟨wi, rfl⟩ : ∃ wi : World, wi = wr := ⟨_, rfl⟩
          have r0 := below_cell hbr2 k0
          have r1 := below_cell hbr2 k1
          have r2 := below_cell hbr2 k2
          clear q0 q1 q2
          have hle := count_le xs (a * C + b)
          by_cases hlt2 : b < C
          · have hix := idx_lt hlt hlt2
            rw [← HN.out] at hix
            have hix2 := hix
            have hac : a * C ≤ 512 := by have := Nat.mul_le_mul (show a ≤ 32 by omega) (show C ≤ 16 by omega); omega
            have HC := Lib.hid (count_snoc xs (a * C + b) hix)
            go_wp2_with fail
            refine (at_any _ _ _ _ (a * C + b) _ xs _ (hs1.below hbr2) (by rw [cast_mul]; omega) (by rw [cast_mul]; omega) (by omega) (by omega) (by rw [cast_mul]; omega) hix).mono ?_
            rintro e w2 ⟨rfl, hb3⟩
            have hb4 := below_to hbr2 hb3
            clear hb3 r0 r1 r2
            by_cases hx : xs[a * C + b] = true
            · have HS : Hid ((xs.take (a * C + b + 1)).count true = (xs.take (a * C + b)).count true + 1) := by show _ = _; rw [HC.out, if_pos hx]
              go_wp2
              go_roundw
              case rel => exact ⟨b + 1, by omega, by go_num, by rw [← Nat.add_assoc, HS.out]; go_num, hb4⟩
              case measure => simp [intOf]; omega
            · have HS : Hid ((xs.take (a * C + b + 1)).count true = (xs.take (a * C + b)).count true) := by show _ = _; rw [HC.out, if_neg hx]; rfl
              have hx' : xs[a * C + b] = false := by simpa using hx
              clear hx
              go_wp2
              go_roundw
              case rel => exact ⟨b + 1, by omega, by go_num, by rw [← Nat.add_assoc, HS.out], hb4⟩
              case measure => simp [intOf]; omega
          · have hbc : b = C := by omega
            subst hbc
            have HS : Hid ((a + 1) * b = a * b + b) := by show _ = _; rw [Nat.add_mul]; omega
            go_wp2
            go_roundw
            case rel => exact ⟨a + 1, by omega, by go_num, by rw [HS.out], hbr2⟩
            case measure => simp [intOf]; omega
      · have hat : a = T := by omega
        have HK : Hid (xs.take (a * C) = xs) := by show _ = _; rw [List.take_of_length_le]; rw [HN.out, hat]; exact Nat.le_refl _
        clear hat
        go_wp2
        go_ret2
        refine ⟨?_, below_to hb hbr⟩
        rw [HM.out, HZ.out]
        simp only [HK.out]
        rfl
  · have HM : Hid (mcount t c xs = 0) := by show mcount t c xs = _; unfold mcount; rw [if_neg (by omega)]
    have b0 : (mchk t c xs.length != 0) = true := by simp; omega
    clear hz
    go_enter Try.func12, Try.ntmps12
    go_wp2_with fail
    refine (rmcheck_any _ _ _ xs _ (hs.below (ba1 _ _))).mono ?_
    rintro e w1 ⟨rfl, hb1⟩
    have hb := below_to (ba1 _ _) hb1
    have k0 : w1.cell? ⟨w.heap.size, 0, none⟩ = some (.int .i64 t) := below_cell hb1 (by simp)
    have k1 : w1.cell? ⟨w.heap.size, 1, none⟩ = some (.int .i64 c) := below_cell hb1 (by simp)
    have k2 : w1.cell? ⟨w.heap.size, 2, none⟩ = some (.slice ad xs.length cap) := below_cell hb1 (by simp)
    go_wp2_with fail
    refine (rmcheck_any _ _ _ xs _ (hs.below hb)).mono ?_
    rintro e w2 ⟨rfl, hb2⟩
    go_wp2
    go_ret2
    exact ⟨by rw [HM.out]; rfl, below_to hb hb2⟩

/-- The error of two masks. -/
def mpair (t c : Int) (n : Nat) (t' c' : Int) (n' : Nat) : Int :=
  if mchk t c n ≠ 0 then mchk t c n else if mchk t' c' n' ≠ 0 then mchk t' c' n' else if t ≠ t' ∨ c ≠ c' then 2 else 0

theorem mpair_1 {t c : Int} {n : Nat} {t' c' : Int} {n' : Nat} (h : mchk t c n ≠ 0) : mpair t c n t' c' n' = mchk t c n := by unfold mpair; rw [if_pos h]
theorem mpair_2 {t c : Int} {n : Nat} {t' c' : Int} {n' : Nat} (h : mchk t c n = 0) (h2 : mchk t' c' n' ≠ 0) : mpair t c n t' c' n' = mchk t' c' n' := by unfold mpair; rw [if_neg (by omega), if_pos h2]
theorem mpair_3 {t c : Int} {n : Nat} {t' c' : Int} {n' : Nat} (h : mchk t c n = 0) (h2 : mchk t' c' n' = 0) (h3 : t ≠ t' ∨ c ≠ c') : mpair t c n t' c' n' = 2 := by unfold mpair; rw [if_neg (by omega), if_neg (by omega), if_pos h3]
theorem mpair_4 {t c : Int} {n : Nat} {t' c' : Int} {n' : Nat} (h : mchk t c n = 0) (h2 : mchk t' c' n' = 0) (h3 : t = t' ∧ c = c') : mpair t c n t' c' n' = 0 := by unfold mpair; rw [if_neg (by omega), if_neg (by omega), if_neg (by omega)]
theorem mpair_ok {t c : Int} {n : Nat} {t' c' : Int} {n' : Nat} (h : mpair t c n t' c' n' = 0) : mchk t c n = 0 ∧ mchk t' c' n' = 0 ∧ t = t' ∧ c = c' := by
  unfold mpair at h; split at h
  · contradiction
  · split at h
    · contradiction
    · split at h
      · cases h
      · omega

set_option maxHeartbeats 1600000 in
theorem pair_any (t c t' c' : Int) (v v' : Value) (xs ys : List Bool) (w : World) (h : SB w v xs) (h' : SB w v' ys) :
    Calls Try.prog 40 #[.agg #[.int .i64 t, .int .i64 c, v], .agg #[.int .i64 t', .int .i64 c', v']] w fun e w' => e = .returned (.int .i64 (mpair t c xs.length t' c' ys.length)) ∧ Below w.heap.size w w' := by
  have hs := h
  have hs' := h'
  obtain ⟨ad, cap, rfl, h1, h2, h3⟩ := h.open
  obtain ⟨ad', cap', rfl, h1', h2', h3'⟩ := h'.open
  clear h h' h3 h3'
  by_cases p1 : mchk t c xs.length = 0
  · have b1 : (mchk t c xs.length != 0) = false := by simp [p1]
    by_cases p2 : mchk t' c' ys.length = 0
    · have b2 : (mchk t' c' ys.length != 0) = false := by simp [p2]
      have HP : Hid (mpair t c xs.length t' c' ys.length = if t ≠ t' ∨ c ≠ c' then 2 else 0) := by
        show _ = _
        split
        · rename_i h; exact mpair_3 p1 p2 h
        · rename_i h; exact mpair_4 p1 p2 (by omega)
      clear p1 p2
      go_enter Try.func40, Try.ntmps40
      go_wp2_with fail
      refine (rmcheck_any _ _ _ xs _ (hs.below (ba2 _ _ _))).mono ?_
      rintro e w1 ⟨rfl, hb1⟩
      obtain ⟨c1, f1⟩ := bcell hb1
      obtain ⟨z0, z1⟩ := bsz2 hb1
      have hb := below_to (ba2 _ _ _) hb1
      go_wp2_with fail
      refine (rmcheck_any _ _ _ ys _ (hs'.below hb)).mono ?_
      rintro e w2 ⟨rfl, hb2⟩
      obtain ⟨c2, f2⟩ := bcell hb2
      have hb' := below_to hb hb2
      by_cases q1 : t = t'
      · subst q1
        by_cases q2 : c = c'
        · subst q2
          have b3 : (t != t) = false := by simp
          have b4 : (c != c) = false := by simp
          go_wp2
          go_ret
          exact ⟨by rw [HP.out, if_neg (by omega)]; rfl, hb'⟩
        · have b3 : (t != t) = false := by simp
          have b4 : (c != c') = true := by simp [q2]
          go_wp2
          go_ret
          exact ⟨by rw [HP.out, if_pos (by omega)]; rfl, hb'⟩
      · have b3 : (t != t') = true := by simp [q1]
        go_wp2
        go_ret
        exact ⟨by rw [HP.out, if_pos (by omega)]; rfl, hb'⟩
    · have b2 : (mchk t' c' ys.length != 0) = true := by simp [p2]
      have HP := Lib.hid (mpair_2 p1 p2)
      clear p1 p2
      go_enter Try.func40, Try.ntmps40
      go_wp2_with fail
      refine (rmcheck_any _ _ _ xs _ (hs.below (ba2 _ _ _))).mono ?_
      rintro e w1 ⟨rfl, hb1⟩
      obtain ⟨c1, f1⟩ := bcell hb1
      obtain ⟨z0, z1⟩ := bsz2 hb1
      have hb := below_to (ba2 _ _ _) hb1
      go_wp2_with fail
      refine (rmcheck_any _ _ _ ys _ (hs'.below hb)).mono ?_
      rintro e w2 ⟨rfl, hb2⟩
      obtain ⟨c2, f2⟩ := bcell hb2
      have hb' := below_to hb hb2
      go_wp2_with fail
      refine (rmcheck_any _ _ _ ys _ (hs'.below hb')).mono ?_
      rintro e w3 ⟨rfl, hb3⟩
      go_wp2
      go_ret
      exact ⟨by rw [HP.out]; rfl, below_to hb' hb3⟩
  · have b1 : (mchk t c xs.length != 0) = true := by simp [p1]
    have HP := Lib.hid (mpair_1 (t' := t') (c' := c') (n' := ys.length) p1)
    clear p1
    go_enter Try.func40, Try.ntmps40
    go_wp2_with fail
    refine (rmcheck_any _ _ _ xs _ (hs.below (ba2 _ _ _))).mono ?_
    rintro e w1 ⟨rfl, hb1⟩
    obtain ⟨c1, f1⟩ := bcell hb1
    obtain ⟨z0, z1⟩ := bsz2 hb1
    have hb := below_to (ba2 _ _ _) hb1
    go_wp2_with fail
    refine (rmcheck_any _ _ _ xs _ (hs.below hb)).mono ?_
    rintro e w2 ⟨rfl, hb2⟩
    go_wp2
    go_ret
    exact ⟨by rw [HP.out]; rfl, below_to hb hb2⟩

end Go.Proofs.Ytpkggglifahioaa
