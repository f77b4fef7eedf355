/- What is proved here: the contracts of the reference's near and Grow. Condition: the arguments are slices of bools that can be read, and 64-bit integers. -/
import Derived.Test.YtpkggglifahioaaFlagE
import Derived.Test.YtpkggglifahioaaFlagP
namespace Go.Proofs.Ytpkggglifahioaa
open Go.RowKit

set_option maxHeartbeats 1600000 in
theorem near_any (T C a b : Nat) (dt dc : Int) (v : Value) (xs : List Bool) (w : World) (h : SB w v xs) (hT : T ≤ 32) (hC : C ≤ 16) (hn : xs.length = T * C) (ha : a < T) (hb : b < C) (d1 : 0 ≤ dt) (d2 : dt ≤ 8) (d3 : 0 ≤ dc) (d4 : dc ≤ 8) :
    Calls Try.prog 42 #[.agg #[.int .i64 T, .int .i64 C, v], .int .i64 a, .int .i64 b, .int .i64 dt, .int .i64 dc] w fun e w' => e = .returned (.bool (growB C xs dt dc xs.length (a * C + b))) ∧ Below w.heap.size w w' := by
  have hs := h
  obtain ⟨ad, cap, rfl, h1, h2, h3⟩ := h.open
  clear h h3
  have HN := Lib.hid hn
  have hl : xs.length ≤ 512 := by rw [hn]; have := Nat.mul_le_mul hT hC; omega
  clear hn
  go_enter Try.func42, Try.ntmps42
  go_wp2
  have k0 : (w.alloc (.cells #[.int .i64 T, .int .i64 C, .slice ad xs.length cap] 24)).cell? ⟨w.heap.size, 0, none⟩ = some (.int .i64 T) := by simp
  have k1 : (w.alloc (.cells #[.int .i64 T, .int .i64 C, .slice ad xs.length cap] 24)).cell? ⟨w.heap.size, 1, none⟩ = some (.int .i64 C) := by simp
  have k2 : (w.alloc (.cells #[.int .i64 T, .int .i64 C, .slice ad xs.length cap] 24)).cell? ⟨w.heap.size, 2, none⟩ = some (.slice ad xs.length cap) := by simp
  have hB := ba1 w (.cells #[.int .i64 T, .int .i64 C, .slice ad xs.length cap] 24)
  have hs1 := hs.below hB
  generalize w.alloc (.cells #[.int .i64 T, .int .i64 C, .slice ad xs.length cap] 24) = w1 at *
  go_loopw [11] (fun i wr => ∃ u : Nat, u ≤ T ∧ i = .int .i64 u ∧ Hid (growB C xs dt dc (u * C) (a * C + b) = false) ∧ Below w1.heap.size w1 wr) (fun i _ => T - (intOf i).toNat)
  case atStart => exact ⟨0, Nat.zero_le _, rfl, by show _ = _; simp [growB], Below.refl _ _⟩
  case round =>
    obtain ⟨u, hu, rfl, hG, hbr⟩ := hrel
    obtain ⟨wo, rfl⟩ : ∃ wo : World, wo = wr := ⟨_, rfl⟩
    have q0 := below_cell hbr k0
    have q1 := below_cell hbr k1
    have q2 := below_cell hbr k2
    by_cases hlt : u < T
    · go_wp2
      go_loopw [12] (fun j wr => ∃ v : Nat, v ≤ C ∧ j = .int .i64 v ∧ Hid (growB C xs dt dc (u * C + v) (a * C + b) = false) ∧ Below w1.heap.size w1 wr) (fun j _ => C - (intOf j).toNat)
      case atStart => exact ⟨0, Nat.zero_le _, rfl, hG, hbr⟩
      case round =>
        obtain ⟨v, hv, rfl, hG2, hbr2⟩ := hrel
        obtain ⟨wi, rfl⟩ : ∃ wi : World, wi = wr := ⟨_, rfl⟩
        have r0 := below_cell hbr2 k0
        have r1 := below_cell hbr2 k1
        have r2 := below_cell hbr2 k2
        clear q0 q1 q2
        by_cases hlt2 : v < C
        · have hix := idx_lt hlt hlt2
          rw [← HN.out] at hix
          have hac : u * C ≤ 512 := by have := Nat.mul_le_mul (show u ≤ 32 by omega) (show C ≤ 16 by omega); omega
          go_wp2_with fail
          refine (at_any _ _ _ _ (u * C + v) _ xs _ (hs1.below hbr2) (by rw [cast_mul]; omega) (by rw [cast_mul]; omega) (by omega) (by omega) (by rw [cast_mul]; omega) hix).mono ?_
          rintro e w2 ⟨rfl, hb3⟩
          have hb4 := below_to hbr2 hb3
          have HS : Hid (growB C xs dt dc (u * C + v + 1) (a * C + b) = (xs[u * C + v] && nearC C dt dc (u * C + v) (a * C + b))) := by
            show _ = _
            rw [growB_succ, hG2.out]; simp [hix]
          have HA := Lib.hid (near_at (C := C) (dt := dt) (dc := dc) (u := u) (v := v) (a := a) (b := b) hlt2 hb)
          clear hb3 r0 r1 r2
          by_cases hh : xs[u * C + v] = true ∧ nearC C dt dc (u * C + v) (a * C + b) = true
          · have HV : Hid (growB C xs dt dc xs.length (a * C + b) = true) := by
              show _ = _
              refine growB_mono (k := u * C + v + 1) (by omega) ?_
              rw [HS.out, hh.1, hh.2]; rfl
            obtain ⟨hx, hn1⟩ := hh
            obtain ⟨e1, e2, e3, e4⟩ := HA.out.1 hn1
            clear hn1
            go_wp2
            go_ret
            exact ⟨by rw [HV.out]; rfl, below_to hB hb4⟩
          · have HF : Hid (growB C xs dt dc (u * C + (v + 1)) (a * C + b) = false) := by
              show _ = _
              rw [← Nat.add_assoc, HS.out]
              cases hx : xs[u * C + v]
              · rfl
              · cases hn1 : nearC C dt dc (u * C + v) (a * C + b)
                · rfl
                · exact absurd ⟨hx, hn1⟩ hh
            have hcs : xs[u * C + v] = false ∨ (xs[u * C + v] = true ∧ ¬ ((u : Int) - a ≤ dt)) ∨ (xs[u * C + v] = true ∧ (u : Int) - a ≤ dt ∧ ¬ ((a : Int) - u ≤ dt)) ∨ (xs[u * C + v] = true ∧ (u : Int) - a ≤ dt ∧ (a : Int) - u ≤ dt ∧ ¬ ((v : Int) - b ≤ dc)) ∨ (xs[u * C + v] = true ∧ (u : Int) - a ≤ dt ∧ (a : Int) - u ≤ dt ∧ (v : Int) - b ≤ dc ∧ ¬ ((b : Int) - v ≤ dc)) := by
              cases hx : xs[u * C + v]
              · exact .inl rfl
              · right
                have hq : ¬ ((u : Int) - a ≤ dt ∧ (a : Int) - u ≤ dt ∧ (v : Int) - b ≤ dc ∧ (b : Int) - v ≤ dc) := fun h => hh ⟨hx, HA.out.2 h⟩
                simp only [true_and]
                omega
            clear hh HA HS
            rcases hcs with hx | ⟨hx, e1⟩ | ⟨hx, e1, e2⟩ | ⟨hx, e1, e2, e3⟩ | ⟨hx, e1, e2, e3, e4⟩
            all_goals
              go_wp2
              go_roundw
              case rel => exact ⟨v + 1, by omega, by go_num, HF, hb4⟩
              case measure => simp [intOf]; omega
        · have hvC : v = C := by omega
          have HF : Hid (growB C xs dt dc ((u + 1) * C) (a * C + b) = false) := by
            show _ = _
            rw [Nat.add_mul, Nat.one_mul, ← hvC]; rw [hvC]; rw [hvC] at hG2; exact hG2.out
          clear hvC
          go_wp2
          go_roundw
          case rel => exact ⟨u + 1, by omega, by go_num, HF, hbr2⟩
          case measure => simp [intOf]; omega
    · have HV : Hid (growB C xs dt dc xs.length (a * C + b) = false) := by
        show _ = _
        have : u = T := by omega
        rw [HN.out, ← this]; exact hG.out
      go_wp2
      go_ret
      exact ⟨by rw [HV.out]; rfl, below_to hB hbr⟩

end Go.Proofs.Ytpkggglifahioaa
