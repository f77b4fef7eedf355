/- What is proved here: the contracts of interp.valid and of the reference's valid. Condition: a slice of fractions of 64-bit numbers. -/
import Derived.Test.YtdgdlpnhhelgnaaFS
namespace Go.Proofs.Ytdgdlpnhhelgnaa
open Go.RowKit

set_option maxRecDepth 100000 in
set_option maxHeartbeats 4000000 in
theorem ivalid_any (xs : List (Int × Int)) (v : Value) (w : World) (hs : SF w v xs) (hi : FI xs) :
    Calls Try.prog 32 #[v] w fun e w' => e = .returned (.bool (fvalid xs)) ∧ Below w.heap.size w w' := by
  have hs0 := Lib.hid hs
  obtain ⟨ad, cap, rfl, h1, h2, _⟩ := hs.open
  have HI := Lib.hid hi
  clear hi hs
  go_enter Try.func32, Try.ntmps32
  go_wp2
  go_loopw [7] (fun i wr => ∃ k : Nat, k ≤ xs.length ∧ i = .int .i64 k ∧ Hid (fvalid (xs.take k) = true) ∧ Below w.heap.size w wr) (fun i _ => xs.length - (intOf i).toNat)
  case atStart => exact ⟨0, Nat.zero_le _, rfl, rfl, Below.refl _ _⟩
  case round =>
    obtain ⟨k, hk, rfl, hv, hB⟩ := hrel
    by_cases hlt : k < xs.length
    · obtain ⟨ad', cap', e, _, _, H⟩ := (hs0.out.below hB).open
      cases e
      obtain ⟨b, off, rfl, c1, c2⟩ := H.out k hlt
      obtain ⟨i1, i2⟩ := HI.out.get k hlt
      clear H
      by_cases hz : fchk xs[k].1 xs[k].2 = 0
      · have b1 : (fchk xs[k].1 xs[k].2 != 0) = false := by simp [hz]
        have HV := Lib.hid (fvalid_take hlt hv.out hz)
        clear hz
        generalize xs[k].1 = n at *
        generalize xs[k].2 = d at *
        go_wp2_with fail
        refine (check_any n d _ i1 i2).mono ?_
        rintro e w1 ⟨rfl, hb1⟩
        go_wp2
        go_roundw
        case rel => exact ⟨k + 1, by omega, by go_num, HV, below_to (below_to hB (ba1 _ _)) hb1⟩
        case measure => simp [intOf]; try omega
      · have b1 : (fchk xs[k].1 xs[k].2 != 0) = true := by simp [hz]
        have HV := Lib.hid (fvalid_not hlt hz)
        clear hz
        generalize xs[k].1 = n at *
        generalize xs[k].2 = d at *
        go_wp2_with fail
        refine (check_any n d _ i1 i2).mono ?_
        rintro e w1 ⟨rfl, hb1⟩
        go_wp2
        go_ret
        exact ⟨by rw [HV.out]; try rfl, below_to (below_to hB (ba1 _ _)) hb1⟩
    · have HV : Hid (fvalid xs = true) := by
        have := hv.out
        rw [List.take_of_length_le (by omega)] at this
        exact this
      go_wp2
      go_ret
      exact ⟨by rw [HV.out]; try rfl, hB⟩
set_option maxRecDepth 100000 in
set_option maxHeartbeats 4000000 in
theorem rivalid_any (xs : List (Int × Int)) (v : Value) (w : World) (hs : SF w v xs) (hi : FI xs) :
    Calls Try.prog 34 #[v] w fun e w' => e = .returned (.bool (fvalid xs)) ∧ Below w.heap.size w w' := by
  have hs0 := Lib.hid hs
  obtain ⟨ad, cap, rfl, h1, h2, _⟩ := hs.open
  have HI := Lib.hid hi
  clear hi hs
  go_enter Try.func34, Try.ntmps34
  go_wp2
  go_loopw [3] (fun i wr => ∃ k : Nat, k ≤ xs.length ∧ i = .int .i64 k ∧ Hid (fvalid (xs.take k) = true) ∧ Below w.heap.size w wr) (fun i _ => xs.length - (intOf i).toNat)
  case atStart => exact ⟨0, Nat.zero_le _, rfl, rfl, Below.refl _ _⟩
  case round =>
    obtain ⟨k, hk, rfl, hv, hB⟩ := hrel
    by_cases hlt : k < xs.length
    · obtain ⟨ad', cap', e, _, _, H⟩ := (hs0.out.below hB).open
      cases e
      obtain ⟨b, off, rfl, c1, c2⟩ := H.out k hlt
      obtain ⟨i1, i2⟩ := HI.out.get k hlt
      clear H
      by_cases hz : fchk xs[k].1 xs[k].2 = 0
      · have b1 : (fchk xs[k].1 xs[k].2 != 0) = false := by simp [hz]
        have HV := Lib.hid (fvalid_take hlt hv.out hz)
        clear hz
        generalize xs[k].1 = n at *
        generalize xs[k].2 = d at *
        go_wp2_with fail
        refine (rcheck_any n d _ i1 i2).mono ?_
        rintro e w1 ⟨rfl, hb1⟩
        go_wp2
        go_roundw
        case rel => exact ⟨k + 1, by omega, by go_num, HV, below_to hB hb1⟩
        case measure => simp [intOf]; try omega
      · have b1 : (fchk xs[k].1 xs[k].2 != 0) = true := by simp [hz]
        have HV := Lib.hid (fvalid_not hlt hz)
        clear hz
        generalize xs[k].1 = n at *
        generalize xs[k].2 = d at *
        go_wp2_with fail
        refine (rcheck_any n d _ i1 i2).mono ?_
        rintro e w1 ⟨rfl, hb1⟩
        go_wp2
        go_ret
        exact ⟨by rw [HV.out]; try rfl, below_to hB hb1⟩
    · have HV : Hid (fvalid xs = true) := by
        have := hv.out
        rw [List.take_of_length_le (by omega)] at this
        exact this
      go_wp2
      go_ret
      exact ⟨by rw [HV.out]; try rfl, hB⟩
end Go.Proofs.Ytdgdlpnhhelgnaa
