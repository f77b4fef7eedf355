/- What is proved here: contracts of functions and plain facts, several texts in one; each one says ahead what it proves, and its conditions. -/
import Derived.Test.YthlcmlngmcoknaaC09
import Derived.Test.YthlcmlngmcoknaaC02
import Derived.Test.YthlcmlngmcoknaaC17
import Derived.Deep.DeepCutAuto
/- What is proved here: the contracts of solve.fractions and of the reference's fractions. Condition: a slice of fractions that can be read. -/
namespace Go.Proofs.Ythlcmlngmcoknaa
open Go.RowKit

set_option maxRecDepth 100000 in
set_option maxHeartbeats 4000000 in
theorem ofrac_any (x : List (Int × Int)) (m : Nat) (v : Value) (w : World) (hs : SF w v x) (ix : FI x) :
    Calls Try.prog 73 #[v, .int .i64 m] w fun e w' => e = .returned (.bool (frB x m)) ∧ Below w.heap.size w w' := by
  have S0 := Lib.hid hs
  have IX := Lib.hid ix
  obtain ⟨ad, cap, rfl, h1, h2, _⟩ := hs.open
  clear hs ix
  by_cases hl : x.length = m
  case neg =>
    have b1 : ((x.length : Int) != (m : Int)) = true := by simp; omega
    have HV := Lib.hid (frB_len hl)
    clear hl
    go_enter Try.func73, Try.ntmps73
    go_wp2
    go_ret
    exact ⟨by rw [HV.out]; try rfl, Below.refl _ _⟩
  have b1 : ((x.length : Int) != (m : Int)) = false := by simp; omega
  have HL := Lib.hid hl
  clear hl
  go_enter Try.func73, Try.ntmps73
  go_wp2
  go_loopw [13] (fun i wr => ∃ k : Nat, k ≤ x.length ∧ i = .int .i64 k ∧ Hid (((x.take k).all fun p => decide (fchk p.1 p.2 = 0)) = true) ∧ Below w.heap.size w wr) (fun i _ => x.length + 1 - (intOf i).toNat)
  case atStart => exact ⟨0, Nat.zero_le _, rfl, rfl, Below.refl _ _⟩
  case round =>
    obtain ⟨k, hk, rfl, hv, hB⟩ := hrel
    rename World => W
    by_cases hlt : k < x.length
    · obtain ⟨_, _, e, _, _, H⟩ := (S0.out.below hB).open
      cases e
      obtain ⟨b, off, rfl, c1, c2⟩ := H.out k hlt
      clear H
      obtain ⟨i1, i2⟩ := IX.out.get k hlt
      have XT := Lib.hid (fun h => all_take (p := fun p => decide (fchk p.1 p.2 = 0)) hlt hv.out h)
      have XN := Lib.hid (fun h => frB_bad (x := x) (m := m) hlt h)
      generalize x[k].1 = fn at *
      generalize x[k].2 = fd at *
      go_wp2_with fail
      refine (check_any fn fd _ i1 i2).mono ?_
      rintro e y2 ⟨rfl, hq⟩
      replace hB := below_to hB (below_to (ba1 W _) hq)
      clear hq
      by_cases h1 : fchk fn fd = 0
      · have b3 : (fchk fn fd != 0) = false := by simp [h1]
        have HV := Lib.hid (XT.out (by simpa using h1))
        clear h1 XT XN
        go_wp2
        go_roundw
        case rel => exact ⟨k + 1, by omega, by go_num, HV, hB⟩
        case measure => simp [intOf]; try omega
      · have b3 : (fchk fn fd != 0) = true := by simpa using h1
        have HV := Lib.hid (XN.out h1)
        clear h1 XT XN
        go_wp2
        go_ret
        exact ⟨by rw [HV.out]; try rfl, hB⟩
    · have HV : Hid (frB x m = true) := by
        show _ = _
        rw [frB_ok (all_end hlt hv.out), decide_eq_true HL.out]
      go_wp2
      go_ret
      exact ⟨by rw [HV.out]; try rfl, hB⟩
set_option maxRecDepth 100000 in
set_option maxHeartbeats 4000000 in
theorem rofrac_any (x : List (Int × Int)) (m : Nat) (v : Value) (w : World) (hs : SF w v x) (ix : FI x) :
    Calls Try.prog 75 #[v, .int .i64 m] w fun e w' => e = .returned (.bool (frB x m)) ∧ Below w.heap.size w w' := by
  have S0 := Lib.hid hs
  have IX := Lib.hid ix
  obtain ⟨ad, cap, rfl, h1, h2, _⟩ := hs.open
  clear hs ix
  go_enter Try.func75, Try.ntmps75
  go_wp2
  go_loopw [5] (fun i wr => ∃ k : Nat, k ≤ x.length ∧ i = .int .i64 k ∧ Hid (((x.take k).all fun p => decide (fchk p.1 p.2 = 0)) = true) ∧ Below w.heap.size w wr) (fun i _ => x.length + 1 - (intOf i).toNat)
  case atStart => exact ⟨0, Nat.zero_le _, rfl, rfl, Below.refl _ _⟩
  case round =>
    obtain ⟨k, hk, rfl, hv, hB⟩ := hrel
    rename World => W
    by_cases hlt : k < x.length
    · obtain ⟨_, _, e, _, _, H⟩ := (S0.out.below hB).open
      cases e
      obtain ⟨b, off, rfl, c1, c2⟩ := H.out k hlt
      clear H
      obtain ⟨i1, i2⟩ := IX.out.get k hlt
      have XT := Lib.hid (fun h => all_take (p := fun p => decide (fchk p.1 p.2 = 0)) hlt hv.out h)
      have XN := Lib.hid (fun h => frB_bad (x := x) (m := m) hlt h)
      generalize x[k].1 = fn at *
      generalize x[k].2 = fd at *
      go_wp2_with fail
      refine (rcheck_any fn fd _ i1 i2).mono ?_
      rintro e y2 ⟨rfl, hq⟩
      replace hB := below_to hB hq
      clear hq
      by_cases h1 : fchk fn fd = 0
      · have b3 : (fchk fn fd != 0) = false := by simp [h1]
        have HV := Lib.hid (XT.out (by simpa using h1))
        clear h1 XT XN
        go_wp2
        go_roundw
        case rel => exact ⟨k + 1, by omega, by go_num, HV, hB⟩
        case measure => simp [intOf]; try omega
      · have b3 : (fchk fn fd != 0) = true := by simpa using h1
        have HV := Lib.hid (XN.out h1)
        clear h1 XT XN
        go_wp2
        go_ret
        exact ⟨by rw [HV.out]; try rfl, hB⟩
    · have HK := Lib.hid (frB_ok (m := m) (all_end hlt hv.out))
      by_cases hl : x.length = m
      · have b1 : ((x.length : Int) == (m : Int)) = true := by simp; omega
        have HV : Hid (frB x m = true) := by show _ = _; rw [HK.out, decide_eq_true hl]
        clear hl
        go_wp2
        go_ret
        exact ⟨by rw [HV.out]; try rfl, hB⟩
      · have b1 : ((x.length : Int) == (m : Int)) = false := by simp; omega
        have HV : Hid (frB x m = false) := by show _ = _; rw [HK.out, decide_eq_false hl]
        clear hl
        go_wp2
        go_ret
        exact ⟨by rw [HV.out]; try rfl, hB⟩
end Go.Proofs.Ythlcmlngmcoknaa
