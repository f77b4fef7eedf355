/- What is proved here: contracts of functions and plain facts, several texts in one; each one says ahead what it proves, and its conditions. -/
import Derived.Test.YtpjhiojdnebgoaaC07
import Derived.Test.YtpjhiojdnebgoaaC11
import Derived.IntWalk
import Derived.RegionTactic
import Derived.ChangeAlike
import Derived.BigRegion
/- What is proved here: the contracts of weight.checkList and of the reference's Listed, Weight, Long and Same. Condition: slices of visibilities. -/
namespace Go.Proofs.Ytpjhiojdnebgoaa
open Go.RowKit

theorem vlist_4 {l : List Vs} (h : 200 < l.length) : vlist l = 4 := if_pos h
theorem vlist_8 {l : List Vs} (h : ¬ 200 < l.length) (hv : vall l = false) : vlist l = 8 := by unfold vlist; rw [if_neg h, if_pos hv]
theorem vlist_z {l : List Vs} (h : ¬ 200 < l.length) (hv : vall l = true) : vlist l = 0 := by unfold vlist; rw [if_neg h, if_neg (by rw [hv]; decide)]
set_option maxRecDepth 100000 in
set_option maxHeartbeats 4000000 in
theorem vclist_any (l : List Vs) (v : Value) (w : World) (hs : SV w v l) :
    Calls Try.prog 72 #[v] w fun e w' => e = .returned (.int .i64 (vlist l)) ∧ Below w.heap.size w w' := by
  have S0 := Lib.hid hs
  obtain ⟨ad, cap, rfl, h1, h2, _⟩ := hs.open
  clear hs
  by_cases g : 200 < l.length
  · have b0 : decide (200 < (l.length : Int)) = true := by simp; omega
    have HV := Lib.hid (vlist_4 g)
    clear g
    go_enter Try.func72, Try.ntmps72
    go_wp2
    go_ret
    exact ⟨by rw [HV.out]; rfl, Below.refl _ _⟩
  have b0 : decide (200 < (l.length : Int)) = false := by simp; omega
  go_enter Try.func72, Try.ntmps72
  go_wp2
  go_loopw [10] (fun i wr => ∃ k : Nat, k ≤ l.length ∧ i = .int .i64 k ∧ Hid (vall (l.take k) = true) ∧ Below w.heap.size w wr) (fun i _ => l.length - (intOf i).toNat)
  case atStart => exact ⟨0, Nat.zero_le _, rfl, rfl, Below.refl _ _⟩
  case round =>
    obtain ⟨k, hk, rfl, hv, hB⟩ := hrel
    by_cases hlt : k < l.length
    · obtain ⟨_, _, e, _, _, H⟩ := (S0.out.below hB).open
      cases e
      obtain ⟨b, off, rfl, c0, c1, c2, c3, c4, c5⟩ := H.out k hlt
      clear H
      by_cases hz : l[k].chk = 0
      · have HV := Lib.hid (vall_take hlt hv.out hz)
        have HZ : Hid (vchk l[k].i l[k].j l[k].re l[k].im l[k].den l[k].n = 0) := hz
        clear hz
        generalize l[k] = x at *
        go_wp2_with fail
        refine (vcheck_of _ _ _ _ _ _ _ _ HZ.out).mono ?_
        rintro e w1 ⟨rfl, hb1⟩
        go_wp2
        go_roundw
        case rel => exact ⟨k + 1, by omega, by go_num, HV, below_to (below_to hB (ba1 _ _)) hb1⟩
        case measure => simp [intOf]; try omega
      · have HV := Lib.hid (vlist_8 g (vall_not hlt hz))
        have HZ : Hid (vchk l[k].i l[k].j l[k].re l[k].im l[k].den l[k].n = 8) := by
          rcases l[k].chk_cases with h | h
          · exact absurd h hz
          · exact h
        clear hz
        generalize l[k] = x at *
        go_wp2_with fail
        refine (vcheck_of _ _ _ _ _ _ _ _ HZ.out).mono ?_
        rintro e w1 ⟨rfl, hb1⟩
        go_wp2
        go_ret
        exact ⟨by rw [HV.out]; rfl, below_to (below_to hB (ba1 _ _)) hb1⟩
    · have HV := Lib.hid (vlist_z g (vall_end hlt hv.out))
      go_wp2
      go_ret
      exact ⟨by rw [HV.out]; rfl, hB⟩
set_option maxRecDepth 100000 in
set_option maxHeartbeats 4000000 in
theorem rvlist_any (l : List Vs) (v : Value) (w : World) (hs : SV w v l) :
    Calls Try.prog 71 #[v] w fun e w' => e = .returned (.int .i64 (vlist l)) ∧ Below w.heap.size w w' := by
  have S0 := Lib.hid hs
  obtain ⟨ad, cap, rfl, h1, h2, _⟩ := hs.open
  clear hs
  by_cases g : 200 < l.length
  · have b0 : decide (200 < (l.length : Int)) = true := by simp; omega
    have HV := Lib.hid (vlist_4 g)
    clear g
    go_enter Try.func71, Try.ntmps71
    go_wp2
    go_ret
    exact ⟨by rw [HV.out]; rfl, Below.refl _ _⟩
  have b0 : decide (200 < (l.length : Int)) = false := by simp; omega
  go_enter Try.func71, Try.ntmps71
  go_wp2
  go_loopw [3] (fun i wr => ∃ k : Nat, k ≤ l.length ∧ i = .int .i64 k ∧ Hid (vall (l.take k) = true) ∧ Below w.heap.size w wr) (fun i _ => l.length - (intOf i).toNat)
  case atStart => exact ⟨0, Nat.zero_le _, rfl, rfl, Below.refl _ _⟩
  case round =>
    obtain ⟨k, hk, rfl, hv, hB⟩ := hrel
    by_cases hlt : k < l.length
    · obtain ⟨_, _, e, _, _, H⟩ := (S0.out.below hB).open
      cases e
      obtain ⟨b, off, rfl, c0, c1, c2, c3, c4, c5⟩ := H.out k hlt
      clear H
      by_cases hz : l[k].chk = 0
      · have HV := Lib.hid (vall_take hlt hv.out hz)
        have HZ : Hid (vchk l[k].i l[k].j l[k].re l[k].im l[k].den l[k].n = 0) := hz
        clear hz
        generalize l[k] = x at *
        go_wp2_with fail
        refine (rvcheck_of _ _ _ _ _ _ _ _ HZ.out).mono ?_
        rintro e w1 ⟨rfl, hb1⟩
        go_wp2
        go_roundw
        case rel => exact ⟨k + 1, by omega, by go_num, HV, below_to hB hb1⟩
        case measure => simp [intOf]; try omega
      · have HV := Lib.hid (vlist_8 g (vall_not hlt hz))
        have HZ : Hid (vchk l[k].i l[k].j l[k].re l[k].im l[k].den l[k].n = 8) := by
          rcases l[k].chk_cases with h | h
          · exact absurd h hz
          · exact h
        clear hz
        generalize l[k] = x at *
        go_wp2_with fail
        refine (rvcheck_of _ _ _ _ _ _ _ _ HZ.out).mono ?_
        rintro e w1 ⟨rfl, hb1⟩
        go_wp2
        go_ret
        exact ⟨by rw [HV.out]; rfl, below_to hB hb1⟩
    · have HV := Lib.hid (vlist_z g (vall_end hlt hv.out))
      go_wp2
      go_ret
      exact ⟨by rw [HV.out]; rfl, hB⟩
set_option maxRecDepth 100000 in
set_option maxHeartbeats 4000000 in
theorem rweight_any (l : List Vs) (v : Value) (w : World) (hs : SV w v l) (hv : vall l = true) (hl : l.length ≤ 200) :
    Calls Try.prog 76 #[v] w fun e w' => e = .returned (.int .i64 (wsum l l.length)) ∧ Below w.heap.size w w' := by
  have S0 := Lib.hid hs
  have V0 := Lib.hid hv
  obtain ⟨ad, cap, rfl, h1, h2, _⟩ := hs.open
  clear hs hv
  go_enter Try.func76, Try.ntmps76
  go_wp2
  go_loopw [3, 4] (fun s i wr => ∃ k : Nat, k ≤ l.length ∧ i = .int .i64 k ∧ s = .int .i64 (wsum l k) ∧ Below w.heap.size w wr) (fun _ i _ => l.length - (intOf i).toNat)
  case atStart => exact ⟨0, Nat.zero_le _, rfl, rfl, Below.refl _ _⟩
  case round =>
    obtain ⟨k, hk, rfl, rfl, hB⟩ := hrel
    by_cases hlt : k < l.length
    · obtain ⟨_, _, e, _, _, H⟩ := (S0.out.below hB).open
      cases e
      obtain ⟨b, off, rfl, c0, c1, c2, c3, c4, c5⟩ := H.out k hlt
      clear H
      have b1 := wsum_bd V0.out k hk
      have b2 := wsum_bd V0.out (k + 1) (by omega)
      have HS := Lib.hid (wsum_succ hlt)
      have a1 : IntKind.i64.wrap (wsum l k + l[k].n) = wsum l k + l[k].n := IntWalk.i64_in _ (by rw [← HS.out]; omega)
      generalize l[k].n = x at *
      clear b1 b2
      go_wp2
      go_roundw
      case rel => exact ⟨k + 1, by omega, by go_num, by rw [HS.out], hB⟩
      case measure => simp [intOf]; try omega
    · obtain rfl : k = l.length := by omega
      go_wp2
      go_ret
      exact ⟨rfl, hB⟩
theorem rvlong_any (l : List Vs) (v : Value) (w : World) (hs : SV w v l) :
    Calls Try.prog 36 #[v] w fun e w' => e = .returned (.bool (decide (250 < l.length))) ∧ w = w' := by
  obtain ⟨ad, cap, rfl, h1, h2, _⟩ := hs.open
  clear hs
  go_enter Try.func36, Try.ntmps36
  go_wp2
  go_ret
  exact ⟨by first | (simp; done) | (simp; omega), rfl⟩
theorem takev_eq {xs ys : List Vs} {k : Nat} (h1 : k < xs.length) (h2 : k < ys.length) (h : xs.take k = ys.take k) (e : xs[k] = ys[k]) : xs.take (k + 1) = ys.take (k + 1) := by
  rw [List.take_succ_eq_append_getElem h1, List.take_succ_eq_append_getElem h2, h, e]
/-- Same lists are the same ones. -/
theorem vsame_true (xs : List Vs) (u v : Value) (w : World) (hs : SV w u xs) (ht : SV w v xs) :
    Calls Try.prog 40 #[u, v] w fun e w' => e = .returned (.bool true) ∧ Below w.heap.size w w' := by
  have S0 := Lib.hid hs
  have T0 := Lib.hid ht
  obtain ⟨ad, cap, rfl, h1, h2, _⟩ := hs.open
  obtain ⟨ad', cap', rfl, h1', h2', _⟩ := ht.open
  clear hs ht
  go_enter Try.func40, Try.ntmps40
  go_wp2
  go_loopw [5] (fun i wr => ∃ k : Nat, k ≤ xs.length ∧ i = .int .i64 k ∧ Below w.heap.size w wr) (fun i _ => xs.length - (intOf i).toNat)
  case atStart => exact ⟨0, Nat.zero_le _, rfl, Below.refl _ _⟩
  case round =>
    obtain ⟨k, hk, rfl, hB⟩ := hrel
    by_cases hlt : k < xs.length
    · obtain ⟨_, _, e, _, _, H⟩ := (S0.out.below hB).open
      cases e
      obtain ⟨b, off, rfl, c0, c1, c2, c3, c4, c5⟩ := H.out k hlt
      obtain ⟨_, _, e, _, _, H'⟩ := (T0.out.below hB).open
      cases e
      obtain ⟨b', off', rfl, d0, d1, d2, d3, d4, d5⟩ := H'.out k hlt
      clear H H'
      generalize xs[k] = x at *
      go_wp2_with fail
      go_region
      go_wp2
      go_roundw
      case rel => exact ⟨k + 1, by omega, by go_num, hB.drew⟩
      case measure => simp [intOf]; try omega
    · go_wp2
      go_ret
      exact ⟨rfl, hB⟩
end Go.Proofs.Ytpjhiojdnebgoaa
