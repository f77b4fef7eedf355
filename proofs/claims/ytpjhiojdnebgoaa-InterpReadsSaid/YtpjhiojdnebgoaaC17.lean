/- What is proved here: contracts of functions and plain facts, several texts in one; each one says ahead what it proves, and its conditions. -/
import Derived.Test.YtpjhiojdnebgoaaC06
import Derived.Test.YtpjhiojdnebgoaaC02
import Derived.Deep.DeepCutAuto
/- What is proved here: the contracts of interp.isPart, interp.areLevels, fringeref15.Part, fringeref13.Levels and Long. Condition: 64-bit numbers, a slice that can be read. -/
namespace Go.Proofs.Ytpjhiojdnebgoaa
open Go.RowKit

set_option maxRecDepth 100000 in
set_option maxHeartbeats 4000000 in
theorem ipart_any (n d : Int) (w : World) (h1 : i64 n) (h2 : i64 d) :
    Calls Try.prog 54 #[.agg #[.int .i64 n, .int .i64 d]] w fun e w' => e = .returned (.bool (partB n d)) ∧ Below w.heap.size w w' := by
  have J1 := Lib.hid h1
  have J2 := Lib.hid h2
  clear h1 h2
  have HV : Hid (partB n d = (fchk n d == 0 && decide (0 ≤ n) && decide (n < d) && decide (d ≤ 16))) := rfl
  go_enter Try.func54, Try.ntmps54
  have oA := Own.new w 24 [.int .i64 n, .int .i64 d]
  have hB := ba1 w (.cells #[.int .i64 n, .int .i64 d] 24)
  obtain ⟨rA, fA⟩ := oA.rules
  have zA := oA.lt
  go_wp2_with fail
  refine (check_any n d _ J1.out J2.out).mono ?_
  rintro e y1 ⟨rfl, hq⟩
  clear rA fA zA
  replace oA := oA.below hq
  replace hB := below_to hB hq
  clear hq
  obtain ⟨rA, fA⟩ := oA.rules
  have zA := oA.lt
  by_cases g1 : fchk n d = 0
  case neg =>
    have b1 : (fchk n d == 0) = false := by simpa using g1
    clear g1
    go_wp2
    go_ret
    exact ⟨by rw [HV.out, b1]; simp, hB⟩
  have b1 : (fchk n d == 0) = true := by simpa using g1
  clear g1
  by_cases g2 : 0 ≤ n
  case neg =>
    have b2 : decide (0 ≤ n) = false := by simpa using g2
    go_wp2
    go_ret
    exact ⟨by rw [HV.out, b1, b2]; simp, hB⟩
  have b2 : decide (0 ≤ n) = true := by simpa using g2
  by_cases g3 : n < d
  case neg =>
    have b3 : decide (n < d) = false := by simpa using g3
    go_wp2
    go_ret
    exact ⟨by rw [HV.out, b1, b2, b3]; simp, hB⟩
  have b3 : decide (n < d) = true := by simpa using g3
  go_wp2
  go_ret
  exact ⟨by rw [HV.out, b1, b2, b3]; simp, hB⟩
set_option maxRecDepth 100000 in
set_option maxHeartbeats 4000000 in
theorem ripart_any (n d : Int) (w : World) (h1 : i64 n) (h2 : i64 d) :
    Calls Try.prog 29 #[.agg #[.int .i64 n, .int .i64 d]] w fun e w' => e = .returned (.bool (partB n d)) ∧ Below w.heap.size w w' := by
  have J1 := Lib.hid h1
  have J2 := Lib.hid h2
  clear h1 h2
  have HV : Hid (partB n d = (fchk n d == 0 && decide (0 ≤ n) && decide (n < d) && decide (d ≤ 16))) := rfl
  go_enter Try.func29, Try.ntmps29
  have oA := Own.new w 24 [.int .i64 n, .int .i64 d]
  have hB := ba1 w (.cells #[.int .i64 n, .int .i64 d] 24)
  obtain ⟨rA, fA⟩ := oA.rules
  have zA := oA.lt
  go_wp2_with fail
  refine (rcheck_any n d _ J1.out J2.out).mono ?_
  rintro e y1 ⟨rfl, hq⟩
  clear rA fA zA
  replace oA := oA.below hq
  replace hB := below_to hB hq
  clear hq
  obtain ⟨rA, fA⟩ := oA.rules
  have zA := oA.lt
  by_cases g1 : fchk n d = 0
  case neg =>
    have b1 : (fchk n d == 0) = false := by simpa using g1
    clear g1
    go_wp2
    go_ret
    exact ⟨by rw [HV.out, b1]; simp, hB⟩
  have b1 : (fchk n d == 0) = true := by simpa using g1
  clear g1
  by_cases g2 : 0 ≤ n
  case neg =>
    have b2 : decide (0 ≤ n) = false := by simpa using g2
    go_wp2
    go_ret
    exact ⟨by rw [HV.out, b1, b2]; simp, hB⟩
  have b2 : decide (0 ≤ n) = true := by simpa using g2
  by_cases g3 : n < d
  case neg =>
    have b3 : decide (n < d) = false := by simpa using g3
    go_wp2
    go_ret
    exact ⟨by rw [HV.out, b1, b2, b3]; simp, hB⟩
  have b3 : decide (n < d) = true := by simpa using g3
  go_wp2
  go_ret
  exact ⟨by rw [HV.out, b1, b2, b3]; simp, hB⟩
theorem longi_any (xs : List Int) (v : Value) (w : World) (hs : SI w v xs) :
    Calls Try.prog 14 #[v] w fun e w' => e = .returned (.bool (decide (300 < xs.length))) ∧ w = w' := by
  obtain ⟨ad, cap, rfl, h1, h2, _⟩ := hs.open
  clear hs
  go_enter Try.func14, Try.ntmps14
  go_wp2
  go_ret
  exact ⟨by simp; try omega, rfl⟩
set_option maxRecDepth 100000 in
set_option maxHeartbeats 4000000 in
theorem ilev_any (l : List Int) (v : Value) (w : World) (hs : SI w v l) :
    Calls Try.prog 48 #[v] w fun e w' => e = .returned (.bool (levB l)) ∧ Below w.heap.size w w' := by
  have S0 := Lib.hid hs
  obtain ⟨ad, cap, rfl, h1, h2, _⟩ := hs.open
  clear hs
  go_enter Try.func48, Try.ntmps48
  go_wp2
  go_loopw [7] (fun i wr => ∃ k : Nat, k ≤ l.length ∧ i = .int .i64 k ∧ Hid (levB (l.take k) = true) ∧ Below w.heap.size w wr) (fun i _ => l.length - (intOf i).toNat)
  case atStart => exact ⟨0, Nat.zero_le _, rfl, rfl, Below.refl _ _⟩
  case round =>
    obtain ⟨k, hk, rfl, hv, hW⟩ := hrel
    rename World => W
    by_cases hlt : k < l.length
    · obtain ⟨_, _, e, _, _, H⟩ := (S0.out.below hW).open
      cases e
      obtain ⟨b', off', rfl, c1⟩ := H.out k hlt
      clear H
      have XN := Lib.hid (fun h => lev_not hlt h)
      have XT := Lib.hid (fun h h' => lev_take hlt hv.out h h')
      generalize l[k] = x at *
      by_cases g1 : x < -1000000
      · have HV := Lib.hid (XN.out (.inl g1))
        clear XN XT
        go_wp2
        go_ret
        exact ⟨by rw [HV.out]; try rfl, hW⟩
      have b1 : decide (x < -1000000) = false := by simpa using g1
      by_cases g2 : 1000000 < x
      · have HV := Lib.hid (XN.out (.inr g2))
        clear XN XT
        go_wp2
        go_ret
        exact ⟨by rw [HV.out]; try rfl, hW⟩
      have b2 : decide (1000000 < x) = false := by simpa using g2
      have HV := Lib.hid (XT.out (by omega) (by omega))
      clear XN XT
      go_wp2
      go_roundw
      case rel => exact ⟨k + 1, by omega, by go_num, HV, hW⟩
      case measure => simp [intOf]; try omega
    · have HV := Lib.hid (lev_end hlt hv.out)
      go_wp2
      go_ret
      exact ⟨by rw [HV.out]; try rfl, hW⟩
set_option maxRecDepth 100000 in
set_option maxHeartbeats 4000000 in
theorem rilev_any (l : List Int) (v : Value) (w : World) (hs : SI w v l) :
    Calls Try.prog 28 #[v] w fun e w' => e = .returned (.int .i64 (levE l)) ∧ Below w.heap.size w w' := by
  have S0 := Lib.hid hs
  obtain ⟨ad, cap, rfl, h1, h2, _⟩ := hs.open
  clear hs
  by_cases hm : 256 < l.length
  · have HV : Hid (levE l = 4) := if_pos hm
    have b0 : decide (256 < (l.length : Int)) = true := by simp; omega
    go_enter Try.func28, Try.ntmps28
    go_wp2
    go_ret
    exact ⟨by rw [HV.out]; try rfl, Below.refl _ _⟩
  have HV : Hid (levE l = if levB l = false then 8 else 0) := if_neg hm
  have l0 : l.length ≤ 256 := by omega
  have b0 : decide (256 < (l.length : Int)) = false := by simp; omega
  go_enter Try.func28, Try.ntmps28
  go_wp2
  go_loopw [3] (fun i wr => ∃ k : Nat, k ≤ l.length ∧ i = .int .i64 k ∧ Hid (levB (l.take k) = true) ∧ Below w.heap.size w wr) (fun i _ => l.length - (intOf i).toNat)
  case atStart => exact ⟨0, Nat.zero_le _, rfl, rfl, Below.refl _ _⟩
  case round =>
    obtain ⟨k, hk, rfl, hv, hW⟩ := hrel
    rename World => W
    by_cases hlt : k < l.length
    · obtain ⟨_, _, e, _, _, H⟩ := (S0.out.below hW).open
      cases e
      obtain ⟨b', off', rfl, c1⟩ := H.out k hlt
      clear H
      have XN := Lib.hid (fun h => lev_not hlt h)
      have XT := Lib.hid (fun h h' => lev_take hlt hv.out h h')
      generalize l[k] = x at *
      by_cases g1 : x < -1000000
      · have HV2 := Lib.hid (XN.out (.inl g1))
        clear XN XT
        go_wp2
        go_ret
        exact ⟨by rw [HV.out, HV2.out]; try rfl, hW⟩
      have b1 : decide (x < -1000000) = false := by simpa using g1
      by_cases g2 : 1000000 < x
      · have HV2 := Lib.hid (XN.out (.inr g2))
        clear XN XT
        go_wp2
        go_ret
        exact ⟨by rw [HV.out, HV2.out]; try rfl, hW⟩
      have b2 : decide (1000000 < x) = false := by simpa using g2
      have HV2 := Lib.hid (XT.out (by omega) (by omega))
      clear XN XT
      go_wp2
      go_roundw
      case rel => exact ⟨k + 1, by omega, by go_num, HV2, hW⟩
      case measure => simp [intOf]; try omega
    · have HV2 := Lib.hid (lev_end hlt hv.out)
      go_wp2
      go_ret
      exact ⟨by rw [HV.out, HV2.out]; try rfl, hW⟩
end Go.Proofs.Ytpjhiojdnebgoaa
