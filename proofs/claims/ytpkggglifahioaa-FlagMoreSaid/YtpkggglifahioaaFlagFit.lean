/- What is proved here: the contracts of the law's fit, and of the reference's Within. Condition: slices that can be read; Within: equal lengths. -/
import Derived.Test.YtpkggglifahioaaCloP
import Derived.Test.YtpkggglifahioaaFlagFills
namespace Go.Proofs.Ytpkggglifahioaa
open Go.RowKit

/-- Two masks are valid, with the same size. -/
def fitB (t c : Int) (n : Nat) (t' c' : Int) (n' : Nat) : Bool := decide (mchk t c n = 0 ∧ mchk t' c' n' = 0 ∧ t = t' ∧ c = c')
theorem fit_no {t c t' c' : Int} {n n' : Nat} (h : ¬ (mchk t c n = 0 ∧ mchk t' c' n' = 0 ∧ t = t' ∧ c = c')) : fitB t c n t' c' n' = false := decide_eq_false h
theorem fit_great {t c : Int} {n : Nat} (h : 600 < n) : ¬ mchk t c n = 0 := by
  intro e
  obtain ⟨h1, h2, h3, h4, h5⟩ := mchk_ok e
  have := prod_bd h1 h2 h3 h4
  omega

set_option maxRecDepth 100000 in
set_option maxHeartbeats 8000000 in
theorem fit_any (t c t' c' : Int) (v v' : Value) (xs ys : List Bool) (w : World) (h : SB w v xs) (h' : SB w v' ys) :
    Calls Try.prog 34 #[.agg #[.int .i64 t, .int .i64 c, v], .agg #[.int .i64 t', .int .i64 c', v']] w fun e w' => e = .returned (.bool (fitB t c xs.length t' c' ys.length)) ∧ Below w.heap.size w w' := by
  have hs := h
  have hs' := h'
  obtain ⟨ad, cap, rfl, q1, q2, q3⟩ := h.open
  obtain ⟨ad', cap', rfl, q1', q2', q3'⟩ := h'.open
  clear h h' q3 q3'
  by_cases g1 : 600 < xs.length
  · have b1 : decide (600 < xs.length) = true := by simpa using g1
    have HV : Hid (fitB t c xs.length t' c' ys.length = false) := by
      show _ = _
      exact fit_no (fun h => fit_great g1 h.1)
    go_enter Try.func34, Try.ntmps34
    have oM := own_first w 24 [.int .i64 t, .int .i64 c, .slice ad xs.length cap] (.cells #[.int .i64 t', .int .i64 c', .slice ad' ys.length cap'] 24)
    have oN := own_second w 24 [.int .i64 t', .int .i64 c', .slice ad' ys.length cap'] (.cells #[.int .i64 t, .int .i64 c, .slice ad xs.length cap] 24)
    have hB := ba2 w (.cells #[.int .i64 t, .int .i64 c, .slice ad xs.length cap] 24) (.cells #[.int .i64 t', .int .i64 c', .slice ad' ys.length cap'] 24)
    have sM := hs.below hB
    have sN := hs'.below hB
    obtain ⟨rM, fM⟩ := oM.rules
    have zM := oM.lt
    go_wp2_with fail
    refine (great_any _ _ _ xs _ sM).mono ?_
    rintro e v1 ⟨rfl, hq⟩
    clear rM fM zM
    have oM := oM.below hq
    have oN := oN.below hq
    have sM := sM.below hq
    have sN := sN.below hq
    have hB := below_to hB hq
    clear hq
    go_wp2
    go_ret
    exact ⟨by rw [HV.out]; try rfl, hB⟩
  have b1 : decide (600 < xs.length) = false := by simpa using g1
  by_cases g2 : 600 < ys.length
  · have b2 : decide (600 < ys.length) = true := by simpa using g2
    have HV : Hid (fitB t c xs.length t' c' ys.length = false) := by
      show _ = _
      exact fit_no (fun h => fit_great g2 h.2.1)
    go_enter Try.func34, Try.ntmps34
    have oM := own_first w 24 [.int .i64 t, .int .i64 c, .slice ad xs.length cap] (.cells #[.int .i64 t', .int .i64 c', .slice ad' ys.length cap'] 24)
    have oN := own_second w 24 [.int .i64 t', .int .i64 c', .slice ad' ys.length cap'] (.cells #[.int .i64 t, .int .i64 c, .slice ad xs.length cap] 24)
    have hB := ba2 w (.cells #[.int .i64 t, .int .i64 c, .slice ad xs.length cap] 24) (.cells #[.int .i64 t', .int .i64 c', .slice ad' ys.length cap'] 24)
    have sM := hs.below hB
    have sN := hs'.below hB
    obtain ⟨rM, fM⟩ := oM.rules
    have zM := oM.lt
    go_wp2_with fail
    refine (great_any _ _ _ xs _ sM).mono ?_
    rintro e v1 ⟨rfl, hq⟩
    clear rM fM zM
    have oM := oM.below hq
    have oN := oN.below hq
    have sM := sM.below hq
    have sN := sN.below hq
    have hB := below_to hB hq
    clear hq
    obtain ⟨rN, fN⟩ := oN.rules
    have zN := oN.lt
    go_wp2_with fail
    refine (great_any _ _ _ ys _ sN).mono ?_
    rintro e v2 ⟨rfl, hq⟩
    clear rN fN zN
    have oM := oM.below hq
    have oN := oN.below hq
    have sM := sM.below hq
    have sN := sN.below hq
    have hB := below_to hB hq
    clear hq
    go_wp2
    go_ret
    exact ⟨by rw [HV.out]; try rfl, hB⟩
  have b2 : decide (600 < ys.length) = false := by simpa using g2
  by_cases g3 : mchk t c xs.length = 0
  case neg =>
    have b3 : (mchk t c xs.length == 0) = false := by simpa using g3
    have HV : Hid (fitB t c xs.length t' c' ys.length = false) := by
      show _ = _
      exact fit_no (fun h => g3 h.1)
    go_enter Try.func34, Try.ntmps34
    have oM := own_first w 24 [.int .i64 t, .int .i64 c, .slice ad xs.length cap] (.cells #[.int .i64 t', .int .i64 c', .slice ad' ys.length cap'] 24)
    have oN := own_second w 24 [.int .i64 t', .int .i64 c', .slice ad' ys.length cap'] (.cells #[.int .i64 t, .int .i64 c, .slice ad xs.length cap] 24)
    have hB := ba2 w (.cells #[.int .i64 t, .int .i64 c, .slice ad xs.length cap] 24) (.cells #[.int .i64 t', .int .i64 c', .slice ad' ys.length cap'] 24)
    have sM := hs.below hB
    have sN := hs'.below hB
    obtain ⟨rM, fM⟩ := oM.rules
    have zM := oM.lt
    go_wp2_with fail
    refine (great_any _ _ _ xs _ sM).mono ?_
    rintro e v1 ⟨rfl, hq⟩
    clear rM fM zM
    have oM := oM.below hq
    have oN := oN.below hq
    have sM := sM.below hq
    have sN := sN.below hq
    have hB := below_to hB hq
    clear hq
    obtain ⟨rN, fN⟩ := oN.rules
    have zN := oN.lt
    go_wp2_with fail
    refine (great_any _ _ _ ys _ sN).mono ?_
    rintro e v2 ⟨rfl, hq⟩
    clear rN fN zN
    have oM := oM.below hq
    have oN := oN.below hq
    have sM := sM.below hq
    have sN := sN.below hq
    have hB := below_to hB hq
    clear hq
    obtain ⟨rM, fM⟩ := oM.rules
    have zM := oM.lt
    go_wp2_with fail
    refine (rmcheck_any _ _ _ xs _ sM).mono ?_
    rintro e v3 ⟨rfl, hq⟩
    clear rM fM zM
    have oM := oM.below hq
    have oN := oN.below hq
    have sM := sM.below hq
    have sN := sN.below hq
    have hB := below_to hB hq
    clear hq
    go_wp2
    go_ret
    exact ⟨by rw [HV.out]; try rfl, hB⟩
  have b3 : (mchk t c xs.length == 0) = true := by simpa using g3
  by_cases g4 : mchk t' c' ys.length = 0
  case neg =>
    have b4 : (mchk t' c' ys.length == 0) = false := by simpa using g4
    have HV : Hid (fitB t c xs.length t' c' ys.length = false) := by
      show _ = _
      exact fit_no (fun h => g4 h.2.1)
    go_enter Try.func34, Try.ntmps34
    have oM := own_first w 24 [.int .i64 t, .int .i64 c, .slice ad xs.length cap] (.cells #[.int .i64 t', .int .i64 c', .slice ad' ys.length cap'] 24)
    have oN := own_second w 24 [.int .i64 t', .int .i64 c', .slice ad' ys.length cap'] (.cells #[.int .i64 t, .int .i64 c, .slice ad xs.length cap] 24)
    have hB := ba2 w (.cells #[.int .i64 t, .int .i64 c, .slice ad xs.length cap] 24) (.cells #[.int .i64 t', .int .i64 c', .slice ad' ys.length cap'] 24)
    have sM := hs.below hB
    have sN := hs'.below hB
    obtain ⟨rM, fM⟩ := oM.rules
    have zM := oM.lt
    go_wp2_with fail
    refine (great_any _ _ _ xs _ sM).mono ?_
    rintro e v1 ⟨rfl, hq⟩
    clear rM fM zM
    have oM := oM.below hq
    have oN := oN.below hq
    have sM := sM.below hq
    have sN := sN.below hq
    have hB := below_to hB hq
    clear hq
    obtain ⟨rN, fN⟩ := oN.rules
    have zN := oN.lt
    go_wp2_with fail
    refine (great_any _ _ _ ys _ sN).mono ?_
    rintro e v2 ⟨rfl, hq⟩
    clear rN fN zN
    have oM := oM.below hq
    have oN := oN.below hq
    have sM := sM.below hq
    have sN := sN.below hq
    have hB := below_to hB hq
    clear hq
    obtain ⟨rM, fM⟩ := oM.rules
    have zM := oM.lt
    go_wp2_with fail
    refine (rmcheck_any _ _ _ xs _ sM).mono ?_
    rintro e v3 ⟨rfl, hq⟩
    clear rM fM zM
    have oM := oM.below hq
    have oN := oN.below hq
    have sM := sM.below hq
    have sN := sN.below hq
    have hB := below_to hB hq
    clear hq
    obtain ⟨rN, fN⟩ := oN.rules
    have zN := oN.lt
    go_wp2_with fail
    refine (rmcheck_any _ _ _ ys _ sN).mono ?_
    rintro e v4 ⟨rfl, hq⟩
    clear rN fN zN
    have oM := oM.below hq
    have oN := oN.below hq
    have sM := sM.below hq
    have sN := sN.below hq
    have hB := below_to hB hq
    clear hq
    go_wp2
    go_ret
    exact ⟨by rw [HV.out]; try rfl, hB⟩
  have b4 : (mchk t' c' ys.length == 0) = true := by simpa using g4
  have G3 := Lib.hid g3
  have G4 := Lib.hid g4
  clear g3 g4
  by_cases g5 : t = t'
  case neg =>
    have b5 : (t == t') = false := by simpa using g5
    have HV : Hid (fitB t c xs.length t' c' ys.length = false) := by
      show _ = _
      exact fit_no (fun h => g5 h.2.2.1)
    go_enter Try.func34, Try.ntmps34
    have oM := own_first w 24 [.int .i64 t, .int .i64 c, .slice ad xs.length cap] (.cells #[.int .i64 t', .int .i64 c', .slice ad' ys.length cap'] 24)
    have oN := own_second w 24 [.int .i64 t', .int .i64 c', .slice ad' ys.length cap'] (.cells #[.int .i64 t, .int .i64 c, .slice ad xs.length cap] 24)
    have hB := ba2 w (.cells #[.int .i64 t, .int .i64 c, .slice ad xs.length cap] 24) (.cells #[.int .i64 t', .int .i64 c', .slice ad' ys.length cap'] 24)
    have sM := hs.below hB
    have sN := hs'.below hB
    obtain ⟨rM, fM⟩ := oM.rules
    have zM := oM.lt
    go_wp2_with fail
    refine (great_any _ _ _ xs _ sM).mono ?_
    rintro e v1 ⟨rfl, hq⟩
    clear rM fM zM
    have oM := oM.below hq
    have oN := oN.below hq
    have sM := sM.below hq
    have sN := sN.below hq
    have hB := below_to hB hq
    clear hq
    obtain ⟨rN, fN⟩ := oN.rules
    have zN := oN.lt
    go_wp2_with fail
    refine (great_any _ _ _ ys _ sN).mono ?_
    rintro e v2 ⟨rfl, hq⟩
    clear rN fN zN
    have oM := oM.below hq
    have oN := oN.below hq
    have sM := sM.below hq
    have sN := sN.below hq
    have hB := below_to hB hq
    clear hq
    obtain ⟨rM, fM⟩ := oM.rules
    have zM := oM.lt
    go_wp2_with fail
    refine (rmcheck_any _ _ _ xs _ sM).mono ?_
    rintro e v3 ⟨rfl, hq⟩
    clear rM fM zM
    have oM := oM.below hq
    have oN := oN.below hq
    have sM := sM.below hq
    have sN := sN.below hq
    have hB := below_to hB hq
    clear hq
    obtain ⟨rN, fN⟩ := oN.rules
    have zN := oN.lt
    go_wp2_with fail
    refine (rmcheck_any _ _ _ ys _ sN).mono ?_
    rintro e v4 ⟨rfl, hq⟩
    clear rN fN zN
    have oM := oM.below hq
    have oN := oN.below hq
    have sM := sM.below hq
    have sN := sN.below hq
    have hB := below_to hB hq
    clear hq
    obtain ⟨rM, fM⟩ := oM.rules
    obtain ⟨rN, fN⟩ := oN.rules
    have zM := oM.lt
    have zN := oN.lt
    go_wp2
    go_ret
    exact ⟨by rw [HV.out]; try rfl, hB⟩
  have b5 : (t == t') = true := by simpa using g5
  have G5 := Lib.hid g5
  clear g5
  by_cases g6 : c = c'
  case neg =>
    have b6 : (c == c') = false := by simpa using g6
    have HV : Hid (fitB t c xs.length t' c' ys.length = false) := by
      show _ = _
      exact fit_no (fun h => g6 h.2.2.2)
    go_enter Try.func34, Try.ntmps34
    have oM := own_first w 24 [.int .i64 t, .int .i64 c, .slice ad xs.length cap] (.cells #[.int .i64 t', .int .i64 c', .slice ad' ys.length cap'] 24)
    have oN := own_second w 24 [.int .i64 t', .int .i64 c', .slice ad' ys.length cap'] (.cells #[.int .i64 t, .int .i64 c, .slice ad xs.length cap] 24)
    have hB := ba2 w (.cells #[.int .i64 t, .int .i64 c, .slice ad xs.length cap] 24) (.cells #[.int .i64 t', .int .i64 c', .slice ad' ys.length cap'] 24)
    have sM := hs.below hB
    have sN := hs'.below hB
    obtain ⟨rM, fM⟩ := oM.rules
    have zM := oM.lt
    go_wp2_with fail
    refine (great_any _ _ _ xs _ sM).mono ?_
    rintro e v1 ⟨rfl, hq⟩
    clear rM fM zM
    have oM := oM.below hq
    have oN := oN.below hq
    have sM := sM.below hq
    have sN := sN.below hq
    have hB := below_to hB hq
    clear hq
    obtain ⟨rN, fN⟩ := oN.rules
    have zN := oN.lt
    go_wp2_with fail
    refine (great_any _ _ _ ys _ sN).mono ?_
    rintro e v2 ⟨rfl, hq⟩
    clear rN fN zN
    have oM := oM.below hq
    have oN := oN.below hq
    have sM := sM.below hq
    have sN := sN.below hq
    have hB := below_to hB hq
    clear hq
    obtain ⟨rM, fM⟩ := oM.rules
    have zM := oM.lt
    go_wp2_with fail
    refine (rmcheck_any _ _ _ xs _ sM).mono ?_
    rintro e v3 ⟨rfl, hq⟩
    clear rM fM zM
    have oM := oM.below hq
    have oN := oN.below hq
    have sM := sM.below hq
    have sN := sN.below hq
    have hB := below_to hB hq
    clear hq
    obtain ⟨rN, fN⟩ := oN.rules
    have zN := oN.lt
    go_wp2_with fail
    refine (rmcheck_any _ _ _ ys _ sN).mono ?_
    rintro e v4 ⟨rfl, hq⟩
    clear rN fN zN
    have oM := oM.below hq
    have oN := oN.below hq
    have sM := sM.below hq
    have sN := sN.below hq
    have hB := below_to hB hq
    clear hq
    obtain ⟨rM, fM⟩ := oM.rules
    obtain ⟨rN, fN⟩ := oN.rules
    have zM := oM.lt
    have zN := oN.lt
    go_wp2
    go_ret
    exact ⟨by rw [HV.out]; try rfl, hB⟩
  have b6 : (c == c') = true := by simpa using g6
  have G6 := Lib.hid g6
  clear g6
  have HV : Hid (fitB t c xs.length t' c' ys.length = true) := by
    show _ = _
    exact decide_eq_true ⟨G3.out, G4.out, G5.out, G6.out⟩
  go_enter Try.func34, Try.ntmps34
  have oM := own_first w 24 [.int .i64 t, .int .i64 c, .slice ad xs.length cap] (.cells #[.int .i64 t', .int .i64 c', .slice ad' ys.length cap'] 24)
  have oN := own_second w 24 [.int .i64 t', .int .i64 c', .slice ad' ys.length cap'] (.cells #[.int .i64 t, .int .i64 c, .slice ad xs.length cap] 24)
  have hB := ba2 w (.cells #[.int .i64 t, .int .i64 c, .slice ad xs.length cap] 24) (.cells #[.int .i64 t', .int .i64 c', .slice ad' ys.length cap'] 24)
  have sM := hs.below hB
  have sN := hs'.below hB
  obtain ⟨rM, fM⟩ := oM.rules
  have zM := oM.lt
  go_wp2_with fail
  refine (great_any _ _ _ xs _ sM).mono ?_
  rintro e v1 ⟨rfl, hq⟩
  clear rM fM zM
  have oM := oM.below hq
  have oN := oN.below hq
  have sM := sM.below hq
  have sN := sN.below hq
  have hB := below_to hB hq
  clear hq
  obtain ⟨rN, fN⟩ := oN.rules
  have zN := oN.lt
  go_wp2_with fail
  refine (great_any _ _ _ ys _ sN).mono ?_
  rintro e v2 ⟨rfl, hq⟩
  clear rN fN zN
  have oM := oM.below hq
  have oN := oN.below hq
  have sM := sM.below hq
  have sN := sN.below hq
  have hB := below_to hB hq
  clear hq
  obtain ⟨rM, fM⟩ := oM.rules
  have zM := oM.lt
  go_wp2_with fail
  refine (rmcheck_any _ _ _ xs _ sM).mono ?_
  rintro e v3 ⟨rfl, hq⟩
  clear rM fM zM
  have oM := oM.below hq
  have oN := oN.below hq
  have sM := sM.below hq
  have sN := sN.below hq
  have hB := below_to hB hq
  clear hq
  obtain ⟨rN, fN⟩ := oN.rules
  have zN := oN.lt
  go_wp2_with fail
  refine (rmcheck_any _ _ _ ys _ sN).mono ?_
  rintro e v4 ⟨rfl, hq⟩
  clear rN fN zN
  have oM := oM.below hq
  have oN := oN.below hq
  have sM := sM.below hq
  have sN := sN.below hq
  have hB := below_to hB hq
  clear hq
  obtain ⟨rM, fM⟩ := oM.rules
  obtain ⟨rN, fN⟩ := oN.rules
  have zM := oM.lt
  have zN := oN.lt
  go_wp2
  go_ret
  exact ⟨by rw [HV.out]; try rfl, hB⟩

set_option maxRecDepth 100000 in
set_option maxHeartbeats 8000000 in
theorem within_any (t c t' c' : Int) (v v' : Value) (xs ys : List Bool) (w : World) (h : SB w v xs) (h' : SB w v' ys) (hl : LeM xs ys) :
    Calls Try.prog 36 #[.agg #[.int .i64 t, .int .i64 c, v], .agg #[.int .i64 t', .int .i64 c', v']] w fun e w' => e = .returned (.bool true) ∧ Below w.heap.size w w' := by
  obtain ⟨ad, cap, rfl, h1, h2, h3⟩ := h.open
  obtain ⟨ad', cap', rfl, h1', h2', h3'⟩ := h'.open
  clear h h'
  have l1 : xs.length ≤ ys.length := by have := hl.1; omega
  have hLe : Hid (∀ i (h : i < xs.length) (h' : i < ys.length), xs[i] = true → ys[i] = true) := by
    intro i h h' e
    have := hl.2 i (by rw [List.getD_eq_getElem?_getD, List.getElem?_eq_getElem h]; exact e)
    rwa [List.getD_eq_getElem?_getD, List.getElem?_eq_getElem h'] at this
  clear hl
  have hF : ∀ i (_ : i < xs.length), ∃ b off, ad = some ⟨b, off, none⟩ ∧ ((w.alloc (.cells #[.int .i64 t, .int .i64 c, .slice ad xs.length cap] 24)).alloc (.cells #[.int .i64 t', .int .i64 c', .slice ad' ys.length cap'] 24)).cell? ⟨b, off + i, none⟩ = some (.bool xs[i]) := fun i hi => by
    obtain ⟨b, off, e, hc⟩ := h3.out i hi
    exact ⟨b, off, e, below_cell (((Below.refl _ _).alloc (Nat.le_refl _) _).alloc (by simp) _) hc⟩
  have hF' : ∀ i (_ : i < ys.length), ∃ b off, ad' = some ⟨b, off, none⟩ ∧ ((w.alloc (.cells #[.int .i64 t, .int .i64 c, .slice ad xs.length cap] 24)).alloc (.cells #[.int .i64 t', .int .i64 c', .slice ad' ys.length cap'] 24)).cell? ⟨b, off + i, none⟩ = some (.bool ys[i]) := fun i hi => by
    obtain ⟨b, off, e, hc⟩ := h3'.out i hi
    exact ⟨b, off, e, below_cell (((Below.refl _ _).alloc (Nat.le_refl _) _).alloc (by simp) _) hc⟩
  have HF := Lib.hid hF
  have HF' := Lib.hid hF'
  clear hF hF' h3 h3'
  go_enter Try.func36, Try.ntmps36
  go_wp2
  go_loopw [5] (fun i wr => ∃ k m : Nat, k ≤ xs.length ∧ i = .int .i64 k ∧ wr = ((w.alloc (.cells #[.int .i64 t, .int .i64 c, .slice ad xs.length cap] 24)).alloc (.cells #[.int .i64 t', .int .i64 c', .slice ad' ys.length cap'] 24)).drewN m) (fun i _ => xs.length - (intOf i).toNat)
  case atStart => exact ⟨0, 0, Nat.zero_le _, rfl, rfl⟩
  case round =>
    obtain ⟨k, m, hk, rfl, rfl⟩ := hrel
    by_cases hlt : k < xs.length
    · obtain ⟨b, off, rfl, hc⟩ := HF.out k hlt
      obtain ⟨b', off', rfl, hc'⟩ := HF'.out k (by omega)
      have hlt' : k < ys.length := by omega
      have hLk := hLe.out k hlt hlt'
      clear HF HF' hLe
      by_cases hx : xs[k] = true
      · have hy := hLk hx
        rw [hx] at hc
        rw [hy] at hc'
        clear hLk hx hy
        go_wp2
        go_roundw
        case rel => exact ⟨k + 1, m, by omega, by go_num, by rfl⟩
        case measure => simp [intOf]; omega
      · have hx' : xs[k] = false := by simpa using hx
        rw [hx'] at hc
        clear hLk hx hx'
        go_wp2
        go_roundw
        case rel => exact ⟨k + 1, m, by omega, by go_num, by rfl⟩
        case measure => simp [intOf]; omega
    · go_wp2
      go_ret
      exact ⟨rfl, bd (ba2 _ _ _) _⟩

end Go.Proofs.Ytpkggglifahioaa
