/- What is proved here: the contract of the law's alive: it returns true. No condition. -/
import Derived.Test.YtpkggglifahioaaFillG
import Derived.Test.YtpkggglifahioaaFillH
import Derived.Test.YtpkggglifahioaaFlagStrings
import Derived.Test.YtpkggglifahioaaFlagH
namespace Go.Proofs.Ytpkggglifahioaa
open Go.RowKit

theorem al_parse (w : World) : Calls Try.prog 24 #[.string ⟨#[120, 46, 46, 10, 46, 46, 46, 10]⟩] w fun e w' => ∃ u, e = .returned (.tuple #[.agg #[.int .i64 2, .int .i64 3, u], .int .i64 0]) ∧ SB w' u [true, false, false, false, false, false] ∧ Frv w.heap.size u ∧ Below w.heap.size w w' := by
  have h := parse_any [120, 46, 46, 10, 46, 46, 46, 10] w (by decide)
  rw [show pT [120, 46, 46, 10, 46, 46, 46, 10] = 2 from by decide +kernel, show pCh [120, 46, 46, 10, 46, 46, 46, 10] = 3 from by decide +kernel, show perr [120, 46, 46, 10, 46, 46, 46, 10] = 0 from by decide +kernel, show pB [120, 46, 46, 10, 46, 46, 46, 10] = [true, false, false, false, false, false] from by decide +kernel] at h
  exact h
theorem al_grow (v : Value) (w : World) (h : SB w v [true, false, false, false, false, false]) : Calls Try.prog 20 #[.agg #[.int .i64 2, .int .i64 3, v], .int .i64 1, .int .i64 1] w fun e w' => ∃ u, e = .returned (.tuple #[.agg #[.int .i64 2, .int .i64 3, u], .int .i64 0]) ∧ SB w' u [true, true, false, true, true, false] ∧ Frv w.heap.size u ∧ Below w.heap.size w w' := by
  have h := grow_any 2 3 v [true, false, false, false, false, false] 1 1 w h
  rw [show gerr 2 3 (List.length [true, false, false, false, false, false]) 1 1 = 0 from by decide +kernel, zt_eq rfl, zt_eq rfl, zl_eq rfl, show growL (Int.toNat 3) [true, false, false, false, false, false] 1 1 = [true, true, false, true, true, false] from by decide +kernel] at h
  exact h
theorem al_fill (v : Value) (w : World) (h : SB w v [true, false, false, false, false, false]) : Calls Try.prog 26 #[.agg #[.int .i64 2, .int .i64 3, v], .agg #[.int .i64 1, .int .i64 3]] w fun e w' => ∃ u, e = .returned (.tuple #[.agg #[.int .i64 2, .int .i64 3, u], .int .i64 0]) ∧ SB w' u [true, true, true, true, false, false] ∧ Frv w.heap.size u ∧ Below w.heap.size w w' := by
  have h := mfill_any 2 3 v [true, false, false, false, false, false] 1 3 w h ⟨by decide, by decide⟩ ⟨by decide, by decide⟩
  rw [show ferr 2 3 (List.length [true, false, false, false, false, false]) 1 3 = 0 from by decide +kernel, zt_eq rfl, zt_eq rfl, zl_eq rfl, show fillL (Int.toNat 2) (Int.toNat 3) [true, false, false, false, false, false] 1 3 = [true, true, true, true, false, false] from by decide +kernel] at h
  exact h
theorem al_close (v : Value) (w : World) (h : SB w v [true, false, false, false, false, false]) : Calls Try.prog 28 #[.agg #[.int .i64 2, .int .i64 3, v], .agg #[.int .i64 1, .int .i64 3]] w fun e w' => ∃ u, e = .returned (.tuple #[.agg #[.int .i64 2, .int .i64 3, u], .int .i64 2, .int .i64 0]) ∧ SB w' u [true, true, true, true, true, true] ∧ Frv w.heap.size u ∧ Below w.heap.size w w' := by
  have h := mclose_any 2 3 v [true, false, false, false, false, false] 1 3 w h ⟨by decide, by decide⟩ ⟨by decide, by decide⟩
  rw [show ferr 2 3 (List.length [true, false, false, false, false, false]) 1 3 = 0 from by decide +kernel, zt_eq rfl, zt_eq rfl, zt_eq rfl, zl_eq rfl, show cloL (Int.toNat 2) (Int.toNat 3) [true, false, false, false, false, false] 1 3 = [true, true, true, true, true, true] from by decide +kernel, show cloN (Int.toNat 2) (Int.toNat 3) [true, false, false, false, false, false] 1 3 = 2 from by decide +kernel] at h
  exact h
theorem al_drop (v v' : Value) (w : World) (h : SB w v [true, false, false, false, false, false]) (h' : SI w v' [1, 2, 3, 4, 5, 6]) : Calls Try.prog 30 #[.agg #[.int .i64 2, .int .i64 3, v], v'] w fun e w' => ∃ u, e = .returned (.tuple #[u, .int .i64 0]) ∧ SI w' u [0, 2, 3, 4, 5, 6] ∧ Frv w.heap.size u ∧ Below w.heap.size w w' := by
  have h := drop_any 2 3 v v' [true, false, false, false, false, false] [1, 2, 3, 4, 5, 6] w h h'
  rw [show derr 2 3 (List.length [true, false, false, false, false, false]) [1, 2, 3, 4, 5, 6] = 0 from by decide +kernel, zi_eq rfl, show dropL [true, false, false, false, false, false] [1, 2, 3, 4, 5, 6] = [0, 2, 3, 4, 5, 6] from by decide +kernel] at h
  exact h
theorem al_text (v : Value) (xs : List Bool) (l : List UInt8) (w : World) (h : SB w v xs) (h1 : mtext 2 3 xs = l) (h2 : mchk 2 3 xs.length = 0) : Calls Try.prog 22 #[.agg #[.int .i64 2, .int .i64 3, v]] w fun e w' => e = .returned (.tuple #[.string (bstr l), .int .i64 0]) ∧ Below w.heap.size w w' := by
  have h := text_any' 2 3 v xs w h
  rw [h1, h2] at h
  exact h
theorem si_lit (w : World) (l : List Int) (hl : l.length ≤ 1000) : SI (w.alloc (.cells (l.map (Value.int .i64)).toArray 3)) (.slice (some ⟨w.heap.size, 0, none⟩) l.length l.length) l :=
  (Own.new w 3 (l.map (Value.int .i64))).sl l.length (Nat.le_refl _) (by omega) _ (List.prefix_refl _)

set_option maxRecDepth 100000 in
set_option maxHeartbeats 16000000 in
theorem alive_any (w : World) : Calls Try.prog 33 #[] w fun e w' => e = .returned (.bool true) ∧ Below w.heap.size w w' := by
  have hB := Below.refl w.heap.size w
  go_enter Try.func33, Try.ntmps33
  go_wp2_with fail
  refine (al_parse _).mono ?_
  rintro e v1 ⟨uM, rfl, sM, _, hq⟩
  have hB := below_to hB hq
  clear hq
  have sM' := sM
  obtain ⟨aM, cM, huM, _, _, _⟩ := sM'.open
  subst huM
  clear sM'
  go_upto_region 2 with fail
  have sM := sM.below (ba1 v1 (.cells #[.int .i64 2, .int .i64 3, .slice aM 6 cM] 24))
  have hB := below_to hB (ba1 v1 (.cells #[.int .i64 2, .int .i64 3, .slice aM 6 cM] 24))
  have oM := Own.new v1 24 [.int .i64 2, .int .i64 3, .slice aM 6 cM]
  generalize hbk : v1.heap.size = kM at oM ⊢
  clear hbk
  generalize v1.alloc (.cells #[.int .i64 2, .int .i64 3, .slice aM 6 cM] 24) = y1 at *
  obtain ⟨rM, fM⟩ := oM.rules
  have zM := oM.lt
  go_wp2_with fail
  refine (al_grow _ _ sM).mono ?_
  rintro e v2 ⟨uG, rfl, sG, _, hq⟩
  clear rM fM zM
  have oM := oM.below hq
  have sM := sM.below hq
  have hB := below_to hB hq
  clear hq
  have sG' := sG
  obtain ⟨aG, cG, huG, _, _, _⟩ := sG'.open
  subst huG
  clear sG'
  go_upto_region 3 with fail
  have oM := oM.alloc (.cells #[.int .i64 2, .int .i64 3, .slice aG 6 cG] 24)
  have sM := sM.below (ba1 v2 (.cells #[.int .i64 2, .int .i64 3, .slice aG 6 cG] 24))
  have sG := sG.below (ba1 v2 (.cells #[.int .i64 2, .int .i64 3, .slice aG 6 cG] 24))
  have hB := below_to hB (ba1 v2 (.cells #[.int .i64 2, .int .i64 3, .slice aG 6 cG] 24))
  have oG := Own.new v2 24 [.int .i64 2, .int .i64 3, .slice aG 6 cG]
  generalize hbk : v2.heap.size = kG at oG ⊢
  clear hbk
  generalize v2.alloc (.cells #[.int .i64 2, .int .i64 3, .slice aG 6 cG] 24) = y2 at *
  go_upto_region 4 with fail
  have oM := oM.alloc (.cells #[.int .i64 1, .int .i64 3] 49)
  have oG := oG.alloc (.cells #[.int .i64 1, .int .i64 3] 49)
  have sM := sM.below (ba1 y2 (.cells #[.int .i64 1, .int .i64 3] 49))
  have sG := sG.below (ba1 y2 (.cells #[.int .i64 1, .int .i64 3] 49))
  have hB := below_to hB (ba1 y2 (.cells #[.int .i64 1, .int .i64 3] 49))
  have oT := Own.new y2 49 [.int .i64 1, .int .i64 3]
  generalize hbk : y2.heap.size = kT at oT ⊢
  clear hbk
  generalize y2.alloc (.cells #[.int .i64 1, .int .i64 3] 49) = yT at *
  obtain ⟨rM, fM⟩ := oM.rules
  obtain ⟨rT, fT⟩ := oT.rules
  have zM := oM.lt
  have zT := oT.lt
  go_wp2_with fail
  refine (al_fill _ _ sM).mono ?_
  rintro e v3 ⟨uL, rfl, sL, _, hq⟩
  clear rM fM zM rT fT zT
  have oM := oM.below hq
  have oG := oG.below hq
  have oT := oT.below hq
  have sM := sM.below hq
  have sG := sG.below hq
  have hB := below_to hB hq
  clear hq
  have sL' := sL
  obtain ⟨aL, cL, huL, _, _, _⟩ := sL'.open
  subst huL
  clear sL'
  go_upto_region 5 with fail
  have oM := oM.alloc (.cells #[.int .i64 2, .int .i64 3, .slice aL 6 cL] 24)
  have oG := oG.alloc (.cells #[.int .i64 2, .int .i64 3, .slice aL 6 cL] 24)
  have oT := oT.alloc (.cells #[.int .i64 2, .int .i64 3, .slice aL 6 cL] 24)
  have sM := sM.below (ba1 v3 (.cells #[.int .i64 2, .int .i64 3, .slice aL 6 cL] 24))
  have sG := sG.below (ba1 v3 (.cells #[.int .i64 2, .int .i64 3, .slice aL 6 cL] 24))
  have sL := sL.below (ba1 v3 (.cells #[.int .i64 2, .int .i64 3, .slice aL 6 cL] 24))
  have hB := below_to hB (ba1 v3 (.cells #[.int .i64 2, .int .i64 3, .slice aL 6 cL] 24))
  have oL := Own.new v3 24 [.int .i64 2, .int .i64 3, .slice aL 6 cL]
  generalize hbk : v3.heap.size = kL at oL ⊢
  clear hbk
  generalize v3.alloc (.cells #[.int .i64 2, .int .i64 3, .slice aL 6 cL] 24) = y3 at *
  obtain ⟨rM, fM⟩ := oM.rules
  obtain ⟨rT, fT⟩ := oT.rules
  have zM := oM.lt
  have zT := oT.lt
  go_wp2_with fail
  refine (al_close _ _ sM).mono ?_
  rintro e v4 ⟨uC, rfl, sC, _, hq⟩
  clear rM fM zM rT fT zT
  have oM := oM.below hq
  have oG := oG.below hq
  have oT := oT.below hq
  have oL := oL.below hq
  have sM := sM.below hq
  have sG := sG.below hq
  have sL := sL.below hq
  have hB := below_to hB hq
  clear hq
  have sC' := sC
  obtain ⟨aC, cC, huC, _, _, _⟩ := sC'.open
  subst huC
  clear sC'
  go_upto_region 6 with fail
  have oM := oM.alloc (.cells #[.int .i64 2, .int .i64 3, .slice aC 6 cC] 24)
  have oG := oG.alloc (.cells #[.int .i64 2, .int .i64 3, .slice aC 6 cC] 24)
  have oT := oT.alloc (.cells #[.int .i64 2, .int .i64 3, .slice aC 6 cC] 24)
  have oL := oL.alloc (.cells #[.int .i64 2, .int .i64 3, .slice aC 6 cC] 24)
  have sM := sM.below (ba1 v4 (.cells #[.int .i64 2, .int .i64 3, .slice aC 6 cC] 24))
  have sG := sG.below (ba1 v4 (.cells #[.int .i64 2, .int .i64 3, .slice aC 6 cC] 24))
  have sL := sL.below (ba1 v4 (.cells #[.int .i64 2, .int .i64 3, .slice aC 6 cC] 24))
  have sC := sC.below (ba1 v4 (.cells #[.int .i64 2, .int .i64 3, .slice aC 6 cC] 24))
  have hB := below_to hB (ba1 v4 (.cells #[.int .i64 2, .int .i64 3, .slice aC 6 cC] 24))
  have oC := Own.new v4 24 [.int .i64 2, .int .i64 3, .slice aC 6 cC]
  generalize hbk : v4.heap.size = kC at oC ⊢
  clear hbk
  generalize v4.alloc (.cells #[.int .i64 2, .int .i64 3, .slice aC 6 cC] 24) = y4 at *
  obtain ⟨rM, fM⟩ := oM.rules
  have zM := oM.lt
  go_wp2_with fail
  have sI := si_lit y4 [1, 2, 3, 4, 5, 6] (by decide)
  have oM := oM.below (ba1 y4 (.cells (([1, 2, 3, 4, 5, 6] : List Int).map (Value.int .i64)).toArray 3))
  have oG := oG.below (ba1 y4 (.cells (([1, 2, 3, 4, 5, 6] : List Int).map (Value.int .i64)).toArray 3))
  have oT := oT.below (ba1 y4 (.cells (([1, 2, 3, 4, 5, 6] : List Int).map (Value.int .i64)).toArray 3))
  have oL := oL.below (ba1 y4 (.cells (([1, 2, 3, 4, 5, 6] : List Int).map (Value.int .i64)).toArray 3))
  have oC := oC.below (ba1 y4 (.cells (([1, 2, 3, 4, 5, 6] : List Int).map (Value.int .i64)).toArray 3))
  have sM := sM.below (ba1 y4 (.cells (([1, 2, 3, 4, 5, 6] : List Int).map (Value.int .i64)).toArray 3))
  have sG := sG.below (ba1 y4 (.cells (([1, 2, 3, 4, 5, 6] : List Int).map (Value.int .i64)).toArray 3))
  have sL := sL.below (ba1 y4 (.cells (([1, 2, 3, 4, 5, 6] : List Int).map (Value.int .i64)).toArray 3))
  have sC := sC.below (ba1 y4 (.cells (([1, 2, 3, 4, 5, 6] : List Int).map (Value.int .i64)).toArray 3))
  have hB := below_to hB (ba1 y4 (.cells (([1, 2, 3, 4, 5, 6] : List Int).map (Value.int .i64)).toArray 3))
  refine (al_drop _ _ _ sM sI).mono ?_
  rintro e v9 ⟨uW, rfl, sW, _, hq⟩
  clear rM fM zM
  have oM := oM.below hq
  have oG := oG.below hq
  have oT := oT.below hq
  have oL := oL.below hq
  have oC := oC.below hq
  have sM := sM.below hq
  have sG := sG.below hq
  have sL := sL.below hq
  have sC := sC.below hq
  have hB := below_to hB hq
  clear hq sI
  have sW' := sW
  obtain ⟨aW, cW, huW, _, _, _⟩ := sW'.open
  subst huW
  clear sW'
  obtain ⟨rG, fG⟩ := oG.rules
  have zG := oG.lt
  go_wp2_with fail
  refine (al_text _ _ [120, 120, 46, 10, 120, 120, 46, 10] _ sG (by decide +kernel) (by decide +kernel)).mono ?_
  rintro e v5 ⟨rfl, hq⟩
  clear rG fG zG
  have oM := oM.below hq
  have oG := oG.below hq
  have oT := oT.below hq
  have oL := oL.below hq
  have oC := oC.below hq
  have sM := sM.below hq
  have sG := sG.below hq
  have sL := sL.below hq
  have sC := sC.below hq
  have sW := sW.below hq
  have hB := below_to hB hq
  clear hq
  obtain ⟨rL, fL⟩ := oL.rules
  have zL := oL.lt
  go_wp2_with fail
  refine (al_text _ _ [120, 120, 120, 10, 120, 46, 46, 10] _ sL (by decide +kernel) (by decide +kernel)).mono ?_
  rintro e v6 ⟨rfl, hq⟩
  clear rL fL zL
  have oM := oM.below hq
  have oG := oG.below hq
  have oT := oT.below hq
  have oL := oL.below hq
  have oC := oC.below hq
  have sM := sM.below hq
  have sG := sG.below hq
  have sL := sL.below hq
  have sC := sC.below hq
  have sW := sW.below hq
  have hB := below_to hB hq
  clear hq
  obtain ⟨rC, fC⟩ := oC.rules
  have zC := oC.lt
  go_wp2_with fail
  refine (al_text _ _ [120, 120, 120, 10, 120, 120, 120, 10] _ sC (by decide +kernel) (by decide +kernel)).mono ?_
  rintro e v7 ⟨rfl, hq⟩
  clear rC fC zC
  have oM := oM.below hq
  have oG := oG.below hq
  have oT := oT.below hq
  have oL := oL.below hq
  have oC := oC.below hq
  have sM := sM.below hq
  have sG := sG.below hq
  have sL := sL.below hq
  have sC := sC.below hq
  have sW := sW.below hq
  have hB := below_to hB hq
  clear hq
  have bs0 : (bstr [120, 120, 46, 10, 120, 120, 46, 10]).toList = [120, 120, 46, 10, 120, 120, 46, 10] := by decide +kernel
  have bs1 : (bstr [120, 120, 120, 10, 120, 46, 46, 10]).toList = [120, 120, 120, 10, 120, 46, 46, 10] := by decide +kernel
  have bs2 : (bstr [120, 120, 120, 10, 120, 120, 120, 10]).toList = [120, 120, 120, 10, 120, 120, 120, 10] := by decide +kernel
  go_wp2_with fail
  have sJ := si_lit v7 [0, 2, 3, 4, 5, 6] (by decide)
  have hJ := ba1 v7 (.cells (([0, 2, 3, 4, 5, 6] : List Int).map (Value.int .i64)).toArray 3)
  refine (same13_any _ _ _ _ _ (sW.below hJ) sJ).mono ?_
  rintro e v10 ⟨rfl, hq⟩
  have hB := below_to (below_to hB hJ) hq
  rw [decide_eq_true rfl]
  go_wp2
  go_ret
  exact ⟨rfl, hB⟩

end Go.Proofs.Ytpkggglifahioaa
