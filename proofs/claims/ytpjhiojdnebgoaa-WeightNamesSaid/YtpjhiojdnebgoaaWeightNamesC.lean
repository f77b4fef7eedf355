/- What is proved here: the law WeightNames returns true. No condition. -/
import Derived.Test.YtpjhiojdnebgoaaC20
import Derived.Test.YtpjhiojdnebgoaaC21
import Derived.Test.YtpjhiojdnebgoaaC11
import Derived.Test.YtpjhiojdnebgoaaC01
import Derived.Deep.DeepCutAuto
namespace Go.Proofs.Ytpjhiojdnebgoaa
open Go.RowKit

def bads22 : List Vs := [⟨0, 0, 0, 0, 0, 0⟩, ⟨0, 1, 0, 0, 0, 1⟩, ⟨0, 1, 0, 0, 2, 1⟩, ⟨0, 1, 2, 4, 6, 1⟩, ⟨0, 1, 1, 1, -1, 1⟩, ⟨0, 1, 1000000001, 0, 1, 1⟩, ⟨0, 1, 0, -1000000001, 1, 1⟩, ⟨0, 1, 1, 0, 1000000001, 1⟩, ⟨0, 1, 1, 0, 1, -1⟩, ⟨0, 1, 1, 0, 1, 1000001⟩, ⟨1, 1, 0, 0, 1, 0⟩, ⟨2, 1, 0, 0, 1, 0⟩, ⟨0, 8, 0, 0, 1, 0⟩, ⟨-1, 1, 0, 0, 1, 0⟩]
theorem bads22_all : (bads22.all fun x => x.chk == 8) = true := by decide +kernel
theorem bads22_chk {k : Nat} (hk : k < bads22.length) : bads22[k].chk = 8 := by
  have := List.all_eq_true.1 bads22_all _ (List.getElem_mem hk)
  simpa using this
theorem bads22_mean {x : Vs} (h : x.chk = 8) : vMean [x] = ⟨0, 0, 0, 0, 0, 0, 8⟩ := by
  have h8 : vlist [x] = 8 := by unfold vlist vall; simp [h]
  rw [vMean_l (by rw [h8]; decide), h8]; rfl
set_option maxRecDepth 100000 in
set_option maxHeartbeats 64000000 in
theorem weightNames_any (w : World) : Calls Try.prog 13 #[] w fun e w' => e = .returned (.bool true) ∧ Below w.heap.size w w' := by
  go_enter Try.func13, Try.ntmps13
  have hy := Below.refl w.heap.size w
  go_wp2_with fail
  refine (vis22_any 0 0 0 1 _).mono ?_
  rintro e W1 ⟨rfl, hq⟩
  replace hy := below_to hy hq
  clear hq
  go_wp2_with fail
  refine (vis22_any 0 0 2 1 _).mono ?_
  rintro e W2 ⟨rfl, hq⟩
  replace hy := below_to hy hq
  clear hq
  go_wp2_with fail
  refine (vis22_any 2 4 6 1 _).mono ?_
  rintro e W3 ⟨rfl, hq⟩
  replace hy := below_to hy hq
  clear hq
  go_wp2_with fail
  refine (vis22_any 1 1 (-1) 1 _).mono ?_
  rintro e W4 ⟨rfl, hq⟩
  replace hy := below_to hy hq
  clear hq
  go_wp2_with fail
  refine (vis22_any 1000000001 0 1 1 _).mono ?_
  rintro e W5 ⟨rfl, hq⟩
  replace hy := below_to hy hq
  clear hq
  go_wp2_with fail
  refine (vis22_any 0 (-1000000001) 1 1 _).mono ?_
  rintro e W6 ⟨rfl, hq⟩
  replace hy := below_to hy hq
  clear hq
  go_wp2_with fail
  refine (vis22_any 1 0 1000000001 1 _).mono ?_
  rintro e W7 ⟨rfl, hq⟩
  replace hy := below_to hy hq
  clear hq
  go_wp2_with fail
  refine (vis22_any 1 0 1 (-1) _).mono ?_
  rintro e W8 ⟨rfl, hq⟩
  replace hy := below_to hy hq
  clear hq
  go_wp2_with fail
  refine (vis22_any 1 0 1 1000001 _).mono ?_
  rintro e W9 ⟨rfl, hq⟩
  replace hy := below_to hy hq
  clear hq
  go_upto_region 2 with fail
  have oL := Own.new W9 60 [.int .i64 0, .int .i64 0, .int .i64 0, .int .i64 0, .int .i64 0, .int .i64 0, .int .i64 0, .int .i64 1, .int .i64 0, .int .i64 0, .int .i64 0, .int .i64 1, .int .i64 0, .int .i64 1, .int .i64 0, .int .i64 0, .int .i64 2, .int .i64 1, .int .i64 0, .int .i64 1, .int .i64 2, .int .i64 4, .int .i64 6, .int .i64 1, .int .i64 0, .int .i64 1, .int .i64 1, .int .i64 1, .int .i64 (-1), .int .i64 1, .int .i64 0, .int .i64 1, .int .i64 1000000001, .int .i64 0, .int .i64 1, .int .i64 1, .int .i64 0, .int .i64 1, .int .i64 0, .int .i64 (-1000000001), .int .i64 1, .int .i64 1, .int .i64 0, .int .i64 1, .int .i64 1, .int .i64 0, .int .i64 1000000001, .int .i64 1, .int .i64 0, .int .i64 1, .int .i64 1, .int .i64 0, .int .i64 1, .int .i64 (-1), .int .i64 0, .int .i64 1, .int .i64 1, .int .i64 0, .int .i64 1, .int .i64 1000001, .int .i64 1, .int .i64 1, .int .i64 0, .int .i64 0, .int .i64 1, .int .i64 0, .int .i64 2, .int .i64 1, .int .i64 0, .int .i64 0, .int .i64 1, .int .i64 0, .int .i64 0, .int .i64 8, .int .i64 0, .int .i64 0, .int .i64 1, .int .i64 0, .int .i64 (-1), .int .i64 1, .int .i64 0, .int .i64 0, .int .i64 1, .int .i64 0]
  have sL := sv_of_own bads22 14 rfl (by decide) oL
  have hq := ba1 W9 (.cells #[.int .i64 0, .int .i64 0, .int .i64 0, .int .i64 0, .int .i64 0, .int .i64 0, .int .i64 0, .int .i64 1, .int .i64 0, .int .i64 0, .int .i64 0, .int .i64 1, .int .i64 0, .int .i64 1, .int .i64 0, .int .i64 0, .int .i64 2, .int .i64 1, .int .i64 0, .int .i64 1, .int .i64 2, .int .i64 4, .int .i64 6, .int .i64 1, .int .i64 0, .int .i64 1, .int .i64 1, .int .i64 1, .int .i64 (-1), .int .i64 1, .int .i64 0, .int .i64 1, .int .i64 1000000001, .int .i64 0, .int .i64 1, .int .i64 1, .int .i64 0, .int .i64 1, .int .i64 0, .int .i64 (-1000000001), .int .i64 1, .int .i64 1, .int .i64 0, .int .i64 1, .int .i64 1, .int .i64 0, .int .i64 1000000001, .int .i64 1, .int .i64 0, .int .i64 1, .int .i64 1, .int .i64 0, .int .i64 1, .int .i64 (-1), .int .i64 0, .int .i64 1, .int .i64 1, .int .i64 0, .int .i64 1, .int .i64 1000001, .int .i64 1, .int .i64 1, .int .i64 0, .int .i64 0, .int .i64 1, .int .i64 0, .int .i64 2, .int .i64 1, .int .i64 0, .int .i64 0, .int .i64 1, .int .i64 0, .int .i64 0, .int .i64 8, .int .i64 0, .int .i64 0, .int .i64 1, .int .i64 0, .int .i64 (-1), .int .i64 1, .int .i64 0, .int .i64 0, .int .i64 1, .int .i64 0] 60)
  clear oL
  replace hy := below_to hy hq
  clear hq
  obtain ⟨bL, hL⟩ : ∃ B, B = W9.heap.size := ⟨_, rfl⟩
  rw [← hL] at sL ⊢
  clear hL
  generalize W9.alloc (.cells #[.int .i64 0, .int .i64 0, .int .i64 0, .int .i64 0, .int .i64 0, .int .i64 0, .int .i64 0, .int .i64 1, .int .i64 0, .int .i64 0, .int .i64 0, .int .i64 1, .int .i64 0, .int .i64 1, .int .i64 0, .int .i64 0, .int .i64 2, .int .i64 1, .int .i64 0, .int .i64 1, .int .i64 2, .int .i64 4, .int .i64 6, .int .i64 1, .int .i64 0, .int .i64 1, .int .i64 1, .int .i64 1, .int .i64 (-1), .int .i64 1, .int .i64 0, .int .i64 1, .int .i64 1000000001, .int .i64 0, .int .i64 1, .int .i64 1, .int .i64 0, .int .i64 1, .int .i64 0, .int .i64 (-1000000001), .int .i64 1, .int .i64 1, .int .i64 0, .int .i64 1, .int .i64 1, .int .i64 0, .int .i64 1000000001, .int .i64 1, .int .i64 0, .int .i64 1, .int .i64 1, .int .i64 0, .int .i64 1, .int .i64 (-1), .int .i64 0, .int .i64 1, .int .i64 1, .int .i64 0, .int .i64 1, .int .i64 1000001, .int .i64 1, .int .i64 1, .int .i64 0, .int .i64 0, .int .i64 1, .int .i64 0, .int .i64 2, .int .i64 1, .int .i64 0, .int .i64 0, .int .i64 1, .int .i64 0, .int .i64 0, .int .i64 8, .int .i64 0, .int .i64 0, .int .i64 1, .int .i64 0, .int .i64 (-1), .int .i64 1, .int .i64 0, .int .i64 0, .int .i64 1, .int .i64 0] 60) = y2 at *
  have S0 := Lib.hid sL
  clear sL
  go_wp2
  go_loopw [2] (fun i wr => ∃ m : Nat, m ≤ 14 ∧ i = .int .i64 m ∧ Below y2.heap.size y2 wr) (fun i _ => 15 - (intOf i).toNat)
  case atStart => exact ⟨0, Nat.zero_le _, rfl, Below.refl _ _⟩
  case round =>
    obtain ⟨m, hm, rfl, hC⟩ := hrel
    rename World => W
    by_cases hml : m < 14
    · have SW := Lib.hid (S0.out.below hC)
      have hb : m < bads22.length := hml
      have SO := Lib.hid (sv_one (c := 14 - m) SW.out hb (by omega))
      obtain ⟨_, _, e, _, _, H⟩ := SW.out.open
      cases e
      obtain ⟨b, off, e0, c0, c1, c2, c3, c4, c5⟩ := H.out m hb
      cases e0
      clear H
      have CK := Lib.hid (bads22_chk hb)
      generalize bads22[m] = x at *
      rw [Nat.zero_add] at c0 c1 c2 c3 c4 c5
      replace SO := Lib.hid (show SV W (.slice (some ⟨bL, m * 6, none⟩) 1 (14 - m)) [x] by have := SO.out; rwa [Nat.zero_add] at this)
      go_wp2_with fail
      refine (vMean_any [x] _ _ SO.out).mono ?_
      rintro e y3 ⟨rfl, hq⟩
      clear SO
      rw [bads22_mean CK.out]
      unfold VR.res
      have zb := World.block_lt_of_cell? _ _ c0
      simp only at zb
      have hq2 := below_to hq (ba1 y3 (.cells #[.int .i64 0, .int .i64 0, .int .i64 0, .int .i64 0, .int .i64 0, .int .i64 0] 60))
      go_upto_region 6 with fail
      generalize y3.alloc (.cells #[.int .i64 0, .int .i64 0, .int .i64 0, .int .i64 0, .int .i64 0, .int .i64 0] 60) = y4 at *
      have g0 := (hq2.cell (p := ⟨bL, m * 6, none⟩) zb).trans c0
      have g1 := (hq2.cell (p := ⟨bL, m * 6 + 1, none⟩) zb).trans c1
      have g2 := (hq2.cell (p := ⟨bL, m * 6 + 2, none⟩) zb).trans c2
      have g3 := (hq2.cell (p := ⟨bL, m * 6 + 3, none⟩) zb).trans c3
      have g4 := (hq2.cell (p := ⟨bL, m * 6 + 4, none⟩) zb).trans c4
      have g5 := (hq2.cell (p := ⟨bL, m * 6 + 5, none⟩) zb).trans c5
      clear c0 c1 c2 c3 c4 c5
      go_wp2_with fail
      refine (vcheck_of _ _ _ _ _ _ 8 _ CK.out).mono ?_
      rintro e y5 ⟨rfl, hq3⟩
      replace hC := below_to (below_to hC hq2) hq3
      clear g0 g1 g2 g3 g4 g5 hq hq2 hq3 SW zb CK
      go_wp2
      go_roundw
      case rel => exact ⟨m + 1, by omega, rfl, hC⟩
      case measure => simp [intOf]; omega
    · obtain rfl : m = 14 := by omega
      replace hy := below_to hy hC
      clear hC hm hml S0
      go_upto_region 8 with fail
      go_upto_region 9 with fail
      have oA := (Own.new W 24 [.int .i64 1, .int .i64 1]).alloc (.cells #[.int .i64 1, .int .i64 2] 24)
      have oB := own_second W 24 [.int .i64 1, .int .i64 2] (.cells #[.int .i64 1, .int .i64 1] 24)
      have hq := ba2 W (.cells #[.int .i64 1, .int .i64 1] 24) (.cells #[.int .i64 1, .int .i64 2] 24)
      replace hy := below_to hy hq
      clear hq
      obtain ⟨BB, hBB⟩ : ∃ B, B = W.heap.size := ⟨_, rfl⟩
      rw [← hBB] at oA oB ⊢
      clear hBB
      generalize (W.alloc (.cells #[.int .i64 1, .int .i64 1] 24)).alloc (.cells #[.int .i64 1, .int .i64 2] 24) = W11 at *
      obtain ⟨rA, fA⟩ := oA.rules
      have zA := oA.lt
      go_wp2_with fail
      clear rA fA zA
      refine (vmake_any 0 0 1 1 1 1 1 _ ⟨by decide, by decide⟩ ⟨by decide, by decide⟩ ⟨by decide, by decide⟩ ⟨by decide, by decide⟩).mono ?_
      rintro e W12 ⟨rfl, hq⟩
      replace oA := oA.below hq
      replace oB := oB.below hq
      replace hy := below_to hy hq
      clear hq
      rw [show wmk 0 0 1 1 1 1 1 = ⟨0, 0, 0, 0, 0, 0, 2⟩ from vr_is (by decide +kernel)]
      go_upto_region 10 with fail
      have hq := ba1 W12 (.cells #[.int .i64 0, .int .i64 0, .int .i64 0, .int .i64 0, .int .i64 0, .int .i64 0] 60)
      replace oA := oA.below hq
      replace oB := oB.below hq
      replace hy := below_to hy hq
      clear hq
      obtain ⟨bx12, hbx12⟩ : ∃ B, B = W12.heap.size := ⟨_, rfl⟩
      rw [← hbx12] at ⊢
      clear hbx12
      generalize W12.alloc (.cells #[.int .i64 0, .int .i64 0, .int .i64 0, .int .i64 0, .int .i64 0, .int .i64 0] 60) = W13 at *
      obtain ⟨rA, fA⟩ := oA.rules
      have zA := oA.lt
      go_wp2_with fail
      clear rA fA zA
      refine (vmake_any 0 8 1 1 1 1 1 _ ⟨by decide, by decide⟩ ⟨by decide, by decide⟩ ⟨by decide, by decide⟩ ⟨by decide, by decide⟩).mono ?_
      rintro e W14 ⟨rfl, hq⟩
      replace oA := oA.below hq
      replace oB := oB.below hq
      replace hy := below_to hy hq
      clear hq
      rw [show wmk 0 8 1 1 1 1 1 = ⟨0, 0, 0, 0, 0, 0, 2⟩ from vr_is (by decide +kernel)]
      go_upto_region 11 with fail
      have hq := ba1 W14 (.cells #[.int .i64 0, .int .i64 0, .int .i64 0, .int .i64 0, .int .i64 0, .int .i64 0] 60)
      replace oA := oA.below hq
      replace oB := oB.below hq
      replace hy := below_to hy hq
      clear hq
      obtain ⟨bx14, hbx14⟩ : ∃ B, B = W14.heap.size := ⟨_, rfl⟩
      rw [← hbx14] at ⊢
      clear hbx14
      generalize W14.alloc (.cells #[.int .i64 0, .int .i64 0, .int .i64 0, .int .i64 0, .int .i64 0, .int .i64 0] 60) = W15 at *
      obtain ⟨rA, fA⟩ := oA.rules
      have zA := oA.lt
      go_wp2_with fail
      clear rA fA zA
      refine (vmake_any 0 1 1 1 1 1 1000001 _ ⟨by decide, by decide⟩ ⟨by decide, by decide⟩ ⟨by decide, by decide⟩ ⟨by decide, by decide⟩).mono ?_
      rintro e W16 ⟨rfl, hq⟩
      replace oA := oA.below hq
      replace oB := oB.below hq
      replace hy := below_to hy hq
      clear hq
      rw [show wmk 0 1 1 1 1 1 1000001 = ⟨0, 0, 0, 0, 0, 0, 2⟩ from vr_is (by decide +kernel)]
      go_upto_region 12 with fail
      have hq := ba1 W16 (.cells #[.int .i64 0, .int .i64 0, .int .i64 0, .int .i64 0, .int .i64 0, .int .i64 0] 60)
      replace oA := oA.below hq
      replace oB := oB.below hq
      replace hy := below_to hy hq
      clear hq
      obtain ⟨bx16, hbx16⟩ : ∃ B, B = W16.heap.size := ⟨_, rfl⟩
      rw [← hbx16] at ⊢
      clear hbx16
      generalize W16.alloc (.cells #[.int .i64 0, .int .i64 0, .int .i64 0, .int .i64 0, .int .i64 0, .int .i64 0] 60) = W17 at *
      obtain ⟨rA, fA⟩ := oA.rules
      have zA := oA.lt
      go_wp2_with fail
      clear rA fA zA
      refine (vmake_any 0 1 2 4 1 1 1 _ ⟨by decide, by decide⟩ ⟨by decide, by decide⟩ ⟨by decide, by decide⟩ ⟨by decide, by decide⟩).mono ?_
      rintro e W18 ⟨rfl, hq⟩
      replace oA := oA.below hq
      replace oB := oB.below hq
      replace hy := below_to hy hq
      clear hq
      rw [show wmk 0 1 2 4 1 1 1 = ⟨0, 0, 0, 0, 0, 0, 8⟩ from vr_is (by decide +kernel)]
      go_upto_region 13 with fail
      have hq := ba1 W18 (.cells #[.int .i64 0, .int .i64 0, .int .i64 0, .int .i64 0, .int .i64 0, .int .i64 0] 60)
      replace oA := oA.below hq
      replace oB := oB.below hq
      replace hy := below_to hy hq
      clear hq
      obtain ⟨bx18, hbx18⟩ : ∃ B, B = W18.heap.size := ⟨_, rfl⟩
      rw [← hbx18] at ⊢
      clear hbx18
      generalize W18.alloc (.cells #[.int .i64 0, .int .i64 0, .int .i64 0, .int .i64 0, .int .i64 0, .int .i64 0] 60) = W19 at *
      obtain ⟨rA, fA⟩ := oA.rules
      have zA := oA.lt
      go_wp2_with fail
      clear rA fA zA
      refine (vmake_any 0 1 1 1000000007 1 1 1 _ ⟨by decide, by decide⟩ ⟨by decide, by decide⟩ ⟨by decide, by decide⟩ ⟨by decide, by decide⟩).mono ?_
      rintro e W20 ⟨rfl, hq⟩
      replace oA := oA.below hq
      replace oB := oB.below hq
      replace hy := below_to hy hq
      clear hq
      rw [show wmk 0 1 1 1000000007 1 1 1 = ⟨0, 0, 0, 0, 0, 0, 16⟩ from vr_is (by decide +kernel)]
      go_upto_region 14 with fail
      have hq := ba1 W20 (.cells #[.int .i64 0, .int .i64 0, .int .i64 0, .int .i64 0, .int .i64 0, .int .i64 0] 60)
      replace oA := oA.below hq
      replace oB := oB.below hq
      replace hy := below_to hy hq
      clear hq
      obtain ⟨bx20, hbx20⟩ : ∃ B, B = W20.heap.size := ⟨_, rfl⟩
      rw [← hbx20] at ⊢
      clear hbx20
      generalize W20.alloc (.cells #[.int .i64 0, .int .i64 0, .int .i64 0, .int .i64 0, .int .i64 0, .int .i64 0] 60) = W21 at *
      go_wp2_with fail
      refine (vmake_any 0 1 1 1000000 1 999999 1 _ ⟨by decide, by decide⟩ ⟨by decide, by decide⟩ ⟨by decide, by decide⟩ ⟨by decide, by decide⟩).mono ?_
      rintro e W22 ⟨rfl, hq⟩
      replace oA := oA.below hq
      replace oB := oB.below hq
      replace hy := below_to hy hq
      clear hq
      rw [show wmk 0 1 1 1000000 1 999999 1 = ⟨0, 0, 0, 0, 0, 0, 16⟩ from vr_is (by decide +kernel)]
      go_upto_region 15 with fail
      have hq := ba1 W22 (.cells #[.int .i64 0, .int .i64 0, .int .i64 0, .int .i64 0, .int .i64 0, .int .i64 0] 60)
      replace oA := oA.below hq
      replace oB := oB.below hq
      replace hy := below_to hy hq
      clear hq
      obtain ⟨bx22, hbx22⟩ : ∃ B, B = W22.heap.size := ⟨_, rfl⟩
      rw [← hbx22] at ⊢
      clear hbx22
      generalize W22.alloc (.cells #[.int .i64 0, .int .i64 0, .int .i64 0, .int .i64 0, .int .i64 0, .int .i64 0] 60) = W23 at *
      obtain ⟨rB, fB⟩ := oB.rules
      have zB := oB.lt
      go_wp2_with fail
      clear rB fB zB
      refine (vmake_any 0 1 1000000000 1 1 2 1 _ ⟨by decide, by decide⟩ ⟨by decide, by decide⟩ ⟨by decide, by decide⟩ ⟨by decide, by decide⟩).mono ?_
      rintro e W24 ⟨rfl, hq⟩
      replace oA := oA.below hq
      replace oB := oB.below hq
      replace hy := below_to hy hq
      clear hq
      rw [show wmk 0 1 1000000000 1 1 2 1 = ⟨0, 0, 0, 0, 0, 0, 16⟩ from vr_is (by decide +kernel)]
      go_upto_region 16 with fail
      have hq := ba1 W24 (.cells #[.int .i64 0, .int .i64 0, .int .i64 0, .int .i64 0, .int .i64 0, .int .i64 0] 60)
      replace oA := oA.below hq
      replace oB := oB.below hq
      replace hy := below_to hy hq
      clear hq
      obtain ⟨bx24, hbx24⟩ : ∃ B, B = W24.heap.size := ⟨_, rfl⟩
      rw [← hbx24] at ⊢
      clear hbx24
      generalize W24.alloc (.cells #[.int .i64 0, .int .i64 0, .int .i64 0, .int .i64 0, .int .i64 0, .int .i64 0] 60) = W25 at *
      obtain ⟨rB, fB⟩ := oB.rules
      have zB := oB.lt
      go_wp2_with fail
      clear rB fB zB
      refine (vmake_any 0 7 500000000 1 1 2 1000000 _ ⟨by decide, by decide⟩ ⟨by decide, by decide⟩ ⟨by decide, by decide⟩ ⟨by decide, by decide⟩).mono ?_
      rintro e W26 ⟨rfl, hq⟩
      replace oA := oA.below hq
      replace oB := oB.below hq
      replace hy := below_to hy hq
      clear hq
      rw [show wmk 0 7 500000000 1 1 2 1000000 = ⟨0, 7, 1000000000, 1, 2, 1000000, 0⟩ from vr_is (by decide +kernel)]
      go_upto_region 17 with fail
      have oT := Own.new W26 60 [.int .i64 0, .int .i64 7, .int .i64 1000000000, .int .i64 1, .int .i64 2, .int .i64 1000000]
      have hq := ba1 W26 (.cells #[.int .i64 0, .int .i64 7, .int .i64 1000000000, .int .i64 1, .int .i64 2, .int .i64 1000000] 60)
      replace oA := oA.below hq
      replace oB := oB.below hq
      replace hy := below_to hy hq
      clear hq
      obtain ⟨bT, hbT⟩ : ∃ B, B = W26.heap.size := ⟨_, rfl⟩
      rw [← hbT] at oT ⊢
      clear hbT
      generalize W26.alloc (.cells #[.int .i64 0, .int .i64 7, .int .i64 1000000000, .int .i64 1, .int .i64 2, .int .i64 1000000] 60) = W27 at *
      clear oA oB
      go_wp2_with fail
      refine (vMean_any [] _ _ (sv_nil _)).mono ?_
      rintro e W28 ⟨rfl, hq⟩
      replace oT := oT.below hq
      replace hy := below_to hy hq
      clear hq
      rw [show vMean [] = ⟨0, 0, 0, 0, 0, 0, 2⟩ from vr_is (by decide +kernel)]
      unfold VR.res
      go_upto_region 18 with fail
      have hq := ba1 W28 (.cells #[.int .i64 0, .int .i64 0, .int .i64 0, .int .i64 0, .int .i64 0, .int .i64 0] 60)
      replace oT := oT.below hq
      replace hy := below_to hy hq
      clear hq
      obtain ⟨bx28, hbx28⟩ : ∃ B, B = W28.heap.size := ⟨_, rfl⟩
      rw [← hbx28] at ⊢
      clear hbx28
      generalize W28.alloc (.cells #[.int .i64 0, .int .i64 0, .int .i64 0, .int .i64 0, .int .i64 0, .int .i64 0] 60) = W29 at *
      go_wp2_with fail
      refine (vis22_any 1 0 1 1 _).mono ?_
      rintro e W30 ⟨rfl, hq⟩
      replace oT := oT.below hq
      replace hy := below_to hy hq
      clear hq
      go_wp2_with fail
      have oS := Own.new W30 60 (vcs [⟨0, 1, 1, 0, 1, 1⟩, ⟨1, 2, 0, 0, 1, 1⟩])
      have hq := ba1 W30 (.cells (vcs [⟨0, 1, 1, 0, 1, 1⟩, ⟨1, 2, 0, 0, 1, 1⟩]).toArray 60)
      have sS := sv_of_own [⟨0, 1, 1, 0, 1, 1⟩, ⟨1, 2, 0, 0, 1, 1⟩] 2 rfl (by decide) oS
      clear oS
      replace oT := oT.below hq
      replace hy := below_to hy hq
      clear hq
      refine (vMean_any [⟨0, 1, 1, 0, 1, 1⟩, ⟨1, 2, 0, 0, 1, 1⟩] _ _ sS).mono ?_
      rintro e W31 ⟨rfl, hq⟩
      replace oT := oT.below hq
      replace hy := below_to hy hq
      clear hq
      clear sS
      rw [show vMean [⟨0, 1, 1, 0, 1, 1⟩, ⟨1, 2, 0, 0, 1, 1⟩] = ⟨0, 0, 0, 0, 0, 0, 2⟩ from vr_is (by decide +kernel)]
      unfold VR.res
      go_upto_region 19 with fail
      have hq := ba1 W31 (.cells #[.int .i64 0, .int .i64 0, .int .i64 0, .int .i64 0, .int .i64 0, .int .i64 0] 60)
      replace oT := oT.below hq
      replace hy := below_to hy hq
      clear hq
      obtain ⟨bx31, hbx31⟩ : ∃ B, B = W31.heap.size := ⟨_, rfl⟩
      rw [← hbx31] at ⊢
      clear hbx31
      generalize W31.alloc (.cells #[.int .i64 0, .int .i64 0, .int .i64 0, .int .i64 0, .int .i64 0, .int .i64 0] 60) = W32 at *
      go_wp2_with fail
      refine (vis22_any 1 0 1 0 _).mono ?_
      rintro e W33 ⟨rfl, hq⟩
      replace oT := oT.below hq
      replace hy := below_to hy hq
      clear hq
      go_wp2_with fail
      have oS := Own.new W33 60 (vcs [⟨0, 1, 1, 0, 1, 0⟩])
      have hq := ba1 W33 (.cells (vcs [⟨0, 1, 1, 0, 1, 0⟩]).toArray 60)
      have sS := sv_of_own [⟨0, 1, 1, 0, 1, 0⟩] 1 rfl (by decide) oS
      clear oS
      replace oT := oT.below hq
      replace hy := below_to hy hq
      clear hq
      refine (vMean_any [⟨0, 1, 1, 0, 1, 0⟩] _ _ sS).mono ?_
      rintro e W34 ⟨rfl, hq⟩
      replace oT := oT.below hq
      replace hy := below_to hy hq
      clear hq
      clear sS
      rw [show vMean [⟨0, 1, 1, 0, 1, 0⟩] = ⟨0, 0, 0, 0, 0, 0, 18⟩ from vr_is (by decide +kernel)]
      unfold VR.res
      go_upto_region 20 with fail
      have hq := ba1 W34 (.cells #[.int .i64 0, .int .i64 0, .int .i64 0, .int .i64 0, .int .i64 0, .int .i64 0] 60)
      replace oT := oT.below hq
      replace hy := below_to hy hq
      clear hq
      obtain ⟨bx34, hbx34⟩ : ∃ B, B = W34.heap.size := ⟨_, rfl⟩
      rw [← hbx34] at ⊢
      clear hbx34
      generalize W34.alloc (.cells #[.int .i64 0, .int .i64 0, .int .i64 0, .int .i64 0, .int .i64 0, .int .i64 0] 60) = W35 at *
      go_wp2_with fail
      refine (vis22_any 1 0 1 1000000 _).mono ?_
      rintro e W36 ⟨rfl, hq⟩
      replace oT := oT.below hq
      replace hy := below_to hy hq
      clear hq
      go_wp2_with fail
      refine (vis22_any 1 0 1 1 _).mono ?_
      rintro e W37 ⟨rfl, hq⟩
      replace oT := oT.below hq
      replace hy := below_to hy hq
      clear hq
      go_wp2_with fail
      have oS := Own.new W37 60 (vcs [⟨0, 1, 1, 0, 1, 1000000⟩, ⟨0, 1, 1, 0, 1, 1⟩])
      have hq := ba1 W37 (.cells (vcs [⟨0, 1, 1, 0, 1, 1000000⟩, ⟨0, 1, 1, 0, 1, 1⟩]).toArray 60)
      have sS := sv_of_own [⟨0, 1, 1, 0, 1, 1000000⟩, ⟨0, 1, 1, 0, 1, 1⟩] 2 rfl (by decide) oS
      clear oS
      replace oT := oT.below hq
      replace hy := below_to hy hq
      clear hq
      refine (vMean_any [⟨0, 1, 1, 0, 1, 1000000⟩, ⟨0, 1, 1, 0, 1, 1⟩] _ _ sS).mono ?_
      rintro e W38 ⟨rfl, hq⟩
      replace oT := oT.below hq
      replace hy := below_to hy hq
      clear hq
      clear sS
      rw [show vMean [⟨0, 1, 1, 0, 1, 1000000⟩, ⟨0, 1, 1, 0, 1, 1⟩] = ⟨0, 0, 0, 0, 0, 0, 16⟩ from vr_is (by decide +kernel)]
      unfold VR.res
      go_upto_region 21 with fail
      have hq := ba1 W38 (.cells #[.int .i64 0, .int .i64 0, .int .i64 0, .int .i64 0, .int .i64 0, .int .i64 0] 60)
      replace oT := oT.below hq
      replace hy := below_to hy hq
      clear hq
      obtain ⟨bx38, hbx38⟩ : ∃ B, B = W38.heap.size := ⟨_, rfl⟩
      rw [← hbx38] at ⊢
      clear hbx38
      generalize W38.alloc (.cells #[.int .i64 0, .int .i64 0, .int .i64 0, .int .i64 0, .int .i64 0, .int .i64 0] 60) = W39 at *
      obtain ⟨LL, hLL⟩ : ∃ L : List Vs, L = List.replicate 201 ⟨0, 0, 0, 0, 0, 0⟩ := ⟨_, rfl⟩
      have MK : (Instr.makeSlice 55 (.int .i64 201) (.int .i64 201)).run Try.prog W39 = .ok (.slice (some ⟨(W39).heap.size, 0, none⟩) 201 201) ((W39).alloc (.cells (vcs LL).toArray 60)) := by rw [hLL]; exact mk_viss 201 (by decide) W39
      replace hLL := Lib.hid hLL
      try simp at MK
      go_wp2_with fail
      clear MK
      have oS := Own.new W39 60 (vcs LL)
      have hq := ba1 W39 (.cells (vcs LL).toArray 60)
      have sS := sv_of_own LL 201 (by rw [hLL.out, List.length_replicate]) (by decide) oS
      clear oS
      replace oT := oT.below hq
      replace hy := below_to hy hq
      clear hq
      refine (vMean_any LL _ _ sS).mono ?_
      rintro e W40 ⟨rfl, hq⟩
      replace oT := oT.below hq
      replace hy := below_to hy hq
      clear hq
      clear sS
      rw [show vMean LL = ⟨0, 0, 0, 0, 0, 0, 4⟩ from by rw [hLL.out]; exact vr_is (by decide +kernel)]
      clear hLL
      unfold VR.res
      go_upto_region 22 with fail
      have hq := ba1 W40 (.cells #[.int .i64 0, .int .i64 0, .int .i64 0, .int .i64 0, .int .i64 0, .int .i64 0] 60)
      replace oT := oT.below hq
      replace hy := below_to hy hq
      clear hq
      obtain ⟨bx40, hbx40⟩ : ∃ B, B = W40.heap.size := ⟨_, rfl⟩
      rw [← hbx40] at ⊢
      clear hbx40
      generalize W40.alloc (.cells #[.int .i64 0, .int .i64 0, .int .i64 0, .int .i64 0, .int .i64 0, .int .i64 0] 60) = W41 at *
      go_wp2_with fail
      refine (vis22_any 1 0 999999937 1 _).mono ?_
      rintro e W42 ⟨rfl, hq⟩
      replace oT := oT.below hq
      replace hy := below_to hy hq
      clear hq
      go_wp2_with fail
      refine (vis22_any 1 0 999999929 1 _).mono ?_
      rintro e W43 ⟨rfl, hq⟩
      replace oT := oT.below hq
      replace hy := below_to hy hq
      clear hq
      go_wp2_with fail
      refine (vis22_any 1 0 999999893 1 _).mono ?_
      rintro e W44 ⟨rfl, hq⟩
      replace oT := oT.below hq
      replace hy := below_to hy hq
      clear hq
      go_wp2_with fail
      have oS := Own.new W44 60 (vcs [⟨0, 1, 1, 0, 999999937, 1⟩, ⟨0, 1, 1, 0, 999999929, 1⟩, ⟨0, 1, 1, 0, 999999893, 1⟩])
      have hq := ba1 W44 (.cells (vcs [⟨0, 1, 1, 0, 999999937, 1⟩, ⟨0, 1, 1, 0, 999999929, 1⟩, ⟨0, 1, 1, 0, 999999893, 1⟩]).toArray 60)
      have sS := sv_of_own [⟨0, 1, 1, 0, 999999937, 1⟩, ⟨0, 1, 1, 0, 999999929, 1⟩, ⟨0, 1, 1, 0, 999999893, 1⟩] 3 rfl (by decide) oS
      clear oS
      replace oT := oT.below hq
      replace hy := below_to hy hq
      clear hq
      refine (vMean_any [⟨0, 1, 1, 0, 999999937, 1⟩, ⟨0, 1, 1, 0, 999999929, 1⟩, ⟨0, 1, 1, 0, 999999893, 1⟩] _ _ sS).mono ?_
      rintro e W45 ⟨rfl, hq⟩
      replace oT := oT.below hq
      replace hy := below_to hy hq
      clear hq
      clear sS
      rw [show vMean [⟨0, 1, 1, 0, 999999937, 1⟩, ⟨0, 1, 1, 0, 999999929, 1⟩, ⟨0, 1, 1, 0, 999999893, 1⟩] = ⟨0, 0, 0, 0, 0, 0, 16⟩ from vr_is (by decide +kernel)]
      unfold VR.res
      go_upto_region 23 with fail
      have hq := ba1 W45 (.cells #[.int .i64 0, .int .i64 0, .int .i64 0, .int .i64 0, .int .i64 0, .int .i64 0] 60)
      replace oT := oT.below hq
      replace hy := below_to hy hq
      clear hq
      obtain ⟨bx45, hbx45⟩ : ∃ B, B = W45.heap.size := ⟨_, rfl⟩
      rw [← hbx45] at ⊢
      clear hbx45
      generalize W45.alloc (.cells #[.int .i64 0, .int .i64 0, .int .i64 0, .int .i64 0, .int .i64 0, .int .i64 0] 60) = W46 at *
      go_wp2_with fail
      refine (vgroup_any [] _ _ (sv_nil _)).mono ?_
      rintro e W47 ⟨gN, rfl, sgN, hq⟩
      replace oT := oT.below hq
      replace hy := below_to hy hq
      clear hq
      have eg : vGroup [] = ([], 0) := by decide +kernel
      rw [eg] at sgN ⊢
      clear eg
      replace sgN : SV W47 gN [] := sgN
      obtain ⟨adgN, capgN, egN, _, _, _⟩ := sgN.open
      rw [egN] at sgN ⊢
      clear egN
      simp only [List.length_nil] at *
      clear sgN
      go_upto_region 24 with fail
      go_wp2_with fail
      refine (vis22_any 1 0 1 0 _).mono ?_
      rintro e W48 ⟨rfl, hq⟩
      replace oT := oT.below hq
      replace hy := below_to hy hq
      clear hq
      go_wp2_with fail
      have oS := Own.new W48 60 (vcs [⟨0, 1, 1, 0, 1, 0⟩, ⟨2, 3, 1, 0, 1, 2⟩, ⟨1, 4, 0, 1, 1, 1⟩])
      have hq := ba1 W48 (.cells (vcs [⟨0, 1, 1, 0, 1, 0⟩, ⟨2, 3, 1, 0, 1, 2⟩, ⟨1, 4, 0, 1, 1, 1⟩]).toArray 60)
      have sS := sv_of_own [⟨0, 1, 1, 0, 1, 0⟩, ⟨2, 3, 1, 0, 1, 2⟩, ⟨1, 4, 0, 1, 1, 1⟩] 3 rfl (by decide) oS
      clear oS
      replace oT := oT.below hq
      replace hy := below_to hy hq
      clear hq
      refine (vgroup_any [⟨0, 1, 1, 0, 1, 0⟩, ⟨2, 3, 1, 0, 1, 2⟩, ⟨1, 4, 0, 1, 1, 1⟩] _ _ sS).mono ?_
      rintro e W49 ⟨gO, rfl, sgO, hq⟩
      replace oT := oT.below hq
      replace hy := below_to hy hq
      clear hq
      clear sS
      have eg : vGroup [⟨0, 1, 1, 0, 1, 0⟩, ⟨2, 3, 1, 0, 1, 2⟩, ⟨1, 4, 0, 1, 1, 1⟩] = ([⟨1, 4, 0, 1, 1, 1⟩, ⟨2, 3, 1, 0, 1, 2⟩], 0) := by decide +kernel
      rw [eg] at sgO ⊢
      clear eg
      replace sgO : SV W49 gO [⟨1, 4, 0, 1, 1, 1⟩, ⟨2, 3, 1, 0, 1, 2⟩] := sgO
      obtain ⟨adgO, capgO, egO, _, _, _⟩ := sgO.open
      rw [egO] at sgO ⊢
      clear egO
      simp only [List.length_cons, List.length_nil, Nat.zero_add, Nat.reduceAdd] at *
      go_upto_region 25 with fail
      go_wp2_with fail
      refine (vis22_any 1 0 1 2 _).mono ?_
      rintro e W50 ⟨rfl, hq⟩
      replace oT := oT.below hq
      replace sgO := sgO.below hq
      replace hy := below_to hy hq
      clear hq
      go_wp2_with fail
      refine (vscale_any 0 1 1 0 1 2 500001 _).mono ?_
      rintro e W51 ⟨rfl, hq⟩
      replace oT := oT.below hq
      replace sgO := sgO.below hq
      replace hy := below_to hy hq
      clear hq
      rw [show wsc 0 1 1 0 1 2 500001 = ⟨0, 0, 0, 0, 0, 0, 16⟩ from vr_is (by decide +kernel)]
      go_upto_region 26 with fail
      have hq := ba1 W51 (.cells #[.int .i64 0, .int .i64 0, .int .i64 0, .int .i64 0, .int .i64 0, .int .i64 0] 60)
      replace oT := oT.below hq
      replace sgO := sgO.below hq
      replace hy := below_to hy hq
      clear hq
      obtain ⟨bx51, hbx51⟩ : ∃ B, B = W51.heap.size := ⟨_, rfl⟩
      rw [← hbx51] at ⊢
      clear hbx51
      generalize W51.alloc (.cells #[.int .i64 0, .int .i64 0, .int .i64 0, .int .i64 0, .int .i64 0, .int .i64 0] 60) = W52 at *
      go_wp2_with fail
      refine (vis22_any 1 0 1 2 _).mono ?_
      rintro e W53 ⟨rfl, hq⟩
      replace oT := oT.below hq
      replace sgO := sgO.below hq
      replace hy := below_to hy hq
      clear hq
      go_wp2_with fail
      refine (vscale_any 0 1 1 0 1 2 (-1) _).mono ?_
      rintro e W54 ⟨rfl, hq⟩
      replace oT := oT.below hq
      replace sgO := sgO.below hq
      replace hy := below_to hy hq
      clear hq
      rw [show wsc 0 1 1 0 1 2 (-1) = ⟨0, 0, 0, 0, 0, 0, 2⟩ from vr_is (by decide +kernel)]
      go_upto_region 27 with fail
      have hq := ba1 W54 (.cells #[.int .i64 0, .int .i64 0, .int .i64 0, .int .i64 0, .int .i64 0, .int .i64 0] 60)
      replace oT := oT.below hq
      replace sgO := sgO.below hq
      replace hy := below_to hy hq
      clear hq
      obtain ⟨bx54, hbx54⟩ : ∃ B, B = W54.heap.size := ⟨_, rfl⟩
      rw [← hbx54] at ⊢
      clear hbx54
      generalize W54.alloc (.cells #[.int .i64 0, .int .i64 0, .int .i64 0, .int .i64 0, .int .i64 0, .int .i64 0] 60) = W55 at *
      go_wp2_with fail
      refine (vis22_any 1 0 1 2 _).mono ?_
      rintro e W56 ⟨rfl, hq⟩
      replace oT := oT.below hq
      replace sgO := sgO.below hq
      replace hy := below_to hy hq
      clear hq
      go_wp2_with fail
      refine (vscale_any 0 1 1 0 1 2 500000 _).mono ?_
      rintro e W57 ⟨rfl, hq⟩
      replace oT := oT.below hq
      replace sgO := sgO.below hq
      replace hy := below_to hy hq
      clear hq
      rw [show wsc 0 1 1 0 1 2 500000 = ⟨0, 1, 1, 0, 1, 1000000, 0⟩ from vr_is (by decide +kernel)]
      go_upto_region 28 with fail
      have oS := Own.new W57 60 [.int .i64 0, .int .i64 1, .int .i64 1, .int .i64 0, .int .i64 1, .int .i64 1000000]
      have hq := ba1 W57 (.cells #[.int .i64 0, .int .i64 1, .int .i64 1, .int .i64 0, .int .i64 1, .int .i64 1000000] 60)
      replace oT := oT.below hq
      replace sgO := sgO.below hq
      replace hy := below_to hy hq
      clear hq
      obtain ⟨bS, hbS⟩ : ∃ B, B = W57.heap.size := ⟨_, rfl⟩
      rw [← hbS] at oS ⊢
      clear hbS
      generalize W57.alloc (.cells #[.int .i64 0, .int .i64 1, .int .i64 1, .int .i64 0, .int .i64 1, .int .i64 1000000] 60) = W58 at *
      obtain ⟨rT, fT⟩ := oT.rules
      have zT := oT.lt
      go_wp2_with fail
      clear rT fT zT
      refine (alive22_any _).mono ?_
      rintro e W59 ⟨rfl, hq⟩
      replace oT := oT.below hq
      replace sgO := sgO.below hq
      replace oS := oS.below hq
      replace hy := below_to hy hq
      clear hq
      obtain ⟨rT, fT⟩ := oT.rules
      have zT := oT.lt
      go_upto_region 29 with fail
      clear rT fT zT
      clear oT
      have gl := @grow_lt
      obtain ⟨rS, fS⟩ := oS.rules
      have zS := oS.lt
      refine wp_region_st [.t [0, 1, 2, 3, 4, 5, 6, 7, 8, 9, 10, 11, 12, 13, 14, 15, 16, 17, 18, 19], .f 20, .f 21, .t [22, 23, 24, 25, 26, 27, 28, 29, 30, 31, 32, 33, 34, 35, 36], .f 37, .t [38, 39]] [40] (by kernel_rfl) (by kernel_rfl) (fun _ _ _ _ _ h => h) ?_
      have hR := (Below.refl W59.heap.size W59).drew
      replace sgO := sgO.below hR
      generalize W59.drew = WD at *
      refine wpX_t ?_
      try simp only [opsAt, List.getElem?_toArray, List.getElem?_cons_zero, List.getElem?_cons_succ, Option.getD_some]
      repeat (go_big_quiet_step (fail))
      refine wpQuiet_nil ?_
      refine wpX_f rfl rfl (fun K' hK' => ?_)
      go_simp
      have oQ := Own.new WD 60 [.int .i64 1, .int .i64 4, .int .i64 0, .int .i64 1, .int .i64 1, .int .i64 1, .int .i64 2, .int .i64 3, .int .i64 1, .int .i64 0, .int .i64 1, .int .i64 2]
      have hq := ba1 WD (.cells #[.int .i64 1, .int .i64 4, .int .i64 0, .int .i64 1, .int .i64 1, .int .i64 1, .int .i64 2, .int .i64 3, .int .i64 1, .int .i64 0, .int .i64 1, .int .i64 2] 60)
      have sQ := sv_of_own [⟨1, 4, 0, 1, 1, 1⟩, ⟨2, 3, 1, 0, 1, 2⟩] 2 rfl (by decide) oQ
      clear oQ
      replace sgO := sgO.below hq
      replace hR := below_to hR hq
      clear hq
      refine hK' _ _ (grow_of hR) ?_
      clear hK' K'
      generalize WD.alloc (.cells #[.int .i64 1, .int .i64 4, .int .i64 0, .int .i64 1, .int .i64 1, .int .i64 1, .int .i64 2, .int .i64 3, .int .i64 1, .int .i64 0, .int .i64 1, .int .i64 2] 60) = WA at *
      refine wpX_f rfl rfl (fun K' hK' => ?_)
      go_simp
      refine (vsame_true [⟨1, 4, 0, 1, 1, 1⟩, ⟨2, 3, 1, 0, 1, 2⟩] _ _ _ sgO sQ).mono ?_
      rintro e WB ⟨rfl, hq⟩
      clear sQ sgO
      replace hR := below_to hR hq
      clear hq
      refine hK' _ _ (grow_of hR) ?_
      clear hK' K'
      refine wpX_t ?_
      try simp only [opsAt, List.getElem?_toArray, List.getElem?_cons_zero, List.getElem?_cons_succ, Option.getD_some]
      repeat (go_big_quiet_step (fail))
      refine wpQuiet_nil ?_
      refine wpX_f rfl rfl (fun K' hK' => ?_)
      go_simp
      refine (vis22_any 1 0 1 1000000 _).mono ?_
      rintro e WC ⟨rfl, hq⟩
      replace hR := below_to hR hq
      clear hq
      refine hK' _ _ (grow_of hR) ?_
      clear hK' K'
      refine wpX_t ?_
      try simp only [opsAt, List.getElem?_toArray, List.getElem?_cons_zero, List.getElem?_cons_succ, Option.getD_some]
      repeat (go_big_quiet_step (fail))
      refine wpQuiet_nil ?_
      refine wpX_nil ?_
      try simp only [opsAt, List.getElem?_toArray, List.getElem?_cons_zero, List.getElem?_cons_succ, Option.getD_some]
      clear gl
      clear rS fS zS
      clear oS
      replace hy := below_to hy hR
      clear hR
      go_wp2
      go_ret
      exact ⟨by first | rfl | simp, hy⟩
end Go.Proofs.Ytpjhiojdnebgoaa
