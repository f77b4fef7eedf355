/- What is proved here: the walk of the law FlagMasks: it returns true whatever two masks and two numbers come in. -/
import Derived.Test.YtpkggglifahioaaFlagH
import Derived.Test.YtpkggglifahioaaFloat
namespace Go.Proofs.Ytpkggglifahioaa
open Go.RowKit

theorem owns_ne {w : World} {B : Nat} {T T' : TypeId} {size n cap g b : Nat} {cs zs : List Value} (h : w.ownsRow B T size (.slice (some ⟨g, 0, none⟩) n cap) n cs) (ho : Own w b T' zs) (hT : T ≠ T') : b ≠ g := by
  rintro rfl
  obtain ⟨_, h2⟩ := h
  rcases h2 with ⟨h2, _⟩ | ⟨g', cap', cur, h2, _, hh, _⟩
  · cases h2
  · cases h2
    unfold Own at ho
    rw [hh] at ho
    simp at ho
    exact hT ho.2
theorem sl_other {w : World} {g n cap m : Nat} {cs : List Value} (h : Sl w (.slice (some ⟨g, 0, none⟩) n cap) m cs) {b : Nat} (hne : b ≠ g) (k : Nat) (x : Value) : Sl (w.setCell ⟨b, k, none⟩ x) (.slice (some ⟨g, 0, none⟩) n cap) m cs := by
  obtain ⟨ad, c, h1, h2, h3, h4⟩ := h
  refine ⟨ad, c, h1, h2, h3, fun i y hy => ?_⟩
  obtain ⟨b', off, e, hc⟩ := h4 i y hy
  refine ⟨b', off, e, cell_set hc ?_ x⟩
  subst e
  cases h1
  simpa using Ne.symm hne
theorem msame_self (t c : Int) (xs : List Bool) : msame t c t c xs xs = true := by unfold msame; simp

set_option maxRecDepth 100000 in
set_option maxHeartbeats 8000000 in
theorem masks_any (t c t' c' : Int) (v v' : Value) (xs ys : List Bool) (dt dc : Int) (w : World) (h : SB w v xs) (h' : SB w v' ys) :
    Calls Try.prog 3 #[.agg #[.int .i64 t, .int .i64 c, v], .agg #[.int .i64 t', .int .i64 c', v'], .int .i64 dt, .int .i64 dc] w fun e w' => e = .returned (.bool true) ∧ Below w.heap.size w w' := by
  have hs := h
  have hs' := h'
  obtain ⟨ad, cap, rfl, h1, h2, h3⟩ := h.open
  obtain ⟨ad', cap', rfl, h1', h2', h3'⟩ := h'.open
  clear h h' h3 h3'
  by_cases g1 : 600 < xs.length
  · have b1 : decide (600 < xs.length) = true := by simpa using g1
    go_enter Try.func3, Try.ntmps3
    go_wp2_with fail
    refine (great_any _ _ _ xs _ (hs.below (ba2 _ _ _))).mono ?_
    rintro e w1 ⟨rfl, hb1⟩
    go_wp2
    go_ret
    exact ⟨rfl, below_to (ba2 _ _ _) hb1⟩
  · have b1 : decide (600 < xs.length) = false := by simpa using g1
    by_cases g2 : 600 < ys.length
    · have b2 : decide (600 < ys.length) = true := by simpa using g2
      go_enter Try.func3, Try.ntmps3
      go_wp2_with fail
      refine (great_any _ _ _ xs _ (hs.below (ba2 _ _ _))).mono ?_
      rintro e w1 ⟨rfl, hb1⟩
      have hb := below_to (ba2 _ _ _) hb1
      obtain ⟨c1, f1⟩ := bcell hb1
      go_wp2_with fail
      refine (great_any _ _ _ ys _ (hs'.below hb)).mono ?_
      rintro e w2 ⟨rfl, hb2⟩
      go_wp2
      go_ret
      exact ⟨rfl, below_to hb hb2⟩
    · have b2 : decide (600 < ys.length) = false := by simpa using g2
      go_enter Try.func3, Try.ntmps3
      go_wp2_with fail
      refine (great_any _ _ _ xs _ (hs.below (ba2 _ _ _))).mono ?_
      rintro e w1 ⟨rfl, hb1⟩
      have hb := below_to (ba2 _ _ _) hb1
      have hb0 := hb1
      have a0 : w1.cell? ⟨w.heap.size, 0, none⟩ = some (.int .i64 t) := below_cell hb1 (by simp [go_sem])
      have a1 : w1.cell? ⟨w.heap.size, 1, none⟩ = some (.int .i64 c) := below_cell hb1 (by simp [go_sem])
      have a2 : w1.cell? ⟨w.heap.size, 2, none⟩ = some (.slice ad xs.length cap) := below_cell hb1 (by simp [go_sem])
      have a3 : w1.cell? ⟨w.heap.size + 1, 0, none⟩ = some (.int .i64 t') := below_cell hb1 (by simp [go_sem])
      have a4 : w1.cell? ⟨w.heap.size + 1, 1, none⟩ = some (.int .i64 c') := below_cell hb1 (by simp [go_sem])
      have a5 : w1.cell? ⟨w.heap.size + 1, 2, none⟩ = some (.slice ad' ys.length cap') := below_cell hb1 (by simp [go_sem])
      go_wp2_with fail
      refine (great_any _ _ _ ys _ (hs'.below hb)).mono ?_
      rintro e w2 ⟨rfl, hb2⟩
      have hbb := below_to hb hb2
      have hs2 := hs.below hbb
      have hs2' := hs'.below hbb
      have m0 := below_cell hb2 a0
      have m1 := below_cell hb2 a1
      have m2 := below_cell hb2 a2
      have m3 := below_cell hb2 a3
      have m4 := below_cell hb2 a4
      have m5 := below_cell hb2 a5
      have ml := World.block_lt_of_cell? w2 _ m5
      simp only at ml
      clear a0 a1 a2 a3 a4 a5 hb1
      go_upto_region 3 with fail
      go_cut [9] (fun s wx => ∃ (bx g cp : Nat), s = .pointer (some ⟨bx, 0, none⟩) ∧ w2.heap.size ≤ bx ∧ w2.heap.size ≤ g ∧ bx ≠ g ∧ Own wx bx 24 [.int .i64 t, .int .i64 c, .slice (some ⟨g, 0, none⟩) xs.length cp] ∧ SB wx (.slice (some ⟨g, 0, none⟩) xs.length cp) xs ∧ Below w2.heap.size w2 wx)
      case first =>
        have n0 := grow_cell m0
        have n1 := grow_cell m1
        have n2 := grow_cell m2
        refine wp_region_fa 9 9 24 [.int .i64 0, .int .i64 0, .slice none 0 0] [0, 2, 5] [1, 3, 6] [4, 7, 8] [10] (by kernel_rfl) (by kernel_rfl) (fun ρ W => by kernel_rfl) (fun _ _ _ _ _ h => h) (fun _ _ _ _ _ h => h) ?_
        simp only [opsAt, List.getElem?_toArray, List.getElem?_cons_zero, List.getElem?_cons_succ, Option.getD_some]
        repeat (go_big_quiet_step (fail))
        refine wpQuiet_nil ?_
        repeat (go_big_quiet_step (fail))
        refine wpQuiet_nil ?_
        intro w3 hb3
        refine wpCh_cons (fun K' hK' => ?_)
        go_simp
        refine hK' _ _ (below_to hb3 (ba1 _ _)) (fun b hb => hb.alloc _) (fun w4 hb4 => ?_)
        clear hK' K'
        refine wpCh_cons (fun K' hK' => ?_)
        have p4 : Own w4 w3.heap.size 4 [] := (Own.new w3 4 []).below hb4
        have hb5 := below_to (below_to hb3 (ba1 _ _)) hb4
        refine wp_own _ _ _ _ rfl 4 1 1 (.bool false) Try.underlying22 Try.infoBool rfl (by omega) (by omega) w3.heap.size rfl p4 _ xs.length (xs.map Value.bool) rfl (hs2.below hb5) (by simp) (one_bools xs) (by omega) ?_
        intro g cp w5 how hgp hgw
        have hp3 := hb3.size
        refine hK' _ _ (grown_below hgw hp3 hb5 hb5.size) (fun b hb => grown_own hgw (fun e => by subst e; unfold Own at hb p4; rw [hb] at p4; simp at p4) hb) (fun w6 hb6 => ?_)
        clear hK' K'
        refine wpCh_cons (fun K' hK' => ?_)
        go_simp
        have hb7 := grown_below hgw hp3 hb5 hb5.size
        refine hK' _ _ (below_to hb7 hb6) (fun b hb => hb) (fun w7 hbn => wpCh_nil ?_)
        clear hK' K'
        intro b hob hbw
        have how7 := owns_at (owns_at how hb6) hbn
        have t0 := hob.cell 0 (by simp)
        have t1 := hob.cell 1 (by simp)
        have t2 := hob.cell 2 (by simp)
        have t3 := hob.free 0
        have t4 := hob.free 1
        have t5 := hob.free 2
        simp only [List.getElem_cons_zero, List.getElem_cons_succ] at t0 t1 t2
        go_wp2
        go_meet
        have hne := owns_ne how7 hob (by decide)
        have hg3 : w3.heap.size ≤ g := owns_frv how
        refine ⟨b, g, cp, rfl, hbw, by omega, hne, ((hob.set 0 _).set 1 _).set 2 _, ?_, (((below_to (below_to hb7 hb6) hbn).setCell (by simpa using hbw) _).setCell (by simpa using hbw) _).setCell (by simpa using hbw) _⟩
        have h6 := owns_sl how7 (by omega)
        unfold SB
        exact sl_other (sl_other (sl_other h6 hne _ _) hne _ _) hne _ _
      case rest =>
        obtain ⟨bx, g, cp, rfl, hbx, hg, hne, oO, sO, hbw⟩ := hcut
        have oA := (own_first w 24 [.int .i64 t, .int .i64 c, .slice ad xs.length cap] (.cells #[.int .i64 t', .int .i64 c', .slice ad' ys.length cap'] 24)).below hb0
        have oB := (own_second w 24 [.int .i64 t', .int .i64 c', .slice ad' ys.length cap'] (.cells #[.int .i64 t, .int .i64 c, .slice ad xs.length cap] 24)).below hb0
        have oA := (oA.below hb2).below hbw
        have oB := (oB.below hb2).below hbw
        have sA := hs2.below hbw
        have sB := hs2'.below hbw
        have hB := below_to hbb hbw
        clear m0 m1 m2 m3 m4 m5 ml hs2 hs2' hs hs' hb2 hbw hb hbb hb0
        have f1 := msame_self (zt (mpair t c xs.length t' c' ys.length) t) (zt (mpair t c xs.length t' c' ys.length) c) (zl (mpair t c xs.length t' c' ys.length) (List.zipWith (· || ·) xs ys))
        have f2 := msame_self (zt (mpair t c xs.length t' c' ys.length) t) (zt (mpair t c xs.length t' c' ys.length) c) (zl (mpair t c xs.length t' c' ys.length) (List.zipWith (· && ·) xs ys))
        have f3 := msame_self (zt (gerr t c xs.length dt dc) t) (zt (gerr t c xs.length dt dc) c) (zl (gerr t c xs.length dt dc) (growL c.toNat xs dt dc))
        have f4 := msame_self t c xs
        have F1 := Lib.hid f1
        have F2 := Lib.hid f2
        have F3 := Lib.hid f3
        have F4 := Lib.hid f4
        clear f1 f2 f3 f4
        have xO0 := oO.cell 0 (by simp)
        have xO1 := oO.cell 1 (by simp)
        have xO2 := oO.cell 2 (by simp)
        simp only [List.getElem_cons_zero, List.getElem_cons_succ] at xO0 xO1 xO2
        go_wp2_with fail
        refine (count_any _ _ _ xs _ sO).mono ?_
        rintro e v1 ⟨rfl, hq⟩
        clear xO0 xO1 xO2
        have oO := oO.below hq
        have sO := sO.below hq
        have oA := oA.below hq
        have sA := sA.below hq
        have oB := oB.below hq
        have sB := sB.below hq
        have hB := below_to hB hq
        clear hq
        have xA0 := oA.cell 0 (by simp)
        have xA1 := oA.cell 1 (by simp)
        have xA2 := oA.cell 2 (by simp)
        simp only [List.getElem_cons_zero, List.getElem_cons_succ] at xA0 xA1 xA2
        go_wp2_with fail
        refine (rcount_any _ _ _ xs _ sA).mono ?_
        rintro e v2 ⟨rfl, hq⟩
        clear xA0 xA1 xA2
        have oO := oO.below hq
        have sO := sO.below hq
        have oA := oA.below hq
        have sA := sA.below hq
        have oB := oB.below hq
        have sB := sB.below hq
        have hB := below_to hB hq
        clear hq
        have xO0 := oO.cell 0 (by simp)
        have xO1 := oO.cell 1 (by simp)
        have xO2 := oO.cell 2 (by simp)
        have xB0 := oB.cell 0 (by simp)
        have xB1 := oB.cell 1 (by simp)
        have xB2 := oB.cell 2 (by simp)
        simp only [List.getElem_cons_zero, List.getElem_cons_succ] at xO0 xO1 xO2 xB0 xB1 xB2
        go_wp2_with fail
        refine (join_any _ _ _ _ _ _ xs ys _ sO sB).mono ?_
        rintro e v3 ⟨u3, rfl, sX, _, hq⟩
        clear xO0 xO1 xO2 xB0 xB1 xB2
        have oO := oO.below hq
        have sO := sO.below hq
        have oA := oA.below hq
        have sA := sA.below hq
        have oB := oB.below hq
        have sB := sB.below hq
        have hB := below_to hB hq
        clear hq
        obtain ⟨ua3, uc3, hu3, _, _, _⟩ := sX.open
        subst hu3
        go_upto_region 7 with fail
        have oO := oO.alloc (.cells #[.int .i64 (zt (mpair t c xs.length t' c' ys.length) t), .int .i64 (zt (mpair t c xs.length t' c' ys.length) c), .slice ua3 (zl (mpair t c xs.length t' c' ys.length) (List.zipWith (· || ·) xs ys)).length uc3] 24)
        have sO := sO.below (ba1 v3 (.cells #[.int .i64 (zt (mpair t c xs.length t' c' ys.length) t), .int .i64 (zt (mpair t c xs.length t' c' ys.length) c), .slice ua3 (zl (mpair t c xs.length t' c' ys.length) (List.zipWith (· || ·) xs ys)).length uc3] 24))
        have oA := oA.alloc (.cells #[.int .i64 (zt (mpair t c xs.length t' c' ys.length) t), .int .i64 (zt (mpair t c xs.length t' c' ys.length) c), .slice ua3 (zl (mpair t c xs.length t' c' ys.length) (List.zipWith (· || ·) xs ys)).length uc3] 24)
        have sA := sA.below (ba1 v3 (.cells #[.int .i64 (zt (mpair t c xs.length t' c' ys.length) t), .int .i64 (zt (mpair t c xs.length t' c' ys.length) c), .slice ua3 (zl (mpair t c xs.length t' c' ys.length) (List.zipWith (· || ·) xs ys)).length uc3] 24))
        have oB := oB.alloc (.cells #[.int .i64 (zt (mpair t c xs.length t' c' ys.length) t), .int .i64 (zt (mpair t c xs.length t' c' ys.length) c), .slice ua3 (zl (mpair t c xs.length t' c' ys.length) (List.zipWith (· || ·) xs ys)).length uc3] 24)
        have sB := sB.below (ba1 v3 (.cells #[.int .i64 (zt (mpair t c xs.length t' c' ys.length) t), .int .i64 (zt (mpair t c xs.length t' c' ys.length) c), .slice ua3 (zl (mpair t c xs.length t' c' ys.length) (List.zipWith (· || ·) xs ys)).length uc3] 24))
        have sX := sX.below (ba1 v3 (.cells #[.int .i64 (zt (mpair t c xs.length t' c' ys.length) t), .int .i64 (zt (mpair t c xs.length t' c' ys.length) c), .slice ua3 (zl (mpair t c xs.length t' c' ys.length) (List.zipWith (· || ·) xs ys)).length uc3] 24))
        have oX := Own.new v3 24 [.int .i64 (zt (mpair t c xs.length t' c' ys.length) t), .int .i64 (zt (mpair t c xs.length t' c' ys.length) c), .slice ua3 (zl (mpair t c xs.length t' c' ys.length) (List.zipWith (· || ·) xs ys)).length uc3]
        have hB := below_to hB (ba1 v3 (.cells #[.int .i64 (zt (mpair t c xs.length t' c' ys.length) t), .int .i64 (zt (mpair t c xs.length t' c' ys.length) c), .slice ua3 (zl (mpair t c xs.length t' c' ys.length) (List.zipWith (· || ·) xs ys)).length uc3] 24))
        generalize hbk : v3.heap.size = k3 at oX ⊢
        clear hbk
        generalize v3.alloc (.cells #[.int .i64 (zt (mpair t c xs.length t' c' ys.length) t), .int .i64 (zt (mpair t c xs.length t' c' ys.length) c), .slice ua3 (zl (mpair t c xs.length t' c' ys.length) (List.zipWith (· || ·) xs ys)).length uc3] 24) = z3 at *
        have xA0 := oA.cell 0 (by simp)
        have xA1 := oA.cell 1 (by simp)
        have xA2 := oA.cell 2 (by simp)
        have xB0 := oB.cell 0 (by simp)
        have xB1 := oB.cell 1 (by simp)
        have xB2 := oB.cell 2 (by simp)
        simp only [List.getElem_cons_zero, List.getElem_cons_succ] at xA0 xA1 xA2 xB0 xB1 xB2
        go_wp2_with fail
        refine (rjoin_any _ _ _ _ _ _ xs ys _ sA sB).mono ?_
        rintro e v4 ⟨u4, rfl, sY, _, hq⟩
        clear xA0 xA1 xA2 xB0 xB1 xB2
        have oO := oO.below hq
        have sO := sO.below hq
        have oA := oA.below hq
        have sA := sA.below hq
        have oB := oB.below hq
        have sB := sB.below hq
        have oX := oX.below hq
        have sX := sX.below hq
        have hB := below_to hB hq
        clear hq
        obtain ⟨ua4, uc4, hu4, _, _, _⟩ := sY.open
        subst hu4
        go_upto_region 8 with fail
        have oO := oO.alloc (.cells #[.int .i64 (zt (mpair t c xs.length t' c' ys.length) t), .int .i64 (zt (mpair t c xs.length t' c' ys.length) c), .slice ua4 (zl (mpair t c xs.length t' c' ys.length) (List.zipWith (· || ·) xs ys)).length uc4] 24)
        have sO := sO.below (ba1 v4 (.cells #[.int .i64 (zt (mpair t c xs.length t' c' ys.length) t), .int .i64 (zt (mpair t c xs.length t' c' ys.length) c), .slice ua4 (zl (mpair t c xs.length t' c' ys.length) (List.zipWith (· || ·) xs ys)).length uc4] 24))
        have oA := oA.alloc (.cells #[.int .i64 (zt (mpair t c xs.length t' c' ys.length) t), .int .i64 (zt (mpair t c xs.length t' c' ys.length) c), .slice ua4 (zl (mpair t c xs.length t' c' ys.length) (List.zipWith (· || ·) xs ys)).length uc4] 24)
        have sA := sA.below (ba1 v4 (.cells #[.int .i64 (zt (mpair t c xs.length t' c' ys.length) t), .int .i64 (zt (mpair t c xs.length t' c' ys.length) c), .slice ua4 (zl (mpair t c xs.length t' c' ys.length) (List.zipWith (· || ·) xs ys)).length uc4] 24))
        have oB := oB.alloc (.cells #[.int .i64 (zt (mpair t c xs.length t' c' ys.length) t), .int .i64 (zt (mpair t c xs.length t' c' ys.length) c), .slice ua4 (zl (mpair t c xs.length t' c' ys.length) (List.zipWith (· || ·) xs ys)).length uc4] 24)
        have sB := sB.below (ba1 v4 (.cells #[.int .i64 (zt (mpair t c xs.length t' c' ys.length) t), .int .i64 (zt (mpair t c xs.length t' c' ys.length) c), .slice ua4 (zl (mpair t c xs.length t' c' ys.length) (List.zipWith (· || ·) xs ys)).length uc4] 24))
        have oX := oX.alloc (.cells #[.int .i64 (zt (mpair t c xs.length t' c' ys.length) t), .int .i64 (zt (mpair t c xs.length t' c' ys.length) c), .slice ua4 (zl (mpair t c xs.length t' c' ys.length) (List.zipWith (· || ·) xs ys)).length uc4] 24)
        have sX := sX.below (ba1 v4 (.cells #[.int .i64 (zt (mpair t c xs.length t' c' ys.length) t), .int .i64 (zt (mpair t c xs.length t' c' ys.length) c), .slice ua4 (zl (mpair t c xs.length t' c' ys.length) (List.zipWith (· || ·) xs ys)).length uc4] 24))
        have sY := sY.below (ba1 v4 (.cells #[.int .i64 (zt (mpair t c xs.length t' c' ys.length) t), .int .i64 (zt (mpair t c xs.length t' c' ys.length) c), .slice ua4 (zl (mpair t c xs.length t' c' ys.length) (List.zipWith (· || ·) xs ys)).length uc4] 24))
        have oY := Own.new v4 24 [.int .i64 (zt (mpair t c xs.length t' c' ys.length) t), .int .i64 (zt (mpair t c xs.length t' c' ys.length) c), .slice ua4 (zl (mpair t c xs.length t' c' ys.length) (List.zipWith (· || ·) xs ys)).length uc4]
        have hB := below_to hB (ba1 v4 (.cells #[.int .i64 (zt (mpair t c xs.length t' c' ys.length) t), .int .i64 (zt (mpair t c xs.length t' c' ys.length) c), .slice ua4 (zl (mpair t c xs.length t' c' ys.length) (List.zipWith (· || ·) xs ys)).length uc4] 24))
        generalize hbk : v4.heap.size = k4 at oY ⊢
        clear hbk
        generalize v4.alloc (.cells #[.int .i64 (zt (mpair t c xs.length t' c' ys.length) t), .int .i64 (zt (mpair t c xs.length t' c' ys.length) c), .slice ua4 (zl (mpair t c xs.length t' c' ys.length) (List.zipWith (· || ·) xs ys)).length uc4] 24) = z4 at *
        have xO0 := oO.cell 0 (by simp)
        have xO1 := oO.cell 1 (by simp)
        have xO2 := oO.cell 2 (by simp)
        have xA0 := oA.cell 0 (by simp)
        have xA1 := oA.cell 1 (by simp)
        have xA2 := oA.cell 2 (by simp)
        have xX0 := oX.cell 0 (by simp)
        have xX1 := oX.cell 1 (by simp)
        have xX2 := oX.cell 2 (by simp)
        have xY0 := oY.cell 0 (by simp)
        have xY1 := oY.cell 1 (by simp)
        have xY2 := oY.cell 2 (by simp)
        simp only [List.getElem_cons_zero, List.getElem_cons_succ] at xO0 xO1 xO2 xA0 xA1 xA2 xX0 xX1 xX2 xY0 xY1 xY2
        have gxO0 := grow_cell xO0
        have gxO1 := grow_cell xO1
        have gxO2 := grow_cell xO2
        have gxA0 := grow_cell xA0
        have gxA1 := grow_cell xA1
        have gxA2 := grow_cell xA2
        have gxX0 := grow_cell xX0
        have gxX1 := grow_cell xX1
        have gxX2 := grow_cell xX2
        have gxY0 := grow_cell xY0
        have gxY1 := grow_cell xY1
        have gxY2 := grow_cell xY2
        have d1 : (mchk t c xs.length != mchk t c xs.length) = false := by simp
        have d2 : (mcount t c xs != mcount t c xs) = false := by simp
        have d3 : (mpair t c xs.length t' c' ys.length != mpair t c xs.length t' c' ys.length) = false := by simp
        have f1 := F1.out
        refine wp_region_grow (by kernel_rfl) (by kernel_rfl) ?_
        repeat (go_big_quiet_step (first | (go_at_call 15; exact Calls.grow_of (mcheck_any _ _ _ xs _ (sO.grow _))) | (go_at_call 16; exact Calls.grow_of (rmcheck_any _ _ _ xs _ (sA.grow _))) | (go_at_call 17; exact Calls.grow_of (same_any _ _ _ _ _ _ _ _ _ (sX.grow _) (sY.grow _)))))
        refine wpQuiet_nil ?_
        rintro _ ⟨ex, rfl⟩
        have hq := below_grow z4 ex
        generalize grow z4 ex = y1 at *
        clear xO0 xO1 xO2 xA0 xA1 xA2 xX0 xX1 xX2 xY0 xY1 xY2 gxO0 gxO1 gxO2 gxA0 gxA1 gxA2 gxX0 gxX1 gxX2 gxY0 gxY1 gxY2 f1
        have oO := oO.below hq
        have sO := sO.below hq
        have oA := oA.below hq
        have sA := sA.below hq
        have oB := oB.below hq
        have sB := sB.below hq
        have oX := oX.below hq
        have sX := sX.below hq
        have oY := oY.below hq
        have sY := sY.below hq
        have hB := below_to hB hq
        clear hq
        clear d1 d2 d3
        clear oX sX oY sY
        have xO0 := oO.cell 0 (by simp)
        have xO1 := oO.cell 1 (by simp)
        have xO2 := oO.cell 2 (by simp)
        have xB0 := oB.cell 0 (by simp)
        have xB1 := oB.cell 1 (by simp)
        have xB2 := oB.cell 2 (by simp)
        simp only [List.getElem_cons_zero, List.getElem_cons_succ] at xO0 xO1 xO2 xB0 xB1 xB2
        go_wp2_with fail
        refine (both_any _ _ _ _ _ _ xs ys _ sO sB).mono ?_
        rintro e v5 ⟨u5, rfl, sU, _, hq⟩
        clear xO0 xO1 xO2 xB0 xB1 xB2
        have oO := oO.below hq
        have sO := sO.below hq
        have oA := oA.below hq
        have sA := sA.below hq
        have oB := oB.below hq
        have sB := sB.below hq
        have hB := below_to hB hq
        clear hq
        obtain ⟨ua5, uc5, hu5, _, _, _⟩ := sU.open
        subst hu5
        go_upto_region 11 with fail
        have oO := oO.alloc (.cells #[.int .i64 (zt (mpair t c xs.length t' c' ys.length) t), .int .i64 (zt (mpair t c xs.length t' c' ys.length) c), .slice ua5 (zl (mpair t c xs.length t' c' ys.length) (List.zipWith (· && ·) xs ys)).length uc5] 24)
        have sO := sO.below (ba1 v5 (.cells #[.int .i64 (zt (mpair t c xs.length t' c' ys.length) t), .int .i64 (zt (mpair t c xs.length t' c' ys.length) c), .slice ua5 (zl (mpair t c xs.length t' c' ys.length) (List.zipWith (· && ·) xs ys)).length uc5] 24))
        have oA := oA.alloc (.cells #[.int .i64 (zt (mpair t c xs.length t' c' ys.length) t), .int .i64 (zt (mpair t c xs.length t' c' ys.length) c), .slice ua5 (zl (mpair t c xs.length t' c' ys.length) (List.zipWith (· && ·) xs ys)).length uc5] 24)
        have sA := sA.below (ba1 v5 (.cells #[.int .i64 (zt (mpair t c xs.length t' c' ys.length) t), .int .i64 (zt (mpair t c xs.length t' c' ys.length) c), .slice ua5 (zl (mpair t c xs.length t' c' ys.length) (List.zipWith (· && ·) xs ys)).length uc5] 24))
        have oB := oB.alloc (.cells #[.int .i64 (zt (mpair t c xs.length t' c' ys.length) t), .int .i64 (zt (mpair t c xs.length t' c' ys.length) c), .slice ua5 (zl (mpair t c xs.length t' c' ys.length) (List.zipWith (· && ·) xs ys)).length uc5] 24)
        have sB := sB.below (ba1 v5 (.cells #[.int .i64 (zt (mpair t c xs.length t' c' ys.length) t), .int .i64 (zt (mpair t c xs.length t' c' ys.length) c), .slice ua5 (zl (mpair t c xs.length t' c' ys.length) (List.zipWith (· && ·) xs ys)).length uc5] 24))
        have sU := sU.below (ba1 v5 (.cells #[.int .i64 (zt (mpair t c xs.length t' c' ys.length) t), .int .i64 (zt (mpair t c xs.length t' c' ys.length) c), .slice ua5 (zl (mpair t c xs.length t' c' ys.length) (List.zipWith (· && ·) xs ys)).length uc5] 24))
        have oU := Own.new v5 24 [.int .i64 (zt (mpair t c xs.length t' c' ys.length) t), .int .i64 (zt (mpair t c xs.length t' c' ys.length) c), .slice ua5 (zl (mpair t c xs.length t' c' ys.length) (List.zipWith (· && ·) xs ys)).length uc5]
        have hB := below_to hB (ba1 v5 (.cells #[.int .i64 (zt (mpair t c xs.length t' c' ys.length) t), .int .i64 (zt (mpair t c xs.length t' c' ys.length) c), .slice ua5 (zl (mpair t c xs.length t' c' ys.length) (List.zipWith (· && ·) xs ys)).length uc5] 24))
        generalize hbk : v5.heap.size = k5 at oU ⊢
        clear hbk
        generalize v5.alloc (.cells #[.int .i64 (zt (mpair t c xs.length t' c' ys.length) t), .int .i64 (zt (mpair t c xs.length t' c' ys.length) c), .slice ua5 (zl (mpair t c xs.length t' c' ys.length) (List.zipWith (· && ·) xs ys)).length uc5] 24) = z5 at *
        have xA0 := oA.cell 0 (by simp)
        have xA1 := oA.cell 1 (by simp)
        have xA2 := oA.cell 2 (by simp)
        have xB0 := oB.cell 0 (by simp)
        have xB1 := oB.cell 1 (by simp)
        have xB2 := oB.cell 2 (by simp)
        simp only [List.getElem_cons_zero, List.getElem_cons_succ] at xA0 xA1 xA2 xB0 xB1 xB2
        go_wp2_with fail
        refine (rboth_any _ _ _ _ _ _ xs ys _ sA sB).mono ?_
        rintro e v6 ⟨u6, rfl, sV, _, hq⟩
        clear xA0 xA1 xA2 xB0 xB1 xB2
        have oO := oO.below hq
        have sO := sO.below hq
        have oA := oA.below hq
        have sA := sA.below hq
        have oB := oB.below hq
        have sB := sB.below hq
        have oU := oU.below hq
        have sU := sU.below hq
        have hB := below_to hB hq
        clear hq
        obtain ⟨ua6, uc6, hu6, _, _, _⟩ := sV.open
        subst hu6
        go_upto_region 12 with fail
        have oO := oO.alloc (.cells #[.int .i64 (zt (mpair t c xs.length t' c' ys.length) t), .int .i64 (zt (mpair t c xs.length t' c' ys.length) c), .slice ua6 (zl (mpair t c xs.length t' c' ys.length) (List.zipWith (· && ·) xs ys)).length uc6] 24)
        have sO := sO.below (ba1 v6 (.cells #[.int .i64 (zt (mpair t c xs.length t' c' ys.length) t), .int .i64 (zt (mpair t c xs.length t' c' ys.length) c), .slice ua6 (zl (mpair t c xs.length t' c' ys.length) (List.zipWith (· && ·) xs ys)).length uc6] 24))
        have oA := oA.alloc (.cells #[.int .i64 (zt (mpair t c xs.length t' c' ys.length) t), .int .i64 (zt (mpair t c xs.length t' c' ys.length) c), .slice ua6 (zl (mpair t c xs.length t' c' ys.length) (List.zipWith (· && ·) xs ys)).length uc6] 24)
        have sA := sA.below (ba1 v6 (.cells #[.int .i64 (zt (mpair t c xs.length t' c' ys.length) t), .int .i64 (zt (mpair t c xs.length t' c' ys.length) c), .slice ua6 (zl (mpair t c xs.length t' c' ys.length) (List.zipWith (· && ·) xs ys)).length uc6] 24))
        have oB := oB.alloc (.cells #[.int .i64 (zt (mpair t c xs.length t' c' ys.length) t), .int .i64 (zt (mpair t c xs.length t' c' ys.length) c), .slice ua6 (zl (mpair t c xs.length t' c' ys.length) (List.zipWith (· && ·) xs ys)).length uc6] 24)
        have sB := sB.below (ba1 v6 (.cells #[.int .i64 (zt (mpair t c xs.length t' c' ys.length) t), .int .i64 (zt (mpair t c xs.length t' c' ys.length) c), .slice ua6 (zl (mpair t c xs.length t' c' ys.length) (List.zipWith (· && ·) xs ys)).length uc6] 24))
        have oU := oU.alloc (.cells #[.int .i64 (zt (mpair t c xs.length t' c' ys.length) t), .int .i64 (zt (mpair t c xs.length t' c' ys.length) c), .slice ua6 (zl (mpair t c xs.length t' c' ys.length) (List.zipWith (· && ·) xs ys)).length uc6] 24)
        have sU := sU.below (ba1 v6 (.cells #[.int .i64 (zt (mpair t c xs.length t' c' ys.length) t), .int .i64 (zt (mpair t c xs.length t' c' ys.length) c), .slice ua6 (zl (mpair t c xs.length t' c' ys.length) (List.zipWith (· && ·) xs ys)).length uc6] 24))
        have sV := sV.below (ba1 v6 (.cells #[.int .i64 (zt (mpair t c xs.length t' c' ys.length) t), .int .i64 (zt (mpair t c xs.length t' c' ys.length) c), .slice ua6 (zl (mpair t c xs.length t' c' ys.length) (List.zipWith (· && ·) xs ys)).length uc6] 24))
        have oV := Own.new v6 24 [.int .i64 (zt (mpair t c xs.length t' c' ys.length) t), .int .i64 (zt (mpair t c xs.length t' c' ys.length) c), .slice ua6 (zl (mpair t c xs.length t' c' ys.length) (List.zipWith (· && ·) xs ys)).length uc6]
        have hB := below_to hB (ba1 v6 (.cells #[.int .i64 (zt (mpair t c xs.length t' c' ys.length) t), .int .i64 (zt (mpair t c xs.length t' c' ys.length) c), .slice ua6 (zl (mpair t c xs.length t' c' ys.length) (List.zipWith (· && ·) xs ys)).length uc6] 24))
        generalize hbk : v6.heap.size = k6 at oV ⊢
        clear hbk
        generalize v6.alloc (.cells #[.int .i64 (zt (mpair t c xs.length t' c' ys.length) t), .int .i64 (zt (mpair t c xs.length t' c' ys.length) c), .slice ua6 (zl (mpair t c xs.length t' c' ys.length) (List.zipWith (· && ·) xs ys)).length uc6] 24) = z6 at *
        have xO0 := oO.cell 0 (by simp)
        have xO1 := oO.cell 1 (by simp)
        have xO2 := oO.cell 2 (by simp)
        simp only [List.getElem_cons_zero, List.getElem_cons_succ] at xO0 xO1 xO2
        go_wp2_with fail
        refine (grow_any _ _ _ xs dt dc _ sO).mono ?_
        rintro e v7 ⟨u7, rfl, sP, _, hq⟩
        clear xO0 xO1 xO2
        have oO := oO.below hq
        have sO := sO.below hq
        have oA := oA.below hq
        have sA := sA.below hq
        have oB := oB.below hq
        have sB := sB.below hq
        have oU := oU.below hq
        have sU := sU.below hq
        have oV := oV.below hq
        have sV := sV.below hq
        have hB := below_to hB hq
        clear hq
        obtain ⟨ua7, uc7, hu7, _, _, _⟩ := sP.open
        subst hu7
        go_upto_region 13 with fail
        have oO := oO.alloc (.cells #[.int .i64 (zt (gerr t c xs.length dt dc) t), .int .i64 (zt (gerr t c xs.length dt dc) c), .slice ua7 (zl (gerr t c xs.length dt dc) (growL c.toNat xs dt dc)).length uc7] 24)
        have sO := sO.below (ba1 v7 (.cells #[.int .i64 (zt (gerr t c xs.length dt dc) t), .int .i64 (zt (gerr t c xs.length dt dc) c), .slice ua7 (zl (gerr t c xs.length dt dc) (growL c.toNat xs dt dc)).length uc7] 24))
        have oA := oA.alloc (.cells #[.int .i64 (zt (gerr t c xs.length dt dc) t), .int .i64 (zt (gerr t c xs.length dt dc) c), .slice ua7 (zl (gerr t c xs.length dt dc) (growL c.toNat xs dt dc)).length uc7] 24)
        have sA := sA.below (ba1 v7 (.cells #[.int .i64 (zt (gerr t c xs.length dt dc) t), .int .i64 (zt (gerr t c xs.length dt dc) c), .slice ua7 (zl (gerr t c xs.length dt dc) (growL c.toNat xs dt dc)).length uc7] 24))
        have oB := oB.alloc (.cells #[.int .i64 (zt (gerr t c xs.length dt dc) t), .int .i64 (zt (gerr t c xs.length dt dc) c), .slice ua7 (zl (gerr t c xs.length dt dc) (growL c.toNat xs dt dc)).length uc7] 24)
        have sB := sB.below (ba1 v7 (.cells #[.int .i64 (zt (gerr t c xs.length dt dc) t), .int .i64 (zt (gerr t c xs.length dt dc) c), .slice ua7 (zl (gerr t c xs.length dt dc) (growL c.toNat xs dt dc)).length uc7] 24))
        have oU := oU.alloc (.cells #[.int .i64 (zt (gerr t c xs.length dt dc) t), .int .i64 (zt (gerr t c xs.length dt dc) c), .slice ua7 (zl (gerr t c xs.length dt dc) (growL c.toNat xs dt dc)).length uc7] 24)
        have sU := sU.below (ba1 v7 (.cells #[.int .i64 (zt (gerr t c xs.length dt dc) t), .int .i64 (zt (gerr t c xs.length dt dc) c), .slice ua7 (zl (gerr t c xs.length dt dc) (growL c.toNat xs dt dc)).length uc7] 24))
        have oV := oV.alloc (.cells #[.int .i64 (zt (gerr t c xs.length dt dc) t), .int .i64 (zt (gerr t c xs.length dt dc) c), .slice ua7 (zl (gerr t c xs.length dt dc) (growL c.toNat xs dt dc)).length uc7] 24)
        have sV := sV.below (ba1 v7 (.cells #[.int .i64 (zt (gerr t c xs.length dt dc) t), .int .i64 (zt (gerr t c xs.length dt dc) c), .slice ua7 (zl (gerr t c xs.length dt dc) (growL c.toNat xs dt dc)).length uc7] 24))
        have sP := sP.below (ba1 v7 (.cells #[.int .i64 (zt (gerr t c xs.length dt dc) t), .int .i64 (zt (gerr t c xs.length dt dc) c), .slice ua7 (zl (gerr t c xs.length dt dc) (growL c.toNat xs dt dc)).length uc7] 24))
        have oP := Own.new v7 24 [.int .i64 (zt (gerr t c xs.length dt dc) t), .int .i64 (zt (gerr t c xs.length dt dc) c), .slice ua7 (zl (gerr t c xs.length dt dc) (growL c.toNat xs dt dc)).length uc7]
        have hB := below_to hB (ba1 v7 (.cells #[.int .i64 (zt (gerr t c xs.length dt dc) t), .int .i64 (zt (gerr t c xs.length dt dc) c), .slice ua7 (zl (gerr t c xs.length dt dc) (growL c.toNat xs dt dc)).length uc7] 24))
        generalize hbk : v7.heap.size = k7 at oP ⊢
        clear hbk
        generalize v7.alloc (.cells #[.int .i64 (zt (gerr t c xs.length dt dc) t), .int .i64 (zt (gerr t c xs.length dt dc) c), .slice ua7 (zl (gerr t c xs.length dt dc) (growL c.toNat xs dt dc)).length uc7] 24) = z7 at *
        have xA0 := oA.cell 0 (by simp)
        have xA1 := oA.cell 1 (by simp)
        have xA2 := oA.cell 2 (by simp)
        simp only [List.getElem_cons_zero, List.getElem_cons_succ] at xA0 xA1 xA2
        go_wp2_with fail
        refine (rgrow_any _ _ _ xs dt dc _ sA).mono ?_
        rintro e v8 ⟨u8, rfl, sQ, _, hq⟩
        clear xA0 xA1 xA2
        have oO := oO.below hq
        have sO := sO.below hq
        have oA := oA.below hq
        have sA := sA.below hq
        have oB := oB.below hq
        have sB := sB.below hq
        have oU := oU.below hq
        have sU := sU.below hq
        have oV := oV.below hq
        have sV := sV.below hq
        have oP := oP.below hq
        have sP := sP.below hq
        have hB := below_to hB hq
        clear hq
        obtain ⟨ua8, uc8, hu8, _, _, _⟩ := sQ.open
        subst hu8
        go_upto_region 14 with fail
        have oO := oO.alloc (.cells #[.int .i64 (zt (gerr t c xs.length dt dc) t), .int .i64 (zt (gerr t c xs.length dt dc) c), .slice ua8 (zl (gerr t c xs.length dt dc) (growL c.toNat xs dt dc)).length uc8] 24)
        have sO := sO.below (ba1 v8 (.cells #[.int .i64 (zt (gerr t c xs.length dt dc) t), .int .i64 (zt (gerr t c xs.length dt dc) c), .slice ua8 (zl (gerr t c xs.length dt dc) (growL c.toNat xs dt dc)).length uc8] 24))
        have oA := oA.alloc (.cells #[.int .i64 (zt (gerr t c xs.length dt dc) t), .int .i64 (zt (gerr t c xs.length dt dc) c), .slice ua8 (zl (gerr t c xs.length dt dc) (growL c.toNat xs dt dc)).length uc8] 24)
        have sA := sA.below (ba1 v8 (.cells #[.int .i64 (zt (gerr t c xs.length dt dc) t), .int .i64 (zt (gerr t c xs.length dt dc) c), .slice ua8 (zl (gerr t c xs.length dt dc) (growL c.toNat xs dt dc)).length uc8] 24))
        have oB := oB.alloc (.cells #[.int .i64 (zt (gerr t c xs.length dt dc) t), .int .i64 (zt (gerr t c xs.length dt dc) c), .slice ua8 (zl (gerr t c xs.length dt dc) (growL c.toNat xs dt dc)).length uc8] 24)
        have sB := sB.below (ba1 v8 (.cells #[.int .i64 (zt (gerr t c xs.length dt dc) t), .int .i64 (zt (gerr t c xs.length dt dc) c), .slice ua8 (zl (gerr t c xs.length dt dc) (growL c.toNat xs dt dc)).length uc8] 24))
        have oU := oU.alloc (.cells #[.int .i64 (zt (gerr t c xs.length dt dc) t), .int .i64 (zt (gerr t c xs.length dt dc) c), .slice ua8 (zl (gerr t c xs.length dt dc) (growL c.toNat xs dt dc)).length uc8] 24)
        have sU := sU.below (ba1 v8 (.cells #[.int .i64 (zt (gerr t c xs.length dt dc) t), .int .i64 (zt (gerr t c xs.length dt dc) c), .slice ua8 (zl (gerr t c xs.length dt dc) (growL c.toNat xs dt dc)).length uc8] 24))
        have oV := oV.alloc (.cells #[.int .i64 (zt (gerr t c xs.length dt dc) t), .int .i64 (zt (gerr t c xs.length dt dc) c), .slice ua8 (zl (gerr t c xs.length dt dc) (growL c.toNat xs dt dc)).length uc8] 24)
        have sV := sV.below (ba1 v8 (.cells #[.int .i64 (zt (gerr t c xs.length dt dc) t), .int .i64 (zt (gerr t c xs.length dt dc) c), .slice ua8 (zl (gerr t c xs.length dt dc) (growL c.toNat xs dt dc)).length uc8] 24))
        have oP := oP.alloc (.cells #[.int .i64 (zt (gerr t c xs.length dt dc) t), .int .i64 (zt (gerr t c xs.length dt dc) c), .slice ua8 (zl (gerr t c xs.length dt dc) (growL c.toNat xs dt dc)).length uc8] 24)
        have sP := sP.below (ba1 v8 (.cells #[.int .i64 (zt (gerr t c xs.length dt dc) t), .int .i64 (zt (gerr t c xs.length dt dc) c), .slice ua8 (zl (gerr t c xs.length dt dc) (growL c.toNat xs dt dc)).length uc8] 24))
        have sQ := sQ.below (ba1 v8 (.cells #[.int .i64 (zt (gerr t c xs.length dt dc) t), .int .i64 (zt (gerr t c xs.length dt dc) c), .slice ua8 (zl (gerr t c xs.length dt dc) (growL c.toNat xs dt dc)).length uc8] 24))
        have oQ := Own.new v8 24 [.int .i64 (zt (gerr t c xs.length dt dc) t), .int .i64 (zt (gerr t c xs.length dt dc) c), .slice ua8 (zl (gerr t c xs.length dt dc) (growL c.toNat xs dt dc)).length uc8]
        have hB := below_to hB (ba1 v8 (.cells #[.int .i64 (zt (gerr t c xs.length dt dc) t), .int .i64 (zt (gerr t c xs.length dt dc) c), .slice ua8 (zl (gerr t c xs.length dt dc) (growL c.toNat xs dt dc)).length uc8] 24))
        generalize hbk : v8.heap.size = k8 at oQ ⊢
        clear hbk
        generalize v8.alloc (.cells #[.int .i64 (zt (gerr t c xs.length dt dc) t), .int .i64 (zt (gerr t c xs.length dt dc) c), .slice ua8 (zl (gerr t c xs.length dt dc) (growL c.toNat xs dt dc)).length uc8] 24) = z8 at *
        have d3 : (mpair t c xs.length t' c' ys.length == mpair t c xs.length t' c' ys.length) = true := by simp
        have d4 : (gerr t c xs.length dt dc == gerr t c xs.length dt dc) = true := by simp
        have xU0 := oU.cell 0 (by simp)
        have xU1 := oU.cell 1 (by simp)
        have xU2 := oU.cell 2 (by simp)
        have xV0 := oV.cell 0 (by simp)
        have xV1 := oV.cell 1 (by simp)
        have xV2 := oV.cell 2 (by simp)
        simp only [List.getElem_cons_zero, List.getElem_cons_succ] at xU0 xU1 xU2 xV0 xV1 xV2
        have f := F2.out
        go_wp2_with fail
        refine (same_any _ _ _ _ _ _ _ _ _ sU sV).mono ?_
        rintro e v9 ⟨rfl, hq⟩
        clear xU0 xU1 xU2 xV0 xV1 xV2
        have oO := oO.below hq
        have sO := sO.below hq
        have oA := oA.below hq
        have sA := sA.below hq
        have oB := oB.below hq
        have sB := sB.below hq
        have oU := oU.below hq
        have sU := sU.below hq
        have oV := oV.below hq
        have sV := sV.below hq
        have oP := oP.below hq
        have sP := sP.below hq
        have oQ := oQ.below hq
        have sQ := sQ.below hq
        have hB := below_to hB hq
        clear hq
        rw [f]
        clear f
        have xP0 := oP.cell 0 (by simp)
        have xP1 := oP.cell 1 (by simp)
        have xP2 := oP.cell 2 (by simp)
        have xQ0 := oQ.cell 0 (by simp)
        have xQ1 := oQ.cell 1 (by simp)
        have xQ2 := oQ.cell 2 (by simp)
        simp only [List.getElem_cons_zero, List.getElem_cons_succ] at xP0 xP1 xP2 xQ0 xQ1 xQ2
        have f := F3.out
        go_wp2_with fail
        refine (same_any _ _ _ _ _ _ _ _ _ sP sQ).mono ?_
        rintro e v10 ⟨rfl, hq⟩
        clear xP0 xP1 xP2 xQ0 xQ1 xQ2
        have oO := oO.below hq
        have sO := sO.below hq
        have oA := oA.below hq
        have sA := sA.below hq
        have oB := oB.below hq
        have sB := sB.below hq
        have oU := oU.below hq
        have sU := sU.below hq
        have oV := oV.below hq
        have sV := sV.below hq
        have oP := oP.below hq
        have sP := sP.below hq
        have oQ := oQ.below hq
        have sQ := sQ.below hq
        have hB := below_to hB hq
        clear hq
        rw [f]
        clear f
        have xO0 := oO.cell 0 (by simp)
        have xO1 := oO.cell 1 (by simp)
        have xO2 := oO.cell 2 (by simp)
        have xA0 := oA.cell 0 (by simp)
        have xA1 := oA.cell 1 (by simp)
        have xA2 := oA.cell 2 (by simp)
        simp only [List.getElem_cons_zero, List.getElem_cons_succ] at xO0 xO1 xO2 xA0 xA1 xA2
        have f := F4.out
        go_wp2_with fail
        refine (same_any _ _ _ _ _ _ _ _ _ sO sA).mono ?_
        rintro e v11 ⟨rfl, hq⟩
        clear xO0 xO1 xO2 xA0 xA1 xA2
        have oO := oO.below hq
        have sO := sO.below hq
        have oA := oA.below hq
        have sA := sA.below hq
        have oB := oB.below hq
        have sB := sB.below hq
        have oU := oU.below hq
        have sU := sU.below hq
        have oV := oV.below hq
        have sV := sV.below hq
        have oP := oP.below hq
        have sP := sP.below hq
        have oQ := oQ.below hq
        have sQ := sQ.below hq
        have hB := below_to hB hq
        clear hq
        rw [f]
        clear f
        go_wp2
        go_ret
        exact ⟨rfl, hB⟩

end Go.Proofs.Ytpkggglifahioaa
