/- What is proved here: the law InterpSums returns true. Condition: a 64-bit number, a fraction of two of them. -/
import Derived.Test.YtpjhiojdnebgoaaC39
import Derived.Test.YtpjhiojdnebgoaaC33
import Derived.Test.YtpjhiojdnebgoaaC25
import Derived.Test.YtpjhiojdnebgoaaC21
import Derived.Test.YtpjhiojdnebgoaaC01
import Derived.Test.YtpjhiojdnebgoaaC40
import Derived.RegionTactic
import Derived.ChangeAlike
import Derived.BigRegion
import Derived.IntWalk
import Derived.Deep.DeepCutAuto
namespace Go.Proofs.Ytpjhiojdnebgoaa
open Go.RowKit

set_option maxRecDepth 100000 in
set_option maxHeartbeats 64000000 in
theorem interpSums_any (n fn fd : Int) (w : World) (j1 : i64 n) (j2 : i64 fn) (j3 : i64 fd) :
    Calls Try.prog 7 #[.int .i64 n, .agg #[.int .i64 fn, .int .i64 fd]] w fun e w' => e = .returned (.bool true) ∧ Below w.heap.size w w' := by
  have J1 := Lib.hid j1
  have J2 := Lib.hid j2
  have J3 := Lib.hid j3
  clear j1 j2 j3
  have oF := Own.new w 24 [.int .i64 fn, .int .i64 fd]
  have hB := ba1 w (.cells #[.int .i64 fn, .int .i64 fd] 24)
  by_cases hm : n < 0 ∨ 4 < n
  · by_cases hm1 : n < 0
    · have b1 : decide (n < 0) = true := by simpa using hm1
      clear hm hm1
      go_enter Try.func7, Try.ntmps7
      obtain ⟨rF, fF⟩ := oF.rules
      have zF := oF.lt
      go_wp2_with fail
      refine (alive15_any _).mono ?_
      rintro e y1 ⟨rfl, hq⟩
      clear rF fF zF
      replace oF := oF.below hq
      replace hB := below_to hB hq
      clear hq
      obtain ⟨rF, fF⟩ := oF.rules
      have zF := oF.lt
      go_wp2
      go_ret
      exact ⟨rfl, hB⟩
    · have b1 : decide (n < 0) = false := by simpa using hm1
      have b2 : decide (4 < n) = true := by simp; omega
      clear hm hm1
      go_enter Try.func7, Try.ntmps7
      obtain ⟨rF, fF⟩ := oF.rules
      have zF := oF.lt
      go_wp2_with fail
      refine (alive15_any _).mono ?_
      rintro e y1 ⟨rfl, hq⟩
      clear rF fF zF
      replace oF := oF.below hq
      replace hB := below_to hB hq
      clear hq
      obtain ⟨rF, fF⟩ := oF.rules
      have zF := oF.lt
      go_wp2
      go_ret
      exact ⟨rfl, hB⟩
  obtain ⟨N, rfl⟩ := Int.eq_ofNat_of_zero_le (show 0 ≤ n by omega)
  have hN : N ≤ 4 := by omega
  have b1 : decide ((N : Int) < 0) = false := by simp
  have b2 : decide (4 < (N : Int)) = false := by simp; omega
  clear hm
  by_cases hp : partB fn fd = false
  · have HP := Lib.hid hp
    clear hp
    go_enter Try.func7, Try.ntmps7
    obtain ⟨rF, fF⟩ := oF.rules
    have zF := oF.lt
    go_wp2_with fail
    refine (alive15_any _).mono ?_
    rintro e y1 ⟨rfl, hq⟩
    clear rF fF zF
    replace oF := oF.below hq
    replace hB := below_to hB hq
    clear hq
    obtain ⟨rF, fF⟩ := oF.rules
    have zF := oF.lt
    go_wp2_with fail
    refine (ripart_any fn fd _ J2.out J3.out).mono ?_
    rintro e y2 ⟨rfl, hq⟩
    clear rF fF zF
    replace oF := oF.below hq
    replace hB := below_to hB hq
    clear hq
    obtain ⟨rF, fF⟩ := oF.rules
    have zF := oF.lt
    rw [HP.out]
    go_wp2
    go_ret
    exact ⟨rfl, hB⟩
  have HP : Hid (partB fn fd = true) := by show _ = _; simpa using hp
  clear hp
  have HT : Hid (ftaps N fn fd = (tapsN N fn fd (N + 1), 0)) := by
    show _ = _
    unfold ftaps
    rw [if_neg (by omega), if_neg (by rw [HP.out]; decide), Int.toNat_natCast]
  have TL := Lib.hid (tapsN_len N fn fd (N + 1))
  have TS := Lib.hid (tsum_ok HP.out hN)
  go_enter Try.func7, Try.ntmps7
  obtain ⟨rF, fF⟩ := oF.rules
  have zF := oF.lt
  go_wp2_with fail
  refine (alive15_any _).mono ?_
  rintro e y1 ⟨rfl, hq⟩
  clear rF fF zF
  replace oF := oF.below hq
  replace hB := below_to hB hq
  clear hq
  obtain ⟨rF, fF⟩ := oF.rules
  have zF := oF.lt
  go_wp2_with fail
  refine (ripart_any fn fd _ J2.out J3.out).mono ?_
  rintro e y2 ⟨rfl, hq⟩
  clear rF fF zF
  replace oF := oF.below hq
  replace hB := below_to hB hq
  clear hq
  obtain ⟨rF, fF⟩ := oF.rules
  have zF := oF.lt
  rw [HP.out]
  go_wp2_with fail
  refine (itaps_any N fn fd _ J1.out J2.out J3.out).mono ?_
  rintro e y3 ⟨ux, rfl, sx, hq⟩
  rw [HT.out] at sx ⊢
  clear rF fF zF
  replace oF := oF.below hq
  replace hB := below_to hB hq
  clear hq
  obtain ⟨rF, fF⟩ := oF.rules
  have zF := oF.lt
  have SX := Lib.hid sx
  obtain ⟨adx, capx, rfl, gx1, gx2, _⟩ := sx.open
  clear sx
  have lx : ((tapsN N fn fd (N + 1)).length : Int) = (N : Int) + 1 := by rw [TL.out]; omega
  have a1 : IntKind.i64.wrap ((N : Int) + 1) = (N : Int) + 1 := IntWalk.i64_in _ (by omega)
  have bx : (((tapsN N fn fd (N + 1)).length : Int) != (N : Int) + 1) = false := by rw [lx]; simp
  go_wp2_with fail
  refine (of15_any 0 1 _).mono ?_
  rintro e y4 ⟨rfl, hq⟩
  have hY := hq
  clear rF fF zF
  replace oF := oF.below hq
  replace hB := below_to hB hq
  clear hq
  obtain ⟨rF, fF⟩ := oF.rules
  have zF := oF.lt
  go_wp2
  have oS := Own.new y4 24 [.int .i64 0, .int .i64 1]
  have hy := ba1 y4 (.cells #[.int .i64 0, .int .i64 1] 24)
  have zY : y3.heap.size ≤ y4.heap.size := hY.size
  replace hY := below_to hY hy
  have zG : w.heap.size < y4.heap.size := zF
  clear rF fF zF
  replace oF := oF.below hy
  replace hB := below_to hB hy
  clear hy
  obtain ⟨rF, fF⟩ := oF.rules
  have zF := oF.lt
  clear rF fF zF
  obtain ⟨G, hG⟩ : ∃ G, G = y4.heap.size := ⟨_, rfl⟩
  rw [← hG] at oS zY zG ⊢
  clear hG
  go_loopw [9] (fun i wr => ∃ j : Nat, j ≤ N + 1 ∧ i = .int .i64 j ∧ Own wr w.heap.size 24 [.int .i64 fn, .int .i64 fd] ∧ Own wr G 24 [.int .i64 (tsum N fn fd j).n, .int .i64 (tsum N fn fd j).d] ∧ Below w.heap.size w wr ∧ Below y3.heap.size y3 wr) (fun i _ => N + 1 - (intOf i).toNat)
  case atStart => exact ⟨0, Nat.zero_le _, rfl, oF, oS, hB, hY⟩
  case round =>
    clear oF oS hB hY
    obtain ⟨j, hj, rfl, oF, oS, hB, hY⟩ := hrel
    rename World => W
    by_cases hlt : j ≤ N
    · obtain ⟨_, _, e, _, _, H⟩ := (SX.out.below hY).open
      cases e
      have hix : j < (tapsN N fn fd (N + 1)).length := by rw [TL.out]; omega
      obtain ⟨b', off', rfl, c1, c2⟩ := H.out j hix
      clear H
      have XE : (tapsN N fn fd (N + 1))[j] = tapV N j fn fd (N + 1) := by simp [tapsN]
      rw [XE] at c1 c2
      clear XE
      have HS : Hid (tsum N fn fd (j + 1) = fadd (tsum N fn fd j).n (tsum N fn fd j).d (tapV N j fn fd (N + 1)).1 (tapV N j fn fd (N + 1)).2) := rfl
      have JS := Lib.hid (tsum_i64 N fn fd j)
      have JV := Lib.hid (tapV_i64 N j fn fd (N + 1))
      have PE := Lib.hid (TS.out.1 (j + 1) (by omega))
      generalize (tapV N j fn fd (N + 1)).1 = vn at *
      generalize (tapV N j fn fd (N + 1)).2 = vd at *
      generalize (tsum N fn fd j).n = sn at *
      generalize (tsum N fn fd j).d = sd at *
      generalize hpp : tsum N fn fd (j + 1) = p at *
      have HPP := Lib.hid hpp
      clear hpp
      have zb := World.block_lt_of_cell? _ _ c1
      simp only at zb
      obtain ⟨rS, fS⟩ := oS.rules
      have zS := oS.lt
      go_wp2
      go_wp2_with fail
      have gl := @grow_lt
      refine wp_region_fs [(9, ⟨24, [.int .i64 0, .int .i64 0], fun b => .pointer (some ⟨b, 0, none⟩)⟩)] [0, 1, 2, 3, 4] [.op 5, .tk 6, .tk 7, .tk 8, .fl 9, .op 10] [11] (by kernel_rfl) (by kernel_rfl) ⟨fun ρ W => by kernel_rfl, trivial⟩ (fun _ _ _ _ _ h => h) (fun _ _ _ _ _ h => h) ?_
      try simp only [opsAt, List.getElem?_toArray, List.getElem?_cons_zero, List.getElem?_cons_succ, Option.getD_some]
      repeat (go_big_quiet_step (fail))
      refine wpQuiet_nil ?_
      clear gl
      refine wpFl_op rfl ?_
      intro w3 hb3 K' hK'
      go_simp
      refine (radd_any sn sd vn vd _ JS.out.1 JS.out.2 JV.out.1 JV.out.2).mono ?_
      rintro e w5 ⟨rfl, hq⟩
      refine hK' _ _ (Mod.of_below hq) ?_
      clear hK' K'
      have hF := below_to hb3 hq
      clear hb3 hq
      rw [← HS.out]
      refine wpFl_tk ?_
      try simp only [opsAt, List.getElem?_toArray, List.getElem?_cons_zero, List.getElem?_cons_succ, Option.getD_some]
      repeat (go_big_quiet_step (fail))
      refine wpQuiet_nil ?_
      refine wpFl_tk ?_
      try simp only [opsAt, List.getElem?_toArray, List.getElem?_cons_zero, List.getElem?_cons_succ, Option.getD_some]
      repeat (go_big_quiet_step (fail))
      refine wpQuiet_nil ?_
      refine wpFl_tk ?_
      try simp only [opsAt, List.getElem?_toArray, List.getElem?_cons_zero, List.getElem?_cons_succ, Option.getD_some]
      repeat (go_big_quiet_step (fail))
      refine wpQuiet_nil ?_
      refine wpFl_fl rfl ?_
      intro bP w6 hb6 oP zP0 _
      go_simp
      replace hF := below_to hF hb6
      refine wpFl_op rfl ?_
      intro w7 hb7 K' hK'
      replace oP := oP.below hb7
      replace hF := below_to hF hb7
      clear hb6 hb7
      obtain ⟨rP, fP⟩ := oP.rules
      have zP := oP.lt
      go_wp2_with fail
      refine hK' _ _ (((Mod.refl _ _).set (by simp) _).set (by simp) _) ?_
      clear hK' K' rP fP zP
      replace oP := (oP.set 0 (.int .i64 p.n)).set 1 (.int .i64 p.d)
      replace hF := (hF.setCell (p := ⟨bP, 0, none⟩) zP0 (.int .i64 p.n)).setCell (p := ⟨bP, 1, none⟩) zP0 (.int .i64 p.d)
      refine wpFl_nil (fun w8 hb8 => ?_)
      replace oP := oP.below hb8
      replace hF := below_to hF hb8
      clear hb8
      try simp only [opsAt, List.getElem?_toArray, List.getElem?_cons_zero, List.getElem?_cons_succ, Option.getD_some]
      clear rS fS zS c1 c2
      replace hB := below_to hB hF
      replace hY := below_to hY hF
      replace oF := oF.below hF
      replace oS := oS.below hF
      clear hF
      have b3 : (p.e != 0) = false := by simp [PE.out]
      obtain ⟨rS, fS⟩ := oS.rules
      have zS := oS.lt
      obtain ⟨rP, fP⟩ := oP.rules
      have zP := oP.lt
      go_wp2
      go_roundw
      case rel =>
        refine ⟨j + 1, by omega, by go_num, ?_, by rw [HPP.out]; exact (oS.set 0 (.int .i64 p.n)).set 1 (.int .i64 p.d), (hB.setCell (by simp; omega) _).setCell (by simp; omega) _, (hY.setCell (by simp; omega) _).setCell (by simp; omega) _⟩
        exact (oF.other (g' := G) (by omega) _ _).other (g' := G) (by omega) _ _
      case measure => simp [intOf]; try omega
    · obtain rfl : j = N + 1 := by omega
      have zk : ¬ ((N + 1 : Nat) : Int) ≤ (N : Int) := by omega
      rw [TS.out.2.1, TS.out.2.2] at oS
      clear TS
      have q0 : Int.tmod (N : Int) 2 = ((N % 2 : Nat) : Int) := by rw [Int.tmod_eq_emod_of_nonneg (by omega)]; omega
      by_cases hc : fn = 0 ∨ N % 2 = 0
      · have h1 : fn = 0 ∨ (¬ fn = 0 ∧ N % 2 = 0) := by omega
        clear hc
        have key : ∀ b5 : (fn == 0) = true ∨ ((fn == 0) = false ∧ Int.tmod (N : Int) 2 = 0), True := fun _ => trivial
        clear key
        rcases h1 with h1 | ⟨h1, h2⟩
        · have b5 : (fn == 0) = true := by simpa using h1
          clear h1 q0
          obtain ⟨rF, fF⟩ := oF.rules
          have zF := oF.lt
          obtain ⟨rS, fS⟩ := oS.rules
          have zS := oS.lt
          go_wp2_with fail
          have gl := @grow_lt
          go_wp2_with fail
          refine wp_region_st [.t [0], .f 1, .t [2, 3, 4, 5, 6, 7, 8, 9, 10, 11]] [12] (by kernel_rfl) (by kernel_rfl) (fun _ _ _ _ _ h => h) ?_
          refine wpX_t ?_
          try simp only [opsAt, List.getElem?_toArray, List.getElem?_cons_zero, List.getElem?_cons_succ, Option.getD_some]
          repeat (go_big_quiet_step (fail))
          refine wpQuiet_nil ?_
          refine wpX_f rfl rfl (fun K' hK' => ?_)
          go_simp
          refine (of15_any 1 1 _).mono ?_
          rintro e y5 ⟨rfl, hq⟩
          refine hK' _ _ (grow_of (below_to ((Below.refl _ _).drew) hq)) ?_
          clear hK' K'
          refine wpX_t ?_
          try simp only [opsAt, List.getElem?_toArray, List.getElem?_cons_zero, List.getElem?_cons_succ, Option.getD_some]
          repeat (go_big_quiet_step (fail))
          refine wpQuiet_nil ?_
          refine wpX_nil ?_
          try simp only [opsAt, List.getElem?_toArray, List.getElem?_cons_zero, List.getElem?_cons_succ, Option.getD_some]
          clear rF fF zF rS fS zS
          replace oS := (oS.drew).below hq
          replace hB := below_to (hB.drew) hq
          clear hq oF
          obtain ⟨rS, fS⟩ := oS.rules
          have zS := oS.lt
          go_wp2
          go_wp2_with fail
          refine wp_region_stt [.t [0, 1, 2], .f 3] [4, 5] [6] (by kernel_rfl) (by kernel_rfl) (fun _ _ _ _ _ h => h) ?_
          refine wpX_t ?_
          try simp only [opsAt, List.getElem?_toArray, List.getElem?_cons_zero, List.getElem?_cons_succ, Option.getD_some]
          repeat (go_big_quiet_step (fail))
          refine wpQuiet_nil ?_
          refine wpX_f rfl rfl (fun K' hK' => ?_)
          go_simp
          refine (of15_any 1 1 _).mono ?_
          rintro e y6 ⟨rfl, hq⟩
          refine hK' _ _ (grow_of (below_to ((Below.refl _ _).drew) hq)) ?_
          clear hK' K'
          refine wpX_nil ?_
          try simp only [opsAt, List.getElem?_toArray, List.getElem?_cons_zero, List.getElem?_cons_succ, Option.getD_some]
          repeat (go_big_quiet_step (fail))
          refine wpQuiet_nil ?_
          try simp only [opsAt, List.getElem?_toArray, List.getElem?_cons_zero, List.getElem?_cons_succ, Option.getD_some]
          replace hB := below_to (hB.drew) hq
          clear gl rS fS zS
          go_wp2
          go_ret
          exact ⟨rfl, hB⟩
        · have b5 : (fn == 0) = false := by simpa using h1
          have q1 : Int.tmod (N : Int) 2 = 0 := by rw [q0, h2]; rfl
          clear h1 h2 q0
          obtain ⟨rF, fF⟩ := oF.rules
          have zF := oF.lt
          obtain ⟨rS, fS⟩ := oS.rules
          have zS := oS.lt
          go_wp2_with fail
          have gl := @grow_lt
          go_wp2_with fail
          refine wp_region_st [.t [0], .f 1, .t [2, 3, 4, 5, 6, 7, 8, 9, 10, 11]] [12] (by kernel_rfl) (by kernel_rfl) (fun _ _ _ _ _ h => h) ?_
          refine wpX_t ?_
          try simp only [opsAt, List.getElem?_toArray, List.getElem?_cons_zero, List.getElem?_cons_succ, Option.getD_some]
          repeat (go_big_quiet_step (fail))
          refine wpQuiet_nil ?_
          refine wpX_f rfl rfl (fun K' hK' => ?_)
          go_simp
          refine (of15_any 1 1 _).mono ?_
          rintro e y5 ⟨rfl, hq⟩
          refine hK' _ _ (grow_of (below_to ((Below.refl _ _).drew) hq)) ?_
          clear hK' K'
          refine wpX_t ?_
          try simp only [opsAt, List.getElem?_toArray, List.getElem?_cons_zero, List.getElem?_cons_succ, Option.getD_some]
          repeat (go_big_quiet_step (fail))
          refine wpQuiet_nil ?_
          refine wpX_nil ?_
          try simp only [opsAt, List.getElem?_toArray, List.getElem?_cons_zero, List.getElem?_cons_succ, Option.getD_some]
          clear rF fF zF rS fS zS
          replace oS := (oS.drew).below hq
          replace hB := below_to (hB.drew) hq
          clear hq oF
          obtain ⟨rS, fS⟩ := oS.rules
          have zS := oS.lt
          go_wp2
          go_wp2_with fail
          refine wp_region_stt [.t [0, 1, 2], .f 3] [4, 5] [6] (by kernel_rfl) (by kernel_rfl) (fun _ _ _ _ _ h => h) ?_
          refine wpX_t ?_
          try simp only [opsAt, List.getElem?_toArray, List.getElem?_cons_zero, List.getElem?_cons_succ, Option.getD_some]
          repeat (go_big_quiet_step (fail))
          refine wpQuiet_nil ?_
          refine wpX_f rfl rfl (fun K' hK' => ?_)
          go_simp
          refine (of15_any 1 1 _).mono ?_
          rintro e y6 ⟨rfl, hq⟩
          refine hK' _ _ (grow_of (below_to ((Below.refl _ _).drew) hq)) ?_
          clear hK' K'
          refine wpX_nil ?_
          try simp only [opsAt, List.getElem?_toArray, List.getElem?_cons_zero, List.getElem?_cons_succ, Option.getD_some]
          repeat (go_big_quiet_step (fail))
          refine wpQuiet_nil ?_
          try simp only [opsAt, List.getElem?_toArray, List.getElem?_cons_zero, List.getElem?_cons_succ, Option.getD_some]
          replace hB := below_to (hB.drew) hq
          clear gl rS fS zS
          go_wp2
          go_ret
          exact ⟨rfl, hB⟩
      · have b5 : (fn == 0) = false := by simp; omega
        have q1 : Int.tmod (N : Int) 2 = 1 := by rw [q0, show N % 2 = 1 by omega]; rfl
        obtain ⟨M1, M2⟩ := mir_ok HP.out hN (by omega) (by omega)
        have JR := Lib.hid (fsub_i64 1 1 fn fd)
        clear hc q0
        have HT2 : Hid (ftaps N (fsub 1 1 fn fd).n (fsub 1 1 fn fd).d = (tapsN N (fsub 1 1 fn fd).n (fsub 1 1 fn fd).d (N + 1), 0)) := by
          show _ = _
          unfold ftaps
          rw [if_neg (by omega), if_neg (by rw [M1]; decide), Int.toNat_natCast]
        have MX := Lib.hid M2
        clear M1 M2
        have TL2 := Lib.hid (tapsN_len N (fsub 1 1 fn fd).n (fsub 1 1 fn fd).d (N + 1))
        generalize hR : fsub 1 1 fn fd = R at *
        have HR := Lib.hid hR
        clear hR
        obtain ⟨rF, fF⟩ := oF.rules
        have zF := oF.lt
        obtain ⟨rS, fS⟩ := oS.rules
        have zS := oS.lt
        go_wp2_with fail
        have gl := @grow_lt
        go_wp2_with fail
        refine wp_region_st [.t [0], .f 1, .t [2, 3, 4, 5, 6, 7, 8, 9, 10, 11]] [12] (by kernel_rfl) (by kernel_rfl) (fun _ _ _ _ _ h => h) ?_
        refine wpX_t ?_
        try simp only [opsAt, List.getElem?_toArray, List.getElem?_cons_zero, List.getElem?_cons_succ, Option.getD_some]
        repeat (go_big_quiet_step (fail))
        refine wpQuiet_nil ?_
        refine wpX_f rfl rfl (fun K' hK' => ?_)
        go_simp
        refine (of15_any 1 1 _).mono ?_
        rintro e y5 ⟨rfl, hq⟩
        refine hK' _ _ (grow_of (below_to ((Below.refl _ _).drew) hq)) ?_
        clear hK' K'
        refine wpX_t ?_
        try simp only [opsAt, List.getElem?_toArray, List.getElem?_cons_zero, List.getElem?_cons_succ, Option.getD_some]
        repeat (go_big_quiet_step (fail))
        refine wpQuiet_nil ?_
        refine wpX_nil ?_
        try simp only [opsAt, List.getElem?_toArray, List.getElem?_cons_zero, List.getElem?_cons_succ, Option.getD_some]
        clear rF fF zF rS fS zS gl oS
        replace oF := (oF.drew).below hq
        replace hB := below_to (hB.drew) hq
        replace hY := below_to (hY.drew) hq
        clear hq
        obtain ⟨rF, fF⟩ := oF.rules
        have zF := oF.lt
        go_wp2
        go_wp2_with fail
        have gl := @grow_lt
        refine wp_region_fs [(6, ⟨24, [.int .i64 0, .int .i64 0], fun b => .pointer (some ⟨b, 0, none⟩)⟩)] [1] [.op 0, .op 2, .tk 3, .tk 4, .tk 5, .fl 6, .op 7] [8] (by kernel_rfl) (by kernel_rfl) ⟨fun ρ W => by kernel_rfl, trivial⟩ (fun _ _ _ _ _ h => h) (fun _ _ _ _ _ h => h) ?_
        try simp only [opsAt, List.getElem?_toArray, List.getElem?_cons_zero, List.getElem?_cons_succ, Option.getD_some]
        repeat (go_big_quiet_step (fail))
        refine wpQuiet_nil ?_
        clear gl
        refine wpFl_op rfl ?_
        intro w3 hb3 K' hK'
        go_simp
        refine (of15_any 1 1 _).mono ?_
        rintro e w5 ⟨rfl, hq⟩
        refine hK' _ _ (Mod.of_below hq) ?_
        clear hK' K'
        have hF := below_to hb3 hq
        clear hb3 hq
        refine wpFl_op rfl ?_
        intro w3 hb3 K' hK'
        go_simp
        refine (rsub_any 1 1 fn fd _ ⟨by decide, by decide⟩ ⟨by decide, by decide⟩ J2.out J3.out).mono ?_
        rintro e w5 ⟨rfl, hq⟩
        refine hK' _ _ (Mod.of_below hq) ?_
        clear hK' K'
        replace hF := below_to hF (below_to hb3 hq)
        clear hb3 hq
        rw [HR.out]
        refine wpFl_tk ?_
        try simp only [opsAt, List.getElem?_toArray, List.getElem?_cons_zero, List.getElem?_cons_succ, Option.getD_some]
        repeat (go_big_quiet_step (fail))
        refine wpQuiet_nil ?_
        refine wpFl_tk ?_
        try simp only [opsAt, List.getElem?_toArray, List.getElem?_cons_zero, List.getElem?_cons_succ, Option.getD_some]
        repeat (go_big_quiet_step (fail))
        refine wpQuiet_nil ?_
        refine wpFl_tk ?_
        try simp only [opsAt, List.getElem?_toArray, List.getElem?_cons_zero, List.getElem?_cons_succ, Option.getD_some]
        repeat (go_big_quiet_step (fail))
        refine wpQuiet_nil ?_
        refine wpFl_fl rfl ?_
        intro bQ w6 hb6 oQ zQ0 _
        go_simp
        replace hF := below_to hF hb6
        refine wpFl_op rfl ?_
        intro w7 hb7 K' hK'
        replace oQ := oQ.below hb7
        replace hF := below_to hF hb7
        clear hb6 hb7
        obtain ⟨rQ, fQ⟩ := oQ.rules
        have zQ := oQ.lt
        go_wp2_with fail
        refine hK' _ _ (((Mod.refl _ _).set (by simp) _).set (by simp) _) ?_
        clear hK' K' rQ fQ zQ
        replace oQ := (oQ.set 0 (.int .i64 R.n)).set 1 (.int .i64 R.d)
        replace hF := (hF.setCell (p := ⟨bQ, 0, none⟩) zQ0 (.int .i64 R.n)).setCell (p := ⟨bQ, 1, none⟩) zQ0 (.int .i64 R.d)
        refine wpFl_nil (fun w8 hb8 => ?_)
        replace oQ := oQ.below hb8
        replace hF := below_to hF hb8
        clear hb8
        try simp only [opsAt, List.getElem?_toArray, List.getElem?_cons_zero, List.getElem?_cons_succ, Option.getD_some]
        clear rF fF zF oF
        replace hB := below_to hB hF
        replace hY := below_to hY hF
        clear hF
        obtain ⟨rQ, fQ⟩ := oQ.rules
        have zQ := oQ.lt
        go_wp2_with fail
        refine (itaps_any N R.n R.d _ J1.out JR.out.1 JR.out.2).mono ?_
        rintro e y9 ⟨uy, rfl, sy, hq⟩
        rw [HT2.out] at sy ⊢
        replace hB := below_to hB hq
        replace hY := below_to hY hq
        clear hq rQ fQ zQ oQ
        have SY := Lib.hid sy
        obtain ⟨ady, capy, rfl, gy1, gy2, _⟩ := sy.open
        clear sy
        have ly : ((tapsN N R.n R.d (N + 1)).length : Int) = (N : Int) + 1 := by rw [TL2.out]; omega
        have bY : (((tapsN N R.n R.d (N + 1)).length : Int) != (N : Int) + 1) = false := by rw [ly]; simp
        go_wp2
        go_loopw [16] (fun i wr => ∃ j : Nat, j ≤ N + 1 ∧ i = .int .i64 j ∧ Below w.heap.size w wr ∧ Below y3.heap.size y3 wr ∧ Below y9.heap.size y9 wr) (fun i _ => N + 1 - (intOf i).toNat)
        case atStart => exact ⟨0, Nat.zero_le _, rfl, hB, hY, Below.refl _ _⟩
        case round =>
          clear hB hY
          obtain ⟨j, hj, rfl, hB, hY, hZ⟩ := hrel
          rename World => W
          by_cases hlt : j ≤ N
          · obtain ⟨_, _, e, _, _, H⟩ := (SX.out.below hY).open
            cases e
            have hix : j < (tapsN N fn fd (N + 1)).length := by rw [TL.out]; omega
            obtain ⟨b', off', rfl, c1, c2⟩ := H.out j hix
            clear H
            obtain ⟨_, _, e, _, _, H⟩ := (SY.out.below hZ).open
            cases e
            have hiy : N - j < (tapsN N R.n R.d (N + 1)).length := by rw [TL2.out]; omega
            obtain ⟨b'', off'', rfl, d1, d2⟩ := H.out (N - j) hiy
            clear H
            have XE : (tapsN N fn fd (N + 1))[j] = tapV N j fn fd (N + 1) := by simp [tapsN]
            have YE : (tapsN N R.n R.d (N + 1))[N - j] = tapV N j fn fd (N + 1) := by rw [MX.out j hlt]; simp [tapsN]
            rw [XE] at c1 c2
            rw [YE] at d1 d2
            clear XE YE
            have i1 : IntKind.i64.wrap ((N : Int) - (j : Int)) = (N : Int) - (j : Int) := IntWalk.i64_in _ (by omega)
            have i2 : 0 ≤ (N : Int) - (j : Int) := by omega
            have i3 : ((N : Int) - (j : Int)).toNat = N - j := by omega
            have i4 : (N : Int) - (j : Int) < ((tapsN N R.n R.d (N + 1)).length : Int) := by omega
            have i5 : (j : Int) < ((tapsN N fn fd (N + 1)).length : Int) := by omega
            clear lx ly bx bY gx1 gx2 gy1 gy2
            generalize (tapV N j fn fd (N + 1)).1 = vn at *
            generalize (tapV N j fn fd (N + 1)).2 = vd at *
            go_wp2_with fail
            go_region
            go_wp2
            go_roundw
            case rel => exact ⟨j + 1, by omega, by go_num, hB.drew, hY.drew, hZ.drew⟩
            case measure => simp [intOf]; try omega
          · obtain rfl : j = N + 1 := by omega
            have zk : ¬ ((N + 1 : Nat) : Int) ≤ (N : Int) := by omega
            go_wp2
            go_ret
            exact ⟨rfl, hB⟩
end Go.Proofs.Ytpjhiojdnebgoaa
