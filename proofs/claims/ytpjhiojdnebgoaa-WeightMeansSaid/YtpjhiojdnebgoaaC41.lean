/- What is proved here: contracts of functions and plain facts, several texts in one; each one says ahead what it proves, and its conditions. -/
import Derived.Test.YtpjhiojdnebgoaaC11
import Derived.Test.YtpjhiojdnebgoaaC40
import Derived.Test.YtpjhiojdnebgoaaC23
/- What is proved here: the contracts of the reference's Of and Group. Condition: a slice of visibilities. -/
namespace Go.Proofs.Ytpjhiojdnebgoaa
open Go.RowKit

set_option maxRecDepth 100000 in
set_option maxHeartbeats 8000000 in
theorem rvof_any (l : List Vs) (v : Value) (qa qb : Int) (w : World) (hs : SV w v l) (hl : l.length ≤ 200) :
    Calls Try.prog 79 #[v, .int .i64 qa, .int .i64 qb] w fun e w' => ∃ u, e = .returned u ∧ SV w' u (vof l qa qb) ∧ Below w.heap.size w w' := by
  have S0 := Lib.hid hs
  have HL := Lib.hid hl
  obtain ⟨ad, cap, rfl, h1, h2, _⟩ := hs.open
  clear hs
  go_enter Try.func79, Try.ntmps79
  go_wp2
  go_loopw [7, 8] (fun gv i wr => ∃ k : Nat, k ≤ l.length ∧ i = .int .i64 k ∧ wr.ownsRow w.heap.size 60 6 gv (vof (l.take k) qa qb).length (vcs (vof (l.take k) qa qb)) ∧ Below w.heap.size w wr) (fun _ i _ => l.length + 1 - (intOf i).toNat)
  case atStart => exact ⟨0, Nat.zero_le _, rfl, World.ownsRow_nil _ _ _ _, Below.refl _ _⟩
  case round =>
    obtain ⟨k, hk, rfl, og, hS⟩ := hrel
    rename World => W2
    by_cases hkl : k < l.length
    · obtain ⟨_, _, e, _, _, H⟩ := (S0.out.below hS).open
      cases e
      obtain ⟨b, off, rfl, c0, c1, c2, c3, c4, c5⟩ := H.out k hkl
      clear H
      have TL := Lib.hid (vof_len (l.take k) qa qb)
      have TK := Lib.hid (List.length_take_le k l)
      have HT := Lib.hid (vof_take (a := qa) (b := qb) hkl)
      have GL : (vof (l.take k) qa qb).length ≤ 200 := by have := TL.out; have := TK.out; omega
      generalize l[k] = x at *
      have q3 : ∀ (i : Nat), vcs [x] = [.int .i64 x.i, .int .i64 x.j, .int .i64 x.re, .int .i64 x.im, .int .i64 x.den, .int .i64 x.n] := fun _ => rfl
      have VX := Lib.hid (q3 0)
      clear q3
      have zS := hS.size
      have zb := World.block_lt_of_cell? _ _ c0
      simp only at zb
      by_cases e1 : x.i = qa
      case neg =>
        have p1 : (x.i == qa) = false := by simpa using e1
        have HU : Hid (vof (l.take (k + 1)) qa qb = vof (l.take k) qa qb) := by show _ = _; rw [HT.out, if_neg (fun h => e1 h.1)]
        clear e1 HT
        go_wp2
        go_roundw
        case rel => exact ⟨k + 1, by omega, by go_num, by rw [HU.out]; exact og, hS⟩
        case measure => simp [intOf]; try omega
      have p1 : (x.i == qa) = true := by simpa using e1
      by_cases e2 : x.j = qb
      case neg =>
        have p2 : (x.j == qb) = false := by simpa using e2
        have HU : Hid (vof (l.take (k + 1)) qa qb = vof (l.take k) qa qb) := by show _ = _; rw [HT.out, if_neg (fun h => e2 h.2)]
        clear e1 e2 HT
        go_wp2
        go_roundw
        case rel => exact ⟨k + 1, by omega, by go_num, by rw [HU.out]; exact og, hS⟩
        case measure => simp [intOf]; try omega
      have p2 : (x.j == qb) = true := by simpa using e2
      have HU : Hid (vof (l.take (k + 1)) qa qb = vof (l.take k) qa qb ++ [x]) := by show _ = _; rw [HT.out, if_pos ⟨e1, e2⟩]
      clear e1 e2 HT
      go_wp2_with (at_builtin; refine wpList_app _ rfl _ _ _ rfl w.heap.size 60 6 48 (.agg #[.int .i64 0, .int .i64 0, .int .i64 0, .int .i64 0, .int .i64 0, .int .i64 0]) Try.underlying55 vis_info rfl (by omega) (by omega) _ _ _ rfl (og.alloc _) (by omega) (by simp; omega) W2.heap.size [.int .i64 x.i, .int .i64 x.j, .int .i64 x.re, .int .i64 x.im, .int .i64 x.den, .int .i64 x.n] (0, 0) rfl (heap_alloc_new W2 _) rfl (by simp [Value.oneCell']) ?_; intro g cap2 w2 hown hg hbw)
      go_roundw
      case rel =>
        refine ⟨k + 1, by omega, by go_num, ?_, ?_⟩
        · rw [HU.out, vcs_append, List.length_append, VX.out]; exact hown
        · exact (below_to hS (ba1 W2 _)).trans (hbw.mono (Nat.le_refl _))
      case measure => simp [intOf]; try omega
    · obtain rfl : k = l.length := by omega
      rw [vof_end (Nat.lt_irrefl _)] at og
      have VL := vof_len l qa qb
      have sg := owns_SV og (by omega)
      clear og
      go_wp2
      go_ret
      exact ⟨_, rfl, sg, hS⟩
set_option maxRecDepth 100000 in
set_option maxHeartbeats 16000000 in
theorem rvgroup_any (l : List Vs) (v : Value) (w : World) (hs : SV w v l) :
    Calls Try.prog 39 #[v] w (vrows_post w (vGroup l)) := by
  have S0 := Lib.hid hs
  obtain ⟨ad, cap, rfl, h1, h2, _⟩ := hs.open
  clear hs
  go_enter Try.func39, Try.ntmps39
  go_wp2_with fail
  refine (rvlist_any l _ _ S0.out).mono ?_
  rintro e y1 ⟨rfl, hB⟩
  by_cases hl : vlist l = 0
  case neg =>
    have b1 : (vlist l != 0) = true := by simpa using hl
    have HF := Lib.hid (vGroup_l hl)
    clear hl
    go_wp2_with fail
    refine (rvlist_any l _ _ (S0.out.below hB)).mono ?_
    rintro e y2 ⟨rfl, hq⟩
    replace hB := below_to hB hq
    clear hq
    generalize vlist l = u at *
    go_wp2
    go_ret2
    exact ⟨.slice none 0 0, by rw [HF.out]; rfl, by rw [HF.out]; exact sv_nil _, hB⟩
  have b1 : (vlist l != 0) = false := by simpa using hl
  have HM := Lib.hid (vlist_0 hl)
  have GE := Lib.hid (fun m => vGroup_err (m := m) hl)
  have G0 := Lib.hid (vGroup_0 hl)
  clear hl
  generalize vlist l = u at *
  go_wp2
  go_loopw [4, 5] (fun ov i wr => ∃ I : Nat, I ≤ 8 ∧ i = .int .i64 I ∧ Hid ((vgrp l (8 * I)).2 = 0) ∧ wr.ownsRow w.heap.size 60 6 ov (vgrp l (8 * I)).1.length (vcs (vgrp l (8 * I)).1) ∧ Below w.heap.size w wr) (fun _ i _ => 9 - (intOf i).toNat)
  case atStart => exact ⟨0, Nat.zero_le _, rfl, rfl, World.ownsRow_nil _ _ _ _, hB⟩
  case round =>
    clear hB
    obtain ⟨I, hI, rfl, hv, ow, hB⟩ := hrel
    rename World => W
    by_cases hlt : I < 8
    · have d0 : decide ((I : Int) < 8) = true := by simp; omega
      have VLo := Lib.hid (vgrp_low HM.out.2 hlt hv.out (I + 1) (Nat.le_refl _))
      have HV := Lib.hid hv.out
      clear hv
      go_wp2
      go_loopw [4, 6] (fun ov j wr => ∃ J : Nat, I + 1 ≤ J ∧ J ≤ 8 ∧ j = .int .i64 J ∧ Hid ((vgrp l (8 * I + J)).2 = 0) ∧ wr.ownsRow w.heap.size 60 6 ov (vgrp l (8 * I + J)).1.length (vcs (vgrp l (8 * I + J)).1) ∧ Below w.heap.size w wr) (fun _ j _ => 9 - (intOf j).toNat)
      case atStart => exact ⟨I + 1, Nat.le_refl _, by omega, by go_num, by show _ = _; rw [VLo.out]; exact HV.out, by rw [VLo.out]; exact ow, hB⟩
      case round =>
        clear ow hB
        obtain ⟨J, hJ1, hJ, rfl, hv, ow, hB⟩ := hrel
        rename World => W2
        by_cases hJl : J < 8
        · have d1 : decide ((J : Int) < 8) = true := by simp; omega
          have VA := Lib.hid (vof_all (a := (I : Int)) (b := (J : Int)) HM.out.2)
          have VL := vof_len l (I : Int) (J : Int)
          have L200 := HM.out.1
          have GL : (vof l (I : Int) (J : Int)).length ≤ 200 := by omega
          have KS := vgrp_skip (l := l) hv.out
          have KE := vgrp_err (l := l) hv.out
          have KO := vgrp_ok (l := l) hv.out
          rw [vgr_at hJl] at KS KE KO
          have KS' := Lib.hid KS
          have KE' := Lib.hid KE
          have KO' := Lib.hid KO
          have GEm := Lib.hid (GE.out (8 * I + J) (by omega))
          have VM := Lib.hid (fun h => vMean_of VA.out GL h (fun _ hv => vof_mem hv))
          have HV2 := Lib.hid hv.out
          have OLn := Lib.hid (vgrp_len l (8 * I + J))
          clear KS KE KO VL
          generalize hos : (vgrp l (8 * I + J)).1 = os at *
          have OS := Lib.hid hos
          clear hos hv
          go_wp2_with fail
          refine (rvof_any l _ (I : Int) (J : Int) _ (S0.out.below hB) L200).mono ?_
          rintro e y2 ⟨gv, rfl, sg, hq⟩
          have ow2 := owns_at ow hq
          replace hB := below_to hB hq
          clear hq ow
          generalize vof l (I : Int) (J : Int) = G at *
          go_wp2_with fail
          refine (rweight_any G _ _ sg VA.out GL).mono ?_
          rintro e y3 ⟨rfl, hq⟩
          replace ow2 := owns_at ow2 hq
          replace hB := below_to hB hq
          replace sg := sg.below hq
          clear hq
          by_cases hz : wsum G G.length = 0
          · have p1 : (wsum G G.length == 0) = true := by simpa using hz
            have HK := Lib.hid (KS'.out hz)
            clear hz sg
            go_wp2
            go_roundw
            case rel =>
              refine ⟨J + 1, by omega, by omega, by go_num, ?_, ?_, hB⟩
              · show (vgrp l (8 * I + J + 1)).2 = 0; rw [HK.out]; exact HV2.out
              · show World.ownsRow _ _ _ _ _ (vgrp l (8 * I + J + 1)).1.length _; rw [show 8 * I + (J + 1) = 8 * I + J + 1 from rfl, HK.out, OS.out]; exact ow2
            case measure => simp [intOf]; try omega
          · have p1 : (wsum G G.length == 0) = false := by simpa using hz
            have NN := Lib.hid hz
            have HE := Lib.hid (VM.out (wsum_pos hz))
            clear hz
            go_wp2_with fail
            refine (rvMean_any G _ _ sg).mono ?_
            rintro e y4 ⟨rfl, hq⟩
            rw [HE.out]
            replace ow2 := owns_at ow2 hq
            replace hB := below_to hB hq
            clear hq sg
            replace KE' := Lib.hid (KE'.out NN.out)
            replace KO' := Lib.hid (KO'.out NN.out)
            clear NN KS' HE VM
            generalize hr : vmean G = r at *
            clear hr
            unfold VR.res
            have hq := ba1 y4 (.cells #[.int .i64 r.i, .int .i64 r.j, .int .i64 r.re, .int .i64 r.im, .int .i64 r.den, .int .i64 r.n] 60)
            have oM := Own.new y4 60 [.int .i64 r.i, .int .i64 r.j, .int .i64 r.re, .int .i64 r.im, .int .i64 r.den, .int .i64 r.n]
            go_upto_region 13 with fail
            replace ow2 := owns_at ow2 hq
            replace hB := below_to hB hq
            clear hq
            obtain ⟨bM, hM⟩ : ∃ B, B = y4.heap.size := ⟨_, rfl⟩
            rw [← hM] at oM ⊢
            clear hM
            generalize y4.alloc (.cells #[.int .i64 r.i, .int .i64 r.j, .int .i64 r.re, .int .i64 r.im, .int .i64 r.den, .int .i64 r.n] 60) = y5 at *
            by_cases he : r.e = 0
            case neg =>
              have p2 : (r.e != 0) = true := by simpa using he
              have HE := Lib.hid (KE'.out he)
              have HF := Lib.hid (GEm.out (by rw [HE.out]; exact he))
              clear he KO' KE'
              go_wp2
              go_ret2
              exact ⟨.slice none 0 0, by rw [HF.out, HE.out]; rfl, by rw [HF.out, HE.out]; exact sv_nil _, hB⟩
            have p2 : (r.e != 0) = false := by simpa using he
            have HO := Lib.hid (KO'.out he)
            clear he KO' KE'
            have HO1 := Lib.hid (congrArg Prod.fst HO.out)
            have HO2 : Hid ((vgrp l (8 * I + J + 1)).2 = 0) := by show _ = _; rw [HO.out]
            clear HO
            have q3 : ∀ (i : Nat), vcs [r.vs] = [.int .i64 r.i, .int .i64 r.j, .int .i64 r.re, .int .i64 r.im, .int .i64 r.den, .int .i64 r.n] := fun _ => rfl
            have VX := Lib.hid (q3 0)
            clear q3
            have z5 := hB.size
            have oL : os.length < 1000000 := Nat.lt_of_le_of_lt OLn.out (by omega)
            obtain ⟨rM, fM⟩ := oM.rules
            have zM := oM.lt
            go_wp2_with (at_builtin; refine wpList_app _ rfl _ _ _ rfl w.heap.size 60 6 48 (.agg #[.int .i64 0, .int .i64 0, .int .i64 0, .int .i64 0, .int .i64 0, .int .i64 0]) Try.underlying55 vis_info rfl (by omega) (by omega) _ _ _ rfl (ow2.alloc _) (by omega) (by simp; omega) y5.heap.size [.int .i64 r.i, .int .i64 r.j, .int .i64 r.re, .int .i64 r.im, .int .i64 r.den, .int .i64 r.n] (0, 0) rfl (heap_alloc_new y5 _) rfl (by simp [Value.oneCell']) ?_; intro g cap2 w2 hown hg hbw)
            go_roundw
            case rel =>
              refine ⟨J + 1, by omega, by omega, by go_num, HO2, ?_, ?_⟩
              · rw [show 8 * I + (J + 1) = 8 * I + J + 1 from rfl, HO1.out, vcs_append, List.length_append, VX.out]; exact hown
              · exact (below_to hB (ba1 y5 _)).trans (hbw.mono (Nat.le_refl _))
            case measure => simp [intOf]; try omega
        · obtain rfl : J = 8 := by omega
          have E8 : 8 * I + 8 = 8 * (I + 1) := by omega
          rw [E8] at ow
          have HV3 : Hid ((vgrp l (8 * (I + 1))).2 = 0) := by show _ = _; rw [← E8]; exact hv.out
          clear hv
          go_wp2
          go_roundw
          case rel => exact ⟨I + 1, by omega, by go_num, HV3, ow, hB⟩
          case measure => simp [intOf]; try omega
    · obtain rfl : I = 8 := by omega
      go_wp2
      go_ret2
      refine ⟨_, by rw [G0.out, hv.out]; rfl, ?_, hB⟩
      rw [G0.out]
      exact owns_SV ow (by have := vgrp_len l 64; omega)
end Go.Proofs.Ytpjhiojdnebgoaa
