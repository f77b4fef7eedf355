/- What is proved here: contracts of functions and plain facts, several texts in one; each one says ahead what it proves, and its conditions. -/
import Derived.Test.YtfbigmjlppdlhaaC26
/- What is proved here: the contracts of fringeref37.gradient, Gradient and Optimal. Condition: a system and a slice of fractions that can be read; gradient: small numbers, and as many valid fractions as unknowns. -/
namespace Go.Proofs.Ytfbigmjlppdlhaa
open Go.RowKit

set_option maxRecDepth 100000 in
set_option maxHeartbeats 16000000 in
theorem rngr_any (A : List (List Int)) (B : List Int) (x : List (Int × Int)) (va vb vx : Value) (w : World) (hA : SS w va A) (hB : SI w vb B) (hx : SF w vx x) (fx : FitX A B x) :
    Calls Try.prog 71 #[.agg #[va, vb], vx] w (rows_post w (ngradient A B x)) := by
  have FX := Lib.hid fx
  obtain ⟨ada, capa, rfl, ha1, ha2, _⟩ := hA.open
  obtain ⟨adx, capx, rfl, hx1, hx2, _⟩ := hx.open
  have l1 : A.length ≤ 100 := FX.out.few.1
  have l2 : x.length ≤ 100 := FX.out.few.2
  clear fx
  go_enter Try.func71, Try.ntmps71
  have oS := Own.new w 25 [.slice ada A.length capa, vb]
  have hy := ba1 w (.cells #[.slice ada A.length capa, vb] 25)
  replace hA := hA.below hy
  replace hB := hB.below hy
  replace hx := hx.below hy
  obtain ⟨rS, fS⟩ := oS.rules
  have zS := oS.lt
  go_wp2_with fail
  refine (rnres_any A B x _ _ _ _ hA hB hx FX.out).mono ?_
  rintro e y1 ⟨u, rfl, su, hq⟩
  clear rS fS zS
  replace oS := oS.below hq
  replace hA := hA.below hq
  replace hB := hB.below hq
  replace hx := hx.below hq
  replace hy := below_to hy hq
  clear hq
  obtain ⟨rS, fS⟩ := oS.rules
  have zS := oS.lt
  by_cases h0 : (nresidual A B x).2 = 0
  case neg =>
    have HV : Hid (ngradient A B x = ([], (nresidual A B x).2)) := if_neg h0
    have b1 : ((nresidual A B x).2 != 0) = true := by simpa using h0
    clear h0 hA hB hx su
    go_wp2
    go_ret2
    exact ⟨.slice none 0 0, by rw [HV.out]; try rfl, by rw [HV.out]; exact sf_nil _, hy⟩
  have b1 : ((nresidual A B x).2 != 0) = false := by simp [h0]
  have HV : Hid (ngradient A B x = rowsOf (fun k => gsum (colT A (nresidual A B x).1 k) A.length) x.length) := if_pos h0
  have RO := Lib.hid (resid_ok FX.out h0)
  clear h0
  generalize (nresidual A B x).1 = rs at *
  have RL := Lib.hid RO.out.1
  have l6 : rs.length ≤ A.length := by rw [RL.out]; exact Nat.le_refl _
  have l7 : A.length ≤ rs.length := by rw [RL.out]; exact Nat.le_refl _
  obtain ⟨adu, capu, rfl, hu1, hu2, _⟩ := su.open
  have SA := Lib.hid hA
  have SX := Lib.hid su
  clear hA hB hx su rS fS zS
  obtain ⟨GS, hGS⟩ : ∃ G, G = w.heap.size := ⟨_, rfl⟩
  rw [← hGS] at oS ⊢
  have hGS' := Lib.hid hGS
  clear hGS
  go_wp2
  go_loopw [8, 9] (fun ov i wr => ∃ m : Nat, m ≤ x.length ∧ i = .int .i64 m ∧ Hid ((rowsOf (fun k => gsum (colT A rs k) A.length) m).2 = 0) ∧ wr.ownsRow y1.heap.size 34 2 ov m (fcs (rowsOf (fun k => gsum (colT A rs k) A.length) m).1) ∧ Below y1.heap.size y1 wr) (fun _ i _ => x.length - (intOf i).toNat)
  case atStart => exact ⟨0, Nat.zero_le _, rfl, rfl, World.ownsRow_nil _ _ _ _, Below.refl _ _⟩
  case round =>
    obtain ⟨m, hm, rfl, hr, ow, hW⟩ := hrel
    rename World => W
    replace oS := oS.below hW
    by_cases hlt : m < x.length
    · go_wp2_with fail
      refine (rof_any 0 _).mono ?_
      rintro e y2 ⟨rfl, hq⟩
      replace oS := oS.below hq
      replace ow := owns_at ow hq
      replace hW := below_to hW hq
      clear hq
      go_wp2_with fail
      have oV := Own.new y2 34 [.int .i64 0, .int .i64 1]
      have hU := ba1 y2 (.cells #[.int .i64 0, .int .i64 1] 34)
      obtain ⟨GV, hG⟩ : ∃ G, G = y2.heap.size := ⟨_, rfl⟩
      have zG1 : y2.heap.size ≤ GV := by rw [hG]; exact Nat.le_refl _
      have zS2 := oS.lt
      have zG2 : GS < GV := by rw [hG]; exact zS2
      have zW2 := hW.size
      rw [← hG] at oV ⊢
      clear hG
      go_loopw [11] (fun q wq => ∃ j : Nat, j ≤ rs.length ∧ q = .int .i64 j ∧ Hid ((gsum (colT A rs m) j).e = 0) ∧ Own wq GV 34 [.int .i64 (gsum (colT A rs m) j).n, .int .i64 (gsum (colT A rs m) j).d] ∧ Below y2.heap.size y2 wq) (fun q _ => rs.length - (intOf q).toNat)
      case atStart => exact ⟨0, Nat.zero_le _, rfl, rfl, oV, hU⟩
      case round =>
        clear oV hU
        obtain ⟨j, hj, rfl, he, oV, hU⟩ := hrel
        rename World => Y
        replace oS := oS.below hU
        have hWU := below_to hW hU
        by_cases hjx : j < rs.length
        · have hjA : j < A.length := by omega
          obtain ⟨_, _, e, _, _, H⟩ := (SA.out.below hWU).open
          cases e
          obtain ⟨b, off, ad', cap', rfl, c1, c2, c3, sR⟩ := H.out j hjA
          obtain ⟨_, _, e, _, _, H'⟩ := sR.open
          cases e
          have hwd := FX.out.wide j hjA
          have hja : m < A[j].length := by rw [hwd]; exact hlt
          obtain ⟨b', off', rfl, c4⟩ := H'.out m hja
          obtain ⟨_, _, e, _, _, H''⟩ := (SX.out.below hWU).open
          cases e
          obtain ⟨b'', off'', rfl, c5, c6⟩ := H''.out j hjx
          clear H H' H'' sR
          have J1 := Lib.hid (gsum_i64 (colT A rs m) j)
          have J2 := Lib.hid (small_i64 (FX.out.coef j hjA m hja).1 (FX.out.coef j hjA m hja).2)
          have J3 := Lib.hid (fr_i64 (RO.out.2 j hjx))
          have HP := Lib.hid (col_succ hjA hja hjx he.out)
          have HX := Lib.hid (fun h => grad_end (N := x.length) hr.out hjA h hlt)
          have HWD := Lib.hid hwd
          have l4 : A[j].length ≤ x.length := by rw [HWD.out]; exact Nat.le_refl _
          have l5 : x.length ≤ A[j].length := by rw [HWD.out]; exact Nat.le_refl _
          clear hwd
          generalize A[j][m] = amj at *
          generalize A[j].length = rl at *
          generalize rs[j].1 = xn at *
          generalize rs[j].2 = xd at *
          generalize (gsum (colT A rs m) j).n = sn at *
          generalize (gsum (colT A rs m) j).d = sd at *
          generalize hpp : gsum (colT A rs m) (j + 1) = p at *
          have HPP := Lib.hid hpp
          clear hpp
          have zb := World.block_lt_of_cell? _ _ c1
          have zb2 := World.block_lt_of_cell? _ _ c4
          have zb3 := World.block_lt_of_cell? _ _ c5
          simp only at zb zb2 zb3
          have gl := @grow_lt
          obtain ⟨rS, fS⟩ := oS.rules
          have zS := oS.lt
          obtain ⟨rV, fV⟩ := oV.rules
          have zV := oV.lt
          go_wp2
          go_wp2_with fail
          refine wp_region_stt [.t [0, 1, 2, 3, 4, 5, 6, 7, 8, 10, 11, 12, 13], .f 9, .f 14] [15, 16, 17] [18, 19] (by kernel_rfl) (by kernel_rfl) (fun _ _ _ _ _ h => h) ?_
          refine wpX_t ?_
          try simp only [opsAt, List.getElem?_toArray, List.getElem?_cons_zero, List.getElem?_cons_succ, Option.getD_some]
          repeat (go_big_quiet_step (fail))
          refine wpQuiet_nil ?_
          refine wpX_f rfl rfl (fun K' hK' => ?_)
          go_simp
          refine (rof_any amj _).mono ?_
          rintro e y3 ⟨rfl, hq1⟩
          refine hK' _ _ (grow_of (below_to ((Below.refl _ _).drew) hq1)) ?_
          clear hK' K'
          refine wpX_f rfl rfl (fun K' hK' => ?_)
          go_simp
          refine (rnplus_any sn sd amj 1 xn xd _ J1.out.1 J1.out.2 J2.out one_i64 J3.out.1 J3.out.2).mono ?_
          rintro e y4 ⟨rfl, hq2⟩
          refine hK' _ _ (grow_of (below_to (below_to ((Below.refl _ _).drew) hq1) hq2)) ?_
          clear hK' K'
          rw [← HP.out]
          refine wpX_nil ?_
          try simp only [opsAt, List.getElem?_toArray, List.getElem?_cons_zero, List.getElem?_cons_succ, Option.getD_some]
          repeat (go_big_quiet_step (fail))
          refine wpQuiet_nil ?_
          try simp only [opsAt, List.getElem?_toArray, List.getElem?_cons_zero, List.getElem?_cons_succ, Option.getD_some]
          have hq : Below Y.heap.size Y y4 := below_to (below_to ((Below.refl _ _).drew) hq1) hq2
          clear gl hq1 hq2 c1 c4 c5 c6 zb zb2 zb3 rS fS zS rV fV zV
          replace oS := oS.below hq
          replace oV := oV.below hq
          replace hU := below_to hU hq
          clear hq hWU
          obtain ⟨rV, fV⟩ := oV.rules
          have zV := oV.lt
          by_cases h1 : p.e = 0
          · have b2 : (p.e != 0) = false := by simp [h1]
            have PE := Lib.hid h1
            clear h1 HX
            go_wp2
            go_roundw
            replace oV := ((oV).set 0 (.int .i64 p.n)).set 1 (.int .i64 p.d)
            replace hU := ((hU).setCell (p := ⟨GV, 0, none⟩) (by first | omega | (simp; done) | (simp; omega)) (.int .i64 p.n)).setCell (p := ⟨GV, 1, none⟩) (by first | omega | (simp; done) | (simp; omega)) (.int .i64 p.d)
            case rel => exact ⟨j + 1, by omega, by go_num, by rw [HPP.out]; exact PE, by rw [HPP.out]; exact oV, hU⟩
            case measure => simp [intOf]; try omega
          · have b2 : (p.e != 0) = true := by simpa using h1
            have PX := Lib.hid (HX.out h1)
            clear h1 HX
            have hZ := below_to hy (below_to hW hU)
            have zZ := hy.size
            go_wp2
            go_ret2
            exact ⟨.slice none 0 0, by rw [HV.out, PX.out]; try rfl, by rw [HV.out, PX.out]; exact sf_nil _, (hZ.setCell (p := ⟨GV, 0, none⟩) (by simp; omega) _).setCell (p := ⟨GV, 1, none⟩) (by simp; omega) _⟩
        · obtain rfl : j = rs.length := by omega
          have RLe := RL.out
          rw [RLe] at he oV
          have RS := Lib.hid (rows_succ (f := fun k => gsum (colT A rs k) A.length) hr.out he.out)
          clear RLe
          generalize gsum (colT A rs m) A.length = p at *
          have HE2 := Lib.hid (congrArg Prod.snd RS.out)
          have HE1 := Lib.hid (congrArg (fun r => fcs r.1) RS.out)
          clear RS
          replace ow := owns_at ow hU
          replace hW := below_to hW hU
          have zr := hW.size
          clear hWU hU oS
          obtain ⟨rV, fV⟩ := oV.rules
          have zV := oV.lt
          go_wp2_with (at_builtin; refine wpList_app _ rfl _ _ _ rfl y1.heap.size 34 2 16 (.agg #[.int .i64 0, .int .i64 0]) Try.underlying26 Try.infoFrac rfl (by omega) (by omega) _ m _ rfl (ow.alloc _) (by omega) (by simp; omega) Y.heap.size [.int .i64 p.n, .int .i64 p.d] (0, 0) rfl (heap_alloc_new Y _) rfl (by simp [Value.oneCell']) ?_; intro g cap2 w9 hown hg hbw)
          go_roundw
          case rel =>
            refine ⟨m + 1, by omega, by go_num, HE2, ?_, ?_⟩
            · rw [HE1.out, fcs_append]; exact hown
            · exact (below_to hW (ba1 _ _)).trans (hbw.mono (Nat.le_refl _))
          case measure => simp [intOf]; try omega
    · obtain rfl : m = x.length := by omega
      have hsl := owns_sl ow (by omega)
      clear ow
      go_wp2
      go_ret2
      refine ⟨u8, by rw [HV.out, hr.out]; try rfl, ?_, below_to hy hW⟩
      rw [HV.out]
      unfold SF
      rw [rows_len _ hr.out]
      exact hsl
set_option maxRecDepth 100000 in
set_option maxHeartbeats 4000000 in
theorem rngrad_any (A : List (List Int)) (B : List Int) (x : List (Int × Int)) (va vb vx : Value) (w : World) (hA : SS w va A) (hB : SI w vb B) (hx : SF w vx x) (ix : FI x) :
    Calls Try.prog 19 #[.agg #[va, vb], vx] w (rows_post w (nGradient A B x)) := by
  have IX := Lib.hid ix
  clear ix
  go_enter Try.func19, Try.ntmps19
  have oS := Own.new w 25 [va, vb]
  have hy := ba1 w (.cells #[va, vb] 25)
  replace hA := hA.below hy
  replace hB := hB.below hy
  replace hx := hx.below hy
  obtain ⟨rS, fS⟩ := oS.rules
  have zS := oS.lt
  go_wp2_with fail
  refine (rnboth_any A B x _ _ _ _ hA hB hx IX.out).mono ?_
  rintro e y1 ⟨rfl, hq⟩
  clear rS fS zS
  replace oS := oS.below hq
  replace hA := hA.below hq
  replace hB := hB.below hq
  replace hx := hx.below hq
  replace hy := below_to hy hq
  clear hq
  obtain ⟨rS, fS⟩ := oS.rules
  have zS := oS.lt
  by_cases h0 : npoint A B x = 0
  case neg =>
    have HV : Hid (nGradient A B x = ([], npoint A B x)) := if_neg h0
    have b1 : (npoint A B x != 0) = true := by simpa using h0
    clear h0 hA hB hx
    go_wp2
    go_ret2
    exact ⟨.slice none 0 0, by rw [HV.out]; try rfl, by rw [HV.out]; exact sf_nil _, hy⟩
  have b1 : (npoint A B x != 0) = false := by simp [h0]
  have HV : Hid (nGradient A B x = ngradient A B x) := if_pos h0
  have FX := Lib.hid (FitX.of h0)
  clear h0
  go_wp2_with fail
  refine (rngr_any A B x _ _ _ _ hA hB hx FX.out).mono ?_
  rintro e y2 ⟨u, rfl, su, hq⟩
  replace hy := below_to hy hq
  go_wp2
  go_ret2
  exact ⟨u, by rw [HV.out]; try rfl, by rw [HV.out]; exact su, hy⟩
set_option maxRecDepth 100000 in
set_option maxHeartbeats 16000000 in
theorem rnopt_any (A : List (List Int)) (B : List Int) (x : List (Int × Int)) (va vb vx : Value) (w : World) (hA : SS w va A) (hB : SI w vb B) (hx : SF w vx x) (ix : FI x) :
    Calls Try.prog 23 #[.agg #[va, vb], vx] w fun e w' => e = .returned (.tuple #[.bool (nOptimal A B x).1, .int .i64 (nOptimal A B x).2]) ∧ Below w.heap.size w w' := by
  have IX := Lib.hid ix
  obtain ⟨adx, capx, rfl, hx1, hx2, _⟩ := hx.open
  clear ix
  go_enter Try.func23, Try.ntmps23
  have oS := Own.new w 25 [va, vb]
  have hy := ba1 w (.cells #[va, vb] 25)
  replace hA := hA.below hy
  replace hB := hB.below hy
  replace hx := hx.below hy
  obtain ⟨rS, fS⟩ := oS.rules
  have zS := oS.lt
  go_wp2_with fail
  refine (rngrad_any A B x _ _ _ _ hA hB hx IX.out).mono ?_
  rintro e y1 ⟨u, rfl, su, hq⟩
  clear rS fS zS
  replace oS := oS.below hq
  replace hA := hA.below hq
  replace hB := hB.below hq
  replace hx := hx.below hq
  replace hy := below_to hy hq
  clear hq
  obtain ⟨rS, fS⟩ := oS.rules
  have zS := oS.lt
  by_cases h0 : (nGradient A B x).2 = 0
  case neg =>
    have HV := Lib.hid (nOpt_1 h0)
    have b1 : ((nGradient A B x).2 != 0) = true := by simpa using h0
    clear h0 hA hB hx su
    go_wp2
    go_ret2
    exact ⟨by rw [HV.out]; try rfl, hy⟩
  have b1 : ((nGradient A B x).2 != 0) = false := by simp [h0]
  have HV := Lib.hid (nOpt_0 h0)
  obtain ⟨hp, hl⟩ := grad_len h0
  have PX : Hid (∀ i (h : i < x.length), 0 ≤ x[i].1) := fun i hi => ((point_of hp).2 i hi).2
  have HL := Lib.hid hl
  clear h0 hp hl
  generalize (nGradient A B x).1 = g at *
  have l1 : g.length ≤ x.length := by rw [HL.out]; exact Nat.le_refl _
  obtain ⟨adu, capu, rfl, hu1, hu2, _⟩ := su.open
  have SX := Lib.hid hx
  have SU := Lib.hid su
  clear hA hB hx su rS fS zS
  go_wp2
  go_loopw [8] (fun i wr => ∃ k : Nat, k ≤ g.length ∧ i = .int .i64 k ∧ Hid (noptB g x k = true) ∧ Below y1.heap.size y1 wr) (fun i _ => g.length - (intOf i).toNat)
  case atStart => exact ⟨0, Nat.zero_le _, rfl, rfl, Below.refl _ _⟩
  case round =>
    obtain ⟨k, hk, rfl, hv, hW⟩ := hrel
    rename World => W
    by_cases hlt : k < g.length
    · have hkx : k < x.length := by omega
      obtain ⟨_, _, e, _, _, H⟩ := (SU.out.below hW).open
      cases e
      obtain ⟨b, off, rfl, c1, c2⟩ := H.out k hlt
      obtain ⟨_, _, e, _, _, H'⟩ := (SX.out.below hW).open
      cases e
      obtain ⟨b', off', rfl, c3, c4⟩ := H'.out k hkx
      clear H H'
      have NS := Lib.hid (noptB_succ hlt hkx hv.out)
      have NN := Lib.hid (noptB_not (g := g) (x := x) (n := g.length) hlt hlt hkx)
      have px := PX.out k hkx
      have zb := World.block_lt_of_cell? _ _ c3
      simp only at zb
      generalize g[k].1 = gn at *
      generalize g[k].2 = gd at *
      generalize x[k].1 = xn at *
      generalize x[k].2 = xd at *
      by_cases h1 : gn < 0
      · have b2 : decide (gn < 0) = true := by simpa using h1
        have HN := Lib.hid (NN.out (by simp [noptN, b2]))
        clear NS NN h1
        go_wp2
        go_ret2
        exact ⟨by rw [HV.out, HN.out]; try rfl, below_to hy hW⟩
      have b2 : decide (gn < 0) = false := by simpa using h1
      by_cases h2 : gn = 0
      · have HN := Lib.hid (NS.out (by simp [noptN, h2]))
        have b3 : decide (0 < gn) = false := by simp [h2]
        clear NS NN h1 h2
        go_wp2
        go_roundw
        case rel => exact ⟨k + 1, by omega, by go_num, HN, hW⟩
        case measure => simp [intOf]; try omega
      have b5 : decide (0 < gn) = true := by simp; omega
      by_cases h3 : xn = 0
      · have b6 : decide (0 < xn) = false := by simp; omega
        have HN := Lib.hid (NS.out (by simp [noptN, b2, b6]))
        clear NS NN h1 h2 h3
        go_wp2
        go_roundw
        case rel => exact ⟨k + 1, by omega, by go_num, HN, hW⟩
        case measure => simp [intOf]; try omega
      · have b6 : decide (0 < xn) = true := by simp; omega
        have HN := Lib.hid (NN.out (by simp [noptN, b5, b6]))
        clear NS NN h1 h2 h3
        go_wp2
        go_ret2
        exact ⟨by rw [HV.out, HN.out]; try rfl, below_to hy hW⟩
    · obtain rfl : k = g.length := by omega
      go_wp2
      go_ret2
      exact ⟨by rw [HV.out, hv.out]; try rfl, below_to hy hW⟩
end Go.Proofs.Ytfbigmjlppdlhaa
