/- What is proved here: contracts of functions and plain facts, several texts in one; each one says ahead what it proves, and its conditions. -/
import Derived.Test.YtfoemacgmehpiaaM33
import Derived.Test.YtfoemacgmehpiaaM44
import Derived.Test.YtfoemacgmehpiaaM10
import Derived.Test.YtfoemacgmehpiaaM01
import Derived.Deep.DeepCutAuto
import Derived.IntWalk
/- What is proved here: the contract of fringeref37.residual. Condition: a system and a slice of fractions that can be read; residual: small numbers, and as many valid fractions as unknowns. -/
namespace Go.Proofs.Ytfoemacgmehpiaa
open Go.RowKit

theorem one_i64 : i64 1 := ⟨by decide, by decide⟩
theorem small_i64 {a : Int} (h1 : -1000 ≤ a) (h2 : a ≤ 1000) : i64 a := ⟨by omega, by omega⟩
set_option maxRecDepth 100000 in
set_option maxHeartbeats 16000000 in
theorem rnres_own (A : List (List Int)) (B : List Int) (x : List (Int × Int)) (va vb vx : Value) (w : World) (hA : SS w va A) (hB : SI w vb B) (hx : SF w vx x) (fx : FitX A B x) :
    Calls Try.prog 106 #[.agg #[va, vb], vx] w (rows_own w (nresidual A B x)) := by
  have FX := Lib.hid fx
  obtain ⟨ada, capa, rfl, ha1, ha2, _⟩ := hA.open
  obtain ⟨adb, capb, rfl, hb1, hb2, _⟩ := hB.open
  obtain ⟨adx, capx, rfl, hx1, hx2, _⟩ := hx.open
  have l1 : A.length ≤ 100 := FX.out.few.1
  have l2 : x.length ≤ 100 := FX.out.few.2
  have l3 : A.length ≤ B.length := by rw [FX.out.right]; exact Nat.le_refl _
  have HV : Hid (nresidual A B x = rowsOf (nres A B x) A.length) := rfl
  clear fx
  go_enter Try.func106, Try.ntmps106
  have oS := Own.new w 25 [.slice ada A.length capa, .slice adb B.length capb]
  have hy := ba1 w (.cells #[.slice ada A.length capa, .slice adb B.length capb] 25)
  have SA := Lib.hid (hA.below hy)
  have SB' := Lib.hid (hB.below hy)
  have SX := Lib.hid (hx.below hy)
  clear hA hB hx
  go_wp2_with fail
  obtain ⟨GS, hGS⟩ : ∃ G, G = w.heap.size := ⟨_, rfl⟩
  rw [← hGS] at oS ⊢
  have hGS' := Lib.hid hGS
  clear hGS
  generalize w.alloc (.cells #[.slice ada A.length capa, .slice adb B.length capb] 25) = y1 at *
  go_loopw [6, 7] (fun ov i wr => ∃ m : Nat, m ≤ A.length ∧ i = .int .i64 m ∧ Hid ((rowsOf (nres A B x) m).2 = 0) ∧ wr.ownsRow y1.heap.size 39 2 ov m (fcs (rowsOf (nres A B x) m).1) ∧ Below y1.heap.size y1 wr) (fun _ i _ => A.length - (intOf i).toNat)
  case atStart => exact ⟨0, Nat.zero_le _, rfl, rfl, World.ownsRow_nil _ _ _ _, Below.refl _ _⟩
  case round =>
    obtain ⟨m, hm, rfl, hr, ow, hW⟩ := hrel
    rename World => W
    replace oS := oS.below hW
    by_cases hlt : m < A.length
    · obtain ⟨rS, fS⟩ := oS.rules
      have zS := oS.lt
      go_wp2_with fail
      refine (rof_any 0 _).mono ?_
      rintro e y2 ⟨rfl, hq⟩
      clear rS fS zS
      replace oS := oS.below hq
      replace ow := owns_at ow hq
      replace hW := below_to hW hq
      clear hq
      go_wp2_with fail
      have oV := Own.new y2 39 [.int .i64 0, .int .i64 1]
      have hU := ba1 y2 (.cells #[.int .i64 0, .int .i64 1] 39)
      obtain ⟨GV, hG⟩ : ∃ G, G = y2.heap.size := ⟨_, rfl⟩
      have zG1 : y2.heap.size ≤ GV := by rw [hG]; exact Nat.le_refl _
      have zS2 := oS.lt
      have zG2 : GS < GV := by rw [hG]; exact zS2
      have zW2 := hW.size
      rw [← hG] at oV ⊢
      clear hG
      go_loopw [10] (fun q wq => ∃ j : Nat, j ≤ x.length ∧ q = .int .i64 j ∧ Hid ((gsum (rowT A x m) j).e = 0) ∧ Own wq GV 39 [.int .i64 (gsum (rowT A x m) j).n, .int .i64 (gsum (rowT A x m) j).d] ∧ Below y2.heap.size y2 wq) (fun q _ => x.length - (intOf q).toNat)
      case atStart => exact ⟨0, Nat.zero_le _, rfl, rfl, oV, hU⟩
      case round =>
        clear oV hU
        obtain ⟨j, hj, rfl, he, oV, hU⟩ := hrel
        rename World => Y
        replace oS := oS.below hU
        have hWU := below_to hW hU
        by_cases hjx : j < x.length
        · obtain ⟨_, _, e, _, _, H⟩ := (SA.out.below hWU).open
          cases e
          obtain ⟨b, off, ad', cap', rfl, c1, c2, c3, sR⟩ := H.out m hlt
          obtain ⟨_, _, e, _, _, H'⟩ := sR.open
          cases e
          have hwd := FX.out.wide m hlt
          have hja : j < A[m].length := by rw [hwd]; exact hjx
          obtain ⟨b', off', rfl, c4⟩ := H'.out j hja
          obtain ⟨_, _, e, _, _, H''⟩ := (SX.out.below hWU).open
          cases e
          obtain ⟨b'', off'', rfl, c5, c6⟩ := H''.out j hjx
          clear H H' H'' sR
          have J1 := Lib.hid (gsum_i64 (rowT A x m) j)
          have J2 := Lib.hid (small_i64 (FX.out.coef m hlt j hja).1 (FX.out.coef m hlt j hja).2)
          have J3 := Lib.hid (fr_i64 (FX.out.val j hjx))
          have HP := Lib.hid (row_succ hlt hja hjx he.out)
          have HX := Lib.hid (fun h => res_end (N := A.length) hr.out hjx h hlt)
          have HWD := Lib.hid hwd
          have l4 : A[m].length ≤ x.length := by rw [HWD.out]; exact Nat.le_refl _
          have l5 : x.length ≤ A[m].length := by rw [HWD.out]; exact Nat.le_refl _
          clear hwd
          generalize A[m][j] = amj at *
          generalize A[m].length = rl at *
          generalize x[j].1 = xn at *
          generalize x[j].2 = xd at *
          generalize (gsum (rowT A x m) j).n = sn at *
          generalize (gsum (rowT A x m) j).d = sd at *
          generalize hpp : gsum (rowT A x m) (j + 1) = p at *
          have HPP := Lib.hid hpp
          clear hpp
          have zb := World.block_lt_of_cell? _ _ c1
          have zb2 := World.block_lt_of_cell? _ _ c4
          have zb3 := World.block_lt_of_cell? _ _ c5
          simp only at zb zb2 zb3
          have gl := @grow_lt
          obtain ⟨rS, fS⟩ := oS.rules
          have zS := oS.lt
          obtain ⟨rV, fV⟩ := oV.rules
          have zV := oV.lt
          go_wp2
          go_wp2_with fail
          refine wp_region_stt [.t [0, 1, 2, 3, 4, 5, 6, 7, 8, 10, 11, 12, 13], .f 9, .f 14] [15, 16, 17] [18, 19] (by kernel_rfl) (by kernel_rfl) (fun _ _ _ _ _ h => h) ?_
          refine wpX_t ?_
          try simp only [opsAt, List.getElem?_toArray, List.getElem?_cons_zero, List.getElem?_cons_succ, Option.getD_some]
          repeat (go_big_quiet_step (fail))
          refine wpQuiet_nil ?_
          refine wpX_f rfl rfl (fun K' hK' => ?_)
          go_simp
          refine (rof_any amj _).mono ?_
          rintro e y3 ⟨rfl, hq1⟩
          refine hK' _ _ (grow_of (below_to ((Below.refl _ _).drew) hq1)) ?_
          clear hK' K'
          refine wpX_f rfl rfl (fun K' hK' => ?_)
          go_simp
          refine (rnplus_any sn sd amj 1 xn xd _ J1.out.1 J1.out.2 J2.out one_i64 J3.out.1 J3.out.2).mono ?_
          rintro e y4 ⟨rfl, hq2⟩
          refine hK' _ _ (grow_of (below_to (below_to ((Below.refl _ _).drew) hq1) hq2)) ?_
          clear hK' K'
          rw [← HP.out]
          refine wpX_nil ?_
          try simp only [opsAt, List.getElem?_toArray, List.getElem?_cons_zero, List.getElem?_cons_succ, Option.getD_some]
          repeat (go_big_quiet_step (fail))
          refine wpQuiet_nil ?_
          try simp only [opsAt, List.getElem?_toArray, List.getElem?_cons_zero, List.getElem?_cons_succ, Option.getD_some]
          have hq : Below Y.heap.size Y y4 := below_to (below_to ((Below.refl _ _).drew) hq1) hq2
          clear gl hq1 hq2 c1 c4 c5 c6 zb zb2 zb3 rS fS zS rV fV zV
          replace oS := oS.below hq
          replace oV := oV.below hq
          replace hU := below_to hU hq
          clear hq hWU
          obtain ⟨rV, fV⟩ := oV.rules
          have zV := oV.lt
          by_cases h1 : p.e = 0
          · have b1 : (p.e != 0) = false := by simp [h1]
            have PE := Lib.hid h1
            clear h1 HX
            go_wp2
            go_roundw
            replace oV := ((oV).set 0 (.int .i64 p.n)).set 1 (.int .i64 p.d)
            replace hU := ((hU).setCell (p := ⟨GV, 0, none⟩) (by first | omega | (simp; done) | (simp; omega)) (.int .i64 p.n)).setCell (p := ⟨GV, 1, none⟩) (by first | omega | (simp; done) | (simp; omega)) (.int .i64 p.d)
            case rel => exact ⟨j + 1, by omega, by go_num, by rw [HPP.out]; exact PE, by rw [HPP.out]; exact oV, hU⟩
            case measure => simp [intOf]; try omega
          · have b1 : (p.e != 0) = true := by simpa using h1
            have PX := Lib.hid (HX.out h1)
            clear h1 HX
            have hZ := below_to hy (below_to hW hU)
            have zZ := hy.size
            go_wp2
            go_ret2
            exact ⟨.slice none 0 0, by rw [HV.out, PX.out]; try rfl, by rw [HV.out, PX.out]; exact owns_nil _ _, (hZ.setCell (p := ⟨GV, 0, none⟩) (by simp; omega) _).setCell (p := ⟨GV, 1, none⟩) (by simp; omega) _⟩
        · obtain rfl : j = x.length := by omega
          have hmB : m < B.length := by omega
          obtain ⟨_, _, e, _, _, H'⟩ := (SB'.out.below hWU).open
          cases e
          obtain ⟨b', off', rfl, c4⟩ := H'.out m hmB
          clear H'
          have GI := Lib.hid (gsum_i64 (rowT A x m) x.length)
          have I1 := Lib.hid (small_i64 (FX.out.side m hmB).1 (FX.out.side m hmB).2)
          have N0 := Lib.hid (nres_0 (A := A) (B := B) (x := x) (i := m) he.out)
          rw [getD_get hmB] at N0
          have RE := Lib.hid (fun h => rows_end (f := nres A B x) (N := A.length) hr.out hlt h)
          have RS := Lib.hid (fun h => rows_succ (f := nres A B x) hr.out h)
          generalize B[m] = bm at *
          generalize gsum (rowT A x m) x.length = p at *
          obtain ⟨r, hrr⟩ : ∃ r, r = nres A B x m := ⟨_, rfl⟩
          rw [← hrr] at N0 RE RS
          clear hrr
          have zb := World.block_lt_of_cell? _ _ c4
          simp only at zb
          have gl := @grow_lt
          obtain ⟨rS, fS⟩ := oS.rules
          have zS := oS.lt
          obtain ⟨rV, fV⟩ := oV.rules
          have zV := oV.lt
          go_wp2
          go_wp2_with fail
          refine wp_region_stt [.t [0, 1, 2, 3, 4, 5], .f 6, .f 7] [8, 9, 10] [11, 12] (by kernel_rfl) (by kernel_rfl) (fun _ _ _ _ _ h => h) ?_
          refine wpX_t ?_
          try simp only [opsAt, List.getElem?_toArray, List.getElem?_cons_zero, List.getElem?_cons_succ, Option.getD_some]
          repeat (go_big_quiet_step (fail))
          refine wpQuiet_nil ?_
          refine wpX_f rfl rfl (fun K' hK' => ?_)
          go_simp
          refine (rof_any bm _).mono ?_
          rintro e y3 ⟨rfl, hq1⟩
          refine hK' _ _ (grow_of (below_to ((Below.refl _ _).drew) hq1)) ?_
          clear hK' K'
          refine wpX_f rfl rfl (fun K' hK' => ?_)
          go_simp
          refine (rsub_any p.n p.d bm 1 _ GI.out.1 GI.out.2 I1.out one_i64).mono ?_
          rintro e y4 ⟨rfl, hq2⟩
          refine hK' _ _ (grow_of (below_to (below_to ((Below.refl _ _).drew) hq1) hq2)) ?_
          clear hK' K'
          rw [← N0.out]
          refine wpX_nil ?_
          try simp only [opsAt, List.getElem?_toArray, List.getElem?_cons_zero, List.getElem?_cons_succ, Option.getD_some]
          repeat (go_big_quiet_step (fail))
          refine wpQuiet_nil ?_
          try simp only [opsAt, List.getElem?_toArray, List.getElem?_cons_zero, List.getElem?_cons_succ, Option.getD_some]
          have hq : Below Y.heap.size Y y4 := below_to (below_to ((Below.refl _ _).drew) hq1) hq2
          clear gl hq1 hq2 c4 zb rS fS zS rV fV zV N0
          replace oV := oV.below hq
          replace hU := below_to hU hq
          clear hq hWU oS
          have zy := hy.size
          by_cases h2 : r.e = 0
          case neg =>
            have b3 : (r.e != 0) = true := by simpa using h2
            have HV2 := Lib.hid (RE.out h2)
            clear h2 RE RS ow
            have hZ := below_to hy (below_to hW hU)
            obtain ⟨rV, fV⟩ := oV.rules
            have zV := oV.lt
            go_wp2
            go_ret2
            exact ⟨.slice none 0 0, by rw [HV.out, HV2.out]; try rfl, by rw [HV.out, HV2.out]; exact owns_nil _ _, (hZ.setCell (p := ⟨GV, 0, none⟩) (by simp; omega) _).setCell (p := ⟨GV, 1, none⟩) (by simp; omega) _⟩
          have b3 : (r.e != 0) = false := by simp [h2]
          have HF := Lib.hid (RS.out h2)
          have HE2 := Lib.hid (congrArg Prod.snd HF.out)
          have HE1 := Lib.hid (congrArg (fun r => fcs r.1) HF.out)
          clear h2 RE RS HF
          obtain ⟨rV, fV⟩ := oV.rules
          have zV := oV.lt
          replace oV := ((oV).set 0 (.int .i64 r.n)).set 1 (.int .i64 r.d)
          replace hU := ((hU).setCell (p := ⟨GV, 0, none⟩) (by first | omega | (simp; done) | (simp; omega)) (.int .i64 r.n)).setCell (p := ⟨GV, 1, none⟩) (by first | omega | (simp; done) | (simp; omega)) (.int .i64 r.d)
          replace ow := owns_at ow hU
          replace hW := below_to hW hU
          have zr := hW.size
          have zr2 : y1.heap.size ≤ y4.heap.size := by simpa using zr
          go_wp2_with (at_builtin; refine wpList_app _ rfl _ _ _ rfl y1.heap.size 39 2 16 (.agg #[.int .i64 0, .int .i64 0]) Try.underlying26 Try.infoFrac rfl (by omega) (by omega) _ m _ rfl (ow.alloc _) (by omega) (by simp; omega) y4.heap.size [.int .i64 r.n, .int .i64 r.d] (0, 0) rfl (by rw [show y4.heap.size = ((y4.setCell ⟨GV, 0, none⟩ (.int .i64 r.n)).setCell ⟨GV, 1, none⟩ (.int .i64 r.d)).heap.size from by simp]; exact heap_alloc_new _ _) rfl (by simp [Value.oneCell']) ?_; intro g cap2 w9 hown hg hbw)
          go_roundw
          case rel =>
            refine ⟨m + 1, by omega, by go_num, HE2, ?_, ?_⟩
            · rw [HE1.out, fcs_append]; exact hown
            · exact (below_to hW (ba1 _ _)).trans (hbw.mono (Nat.le_refl _))
          case measure => simp [intOf]; try omega
    · obtain rfl : m = A.length := by omega
      obtain ⟨rS, fS⟩ := oS.rules
      have zS := oS.lt
      go_wp2
      go_ret2
      refine ⟨u6, by rw [HV.out, hr.out]; try rfl, ?_, below_to hy hW⟩
      rw [HV.out, rows_len _ hr.out]
      exact owns_base ow hy.size
theorem rnres_any (A : List (List Int)) (B : List Int) (x : List (Int × Int)) (va vb vx : Value) (w : World) (hA : SS w va A) (hB : SI w vb B) (hx : SF w vx x) (fx : FitX A B x) :
    Calls Try.prog 106 #[.agg #[va, vb], vx] w (rows_post w (nresidual A B x)) := (rnres_own A B x va vb vx w hA hB hx fx).mono fun _ _ h => rows_own_post h
end Go.Proofs.Ytfoemacgmehpiaa

/- What is proved here: the contract of fringeref37.gradient. Condition: a system and a slice of fractions that can be read; gradient: small numbers, and as many valid fractions as unknowns. -/
namespace Go.Proofs.Ytfoemacgmehpiaa
open Go.RowKit

set_option maxRecDepth 100000 in
set_option maxHeartbeats 16000000 in
theorem rngr_any (A : List (List Int)) (B : List Int) (x : List (Int × Int)) (va vb vx : Value) (w : World) (hA : SS w va A) (hB : SI w vb B) (hx : SF w vx x) (fx : FitX A B x) :
    Calls Try.prog 100 #[.agg #[va, vb], vx] w (rows_post w (ngradient A B x)) := by
  have FX := Lib.hid fx
  obtain ⟨ada, capa, rfl, ha1, ha2, _⟩ := hA.open
  obtain ⟨adx, capx, rfl, hx1, hx2, _⟩ := hx.open
  have l1 : A.length ≤ 100 := FX.out.few.1
  have l2 : x.length ≤ 100 := FX.out.few.2
  clear fx
  go_enter Try.func100, Try.ntmps100
  have oS := Own.new w 25 [.slice ada A.length capa, vb]
  have hy := ba1 w (.cells #[.slice ada A.length capa, vb] 25)
  replace hA := hA.below hy
  replace hB := hB.below hy
  replace hx := hx.below hy
  obtain ⟨rS, fS⟩ := oS.rules
  have zS := oS.lt
  go_wp2_with fail
  refine (rnres_any A B x _ _ _ _ hA hB hx FX.out).mono ?_
  rintro e y1 ⟨u, rfl, su, hq⟩
  clear rS fS zS
  replace oS := oS.below hq
  replace hA := hA.below hq
  replace hB := hB.below hq
  replace hx := hx.below hq
  replace hy := below_to hy hq
  clear hq
  obtain ⟨rS, fS⟩ := oS.rules
  have zS := oS.lt
  by_cases h0 : (nresidual A B x).2 = 0
  case neg =>
    have HV : Hid (ngradient A B x = ([], (nresidual A B x).2)) := if_neg h0
    have b1 : ((nresidual A B x).2 != 0) = true := by simpa using h0
    clear h0 hA hB hx su
    go_wp2
    go_ret2
    exact ⟨.slice none 0 0, by rw [HV.out]; try rfl, by rw [HV.out]; exact sf_nil _, hy⟩
  have b1 : ((nresidual A B x).2 != 0) = false := by simp [h0]
  have HV : Hid (ngradient A B x = rowsOf (fun k => gsum (colT A (nresidual A B x).1 k) A.length) x.length) := if_pos h0
  have RO := Lib.hid (resid_ok FX.out h0)
  clear h0
  generalize (nresidual A B x).1 = rs at *
  have RL := Lib.hid RO.out.1
  have l6 : rs.length ≤ A.length := by rw [RL.out]; exact Nat.le_refl _
  have l7 : A.length ≤ rs.length := by rw [RL.out]; exact Nat.le_refl _
  obtain ⟨adu, capu, rfl, hu1, hu2, _⟩ := su.open
  have SA := Lib.hid hA
  have SX := Lib.hid su
  clear hA hB hx su rS fS zS
  obtain ⟨GS, hGS⟩ : ∃ G, G = w.heap.size := ⟨_, rfl⟩
  rw [← hGS] at oS ⊢
  have hGS' := Lib.hid hGS
  clear hGS
  go_wp2
  go_loopw [8, 9] (fun ov i wr => ∃ m : Nat, m ≤ x.length ∧ i = .int .i64 m ∧ Hid ((rowsOf (fun k => gsum (colT A rs k) A.length) m).2 = 0) ∧ wr.ownsRow y1.heap.size 39 2 ov m (fcs (rowsOf (fun k => gsum (colT A rs k) A.length) m).1) ∧ Below y1.heap.size y1 wr) (fun _ i _ => x.length - (intOf i).toNat)
  case atStart => exact ⟨0, Nat.zero_le _, rfl, rfl, World.ownsRow_nil _ _ _ _, Below.refl _ _⟩
  case round =>
    obtain ⟨m, hm, rfl, hr, ow, hW⟩ := hrel
    rename World => W
    replace oS := oS.below hW
    by_cases hlt : m < x.length
    · go_wp2_with fail
      refine (rof_any 0 _).mono ?_
      rintro e y2 ⟨rfl, hq⟩
      replace oS := oS.below hq
      replace ow := owns_at ow hq
      replace hW := below_to hW hq
      clear hq
      go_wp2_with fail
      have oV := Own.new y2 39 [.int .i64 0, .int .i64 1]
      have hU := ba1 y2 (.cells #[.int .i64 0, .int .i64 1] 39)
      obtain ⟨GV, hG⟩ : ∃ G, G = y2.heap.size := ⟨_, rfl⟩
      have zG1 : y2.heap.size ≤ GV := by rw [hG]; exact Nat.le_refl _
      have zS2 := oS.lt
      have zG2 : GS < GV := by rw [hG]; exact zS2
      have zW2 := hW.size
      rw [← hG] at oV ⊢
      clear hG
      go_loopw [11] (fun q wq => ∃ j : Nat, j ≤ rs.length ∧ q = .int .i64 j ∧ Hid ((gsum (colT A rs m) j).e = 0) ∧ Own wq GV 39 [.int .i64 (gsum (colT A rs m) j).n, .int .i64 (gsum (colT A rs m) j).d] ∧ Below y2.heap.size y2 wq) (fun q _ => rs.length - (intOf q).toNat)
      case atStart => exact ⟨0, Nat.zero_le _, rfl, rfl, oV, hU⟩
      case round =>
        clear oV hU
        obtain ⟨j, hj, rfl, he, oV, hU⟩ := hrel
        rename World => Y
        replace oS := oS.below hU
        have hWU := below_to hW hU
        by_cases hjx : j < rs.length
        · have hjA : j < A.length := by omega
          obtain ⟨_, _, e, _, _, H⟩ := (SA.out.below hWU).open
          cases e
          obtain ⟨b, off, ad', cap', rfl, c1, c2, c3, sR⟩ := H.out j hjA
          obtain ⟨_, _, e, _, _, H'⟩ := sR.open
          cases e
          have hwd := FX.out.wide j hjA
          have hja : m < A[j].length := by rw [hwd]; exact hlt
          obtain ⟨b', off', rfl, c4⟩ := H'.out m hja
          obtain ⟨_, _, e, _, _, H''⟩ := (SX.out.below hWU).open
          cases e
          obtain ⟨b'', off'', rfl, c5, c6⟩ := H''.out j hjx
          clear H H' H'' sR
          have J1 := Lib.hid (gsum_i64 (colT A rs m) j)
          have J2 := Lib.hid (small_i64 (FX.out.coef j hjA m hja).1 (FX.out.coef j hjA m hja).2)
          have J3 := Lib.hid (fr_i64 (RO.out.2 j hjx))
          have HP := Lib.hid (col_succ hjA hja hjx he.out)
          have HX := Lib.hid (fun h => grad_end (N := x.length) hr.out hjA h hlt)
          have HWD := Lib.hid hwd
          have l4 : A[j].length ≤ x.length := by rw [HWD.out]; exact Nat.le_refl _
          have l5 : x.length ≤ A[j].length := by rw [HWD.out]; exact Nat.le_refl _
          clear hwd
          generalize A[j][m] = amj at *
          generalize A[j].length = rl at *
          generalize rs[j].1 = xn at *
          generalize rs[j].2 = xd at *
          generalize (gsum (colT A rs m) j).n = sn at *
          generalize (gsum (colT A rs m) j).d = sd at *
          generalize hpp : gsum (colT A rs m) (j + 1) = p at *
          have HPP := Lib.hid hpp
          clear hpp
          have zb := World.block_lt_of_cell? _ _ c1
          have zb2 := World.block_lt_of_cell? _ _ c4
          have zb3 := World.block_lt_of_cell? _ _ c5
          simp only at zb zb2 zb3
          have gl := @grow_lt
          obtain ⟨rS, fS⟩ := oS.rules
          have zS := oS.lt
          obtain ⟨rV, fV⟩ := oV.rules
          have zV := oV.lt
          go_wp2
          go_wp2_with fail
          refine wp_region_stt [.t [0, 1, 2, 3, 4, 5, 6, 7, 8, 10, 11, 12, 13], .f 9, .f 14] [15, 16, 17] [18, 19] (by kernel_rfl) (by kernel_rfl) (fun _ _ _ _ _ h => h) ?_
          refine wpX_t ?_
          try simp only [opsAt, List.getElem?_toArray, List.getElem?_cons_zero, List.getElem?_cons_succ, Option.getD_some]
          repeat (go_big_quiet_step (fail))
          refine wpQuiet_nil ?_
          refine wpX_f rfl rfl (fun K' hK' => ?_)
          go_simp
          refine (rof_any amj _).mono ?_
          rintro e y3 ⟨rfl, hq1⟩
          refine hK' _ _ (grow_of (below_to ((Below.refl _ _).drew) hq1)) ?_
          clear hK' K'
          refine wpX_f rfl rfl (fun K' hK' => ?_)
          go_simp
          refine (rnplus_any sn sd amj 1 xn xd _ J1.out.1 J1.out.2 J2.out one_i64 J3.out.1 J3.out.2).mono ?_
          rintro e y4 ⟨rfl, hq2⟩
          refine hK' _ _ (grow_of (below_to (below_to ((Below.refl _ _).drew) hq1) hq2)) ?_
          clear hK' K'
          rw [← HP.out]
          refine wpX_nil ?_
          try simp only [opsAt, List.getElem?_toArray, List.getElem?_cons_zero, List.getElem?_cons_succ, Option.getD_some]
          repeat (go_big_quiet_step (fail))
          refine wpQuiet_nil ?_
          try simp only [opsAt, List.getElem?_toArray, List.getElem?_cons_zero, List.getElem?_cons_succ, Option.getD_some]
          have hq : Below Y.heap.size Y y4 := below_to (below_to ((Below.refl _ _).drew) hq1) hq2
          clear gl hq1 hq2 c1 c4 c5 c6 zb zb2 zb3 rS fS zS rV fV zV
          replace oS := oS.below hq
          replace oV := oV.below hq
          replace hU := below_to hU hq
          clear hq hWU
          obtain ⟨rV, fV⟩ := oV.rules
          have zV := oV.lt
          by_cases h1 : p.e = 0
          · have b2 : (p.e != 0) = false := by simp [h1]
            have PE := Lib.hid h1
            clear h1 HX
            go_wp2
            go_roundw
            replace oV := ((oV).set 0 (.int .i64 p.n)).set 1 (.int .i64 p.d)
            replace hU := ((hU).setCell (p := ⟨GV, 0, none⟩) (by first | omega | (simp; done) | (simp; omega)) (.int .i64 p.n)).setCell (p := ⟨GV, 1, none⟩) (by first | omega | (simp; done) | (simp; omega)) (.int .i64 p.d)
            case rel => exact ⟨j + 1, by omega, by go_num, by rw [HPP.out]; exact PE, by rw [HPP.out]; exact oV, hU⟩
            case measure => simp [intOf]; try omega
          · have b2 : (p.e != 0) = true := by simpa using h1
            have PX := Lib.hid (HX.out h1)
            clear h1 HX
            have hZ := below_to hy (below_to hW hU)
            have zZ := hy.size
            go_wp2
            go_ret2
            exact ⟨.slice none 0 0, by rw [HV.out, PX.out]; try rfl, by rw [HV.out, PX.out]; exact sf_nil _, (hZ.setCell (p := ⟨GV, 0, none⟩) (by simp; omega) _).setCell (p := ⟨GV, 1, none⟩) (by simp; omega) _⟩
        · obtain rfl : j = rs.length := by omega
          have RLe := RL.out
          rw [RLe] at he oV
          have RS := Lib.hid (rows_succ (f := fun k => gsum (colT A rs k) A.length) hr.out he.out)
          clear RLe
          generalize gsum (colT A rs m) A.length = p at *
          have HE2 := Lib.hid (congrArg Prod.snd RS.out)
          have HE1 := Lib.hid (congrArg (fun r => fcs r.1) RS.out)
          clear RS
          replace ow := owns_at ow hU
          replace hW := below_to hW hU
          have zr := hW.size
          clear hWU hU oS
          obtain ⟨rV, fV⟩ := oV.rules
          have zV := oV.lt
          go_wp2_with (at_builtin; refine wpList_app _ rfl _ _ _ rfl y1.heap.size 39 2 16 (.agg #[.int .i64 0, .int .i64 0]) Try.underlying26 Try.infoFrac rfl (by omega) (by omega) _ m _ rfl (ow.alloc _) (by omega) (by simp; omega) Y.heap.size [.int .i64 p.n, .int .i64 p.d] (0, 0) rfl (heap_alloc_new Y _) rfl (by simp [Value.oneCell']) ?_; intro g cap2 w9 hown hg hbw)
          go_roundw
          case rel =>
            refine ⟨m + 1, by omega, by go_num, HE2, ?_, ?_⟩
            · rw [HE1.out, fcs_append]; exact hown
            · exact (below_to hW (ba1 _ _)).trans (hbw.mono (Nat.le_refl _))
          case measure => simp [intOf]; try omega
    · obtain rfl : m = x.length := by omega
      have hsl := owns_sl ow (by omega)
      clear ow
      go_wp2
      go_ret2
      refine ⟨u8, by rw [HV.out, hr.out]; try rfl, ?_, below_to hy hW⟩
      rw [HV.out]
      unfold SF
      rw [rows_len _ hr.out]
      exact hsl
end Go.Proofs.Ytfoemacgmehpiaa
