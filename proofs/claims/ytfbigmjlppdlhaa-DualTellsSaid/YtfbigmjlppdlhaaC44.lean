/- What is proved here: contracts of functions and plain facts, several texts in one; each one says ahead what it proves, and its conditions. -/
import Derived.Test.YtfbigmjlppdlhaaC38
import Derived.Test.YtfbigmjlppdlhaaC43
import Derived.Test.YtfbigmjlppdlhaaC01
import Derived.Test.YtfbigmjlppdlhaaC17
import Derived.Test.YtfbigmjlppdlhaaC06
import Derived.Deep.DeepCutAuto
import Derived.IntWalk
/- What is proved here: the contract of fringeref39.columns. Condition: a system that can be read, with small numbers, and a valid fraction for each equation. -/
namespace Go.Proofs.Ytfbigmjlppdlhaa
open Go.RowKit

theorem c_one : i64 1 := ⟨by decide, by decide⟩
theorem c_small {a : Int} (h1 : -1000 ≤ a) (h2 : a ≤ 1000) : i64 a := ⟨by omega, by omega⟩
set_option maxRecDepth 100000 in
set_option maxHeartbeats 16000000 in
theorem rdcol_any (A : List (List Int)) (rs : List (Int × Int)) (n : Nat) (va vb vx : Value) (w : World) (hA : SS w va A) (hx : SF w vx rs) (fy : FitY A rs n) :
    Calls Try.prog 86 #[.agg #[va, vb], vx] w (rows_post w (dsums A rs n)) := by
  have FX := Lib.hid fy
  obtain ⟨ada, capa, rfl, ha1, ha2, _⟩ := hA.open
  obtain ⟨adx, capx, rfl, hx1, hx2, _⟩ := hx.open
  have l0 : 0 < A.length := FX.out.rows
  have l1 : A.length ≤ 100 := FX.out.few.1
  have l2 : n ≤ 100 := FX.out.few.2
  have RL := Lib.hid FX.out.len
  have l6 : rs.length ≤ A.length := by rw [RL.out]; exact Nat.le_refl _
  have l7 : A.length ≤ rs.length := by rw [RL.out]; exact Nat.le_refl _
  have HV : Hid (dsums A rs n = rowsOf (fun k => gsum (colT A rs k) A.length) n) := rfl
  have W0 := Lib.hid (FX.out.wide 0 l0)
  clear fy
  go_enter Try.func86, Try.ntmps86
  have oS := Own.new w 25 [.slice ada A.length capa, vb]
  have hy := ba1 w (.cells #[.slice ada A.length capa, vb] 25)
  have SA := Lib.hid (hA.below hy)
  have SX := Lib.hid (hx.below hy)
  clear hA hx
  go_wp2_with fail
  obtain ⟨GS, hGS⟩ : ∃ G, G = w.heap.size := ⟨_, rfl⟩
  rw [← hGS] at oS ⊢
  have hGS' := Lib.hid hGS
  clear hGS
  generalize w.alloc (.cells #[.slice ada A.length capa, vb] 25) = y1 at *
  go_loopw [6, 7] (fun ov i wr => ∃ m : Nat, m ≤ n ∧ i = .int .i64 m ∧ Hid ((rowsOf (fun k => gsum (colT A rs k) A.length) m).2 = 0) ∧ wr.ownsRow y1.heap.size 34 2 ov m (fcs (rowsOf (fun k => gsum (colT A rs k) A.length) m).1) ∧ Below y1.heap.size y1 wr) (fun _ i _ => n - (intOf i).toNat)
  case atStart => exact ⟨0, Nat.zero_le _, rfl, rfl, World.ownsRow_nil _ _ _ _, Below.refl _ _⟩
  case round =>
    obtain ⟨m, hm, rfl, hr, ow, hW⟩ := hrel
    rename World => W
    replace oS := oS.below hW
    obtain ⟨_, _, e, _, _, H0⟩ := (SA.out.below hW).open
    cases e
    obtain ⟨b0, off0, ad0, cap0, rfl, d1, d2, d3, _⟩ := H0.out 0 l0
    rw [Nat.add_zero, W0.out] at d1
    rw [W0.out] at d2 d3
    clear H0
    by_cases hlt : m < n
    · obtain ⟨rS, fS⟩ := oS.rules
      have zS := oS.lt
      go_wp2_with fail
      refine (rof_any 0 _).mono ?_
      rintro e y2 ⟨rfl, hq⟩
      clear rS fS zS d1
      replace oS := oS.below hq
      replace ow := owns_at ow hq
      replace hW := below_to hW hq
      clear hq
      go_wp2_with fail
      have oV := Own.new y2 34 [.int .i64 0, .int .i64 1]
      have hU := ba1 y2 (.cells #[.int .i64 0, .int .i64 1] 34)
      obtain ⟨GV, hG⟩ : ∃ G, G = y2.heap.size := ⟨_, rfl⟩
      have zG1 : y2.heap.size ≤ GV := by rw [hG]; exact Nat.le_refl _
      have zS2 := oS.lt
      have zG2 : GS < GV := by rw [hG]; exact zS2
      have zW2 := hW.size
      rw [← hG] at oV ⊢
      clear hG
      go_loopw [10] (fun q wq => ∃ j : Nat, j ≤ rs.length ∧ q = .int .i64 j ∧ Hid ((gsum (colT A rs m) j).e = 0) ∧ Own wq GV 34 [.int .i64 (gsum (colT A rs m) j).n, .int .i64 (gsum (colT A rs m) j).d] ∧ Below y2.heap.size y2 wq) (fun q _ => rs.length - (intOf q).toNat)
      case atStart => exact ⟨0, Nat.zero_le _, rfl, rfl, oV, hU⟩
      case round =>
        clear oV hU
        obtain ⟨j, hj, rfl, he, oV, hU⟩ := hrel
        rename World => Y
        replace oS := oS.below hU
        have hWU := below_to hW hU
        by_cases hjx : j < rs.length
        · have hjA : j < A.length := by omega
          obtain ⟨_, _, e, _, _, H⟩ := (SA.out.below hWU).open
          cases e
          obtain ⟨b, off, ad', cap', e, c1, c2, c3, sR⟩ := H.out j hjA
          cases e
          obtain ⟨_, _, e, _, _, H'⟩ := sR.open
          cases e
          have hwd := FX.out.wide j hjA
          have hja : m < A[j].length := by rw [hwd]; exact hlt
          obtain ⟨b', off', rfl, c4⟩ := H'.out m hja
          obtain ⟨_, _, e, _, _, H''⟩ := (SX.out.below hWU).open
          cases e
          obtain ⟨b'', off'', rfl, c5, c6⟩ := H''.out j hjx
          clear H H' H'' sR
          have J1 := Lib.hid (gsum_i64 (colT A rs m) j)
          have J2 := Lib.hid (c_small (FX.out.coef j hjA m hja).1 (FX.out.coef j hjA m hja).2)
          have J3 := Lib.hid (fr_i64 (FX.out.val j hjx))
          have HP := Lib.hid (col_succ hjA hja hjx he.out)
          have HX := Lib.hid (fun h => grad_end (N := n) hr.out hjA h hlt)
          have HWD := Lib.hid hwd
          have l4 : A[j].length ≤ n := by rw [HWD.out]; exact Nat.le_refl _
          have l5 : n ≤ A[j].length := by rw [HWD.out]; exact Nat.le_refl _
          clear hwd
          generalize A[j][m] = amj at *
          generalize A[j].length = rl at *
          generalize rs[j].1 = xn at *
          generalize rs[j].2 = xd at *
          generalize (gsum (colT A rs m) j).n = sn at *
          generalize (gsum (colT A rs m) j).d = sd at *
          generalize hpp : gsum (colT A rs m) (j + 1) = p at *
          have HPP := Lib.hid hpp
          clear hpp
          have zb := World.block_lt_of_cell? _ _ c1
          have zb2 := World.block_lt_of_cell? _ _ c4
          have zb3 := World.block_lt_of_cell? _ _ c5
          simp only at zb zb2 zb3
          have gl := @grow_lt
          obtain ⟨rS, fS⟩ := oS.rules
          have zS := oS.lt
          obtain ⟨rV, fV⟩ := oV.rules
          have zV := oV.lt
          go_wp2
          go_wp2_with fail
          refine wp_region_stt [.t [0, 1, 2, 3, 4, 5, 6, 7, 8, 10, 11, 12, 13], .f 9, .f 14] [15, 16, 17] [18, 19] (by kernel_rfl) (by kernel_rfl) (fun _ _ _ _ _ h => h) ?_
          refine wpX_t ?_
          try simp only [opsAt, List.getElem?_toArray, List.getElem?_cons_zero, List.getElem?_cons_succ, Option.getD_some]
          repeat (go_big_quiet_step (fail))
          refine wpQuiet_nil ?_
          refine wpX_f rfl rfl (fun K' hK' => ?_)
          go_simp
          refine (rof_any amj _).mono ?_
          rintro e y3 ⟨rfl, hq1⟩
          refine hK' _ _ (grow_of (below_to ((Below.refl _ _).drew) hq1)) ?_
          clear hK' K'
          refine wpX_f rfl rfl (fun K' hK' => ?_)
          go_simp
          refine (rdplus_any sn sd amj 1 xn xd _ J1.out.1 J1.out.2 J2.out c_one J3.out.1 J3.out.2).mono ?_
          rintro e y4 ⟨rfl, hq2⟩
          refine hK' _ _ (grow_of (below_to (below_to ((Below.refl _ _).drew) hq1) hq2)) ?_
          clear hK' K'
          rw [← HP.out]
          refine wpX_nil ?_
          try simp only [opsAt, List.getElem?_toArray, List.getElem?_cons_zero, List.getElem?_cons_succ, Option.getD_some]
          repeat (go_big_quiet_step (fail))
          refine wpQuiet_nil ?_
          try simp only [opsAt, List.getElem?_toArray, List.getElem?_cons_zero, List.getElem?_cons_succ, Option.getD_some]
          have hq : Below Y.heap.size Y y4 := below_to (below_to ((Below.refl _ _).drew) hq1) hq2
          clear gl hq1 hq2 c1 c4 c5 c6 zb zb2 zb3 rS fS zS rV fV zV
          replace oS := oS.below hq
          replace oV := oV.below hq
          replace hU := below_to hU hq
          clear hq hWU
          obtain ⟨rV, fV⟩ := oV.rules
          have zV := oV.lt
          by_cases h1 : p.e = 0
          · have b2 : (p.e != 0) = false := by simp [h1]
            have PE := Lib.hid h1
            clear h1 HX
            go_wp2
            go_roundw
            replace oV := ((oV).set 0 (.int .i64 p.n)).set 1 (.int .i64 p.d)
            replace hU := ((hU).setCell (p := ⟨GV, 0, none⟩) (by first | omega | (simp; done) | (simp; omega)) (.int .i64 p.n)).setCell (p := ⟨GV, 1, none⟩) (by first | omega | (simp; done) | (simp; omega)) (.int .i64 p.d)
            case rel => exact ⟨j + 1, by omega, by go_num, by rw [HPP.out]; exact PE, by rw [HPP.out]; exact oV, hU⟩
            case measure => simp [intOf]; try omega
          · have b2 : (p.e != 0) = true := by simpa using h1
            have PX := Lib.hid (HX.out h1)
            clear h1 HX
            have hZ := below_to hy (below_to hW hU)
            have zZ := hy.size
            go_wp2
            go_ret2
            exact ⟨.slice none 0 0, by rw [HV.out, PX.out]; try rfl, by rw [HV.out, PX.out]; exact sf_nil _, (hZ.setCell (p := ⟨GV, 0, none⟩) (by simp; omega) _).setCell (p := ⟨GV, 1, none⟩) (by simp; omega) _⟩
        · obtain rfl : j = rs.length := by omega
          have RLe := RL.out
          rw [RLe] at he oV
          have RS := Lib.hid (rows_succ (f := fun k => gsum (colT A rs k) A.length) hr.out he.out)
          clear RLe
          generalize gsum (colT A rs m) A.length = p at *
          have HE2 := Lib.hid (congrArg Prod.snd RS.out)
          have HE1 := Lib.hid (congrArg (fun r => fcs r.1) RS.out)
          clear RS
          replace ow := owns_at ow hU
          replace hW := below_to hW hU
          have zr := hW.size
          clear hWU hU oS
          obtain ⟨rV, fV⟩ := oV.rules
          have zV := oV.lt
          go_wp2_with (at_builtin; refine wpList_app _ rfl _ _ _ rfl y1.heap.size 34 2 16 (.agg #[.int .i64 0, .int .i64 0]) Try.underlying26 Try.infoFrac rfl (by omega) (by omega) _ m _ rfl (ow.alloc _) (by omega) (by simp; omega) Y.heap.size [.int .i64 p.n, .int .i64 p.d] (0, 0) rfl (heap_alloc_new Y _) rfl (by simp [Value.oneCell']) ?_; intro g cap2 w9 hown hg hbw)
          go_roundw
          case rel =>
            refine ⟨m + 1, by omega, by go_num, HE2, ?_, ?_⟩
            · rw [HE1.out, fcs_append]; exact hown
            · exact (below_to hW (ba1 _ _)).trans (hbw.mono (Nat.le_refl _))
          case measure => simp [intOf]; try omega
    · obtain rfl : m = n := by omega
      have hsl := owns_sl ow (by omega)
      clear ow
      obtain ⟨rS, fS⟩ := oS.rules
      have zS := oS.lt
      go_wp2
      go_ret2
      refine ⟨u6, by rw [HV.out, hr.out]; try rfl, ?_, below_to hy hW⟩
      rw [HV.out]
      unfold SF
      rw [rows_len _ hr.out]
      exact hsl
end Go.Proofs.Ytfbigmjlppdlhaa
