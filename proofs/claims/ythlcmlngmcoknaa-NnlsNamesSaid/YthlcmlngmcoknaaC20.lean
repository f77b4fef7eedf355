/- What is proved here: contracts of functions and plain facts, several texts in one; each one says ahead what it proves, and its conditions. -/
import Derived.Test.YthlcmlngmcoknaaC11
import Derived.Test.YthlcmlngmcoknaaC19
import Derived.Test.YthlcmlngmcoknaaC01
import Derived.Test.YthlcmlngmcoknaaC06
import Derived.Deep.DeepCutAuto
import Derived.IntWalk
/- What is proved here: the contract of nnls.Residual. Condition: a system and a slice of fractions that can be read. -/
namespace Go.Proofs.Ythlcmlngmcoknaa
open Go.RowKit

set_option maxRecDepth 100000 in
set_option maxHeartbeats 16000000 in
theorem nresid_own (A : List (List Int)) (B : List Int) (x : List (Int × Int)) (va vb vx : Value) (w : World) (hA : SS w va A) (hB : SI w vb B) (hx : SF w vx x) (ix : FI x) :
    Calls Try.prog 53 #[.agg #[va, vb], vx] w (rows_own w (nResidual A B x)) := by
  have IX := Lib.hid ix
  obtain ⟨ada, capa, rfl, ha1, ha2, _⟩ := hA.open
  obtain ⟨adb, capb, rfl, hb1, hb2, _⟩ := hB.open
  obtain ⟨adx, capx, rfl, hx1, hx2, _⟩ := hx.open
  clear ix
  go_enter Try.func53, Try.ntmps53
  have oS := Own.new w 25 [.slice ada A.length capa, .slice adb B.length capb]
  have hy := ba1 w (.cells #[.slice ada A.length capa, .slice adb B.length capb] 25)
  replace hA := hA.below hy
  replace hB := hB.below hy
  replace hx := hx.below hy
  obtain ⟨rS, fS⟩ := oS.rules
  have zS := oS.lt
  go_wp2_with fail
  refine (npoint_any A B x _ _ _ _ hA hB hx IX.out).mono ?_
  rintro e y1 ⟨rfl, hq⟩
  clear rS fS zS
  replace oS := oS.below hq
  replace hA := hA.below hq
  replace hB := hB.below hq
  replace hx := hx.below hq
  replace hy := below_to hy hq
  clear hq
  obtain ⟨rS, fS⟩ := oS.rules
  have zS := oS.lt
  by_cases h0 : npoint A B x = 0
  case neg =>
    have HV : Hid (nResidual A B x = ([], npoint A B x)) := if_neg h0
    have b1 : (npoint A B x != 0) = true := by simpa using h0
    clear h0 hA hB hx
    go_wp2
    go_ret2
    exact ⟨.slice none 0 0, by rw [HV.out]; try rfl, by rw [HV.out]; exact owns_nil _ _, hy⟩
  have b1 : (npoint A B x != 0) = false := by simp [h0]
  have HV : Hid (nResidual A B x = rowsOf (nres A B x) A.length) := if_pos h0
  have FX := Lib.hid (FitX.of h0)
  have l1 : A.length ≤ 100 := FX.out.few.1
  have l2 : x.length ≤ 100 := FX.out.few.2
  have l3 : A.length ≤ B.length := by rw [FX.out.right]; exact Nat.le_refl _
  clear h0
  have SA := Lib.hid hA
  have SB' := Lib.hid hB
  have SX := Lib.hid hx
  clear hA hB hx
  have MK := mk_fracs0 A.length (by omega)
  go_wp2
  clear MK
  have ow := owns_made y1 A.length (by omega) 78 y1.heap.size (Nat.le_refl _)
  have hW := ba1 y1 (.cells (fcs (List.replicate A.length (0, 0))).toArray 78)
  clear rS fS zS
  go_loopw [7, 26] (fun ov i wr => ∃ m : Nat, m ≤ A.length ∧ i = .int .i64 m ∧ Hid ((rowsOf (nres A B x) m).2 = 0) ∧ wr.ownsRow y1.heap.size 78 2 ov m (fcs (rowsOf (nres A B x) m).1) ∧ Below y1.heap.size y1 wr) (fun _ i _ => A.length - (intOf i).toNat)
  case atStart => exact ⟨0, Nat.zero_le _, rfl, rfl, ow, hW⟩
  case round =>
    clear ow hW
    obtain ⟨m, hm, rfl, hr, ow, hW⟩ := hrel
    rename World => W
    by_cases hlt : m < A.length
    · have hmB : m < B.length := by omega
      obtain ⟨_, _, e, _, _, H⟩ := (SA.out.below hW).open
      cases e
      obtain ⟨b, off, ad', cap', rfl, c1, c2, c3, sR⟩ := H.out m hlt
      obtain ⟨_, _, e, _, _, H'⟩ := (SB'.out.below hW).open
      cases e
      obtain ⟨b', off', rfl, c4⟩ := H'.out m hmB
      clear H H'
      have hwd := FX.out.wide m hlt
      have hco := FX.out.coef m hlt
      have SR := Lib.hid sR
      have HD := Lib.hid (row_dot hlt hwd)
      have I1 := Lib.hid (i64_small (FX.out.side m hmB).1 (FX.out.side m hmB).2)
      have F1 := Lib.hid (FX.out.row_ok (k := x.length) hlt (Nat.le_refl _))
      have F2 := Lib.hid (FX.out.res_ok hlt)
      have N0 := Lib.hid (nres_0 (A := A) (B := B) (x := x) (i := m))
      have N1 := Lib.hid (nres_1 (A := A) (B := B) (x := x) (i := m))
      rw [getD_get hmB] at N0
      have RE := Lib.hid (fun h => rows_end (N := A.length) hr.out hlt h)
      have RS := Lib.hid (fun h => rows_succ (f := nres A B x) hr.out h)
      have HWD := Lib.hid hwd
      have l4 : A[m].length ≤ x.length := by rw [HWD.out]; exact Nat.le_refl _
      have HCO := Lib.hid hco
      have GI := Lib.hid (gsum_i64 (rowT A x m) x.length)
      clear hwd hco sR
      generalize A[m] = row at *
      generalize B[m] = bm at *
      replace oS := oS.below hW
      obtain ⟨rS, fS⟩ := oS.rules
      have zS := oS.lt
      go_wp2_with fail
      refine (ndot_any row x _ _ _ SR.out (SX.out.below hW) l4 HCO.out FX.out.val).mono ?_
      rintro e y2 ⟨rfl, hq⟩
      rw [HD.out]
      clear rS fS zS
      replace oS := oS.below hq
      replace ow := owns_at ow hq
      replace c4 := below_cell hq c4
      replace hW := below_to hW hq
      clear hq c1
      generalize gsum (rowT A x m) x.length = p at *
      obtain ⟨r, hrr⟩ : ∃ r, r = nres A B x m := ⟨_, rfl⟩
      rw [← hrr] at F2 N0 N1 RE RS
      clear hrr
      by_cases h1 : p.e = 0
      case neg =>
        have b2 : (p.e != 0) = true := by simpa using h1
        have HV2 : Hid (rowsOf (nres A B x) A.length = ([], p.e)) := by
          show _ = _
          rw [RE.out (by rw [N1.out h1]; exact h1), N1.out h1]
        clear h1 RE RS N0 N1 F1 F2 ow
        obtain ⟨rS, fS⟩ := oS.rules
        have zS := oS.lt
        go_wp2
        go_ret2
        exact ⟨.slice none 0 0, by rw [HV.out, HV2.out]; try rfl, by rw [HV.out, HV2.out]; exact owns_nil _ _, (below_to hy hW).alloc (by have := (below_to hy hW).size; omega) _⟩
      have b2 : (p.e != 0) = false := by simp [h1]
      have HQ := Lib.hid (N0.out h1)
      clear h1 N0 N1
      obtain ⟨rS, fS⟩ := oS.rules
      have zS := oS.lt
      go_wp2_with fail
      have oP := Own.new y2 78 [.int .i64 p.n, .int .i64 p.d]
      replace oS := oS.alloc (.cells #[.int .i64 p.n, .int .i64 p.d] 78)
      replace ow := owns_at ow (ba1 y2 (.cells #[.int .i64 p.n, .int .i64 p.d] 78))
      replace hW := below_to hW (ba1 y2 (.cells #[.int .i64 p.n, .int .i64 p.d] 78))
      replace c4 := below_cell (ba1 y2 (.cells #[.int .i64 p.n, .int .i64 p.d] 78)) c4
      clear rS fS zS
      obtain ⟨G, hG⟩ : ∃ G, G = y2.heap.size := ⟨_, rfl⟩
      rw [← hG] at oP ⊢
      clear hG
      generalize y2.alloc (.cells #[.int .i64 p.n, .int .i64 p.d] 78) = y3 at *
      have zb := World.block_lt_of_cell? _ _ c4
      simp only at zb
      obtain ⟨rS, fS⟩ := oS.rules
      have zS := oS.lt
      obtain ⟨rP, fP⟩ := oP.rules
      have zP := oP.lt
      go_wp2_with fail
      have gl := @grow_lt
      refine wp_region_fs [(11, ⟨78, [.int .i64 0, .int .i64 0], fun b => .pointer (some ⟨b, 0, none⟩)⟩)] [0, 1, 2, 3, 4, 5, 6] [.op 7, .tk 8, .tk 9, .tk 10, .fl 11, .op 12] [13] (by kernel_rfl) (by kernel_rfl) ⟨fun ρ W => by kernel_rfl, trivial⟩ (fun _ _ _ _ _ h => h) (fun _ _ _ _ _ h => h) ?_
      try simp only [opsAt, List.getElem?_toArray, List.getElem?_cons_zero, List.getElem?_cons_succ, Option.getD_some]
      repeat (go_big_quiet_step (fail))
      refine wpQuiet_nil ?_
      clear gl
      refine wpFl_op rfl ?_
      intro w3 hb3 K' hK'
      go_simp
      refine (fsub_any p.n p.d bm 1 _ GI.out.1 GI.out.2 I1.out i64_1).mono ?_
      rintro e w5 ⟨rfl, hq⟩
      refine hK' _ _ (Mod.of_below hq) ?_
      clear hK' K'
      have hF := below_to hb3 hq
      clear hb3 hq
      rw [← HQ.out]
      refine wpFl_tk ?_
      try simp only [opsAt, List.getElem?_toArray, List.getElem?_cons_zero, List.getElem?_cons_succ, Option.getD_some]
      repeat (go_big_quiet_step (fail))
      refine wpQuiet_nil ?_
      refine wpFl_tk ?_
      try simp only [opsAt, List.getElem?_toArray, List.getElem?_cons_zero, List.getElem?_cons_succ, Option.getD_some]
      repeat (go_big_quiet_step (fail))
      refine wpQuiet_nil ?_
      refine wpFl_tk ?_
      try simp only [opsAt, List.getElem?_toArray, List.getElem?_cons_zero, List.getElem?_cons_succ, Option.getD_some]
      repeat (go_big_quiet_step (fail))
      refine wpQuiet_nil ?_
      refine wpFl_fl rfl ?_
      intro bD w6 hb6 oD zD0 _
      go_simp
      replace hF := below_to hF hb6
      refine wpFl_op rfl ?_
      intro w7 hb7 K' hK'
      replace oD := oD.below hb7
      replace hF := below_to hF hb7
      clear hb6 hb7
      obtain ⟨rD, fD⟩ := oD.rules
      have zD := oD.lt
      go_wp2_with fail
      refine hK' _ _ (((Mod.refl _ _).set (by simp) _).set (by simp) _) ?_
      clear hK' K' rD fD zD
      replace oD := (oD.set 0 (.int .i64 r.n)).set 1 (.int .i64 r.d)
      replace hF := (hF.setCell (p := ⟨bD, 0, none⟩) zD0 (.int .i64 r.n)).setCell (p := ⟨bD, 1, none⟩) zD0 (.int .i64 r.d)
      refine wpFl_nil (fun w8 hb8 => ?_)
      replace oD := oD.below hb8
      replace hF := below_to hF hb8
      clear hb8
      try simp only [opsAt, List.getElem?_toArray, List.getElem?_cons_zero, List.getElem?_cons_succ, Option.getD_some]
      clear rS fS zS rP fP zP c4 zb
      replace ow := owns_at ow hF
      replace hW := below_to hW hF
      replace oS := oS.below hF
      clear hF oP HQ
      by_cases h2 : r.e = 0
      case neg =>
        have b3 : (r.e != 0) = true := by simpa using h2
        have HV2 : Hid (rowsOf (nres A B x) A.length = ([], 16)) := by
          show _ = _
          rw [RE.out h2, F2.out.e h2]
        clear h2 RE RS F1 F2 ow oD oS
        go_wp2
        go_ret2
        exact ⟨.slice none 0 0, by rw [HV.out, HV2.out]; try rfl, by rw [HV.out, HV2.out]; exact owns_nil _ _, below_to hy hW⟩
      have b3 : (r.e != 0) = false := by simp [h2]
      have HF := Lib.hid (RS.out h2)
      have HE2 := Lib.hid (congrArg Prod.snd HF.out)
      have HE1 := Lib.hid (congrArg (fun r => fcs r.1) HF.out)
      clear h2 RE RS HF F1 F2 oS
      have zr := hW.size
      obtain ⟨rD, fD⟩ := oD.rules
      have zD := oD.lt
      go_wp2_with (at_builtin; refine wpList_app _ rfl _ _ _ rfl y1.heap.size 78 2 16 (.agg #[.int .i64 0, .int .i64 0]) Try.underlying28 Try.infoFrac rfl (by omega) (by omega) _ m _ rfl (ow.alloc _) (by omega) (by simp; omega) w8.heap.size [.int .i64 r.n, .int .i64 r.d] (0, 0) rfl (heap_alloc_new w8 _) rfl (by simp [Value.oneCell']) ?_; intro g cap2 w9 hown hg hbw)
      go_roundw
      case rel =>
        refine ⟨m + 1, by omega, by go_num, HE2, ?_, ?_⟩
        · rw [HE1.out, fcs_append]; exact hown
        · exact (below_to hW (ba1 w8 _)).trans (hbw.mono (Nat.le_refl _))
      case measure => simp [intOf]; try omega
    · obtain rfl : m = A.length := by omega
      go_wp2
      go_ret2
      refine ⟨u7, by rw [HV.out, hr.out]; try rfl, ?_, below_to hy hW⟩
      rw [HV.out, rows_len _ hr.out]
      exact owns_base ow hy.size
theorem nresid_any (A : List (List Int)) (B : List Int) (x : List (Int × Int)) (va vb vx : Value) (w : World) (hA : SS w va A) (hB : SI w vb B) (hx : SF w vx x) (ix : FI x) :
    Calls Try.prog 53 #[.agg #[va, vb], vx] w (rows_post w (nResidual A B x)) := (nresid_own A B x va vb vx w hA hB hx ix).mono fun _ _ h => rows_own_post h
end Go.Proofs.Ythlcmlngmcoknaa

/- What is proved here: the contract of nnls.Value. Condition: a system and a slice of fractions that can be read. -/
namespace Go.Proofs.Ythlcmlngmcoknaa
open Go.RowKit

set_option maxRecDepth 100000 in
set_option maxHeartbeats 16000000 in
theorem nval_any (A : List (List Int)) (B : List Int) (x : List (Int × Int)) (va vb vx : Value) (w : World) (hA : SS w va A) (hB : SI w vb B) (hx : SF w vx x) (ix : FI x) :
    Calls Try.prog 55 #[.agg #[va, vb], vx] w fun e w' => e = .returned (.tuple #[.agg #[.int .i64 (nValue A B x).n, .int .i64 (nValue A B x).d], .int .i64 (nValue A B x).e]) ∧ Below w.heap.size w w' := by
  have IX := Lib.hid ix
  clear ix
  go_enter Try.func55, Try.ntmps55
  have oS := own_first w 25 [va, vb] (.cells #[.int .i64 0, .int .i64 0] 78)
  have oR := own_second w 78 [.int .i64 0, .int .i64 0] (.cells #[va, vb] 25)
  have hB' := ba2 w (.cells #[va, vb] 25) (.cells #[.int .i64 0, .int .i64 0] 78)
  replace hA := hA.below hB'
  replace hB := hB.below hB'
  replace hx := hx.below hB'
  obtain ⟨rS, fS⟩ := oS.rules
  have zS := oS.lt
  obtain ⟨rR, fR⟩ := oR.rules
  have zR := oR.lt
  go_wp2_with fail
  refine (nresid_any A B x _ _ _ _ hA hB hx IX.out).mono ?_
  rintro e y1 ⟨u, rfl, su, hq⟩
  clear rS fS zS rR fR zR
  replace oS := oS.below hq
  replace oR := oR.below hq
  replace hA := hA.below hq
  replace hB := hB.below hq
  replace hx := hx.below hq
  replace hB' := below_to hB' hq
  clear hq
  obtain ⟨rS, fS⟩ := oS.rules
  have zS := oS.lt
  obtain ⟨rR, fR⟩ := oR.rules
  have zR := oR.lt
  by_cases h0 : (nResidual A B x).2 = 0
  case neg =>
    have HV := Lib.hid (nVal_1 h0)
    have b1 : ((nResidual A B x).2 != 0) = true := by simpa using h0
    clear h0 hA hB hx su
    have hB := hB'
    clear hB'
    go_wp2
    replace oR := ((oR).set 0 (.int .i64 0)).set 1 (.int .i64 0)
    replace hB := ((hB).setCell (p := ⟨w.heap.size + 1, 0, none⟩) (by first | omega | (simp; done) | (simp; omega)) (.int .i64 0)).setCell (p := ⟨w.heap.size + 1, 1, none⟩) (by first | omega | (simp; done) | (simp; omega)) (.int .i64 0)
    refine bp_gen' (fun W => Own W _ _ _ ∧ Below w.heap.size w W) ⟨oR, hB⟩ ?_
    rintro wz ⟨oz, bz⟩
    obtain ⟨rz, fz⟩ := oz.rules
    clear oz
    refine bodyPost_ret (v := .tuple #[.agg #[.int .i64 0, .int .i64 0], .int .i64 (nResidual A B x).2]) (by simp [results, Try.results55, go_sem, rz]) rfl ⟨by rw [HV.out], ?_⟩
    exact bz
  have b1 : ((nResidual A B x).2 != 0) = false := by simp [h0]
  have HV := Lib.hid (nVal_0 h0)
  obtain ⟨hp, hpe⟩ := nresid_parts h0
  have FX := Lib.hid (FitX.of hp)
  have RO := Lib.hid (resid_ok FX.out (by rw [← hpe]; exact h0))
  rw [← hpe] at RO
  have l1 : A.length ≤ 100 := FX.out.few.1
  have RL := Lib.hid RO.out.1
  clear h0 hp hpe
  generalize (nResidual A B x).1 = rs at *
  have l3 : rs.length ≤ 100 := by rw [RL.out]; exact l1
  obtain ⟨adu, capu, rfl, hu1, hu2, _⟩ := su.open
  have SU := Lib.hid su
  clear hA hB hx su
  have hB := hB'
  clear hB'
  go_wp2_with fail
  have oV := Own.new y1 78 [.int .i64 0, .int .i64 1]
  have hW := ba1 y1 (.cells #[.int .i64 0, .int .i64 1] 78)
  have oR1 := oR
  have zR1 := oR.lt
  replace oR := oR.below hW
  clear rS fS zS rR fR zR oS
  have zR := oR.lt
  have zR0 : w.heap.size + 1 < y1.heap.size := zR1
  have zy := hB.size
  obtain ⟨GV, hG⟩ : ∃ G, G = y1.heap.size := ⟨_, rfl⟩
  have zG : w.heap.size + 1 < GV := by rw [hG]; exact zR0
  have zG1 : y1.heap.size ≤ GV := by rw [hG]; exact Nat.le_refl _
  have zG2 : w.heap.size ≤ GV := by omega
  rw [← hG] at oV ⊢
  have oR0 := Lib.hid oR1
  clear hG zR oR oR1
  go_loopw [26] (fun i wr => ∃ k : Nat, k ≤ rs.length ∧ i = .int .i64 k ∧ Hid ((gsum (sqT rs) k).e = 0) ∧ Own wr GV 78 [.int .i64 (gsum (sqT rs) k).n, .int .i64 (gsum (sqT rs) k).d] ∧ Below y1.heap.size y1 wr) (fun i _ => rs.length - (intOf i).toNat)
  case atStart => exact ⟨0, Nat.zero_le _, rfl, rfl, oV, hW⟩
  case round =>
    clear oV hW
    obtain ⟨k, hk, rfl, he, oV, hW⟩ := hrel
    rename World => W
    have oR := oR0.out.below hW
    by_cases hlt : k < rs.length
    · obtain ⟨_, _, e, _, _, H⟩ := (SU.out.below hW).open
      cases e
      obtain ⟨b, off, rfl, c1, c2⟩ := H.out k hlt
      clear H
      have J1 := Lib.hid (gsum_i64 (sqT rs) k)
      have J3 := Lib.hid (fr_i64 (RO.out.2 k hlt))
      have F1 := Lib.hid (fmul_FOk (RO.out.2 k hlt) (RO.out.2 k hlt))
      have F2 := Lib.hid (sq_ok (k := k + 1) hlt RO.out.2)
      have HP := Lib.hid (sq_succ hlt he.out)
      have HE := Lib.hid (fun h => gsum_end (t := sqT rs) hlt h F2.out)
      generalize rs[k].1 = rn at *
      generalize rs[k].2 = rd at *
      generalize (gsum (sqT rs) k).n = sn at *
      generalize (gsum (sqT rs) k).d = sd at *
      generalize hpp : gsum (sqT rs) (k + 1) = p at *
      have HPP := Lib.hid hpp
      clear hpp
      obtain ⟨rR, fR⟩ := oR.rules
      have zR := oR.lt
      obtain ⟨rV, fV⟩ := oV.rules
      have zV := oV.lt
      go_wp2_with fail
      refine (fmul_any rn rd rn rd _ J3.out.1 J3.out.2 J3.out.1 J3.out.2).mono ?_
      rintro e y2 ⟨rfl, hq⟩
      replace hq := below_to (ba1 W _) hq
      clear rR fR zR rV fV zV
      replace oR := oR.below hq
      replace oV := oV.below hq
      replace hW := below_to hW hq
      clear hq
      obtain ⟨rR, fR⟩ := oR.rules
      have zR := oR.lt
      obtain ⟨rV, fV⟩ := oV.rules
      have zV := oV.lt
      have M2 := Lib.hid (fmul_i64 rn rd rn rd)
      have P0 := Lib.hid (fplus_0 (sn := sn) (sd := sd) (an := rn) (ad := rd) (bn := rn) (bd := rd))
      have P1 := Lib.hid (fplus_1 (sn := sn) (sd := sd) (an := rn) (ad := rd) (bn := rn) (bd := rd))
      generalize fmul rn rd rn rd = m at *
      by_cases h1 : m.e = 0
      · have b2 : (m.e != 0) = false := by simp [h1]
        have HQ : Hid (p = fadd sn sd m.n m.d) := HP.out.trans (P0.out h1)
        clear h1 P0 P1 HP F1
        go_wp2_with fail
        refine (fadd_any sn sd m.n m.d _ J1.out.1 J1.out.2 M2.out.1 M2.out.2).mono ?_
        rintro e y3 ⟨rfl, hq⟩
        replace hq := below_to (ba1 y2 _) hq
        clear rR fR zR rV fV zV
        replace oR := oR.below hq
        replace oV := oV.below hq
        replace hW := below_to hW hq
        clear hq
        obtain ⟨rR, fR⟩ := oR.rules
        have zR := oR.lt
        obtain ⟨rV, fV⟩ := oV.rules
        have zV := oV.lt
        rw [← HQ.out]
        by_cases h2 : p.e = 0
        · have b3 : (p.e != 0) = false := by simp [h2]
          have E2 := Lib.hid h2
          clear h2
          go_wp2
          go_roundw
          replace oV := ((oV).set 0 (.int .i64 p.n)).set 1 (.int .i64 p.d)
          replace hW := ((hW).setCell (p := ⟨GV, 0, none⟩) (by first | omega | (simp; done) | (simp; omega)) (.int .i64 p.n)).setCell (p := ⟨GV, 1, none⟩) (by first | omega | (simp; done) | (simp; omega)) (.int .i64 p.d)
          case rel => exact ⟨k + 1, by omega, by go_num, by rw [HPP.out]; exact E2, by rw [HPP.out]; exact oV, hW⟩
          case measure => simp [intOf]; try omega
        · have b3 : (p.e != 0) = true := by simpa using h2
          have HV2 := Lib.hid (HE.out h2)
          replace hB := below_to hB hW
          clear h2 hW
          go_wp2
          replace oR := ((((oR).other (g' := GV) (by first | omega | (simp; done) | (simp; omega)) 0 (.int .i64 p.n)).other (g' := GV) (by first | omega | (simp; done) | (simp; omega)) 1 (.int .i64 p.d)).set 0 (.int .i64 0)).set 1 (.int .i64 0)
          replace hB := ((((hB).setCell (p := ⟨GV, 0, none⟩) (by first | omega | (simp; done) | (simp; omega)) (.int .i64 p.n)).setCell (p := ⟨GV, 1, none⟩) (by first | omega | (simp; done) | (simp; omega)) (.int .i64 p.d)).setCell (p := ⟨w.heap.size + 1, 0, none⟩) (by first | omega | (simp; done) | (simp; omega)) (.int .i64 0)).setCell (p := ⟨w.heap.size + 1, 1, none⟩) (by first | omega | (simp; done) | (simp; omega)) (.int .i64 0)
          refine bp_gen' (fun W => Own W _ _ _ ∧ Below w.heap.size w W) ⟨oR, hB⟩ ?_
          rintro wz ⟨oz, bz⟩
          obtain ⟨rz, fz⟩ := oz.rules
          clear oz
          refine bodyPost_ret (v := .tuple #[.agg #[.int .i64 0, .int .i64 0], .int .i64 16]) (by simp [results, Try.results55, go_sem, rz]) rfl ⟨by rw [HV.out, HV2.out], ?_⟩
          exact bz
      · have b2 : (m.e != 0) = true := by simpa using h1
        have HV2 : Hid (gsum (sqT rs) rs.length = ⟨0, 0, 16⟩) := by
          have e1 := HP.out.trans (P1.out h1)
          refine HE.out ?_
          rw [e1]; exact h1
        replace hB := below_to hB hW
        clear h1 P0 P1 HP F1 hW
        go_wp2
        replace oR := (((oR).set 0 (.int .i64 0)).set 1 (.int .i64 0)).alloc (.cells #[.int .i64 m.n, .int .i64 m.d] 78)
        replace hB := (((hB).setCell (p := ⟨w.heap.size + 1, 0, none⟩) (by first | omega | (simp; done) | (simp; omega)) (.int .i64 0)).setCell (p := ⟨w.heap.size + 1, 1, none⟩) (by first | omega | (simp; done) | (simp; omega)) (.int .i64 0)).alloc (by first | omega | (simp; done) | (simp; omega)) (.cells #[.int .i64 m.n, .int .i64 m.d] 78)
        refine bp_gen' (fun W => Own W _ _ _ ∧ Below w.heap.size w W) ⟨oR, hB⟩ ?_
        rintro wz ⟨oz, bz⟩
        obtain ⟨rz, fz⟩ := oz.rules
        clear oz
        refine bodyPost_ret (v := .tuple #[.agg #[.int .i64 0, .int .i64 0], .int .i64 16]) (by simp [results, Try.results55, go_sem, rz]) rfl ⟨by rw [HV.out, HV2.out], ?_⟩
        exact bz
    · obtain rfl : k = rs.length := by omega
      obtain ⟨p, hp⟩ : ∃ p, p = gsum (sqT rs) rs.length := ⟨_, rfl⟩
      rw [← hp] at he oV
      have HP := Lib.hid hp
      replace hB := below_to hB hW
      clear hp hW
      obtain ⟨rR, fR⟩ := oR.rules
      have zR := oR.lt
      obtain ⟨rV, fV⟩ := oV.rules
      have zV := oV.lt
      go_wp2
      replace oR := ((oR).set 0 (.int .i64 p.n)).set 1 (.int .i64 p.d)
      replace hB := ((hB).setCell (p := ⟨w.heap.size + 1, 0, none⟩) (by first | omega | (simp; done) | (simp; omega)) (.int .i64 p.n)).setCell (p := ⟨w.heap.size + 1, 1, none⟩) (by first | omega | (simp; done) | (simp; omega)) (.int .i64 p.d)
      refine bp_gen' (fun W => Own W _ _ _ ∧ Below w.heap.size w W) ⟨oR, hB⟩ ?_
      rintro wz ⟨oz, bz⟩
      obtain ⟨rz, fz⟩ := oz.rules
      clear oz
      refine bodyPost_ret (v := .tuple #[.agg #[.int .i64 p.n, .int .i64 p.d], .int .i64 0]) (by simp [results, Try.results55, go_sem, rz]) rfl ⟨by rw [HV.out, ← HP.out, he.out], ?_⟩
      exact bz
end Go.Proofs.Ythlcmlngmcoknaa

/- What is proved here: the contract of nnls.Gradient. Condition: a system and a slice of fractions that can be read. -/
namespace Go.Proofs.Ythlcmlngmcoknaa
open Go.RowKit

set_option maxRecDepth 100000 in
set_option maxHeartbeats 16000000 in
theorem ngrad_own (A : List (List Int)) (B : List Int) (x : List (Int × Int)) (va vb vx : Value) (w : World) (hA : SS w va A) (hB : SI w vb B) (hx : SF w vx x) (ix : FI x) :
    Calls Try.prog 54 #[.agg #[va, vb], vx] w (rows_own w (nGradient A B x)) := by
  have IX := Lib.hid ix
  obtain ⟨adx, capx, rfl, hx1, hx2, _⟩ := hx.open
  clear ix
  go_enter Try.func54, Try.ntmps54
  have oS := Own.new w 25 [va, vb]
  have hy := ba1 w (.cells #[va, vb] 25)
  replace hA := hA.below hy
  replace hB := hB.below hy
  replace hx := hx.below hy
  obtain ⟨rS, fS⟩ := oS.rules
  have zS := oS.lt
  go_wp2_with fail
  refine (nresid_any A B x _ _ _ _ hA hB hx IX.out).mono ?_
  rintro e y1 ⟨u, rfl, su, hq⟩
  clear rS fS zS
  replace oS := oS.below hq
  replace hA := hA.below hq
  replace hB := hB.below hq
  replace hx := hx.below hq
  replace hy := below_to hy hq
  clear hq
  obtain ⟨rS, fS⟩ := oS.rules
  have zS := oS.lt
  by_cases h0 : (nResidual A B x).2 = 0
  case neg =>
    have HV := Lib.hid (nGrad_1 h0)
    have b1 : ((nResidual A B x).2 != 0) = true := by simpa using h0
    clear h0 hA hB hx su
    go_wp2
    go_ret2
    exact ⟨.slice none 0 0, by rw [HV.out]; try rfl, by rw [HV.out]; exact owns_nil _ _, hy⟩
  have b1 : ((nResidual A B x).2 != 0) = false := by simp [h0]
  have HV := Lib.hid (nGrad_0 h0)
  obtain ⟨hp, hpe⟩ := nresid_parts h0
  have FX := Lib.hid (FitX.of hp)
  have RO := Lib.hid (resid_ok FX.out (by rw [← hpe]; exact h0))
  rw [← hpe] at RO
  have l1 : A.length ≤ 100 := FX.out.few.1
  have l2 : x.length ≤ 100 := FX.out.few.2
  clear h0 hp hpe
  generalize (nResidual A B x).1 = rs at *
  obtain ⟨adu, capu, rfl, hu1, hu2, _⟩ := su.open
  have SA := Lib.hid hA
  have SU := Lib.hid su
  clear hA hB hx su
  have MK := mk_fracs0 x.length (by omega)
  go_wp2
  clear MK
  have ow := owns_made y1 x.length (by omega) 78 y1.heap.size (Nat.le_refl _)
  have hW := ba1 y1 (.cells (fcs (List.replicate x.length (0, 0))).toArray 78)
  clear rS fS zS
  go_loopw [8, 26] (fun ov i wr => ∃ m : Nat, m ≤ x.length ∧ i = .int .i64 m ∧ Hid ((rowsOf (fun k => gsum (colT A rs k) A.length) m).2 = 0) ∧ wr.ownsRow y1.heap.size 78 2 ov m (fcs (rowsOf (fun k => gsum (colT A rs k) A.length) m).1) ∧ Below y1.heap.size y1 wr) (fun _ i _ => x.length - (intOf i).toNat)
  case atStart => exact ⟨0, Nat.zero_le _, rfl, rfl, ow, hW⟩
  case round =>
    clear ow hW
    obtain ⟨m, hm, rfl, hr, ow, hW⟩ := hrel
    rename World => W
    by_cases hlt : m < x.length
    · have HD := Lib.hid (col_dot (A := A) (r := rs) (k := m))
      have RE := Lib.hid (fun h => rows_end (N := x.length) hr.out hlt h)
      have RS := Lib.hid (fun h => rows_succ (f := fun k => gsum (colT A rs k) A.length) hr.out h)
      have HC := Lib.hid (FX.out.col_small hlt)
      have HK : Hid (∀ i (h : i < A.length), m < A[i].length) := fun i hi => by rw [FX.out.wide i hi]; exact hlt
      have l4 : (colOf A m).length ≤ rs.length := by rw [colOf_len, RO.out.1]; exact Nat.le_refl _
      replace oS := oS.below hW
      obtain ⟨rS, fS⟩ := oS.rules
      have zS := oS.lt
      go_wp2_with fail
      refine (ncol_any A m _ _ _ (SA.out.below hW) l1 HK.out).mono ?_
      rintro e y2 ⟨uc, rfl, sc, hq⟩
      clear rS fS zS
      replace oS := oS.below hq
      replace ow := owns_at ow hq
      replace hW := below_to hW hq
      clear hq
      go_wp2_with fail
      refine (ndot_any (colOf A m) rs _ _ _ sc (SU.out.below hW) l4 HC.out RO.out.2).mono ?_
      rintro e y3 ⟨rfl, hq⟩
      rw [HD.out]
      clear sc
      replace oS := oS.below hq
      replace ow := owns_at ow hq
      replace hW := below_to hW hq
      clear hq
      generalize gsum (colT A rs m) A.length = p at *
      by_cases h1 : p.e = 0
      case neg =>
        have b2 : (p.e != 0) = true := by simpa using h1
        have HV2 := Lib.hid (RE.out h1)
        clear h1 RE RS ow
        go_wp2
        go_ret2
        exact ⟨.slice none 0 0, by rw [HV.out, HV2.out]; try rfl, by rw [HV.out, HV2.out]; exact owns_nil _ _, (below_to hy hW).alloc (by have := (below_to hy hW).size; omega) _⟩
      have b2 : (p.e != 0) = false := by simp [h1]
      have HF := Lib.hid (RS.out h1)
      have HE2 := Lib.hid (congrArg Prod.snd HF.out)
      have HE1 := Lib.hid (congrArg (fun r => fcs r.1) HF.out)
      clear h1 RE RS HF oS
      have zr := hW.size
      go_wp2_with (at_builtin; refine wpList_app _ rfl _ _ _ rfl y1.heap.size 78 2 16 (.agg #[.int .i64 0, .int .i64 0]) Try.underlying28 Try.infoFrac rfl (by omega) (by omega) _ m _ rfl ((ow.alloc _).alloc _) (by omega) (by simp; omega) (y3.heap.size + 1) [.int .i64 p.n, .int .i64 p.d] (0, 0) rfl (by rw [← World.size_alloc]; exact heap_alloc_new (y3.alloc _) _) rfl (by simp [Value.oneCell']) ?_; intro g cap2 w9 hown hg hbw)
      go_roundw
      case rel =>
        refine ⟨m + 1, by omega, by go_num, HE2, ?_, ?_⟩
        · rw [HE1.out, fcs_append]; exact hown
        · exact (below_to hW (ba2 y3 _ _)).trans (hbw.mono (Nat.le_refl _))
      case measure => simp [intOf]; try omega
    · obtain rfl : m = x.length := by omega
      go_wp2
      go_ret2
      refine ⟨u8, by rw [HV.out, hr.out]; try rfl, ?_, below_to hy hW⟩
      rw [HV.out, rows_len _ hr.out]
      exact owns_base ow hy.size
theorem ngrad_any (A : List (List Int)) (B : List Int) (x : List (Int × Int)) (va vb vx : Value) (w : World) (hA : SS w va A) (hB : SI w vb B) (hx : SF w vx x) (ix : FI x) :
    Calls Try.prog 54 #[.agg #[va, vb], vx] w (rows_post w (nGradient A B x)) := (ngrad_own A B x va vb vx w hA hB hx ix).mono fun _ _ h => rows_own_post h
end Go.Proofs.Ythlcmlngmcoknaa

/- What is proved here: the contract of nnls.Optimal. Condition: a system and a slice of fractions that can be read. -/
namespace Go.Proofs.Ythlcmlngmcoknaa
open Go.RowKit

set_option maxRecDepth 100000 in
set_option maxHeartbeats 16000000 in
theorem nopt_any (A : List (List Int)) (B : List Int) (x : List (Int × Int)) (va vb vx : Value) (w : World) (hA : SS w va A) (hB : SI w vb B) (hx : SF w vx x) (ix : FI x) :
    Calls Try.prog 56 #[.agg #[va, vb], vx] w fun e w' => e = .returned (.tuple #[.bool (nOptimal A B x).1, .int .i64 (nOptimal A B x).2]) ∧ Below w.heap.size w w' := by
  have IX := Lib.hid ix
  obtain ⟨adx, capx, rfl, hx1, hx2, _⟩ := hx.open
  clear ix
  go_enter Try.func56, Try.ntmps56
  have oS := Own.new w 25 [va, vb]
  have hy := ba1 w (.cells #[va, vb] 25)
  replace hA := hA.below hy
  replace hB := hB.below hy
  replace hx := hx.below hy
  obtain ⟨rS, fS⟩ := oS.rules
  have zS := oS.lt
  go_wp2_with fail
  refine (ngrad_any A B x _ _ _ _ hA hB hx IX.out).mono ?_
  rintro e y1 ⟨u, rfl, su, hq⟩
  clear rS fS zS
  replace oS := oS.below hq
  replace hA := hA.below hq
  replace hB := hB.below hq
  replace hx := hx.below hq
  replace hy := below_to hy hq
  clear hq
  obtain ⟨rS, fS⟩ := oS.rules
  have zS := oS.lt
  by_cases h0 : (nGradient A B x).2 = 0
  case neg =>
    have HV := Lib.hid (nOpt_1 h0)
    have b1 : ((nGradient A B x).2 != 0) = true := by simpa using h0
    clear h0 hA hB hx su
    go_wp2
    go_ret2
    exact ⟨by rw [HV.out]; try rfl, hy⟩
  have b1 : ((nGradient A B x).2 != 0) = false := by simp [h0]
  have HV := Lib.hid (nOpt_0 h0)
  obtain ⟨hp, hl⟩ := grad_len h0
  have PX : Hid (∀ i (h : i < x.length), 0 ≤ x[i].1) := fun i hi => ((point_of hp).2 i hi).2
  have HL := Lib.hid hl
  clear h0 hp hl
  generalize (nGradient A B x).1 = g at *
  have l1 : g.length ≤ x.length := by rw [HL.out]; exact Nat.le_refl _
  obtain ⟨adu, capu, rfl, hu1, hu2, _⟩ := su.open
  have SX := Lib.hid hx
  have SU := Lib.hid su
  clear hA hB hx su rS fS zS
  go_wp2
  go_loopw [21] (fun i wr => ∃ k : Nat, k ≤ g.length ∧ i = .int .i64 k ∧ Hid (noptB g x k = true) ∧ Below y1.heap.size y1 wr) (fun i _ => g.length - (intOf i).toNat)
  case atStart => exact ⟨0, Nat.zero_le _, rfl, rfl, Below.refl _ _⟩
  case round =>
    obtain ⟨k, hk, rfl, hv, hW⟩ := hrel
    rename World => W
    by_cases hlt : k < g.length
    · have hkx : k < x.length := by omega
      obtain ⟨_, _, e, _, _, H⟩ := (SU.out.below hW).open
      cases e
      obtain ⟨b, off, rfl, c1, c2⟩ := H.out k hlt
      obtain ⟨_, _, e, _, _, H'⟩ := (SX.out.below hW).open
      cases e
      obtain ⟨b', off', rfl, c3, c4⟩ := H'.out k hkx
      clear H H'
      have NS := Lib.hid (noptB_succ hlt hkx hv.out)
      have NN := Lib.hid (noptB_not (g := g) (x := x) (n := g.length) hlt hlt hkx)
      have px := PX.out k hkx
      have zb := World.block_lt_of_cell? _ _ c3
      simp only at zb
      generalize g[k].1 = gn at *
      generalize g[k].2 = gd at *
      generalize x[k].1 = xn at *
      generalize x[k].2 = xd at *
      by_cases h1 : gn < 0
      · have b2 : decide (gn < 0) = true := by simpa using h1
        have HN := Lib.hid (NN.out (by simp [noptN, b2]))
        clear NS NN h1
        go_wp2
        go_ret2
        exact ⟨by rw [HV.out, HN.out]; try rfl, (below_to hy hW).alloc (by have := (below_to hy hW).size; omega) _⟩
      have b2 : decide (gn < 0) = false := by simpa using h1
      by_cases h2 : gn = 0
      · have HN := Lib.hid (NS.out (by simp [noptN, h2]))
        have b3 : (gn != 0) = false := by simp [h2]
        clear NS NN h1 h2
        go_wp2
        go_roundw
        case rel => exact ⟨k + 1, by omega, by go_num, HN, below_to hW (ba1 _ _)⟩
        case measure => simp [intOf]; try omega
      have b3 : (gn != 0) = true := by simpa using h2
      have b5 : decide (0 < gn) = true := by simp; omega
      by_cases h3 : xn = 0
      · have b6 : decide (0 < xn) = false := by simp; omega
        have HN := Lib.hid (NS.out (by simp [noptN, b2, b6]))
        have b4 : (xn != 0) = false := by simp [h3]
        clear NS NN h1 h2 h3 b5 b6
        go_wp2
        go_roundw
        case rel => exact ⟨k + 1, by omega, by go_num, HN, below_to hW (ba1 _ _)⟩
        case measure => simp [intOf]; try omega
      · have b6 : decide (0 < xn) = true := by simp; omega
        have HN := Lib.hid (NN.out (by simp [noptN, b5, b6]))
        have b4 : (xn != 0) = true := by simpa using h3
        clear NS NN h1 h2 h3 b5 b6
        go_wp2
        go_ret2
        exact ⟨by rw [HV.out, HN.out]; try rfl, (below_to hy hW).alloc (by have := (below_to hy hW).size; omega) _⟩
    · obtain rfl : k = g.length := by omega
      go_wp2
      go_ret2
      exact ⟨by rw [HV.out, hv.out]; try rfl, below_to hy hW⟩
end Go.Proofs.Ythlcmlngmcoknaa
