/- What is proved here: contracts of functions and plain facts, several texts in one; each one says ahead what it proves, and its conditions. -/
import Derived.Test.YtfoemacgmehpiaaM13
import Derived.Test.YtfoemacgmehpiaaM24
import Derived.Test.YtfoemacgmehpiaaM25
import Derived.Test.YtfoemacgmehpiaaM01
import Derived.Test.YtfoemacgmehpiaaM10
import Derived.Deep.DeepCutAuto
import Derived.IntWalk
import Derived.Test.YtfoemacgmehpiaaM17
/- What is proved here: the contract of nnls.Residual. Condition: a system and a slice of fractions that can be read. -/
namespace Go.Proofs.Ytfoemacgmehpiaa
open Go.RowKit

set_option maxRecDepth 100000 in
set_option maxHeartbeats 16000000 in
theorem nresid_own (A : List (List Int)) (B : List Int) (x : List (Int × Int)) (va vb vx : Value) (w : World) (hA : SS w va A) (hB : SI w vb B) (hx : SF w vx x) (ix : FI x) :
    Calls Try.prog 44 #[.agg #[va, vb], vx] w (rows_own w (nResidual A B x)) := by
  have IX := Lib.hid ix
  obtain ⟨ada, capa, rfl, ha1, ha2, _⟩ := hA.open
  obtain ⟨adb, capb, rfl, hb1, hb2, _⟩ := hB.open
  obtain ⟨adx, capx, rfl, hx1, hx2, _⟩ := hx.open
  clear ix
  go_enter Try.func44, Try.ntmps44
  have oS := Own.new w 25 [.slice ada A.length capa, .slice adb B.length capb]
  have hy := ba1 w (.cells #[.slice ada A.length capa, .slice adb B.length capb] 25)
  replace hA := hA.below hy
  replace hB := hB.below hy
  replace hx := hx.below hy
  obtain ⟨rS, fS⟩ := oS.rules
  have zS := oS.lt
  go_wp2_with fail
  refine (npoint_any A B x _ _ _ _ hA hB hx IX.out).mono ?_
  rintro e y1 ⟨rfl, hq⟩
  clear rS fS zS
  replace oS := oS.below hq
  replace hA := hA.below hq
  replace hB := hB.below hq
  replace hx := hx.below hq
  replace hy := below_to hy hq
  clear hq
  obtain ⟨rS, fS⟩ := oS.rules
  have zS := oS.lt
  by_cases h0 : npoint A B x = 0
  case neg =>
    have HV : Hid (nResidual A B x = ([], npoint A B x)) := if_neg h0
    have b1 : (npoint A B x != 0) = true := by simpa using h0
    clear h0 hA hB hx
    go_wp2
    go_ret2
    exact ⟨.slice none 0 0, by rw [HV.out]; try rfl, by rw [HV.out]; exact owns_nil _ _, hy⟩
  have b1 : (npoint A B x != 0) = false := by simp [h0]
  have HV : Hid (nResidual A B x = rowsOf (nres A B x) A.length) := if_pos h0
  have FX := Lib.hid (FitX.of h0)
  have l1 : A.length ≤ 100 := FX.out.few.1
  have l2 : x.length ≤ 100 := FX.out.few.2
  have l3 : A.length ≤ B.length := by rw [FX.out.right]; exact Nat.le_refl _
  clear h0
  have SA := Lib.hid hA
  have SB' := Lib.hid hB
  have SX := Lib.hid hx
  clear hA hB hx
  have MK := mk_fracs0 A.length (by omega)
  go_wp2
  clear MK
  have ow := owns_made y1 A.length (by omega) 39 y1.heap.size (Nat.le_refl _)
  have hW := ba1 y1 (.cells (fcs (List.replicate A.length (0, 0))).toArray 39)
  clear rS fS zS
  go_loopw [7, 26] (fun ov i wr => ∃ m : Nat, m ≤ A.length ∧ i = .int .i64 m ∧ Hid ((rowsOf (nres A B x) m).2 = 0) ∧ wr.ownsRow y1.heap.size 39 2 ov m (fcs (rowsOf (nres A B x) m).1) ∧ Below y1.heap.size y1 wr) (fun _ i _ => A.length - (intOf i).toNat)
  case atStart => exact ⟨0, Nat.zero_le _, rfl, rfl, ow, hW⟩
  case round =>
    clear ow hW
    obtain ⟨m, hm, rfl, hr, ow, hW⟩ := hrel
    rename World => W
    by_cases hlt : m < A.length
    · have hmB : m < B.length := by omega
      obtain ⟨_, _, e, _, _, H⟩ := (SA.out.below hW).open
      cases e
      obtain ⟨b, off, ad', cap', rfl, c1, c2, c3, sR⟩ := H.out m hlt
      obtain ⟨_, _, e, _, _, H'⟩ := (SB'.out.below hW).open
      cases e
      obtain ⟨b', off', rfl, c4⟩ := H'.out m hmB
      clear H H'
      have hwd := FX.out.wide m hlt
      have hco := FX.out.coef m hlt
      have SR := Lib.hid sR
      have HD := Lib.hid (row_dot hlt hwd)
      have I1 := Lib.hid (i64_small (FX.out.side m hmB).1 (FX.out.side m hmB).2)
      have F1 := Lib.hid (FX.out.row_ok (k := x.length) hlt (Nat.le_refl _))
      have F2 := Lib.hid (FX.out.res_ok hlt)
      have N0 := Lib.hid (nres_0 (A := A) (B := B) (x := x) (i := m))
      have N1 := Lib.hid (nres_1 (A := A) (B := B) (x := x) (i := m))
      rw [getD_get hmB] at N0
      have RE := Lib.hid (fun h => rows_end (N := A.length) hr.out hlt h)
      have RS := Lib.hid (fun h => rows_succ (f := nres A B x) hr.out h)
      have HWD := Lib.hid hwd
      have l4 : A[m].length ≤ x.length := by rw [HWD.out]; exact Nat.le_refl _
      have HCO := Lib.hid hco
      have GI := Lib.hid (gsum_i64 (rowT A x m) x.length)
      clear hwd hco sR
      generalize A[m] = row at *
      generalize B[m] = bm at *
      replace oS := oS.below hW
      obtain ⟨rS, fS⟩ := oS.rules
      have zS := oS.lt
      go_wp2_with fail
      refine (ndot_any row x _ _ _ SR.out (SX.out.below hW) l4 HCO.out FX.out.val).mono ?_
      rintro e y2 ⟨rfl, hq⟩
      rw [HD.out]
      clear rS fS zS
      replace oS := oS.below hq
      replace ow := owns_at ow hq
      replace c4 := below_cell hq c4
      replace hW := below_to hW hq
      clear hq c1
      generalize gsum (rowT A x m) x.length = p at *
      obtain ⟨r, hrr⟩ : ∃ r, r = nres A B x m := ⟨_, rfl⟩
      rw [← hrr] at F2 N0 N1 RE RS
      clear hrr
      by_cases h1 : p.e = 0
      case neg =>
        have b2 : (p.e != 0) = true := by simpa using h1
        have HV2 : Hid (rowsOf (nres A B x) A.length = ([], p.e)) := by
          show _ = _
          rw [RE.out (by rw [N1.out h1]; exact h1), N1.out h1]
        clear h1 RE RS N0 N1 F1 F2 ow
        obtain ⟨rS, fS⟩ := oS.rules
        have zS := oS.lt
        go_wp2
        go_ret2
        exact ⟨.slice none 0 0, by rw [HV.out, HV2.out]; try rfl, by rw [HV.out, HV2.out]; exact owns_nil _ _, (below_to hy hW).alloc (by have := (below_to hy hW).size; omega) _⟩
      have b2 : (p.e != 0) = false := by simp [h1]
      have HQ := Lib.hid (N0.out h1)
      clear h1 N0 N1
      obtain ⟨rS, fS⟩ := oS.rules
      have zS := oS.lt
      go_wp2_with fail
      have oP := Own.new y2 39 [.int .i64 p.n, .int .i64 p.d]
      replace oS := oS.alloc (.cells #[.int .i64 p.n, .int .i64 p.d] 39)
      replace ow := owns_at ow (ba1 y2 (.cells #[.int .i64 p.n, .int .i64 p.d] 39))
      replace hW := below_to hW (ba1 y2 (.cells #[.int .i64 p.n, .int .i64 p.d] 39))
      replace c4 := below_cell (ba1 y2 (.cells #[.int .i64 p.n, .int .i64 p.d] 39)) c4
      clear rS fS zS
      obtain ⟨G, hG⟩ : ∃ G, G = y2.heap.size := ⟨_, rfl⟩
      rw [← hG] at oP ⊢
      clear hG
      generalize y2.alloc (.cells #[.int .i64 p.n, .int .i64 p.d] 39) = y3 at *
      have zb := World.block_lt_of_cell? _ _ c4
      simp only at zb
      obtain ⟨rS, fS⟩ := oS.rules
      have zS := oS.lt
      obtain ⟨rP, fP⟩ := oP.rules
      have zP := oP.lt
      go_wp2_with fail
      have gl := @grow_lt
      refine wp_region_fs [(11, ⟨39, [.int .i64 0, .int .i64 0], fun b => .pointer (some ⟨b, 0, none⟩)⟩)] [0, 1, 2, 3, 4, 5, 6] [.op 7, .tk 8, .tk 9, .tk 10, .fl 11, .op 12] [13] (by kernel_rfl) (by kernel_rfl) ⟨fun ρ W => by kernel_rfl, trivial⟩ (fun _ _ _ _ _ h => h) (fun _ _ _ _ _ h => h) ?_
      try simp only [opsAt, List.getElem?_toArray, List.getElem?_cons_zero, List.getElem?_cons_succ, Option.getD_some]
      repeat (go_big_quiet_step (fail))
      refine wpQuiet_nil ?_
      clear gl
      refine wpFl_op rfl ?_
      intro w3 hb3 K' hK'
      go_simp
      refine (fsub_any p.n p.d bm 1 _ GI.out.1 GI.out.2 I1.out i64_1).mono ?_
      rintro e w5 ⟨rfl, hq⟩
      refine hK' _ _ (Mod.of_below hq) ?_
      clear hK' K'
      have hF := below_to hb3 hq
      clear hb3 hq
      rw [← HQ.out]
      refine wpFl_tk ?_
      try simp only [opsAt, List.getElem?_toArray, List.getElem?_cons_zero, List.getElem?_cons_succ, Option.getD_some]
      repeat (go_big_quiet_step (fail))
      refine wpQuiet_nil ?_
      refine wpFl_tk ?_
      try simp only [opsAt, List.getElem?_toArray, List.getElem?_cons_zero, List.getElem?_cons_succ, Option.getD_some]
      repeat (go_big_quiet_step (fail))
      refine wpQuiet_nil ?_
      refine wpFl_tk ?_
      try simp only [opsAt, List.getElem?_toArray, List.getElem?_cons_zero, List.getElem?_cons_succ, Option.getD_some]
      repeat (go_big_quiet_step (fail))
      refine wpQuiet_nil ?_
      refine wpFl_fl rfl ?_
      intro bD w6 hb6 oD zD0 _
      go_simp
      replace hF := below_to hF hb6
      refine wpFl_op rfl ?_
      intro w7 hb7 K' hK'
      replace oD := oD.below hb7
      replace hF := below_to hF hb7
      clear hb6 hb7
      obtain ⟨rD, fD⟩ := oD.rules
      have zD := oD.lt
      go_wp2_with fail
      refine hK' _ _ (((Mod.refl _ _).set (by simp) _).set (by simp) _) ?_
      clear hK' K' rD fD zD
      replace oD := (oD.set 0 (.int .i64 r.n)).set 1 (.int .i64 r.d)
      replace hF := (hF.setCell (p := ⟨bD, 0, none⟩) zD0 (.int .i64 r.n)).setCell (p := ⟨bD, 1, none⟩) zD0 (.int .i64 r.d)
      refine wpFl_nil (fun w8 hb8 => ?_)
      replace oD := oD.below hb8
      replace hF := below_to hF hb8
      clear hb8
      try simp only [opsAt, List.getElem?_toArray, List.getElem?_cons_zero, List.getElem?_cons_succ, Option.getD_some]
      clear rS fS zS rP fP zP c4 zb
      replace ow := owns_at ow hF
      replace hW := below_to hW hF
      replace oS := oS.below hF
      clear hF oP HQ
      by_cases h2 : r.e = 0
      case neg =>
        have b3 : (r.e != 0) = true := by simpa using h2
        have HV2 : Hid (rowsOf (nres A B x) A.length = ([], 16)) := by
          show _ = _
          rw [RE.out h2, F2.out.e h2]
        clear h2 RE RS F1 F2 ow oD oS
        go_wp2
        go_ret2
        exact ⟨.slice none 0 0, by rw [HV.out, HV2.out]; try rfl, by rw [HV.out, HV2.out]; exact owns_nil _ _, below_to hy hW⟩
      have b3 : (r.e != 0) = false := by simp [h2]
      have HF := Lib.hid (RS.out h2)
      have HE2 := Lib.hid (congrArg Prod.snd HF.out)
      have HE1 := Lib.hid (congrArg (fun r => fcs r.1) HF.out)
      clear h2 RE RS HF F1 F2 oS
      have zr := hW.size
      obtain ⟨rD, fD⟩ := oD.rules
      have zD := oD.lt
      go_wp2_with (at_builtin; refine wpList_app _ rfl _ _ _ rfl y1.heap.size 39 2 16 (.agg #[.int .i64 0, .int .i64 0]) Try.underlying26 Try.infoFrac rfl (by omega) (by omega) _ m _ rfl (ow.alloc _) (by omega) (by simp; omega) w8.heap.size [.int .i64 r.n, .int .i64 r.d] (0, 0) rfl (heap_alloc_new w8 _) rfl (by simp [Value.oneCell']) ?_; intro g cap2 w9 hown hg hbw)
      go_roundw
      case rel =>
        refine ⟨m + 1, by omega, by go_num, HE2, ?_, ?_⟩
        · rw [HE1.out, fcs_append]; exact hown
        · exact (below_to hW (ba1 w8 _)).trans (hbw.mono (Nat.le_refl _))
      case measure => simp [intOf]; try omega
    · obtain rfl : m = A.length := by omega
      go_wp2
      go_ret2
      refine ⟨u7, by rw [HV.out, hr.out]; try rfl, ?_, below_to hy hW⟩
      rw [HV.out, rows_len _ hr.out]
      exact owns_base ow hy.size
theorem nresid_any (A : List (List Int)) (B : List Int) (x : List (Int × Int)) (va vb vx : Value) (w : World) (hA : SS w va A) (hB : SI w vb B) (hx : SF w vx x) (ix : FI x) :
    Calls Try.prog 44 #[.agg #[va, vb], vx] w (rows_post w (nResidual A B x)) := (nresid_own A B x va vb vx w hA hB hx ix).mono fun _ _ h => rows_own_post h
end Go.Proofs.Ytfoemacgmehpiaa

/- What is proved here: the contract of nnls.Gradient. Condition: a system and a slice of fractions that can be read. -/
namespace Go.Proofs.Ytfoemacgmehpiaa
open Go.RowKit

set_option maxRecDepth 100000 in
set_option maxHeartbeats 16000000 in
theorem ngrad_own (A : List (List Int)) (B : List Int) (x : List (Int × Int)) (va vb vx : Value) (w : World) (hA : SS w va A) (hB : SI w vb B) (hx : SF w vx x) (ix : FI x) :
    Calls Try.prog 32 #[.agg #[va, vb], vx] w (rows_own w (nGradient A B x)) := by
  have IX := Lib.hid ix
  obtain ⟨adx, capx, rfl, hx1, hx2, _⟩ := hx.open
  clear ix
  go_enter Try.func32, Try.ntmps32
  have oS := Own.new w 25 [va, vb]
  have hy := ba1 w (.cells #[va, vb] 25)
  replace hA := hA.below hy
  replace hB := hB.below hy
  replace hx := hx.below hy
  obtain ⟨rS, fS⟩ := oS.rules
  have zS := oS.lt
  go_wp2_with fail
  refine (nresid_any A B x _ _ _ _ hA hB hx IX.out).mono ?_
  rintro e y1 ⟨u, rfl, su, hq⟩
  clear rS fS zS
  replace oS := oS.below hq
  replace hA := hA.below hq
  replace hB := hB.below hq
  replace hx := hx.below hq
  replace hy := below_to hy hq
  clear hq
  obtain ⟨rS, fS⟩ := oS.rules
  have zS := oS.lt
  by_cases h0 : (nResidual A B x).2 = 0
  case neg =>
    have HV := Lib.hid (nGrad_1 h0)
    have b1 : ((nResidual A B x).2 != 0) = true := by simpa using h0
    clear h0 hA hB hx su
    go_wp2
    go_ret2
    exact ⟨.slice none 0 0, by rw [HV.out]; try rfl, by rw [HV.out]; exact owns_nil _ _, hy⟩
  have b1 : ((nResidual A B x).2 != 0) = false := by simp [h0]
  have HV := Lib.hid (nGrad_0 h0)
  obtain ⟨hp, hpe⟩ := nresid_parts h0
  have FX := Lib.hid (FitX.of hp)
  have RO := Lib.hid (resid_ok FX.out (by rw [← hpe]; exact h0))
  rw [← hpe] at RO
  have l1 : A.length ≤ 100 := FX.out.few.1
  have l2 : x.length ≤ 100 := FX.out.few.2
  clear h0 hp hpe
  generalize (nResidual A B x).1 = rs at *
  obtain ⟨adu, capu, rfl, hu1, hu2, _⟩ := su.open
  have SA := Lib.hid hA
  have SU := Lib.hid su
  clear hA hB hx su
  have MK := mk_fracs0 x.length (by omega)
  go_wp2
  clear MK
  have ow := owns_made y1 x.length (by omega) 39 y1.heap.size (Nat.le_refl _)
  have hW := ba1 y1 (.cells (fcs (List.replicate x.length (0, 0))).toArray 39)
  clear rS fS zS
  go_loopw [8, 26] (fun ov i wr => ∃ m : Nat, m ≤ x.length ∧ i = .int .i64 m ∧ Hid ((rowsOf (fun k => gsum (colT A rs k) A.length) m).2 = 0) ∧ wr.ownsRow y1.heap.size 39 2 ov m (fcs (rowsOf (fun k => gsum (colT A rs k) A.length) m).1) ∧ Below y1.heap.size y1 wr) (fun _ i _ => x.length - (intOf i).toNat)
  case atStart => exact ⟨0, Nat.zero_le _, rfl, rfl, ow, hW⟩
  case round =>
    clear ow hW
    obtain ⟨m, hm, rfl, hr, ow, hW⟩ := hrel
    rename World => W
    by_cases hlt : m < x.length
    · have HD := Lib.hid (col_dot (A := A) (r := rs) (k := m))
      have RE := Lib.hid (fun h => rows_end (N := x.length) hr.out hlt h)
      have RS := Lib.hid (fun h => rows_succ (f := fun k => gsum (colT A rs k) A.length) hr.out h)
      have HC := Lib.hid (FX.out.col_small hlt)
      have HK : Hid (∀ i (h : i < A.length), m < A[i].length) := fun i hi => by rw [FX.out.wide i hi]; exact hlt
      have l4 : (colOf A m).length ≤ rs.length := by rw [colOf_len, RO.out.1]; exact Nat.le_refl _
      replace oS := oS.below hW
      obtain ⟨rS, fS⟩ := oS.rules
      have zS := oS.lt
      go_wp2_with fail
      refine (ncol_any A m _ _ _ (SA.out.below hW) l1 HK.out).mono ?_
      rintro e y2 ⟨uc, rfl, sc, hq⟩
      clear rS fS zS
      replace oS := oS.below hq
      replace ow := owns_at ow hq
      replace hW := below_to hW hq
      clear hq
      go_wp2_with fail
      refine (ndot_any (colOf A m) rs _ _ _ sc (SU.out.below hW) l4 HC.out RO.out.2).mono ?_
      rintro e y3 ⟨rfl, hq⟩
      rw [HD.out]
      clear sc
      replace oS := oS.below hq
      replace ow := owns_at ow hq
      replace hW := below_to hW hq
      clear hq
      generalize gsum (colT A rs m) A.length = p at *
      by_cases h1 : p.e = 0
      case neg =>
        have b2 : (p.e != 0) = true := by simpa using h1
        have HV2 := Lib.hid (RE.out h1)
        clear h1 RE RS ow
        go_wp2
        go_ret2
        exact ⟨.slice none 0 0, by rw [HV.out, HV2.out]; try rfl, by rw [HV.out, HV2.out]; exact owns_nil _ _, (below_to hy hW).alloc (by have := (below_to hy hW).size; omega) _⟩
      have b2 : (p.e != 0) = false := by simp [h1]
      have HF := Lib.hid (RS.out h1)
      have HE2 := Lib.hid (congrArg Prod.snd HF.out)
      have HE1 := Lib.hid (congrArg (fun r => fcs r.1) HF.out)
      clear h1 RE RS HF oS
      have zr := hW.size
      go_wp2_with (at_builtin; refine wpList_app _ rfl _ _ _ rfl y1.heap.size 39 2 16 (.agg #[.int .i64 0, .int .i64 0]) Try.underlying26 Try.infoFrac rfl (by omega) (by omega) _ m _ rfl ((ow.alloc _).alloc _) (by omega) (by simp; omega) (y3.heap.size + 1) [.int .i64 p.n, .int .i64 p.d] (0, 0) rfl (by rw [← World.size_alloc]; exact heap_alloc_new (y3.alloc _) _) rfl (by simp [Value.oneCell']) ?_; intro g cap2 w9 hown hg hbw)
      go_roundw
      case rel =>
        refine ⟨m + 1, by omega, by go_num, HE2, ?_, ?_⟩
        · rw [HE1.out, fcs_append]; exact hown
        · exact (below_to hW (ba2 y3 _ _)).trans (hbw.mono (Nat.le_refl _))
      case measure => simp [intOf]; try omega
    · obtain rfl : m = x.length := by omega
      go_wp2
      go_ret2
      refine ⟨u8, by rw [HV.out, hr.out]; try rfl, ?_, below_to hy hW⟩
      rw [HV.out, rows_len _ hr.out]
      exact owns_base ow hy.size
theorem ngrad_any (A : List (List Int)) (B : List Int) (x : List (Int × Int)) (va vb vx : Value) (w : World) (hA : SS w va A) (hB : SI w vb B) (hx : SF w vx x) (ix : FI x) :
    Calls Try.prog 32 #[.agg #[va, vb], vx] w (rows_post w (nGradient A B x)) := (ngrad_own A B x va vb vx w hA hB hx ix).mono fun _ _ h => rows_own_post h
end Go.Proofs.Ytfoemacgmehpiaa
