/- What is proved here: contracts of functions and plain facts, several texts in one; each one says ahead what it proves, and its conditions. -/
import Derived.Test.YtfoemacgmehpiaaC32
import Derived.Test.YtfoemacgmehpiaaC22
import Derived.Test.YtfoemacgmehpiaaC15
/- What is proved here: the contract of sparse.Cost. Condition: a system and a slice of fractions that can be read. -/
namespace Go.Proofs.Ytfoemacgmehpiaa
open Go.RowKit

set_option maxRecDepth 100000 in
set_option maxHeartbeats 16000000 in
theorem scost_any (A : List (List Int)) (B : List Int) (c : Int) (x : List (Int × Int)) (va vb vx : Value) (w : World) (hA : SS w va A) (hB : SI w vb B) (hx : SF w vx x) (ix : FI x) :
    Calls Try.prog 22 #[.agg #[va, vb], .int .i64 c, vx] w fun e w' => e = .returned (.tuple #[.agg #[.int .i64 (sCost A B c x).n, .int .i64 (sCost A B c x).d], .int .i64 (sCost A B c x).e]) ∧ Below w.heap.size w w' := by
  have IX := Lib.hid ix
  clear ix
  go_enter Try.func22, Try.ntmps22
  have oS := own_first w 25 [va, vb] (.cells #[.int .i64 0, .int .i64 0] 39)
  have oR := own_second w 39 [.int .i64 0, .int .i64 0] (.cells #[va, vb] 25)
  have hY := ba2 w (.cells #[va, vb] 25) (.cells #[.int .i64 0, .int .i64 0] 39)
  replace hA := hA.below hY
  replace hB := hB.below hY
  replace hx := hx.below hY
  obtain ⟨rS, fS⟩ := oS.rules
  have zS := oS.lt
  obtain ⟨rR, fR⟩ := oR.rules
  have zR := oR.lt
  go_wp2_with fail
  refine (sready_any A B c _ _ _ hA hB).mono ?_
  rintro e y1 ⟨rfl, hq⟩
  clear rS fS zS rR fR zR
  replace oS := oS.below hq
  replace oR := oR.below hq
  replace hA := hA.below hq
  replace hB := hB.below hq
  replace hx := hx.below hq
  replace hY := below_to hY hq
  clear hq
  obtain ⟨rS, fS⟩ := oS.rules
  have zS := oS.lt
  obtain ⟨rR, fR⟩ := oR.rules
  have zR := oR.lt
  by_cases h0 : scheck A B c = 0
  case neg =>
    have HV := Lib.hid (sCost_c (x := x) h0)
    have b1 : (scheck A B c != 0) = true := by simpa using h0
    clear h0 hA hB hx
    have hB := hY
    go_wp2
    replace oR := ((oR).set 0 (.int .i64 0)).set 1 (.int .i64 0)
    replace hB := ((hB).setCell (p := ⟨w.heap.size + 1, 0, none⟩) (by first | omega | (simp; done) | (simp; omega)) (.int .i64 0)).setCell (p := ⟨w.heap.size + 1, 1, none⟩) (by first | omega | (simp; done) | (simp; omega)) (.int .i64 0)
    refine bp_gen' (fun W => Own W _ _ _ ∧ Below w.heap.size w W) ⟨oR, hB⟩ ?_
    rintro wz ⟨oz, bz⟩
    obtain ⟨rz, fz⟩ := oz.rules
    clear oz
    refine bodyPost_ret (v := .tuple #[.agg #[.int .i64 0, .int .i64 0], .int .i64 (scheck A B c)]) (by simp [results, Try.results22, go_sem, rz]) rfl ⟨by rw [HV.out], ?_⟩
    exact bz
  have b1 : (scheck A B c != 0) = false := by simp [h0]
  have HV := Lib.hid (sCost_0 (x := x) h0)
  obtain ⟨_, hc1, hc2⟩ := scheck_of h0
  have CK := Lib.hid (fchk_small (a := c) (by omega) hc2)
  have CI : Hid (i64 c) := ⟨by omega, by omega⟩
  have NV := Lib.hid (nValue_ok (A := A) (B := B) (x := x))
  have BV := Lib.hid (sBright_ok (x := x))
  clear h0
  go_wp2_with fail
  refine (nval_any A B x _ _ _ _ hA hB hx IX.out).mono ?_
  rintro e y2 ⟨rfl, hq⟩
  clear rS fS zS rR fR zR
  replace oS := oS.below hq
  replace oR := oR.below hq
  replace hA := hA.below hq
  replace hB := hB.below hq
  replace hx := hx.below hq
  replace hY := below_to hY hq
  clear hq
  obtain ⟨rS, fS⟩ := oS.rules
  have zS := oS.lt
  obtain ⟨rR, fR⟩ := oR.rules
  have zR := oR.lt
  obtain ⟨V, hV⟩ : ∃ V, V = nValue A B x := ⟨_, rfl⟩
  rw [← hV] at HV NV ⊢
  clear hV
  by_cases h1 : V.e = 0
  case neg =>
    have HV2 := Lib.hid (price_v (b := sBright x) (c := c) h1)
    have b2 : (V.e != 0) = true := by simpa using h1
    clear h1 hA hB hx NV BV
    have hB := hY
    go_wp2
    replace oR := (((oR).set 0 (.int .i64 0)).set 1 (.int .i64 0)).alloc (.cells #[.int .i64 V.n, .int .i64 V.d] 39)
    replace hB := (((hB).setCell (p := ⟨w.heap.size + 1, 0, none⟩) (by first | omega | (simp; done) | (simp; omega)) (.int .i64 0)).setCell (p := ⟨w.heap.size + 1, 1, none⟩) (by first | omega | (simp; done) | (simp; omega)) (.int .i64 0)).alloc (by first | omega | (simp; done) | (simp; omega)) (.cells #[.int .i64 V.n, .int .i64 V.d] 39)
    refine bp_gen' (fun W => Own W _ _ _ ∧ Below w.heap.size w W) ⟨oR, hB⟩ ?_
    rintro wz ⟨oz, bz⟩
    obtain ⟨rz, fz⟩ := oz.rules
    clear oz
    refine bodyPost_ret (v := .tuple #[.agg #[.int .i64 0, .int .i64 0], .int .i64 V.e]) (by simp [results, Try.results22, go_sem, rz]) rfl ⟨by rw [HV.out, HV2.out], ?_⟩
    exact bz
  have b2 : (V.e != 0) = false := by simp [h1]
  have E1 := Lib.hid h1
  have VK := Lib.hid (NV.out h1).2
  clear h1 NV
  go_wp2_with fail
  refine (sbright_any x _ _ (hx.below (ba1 y2 _)) IX.out).mono ?_
  rintro e y3 ⟨rfl, hq⟩
  have oP := (Own.new y2 39 [.int .i64 V.n, .int .i64 V.d]).below hq
  replace hq := below_to (ba1 y2 (.cells #[.int .i64 V.n, .int .i64 V.d] 39)) hq
  obtain ⟨bP, hbP⟩ : ∃ G, G = y2.heap.size := ⟨_, rfl⟩
  rw [← hbP] at oP ⊢
  have zP0 : y2.heap.size ≤ bP := by rw [hbP]; exact Nat.le_refl _
  clear hbP
  clear rS fS zS rR fR zR
  replace oS := oS.below hq
  replace oR := oR.below hq
  replace hA := hA.below hq
  replace hB := hB.below hq
  replace hx := hx.below hq
  replace hY := below_to hY hq
  clear hq
  obtain ⟨rS, fS⟩ := oS.rules
  have zS := oS.lt
  obtain ⟨rR, fR⟩ := oR.rules
  have zR := oR.lt
  obtain ⟨rP, fP⟩ := oP.rules
  have zP := oP.lt
  obtain ⟨b, hb⟩ : ∃ b, b = sBright x := ⟨_, rfl⟩
  rw [← hb] at HV BV ⊢
  clear hb hA hB hx
  have hB := hY
  clear hY
  by_cases h2 : b.e = 0
  case neg =>
    have HV2 := Lib.hid (price_b (c := c) E1.out h2)
    have b3 : (b.e != 0) = true := by simpa using h2
    clear h2 BV
    go_wp2
    replace oR := (((oR).set 0 (.int .i64 0)).set 1 (.int .i64 0)).alloc (.cells #[.int .i64 b.n, .int .i64 b.d] 39)
    replace hB := (((hB).setCell (p := ⟨w.heap.size + 1, 0, none⟩) (by first | omega | (simp; done) | (simp; omega)) (.int .i64 0)).setCell (p := ⟨w.heap.size + 1, 1, none⟩) (by first | omega | (simp; done) | (simp; omega)) (.int .i64 0)).alloc (by first | omega | (simp; done) | (simp; omega)) (.cells #[.int .i64 b.n, .int .i64 b.d] 39)
    refine bp_gen' (fun W => Own W _ _ _ ∧ Below w.heap.size w W) ⟨oR, hB⟩ ?_
    rintro wz ⟨oz, bz⟩
    obtain ⟨rz, fz⟩ := oz.rules
    clear oz
    refine bodyPost_ret (v := .tuple #[.agg #[.int .i64 0, .int .i64 0], .int .i64 b.e]) (by simp [results, Try.results22, go_sem, rz]) rfl ⟨by rw [HV.out, HV2.out], ?_⟩
    exact bz
  have b3 : (b.e != 0) = false := by simp [h2]
  have E2 := Lib.hid h2
  have BK := Lib.hid (BV.out h2)
  have H2 := Lib.hid (fmul_FOk VK.out (show fchk 1 2 = 0 by decide))
  have M2 := Lib.hid (fmul_FOk CK.out BK.out)
  have I1 := Lib.hid (fr_i64 VK.out)
  have I2 := Lib.hid (fr_i64 BK.out)
  have PH := Lib.hid (price_h (c := c) E1.out E2.out)
  have PM := Lib.hid (price_m (c := c) E1.out E2.out)
  have P0 := Lib.hid (price_0 (c := c) E1.out E2.out)
  have J1 := Lib.hid (fmul_i64 V.n V.d 1 2)
  have J2 := Lib.hid (fmul_i64 c 1 b.n b.d)
  clear h2 BV
  go_wp2_with fail
  refine (fmul_any V.n V.d 1 2 _ I1.out.1 I1.out.2 ⟨by decide, by decide⟩ ⟨by decide, by decide⟩).mono ?_
  rintro e y4 ⟨rfl, hq⟩
  have oQ := (Own.new y3 39 [.int .i64 b.n, .int .i64 b.d]).below hq
  replace hq := below_to (ba1 y3 (.cells #[.int .i64 b.n, .int .i64 b.d] 39)) hq
  obtain ⟨bQ, hbQ⟩ : ∃ G, G = y3.heap.size := ⟨_, rfl⟩
  rw [← hbQ] at oQ ⊢
  have zQ0 : y3.heap.size ≤ bQ := by rw [hbQ]; exact Nat.le_refl _
  clear hbQ
  clear rS fS zS rR fR zR rP fP zP
  replace oS := oS.below hq
  replace oR := oR.below hq
  replace oP := oP.below hq
  replace hB := below_to hB hq
  clear hq
  obtain ⟨rS, fS⟩ := oS.rules
  have zS := oS.lt
  obtain ⟨rR, fR⟩ := oR.rules
  have zR := oR.lt
  obtain ⟨rP, fP⟩ := oP.rules
  have zP := oP.lt
  obtain ⟨rQ, fQ⟩ := oQ.rules
  have zQ := oQ.lt
  generalize fmul V.n V.d 1 2 = hf at *
  by_cases h3 : hf.e = 0
  case neg =>
    have HV2 := Lib.hid (PH.out h3)
    have b4 : (hf.e != 0) = true := by simpa using h3
    clear h3 PH PM P0
    go_wp2
    replace oR := (((oR).set 0 (.int .i64 0)).set 1 (.int .i64 0)).alloc (.cells #[.int .i64 hf.n, .int .i64 hf.d] 39)
    replace hB := (((hB).setCell (p := ⟨w.heap.size + 1, 0, none⟩) (by first | omega | (simp; done) | (simp; omega)) (.int .i64 0)).setCell (p := ⟨w.heap.size + 1, 1, none⟩) (by first | omega | (simp; done) | (simp; omega)) (.int .i64 0)).alloc (by first | omega | (simp; done) | (simp; omega)) (.cells #[.int .i64 hf.n, .int .i64 hf.d] 39)
    refine bp_gen' (fun W => Own W _ _ _ ∧ Below w.heap.size w W) ⟨oR, hB⟩ ?_
    rintro wz ⟨oz, bz⟩
    obtain ⟨rz, fz⟩ := oz.rules
    clear oz
    refine bodyPost_ret (v := .tuple #[.agg #[.int .i64 0, .int .i64 0], .int .i64 16]) (by simp [results, Try.results22, go_sem, rz]) rfl ⟨by rw [HV.out, HV2.out], ?_⟩
    exact bz
  have b4 : (hf.e != 0) = false := by simp [h3]
  have E3 := Lib.hid h3
  clear h3
  go_wp2_with fail
  have oH := Own.new y4 39 [.int .i64 hf.n, .int .i64 hf.d]
  have hq := ba1 y4 (.cells #[.int .i64 hf.n, .int .i64 hf.d] 39)
  obtain ⟨bH, hbH⟩ : ∃ G, G = y4.heap.size := ⟨_, rfl⟩
  rw [← hbH] at oH ⊢
  clear hbH
  generalize y4.alloc (.cells #[.int .i64 hf.n, .int .i64 hf.d] 39) = y5 at *
  clear rS fS zS rR fR zR rP fP zP rQ fQ zQ
  replace oS := oS.below hq
  replace oR := oR.below hq
  replace oP := oP.below hq
  replace oQ := oQ.below hq
  replace hB := below_to hB hq
  clear hq
  obtain ⟨rS, fS⟩ := oS.rules
  have zS := oS.lt
  obtain ⟨rR, fR⟩ := oR.rules
  have zR := oR.lt
  obtain ⟨rP, fP⟩ := oP.rules
  have zP := oP.lt
  obtain ⟨rQ, fQ⟩ := oQ.rules
  have zQ := oQ.lt
  go_wp2_with fail
  have gl := @grow_lt
  refine wp_region_fs [(7, ⟨39, [.int .i64 0, .int .i64 0], fun b => .pointer (some ⟨b, 0, none⟩)⟩)] [0, 2] [.op 1, .op 3, .tk 4, .tk 5, .tk 6, .fl 7, .op 8] [9] (by kernel_rfl) (by kernel_rfl) ⟨fun ρ W => by kernel_rfl, trivial⟩ (fun _ _ _ _ _ h => h) (fun _ _ _ _ _ h => h) ?_
  try simp only [opsAt, List.getElem?_toArray, List.getElem?_cons_zero, List.getElem?_cons_succ, Option.getD_some]
  repeat (go_big_quiet_step (fail))
  refine wpQuiet_nil ?_
  clear gl
  refine wpFl_op rfl ?_
  intro w3 hb3 K' hK'
  go_simp
  refine (swhole_any c _).mono ?_
  rintro e w5 ⟨rfl, hq⟩
  refine hK' _ _ (Mod.of_below hq) ?_
  clear hK' K'
  have hF := below_to hb3 hq
  clear hb3 hq
  refine wpFl_op rfl ?_
  intro w3 hb3 K' hK'
  go_simp
  refine (fmul_any c 1 b.n b.d _ CI.out ⟨by decide, by decide⟩ I2.out.1 I2.out.2).mono ?_
  rintro e w5 ⟨rfl, hq⟩
  refine hK' _ _ (Mod.of_below hq) ?_
  clear hK' K'
  replace hF := below_to hF (below_to hb3 hq)
  clear hb3 hq
  refine wpFl_tk ?_
  try simp only [opsAt, List.getElem?_toArray, List.getElem?_cons_zero, List.getElem?_cons_succ, Option.getD_some]
  repeat (go_big_quiet_step (fail))
  refine wpQuiet_nil ?_
  refine wpFl_tk ?_
  try simp only [opsAt, List.getElem?_toArray, List.getElem?_cons_zero, List.getElem?_cons_succ, Option.getD_some]
  repeat (go_big_quiet_step (fail))
  refine wpQuiet_nil ?_
  refine wpFl_tk ?_
  try simp only [opsAt, List.getElem?_toArray, List.getElem?_cons_zero, List.getElem?_cons_succ, Option.getD_some]
  repeat (go_big_quiet_step (fail))
  refine wpQuiet_nil ?_
  refine wpFl_fl rfl ?_
  intro bM w6 hb6 oM zM0 _
  go_simp
  replace hF := below_to hF hb6
  refine wpFl_op rfl ?_
  intro w7 hb7 K' hK'
  replace oM := oM.below hb7
  replace hF := below_to hF hb7
  clear hb6 hb7
  obtain ⟨rM, fM⟩ := oM.rules
  have zM := oM.lt
  go_wp2_with fail
  refine hK' _ _ (((Mod.refl _ _).set (by simp) _).set (by simp) _) ?_
  clear hK' K' rM fM zM
  replace oM := (oM.set 0 (.int .i64 (fmul c 1 b.n b.d).n)).set 1 (.int .i64 (fmul c 1 b.n b.d).d)
  replace hF := (hF.setCell (p := ⟨bM, 0, none⟩) zM0 (.int .i64 (fmul c 1 b.n b.d).n)).setCell (p := ⟨bM, 1, none⟩) zM0 (.int .i64 (fmul c 1 b.n b.d).d)
  refine wpFl_nil (fun w8 hb8 => ?_)
  replace oM := oM.below hb8
  replace hF := below_to hF hb8
  clear hb8
  try simp only [opsAt, List.getElem?_toArray, List.getElem?_cons_zero, List.getElem?_cons_succ, Option.getD_some]
  clear rS fS zS rR fR zR rP fP zP rQ fQ zQ oS oP oQ
  replace oR := oR.below hF
  replace oH := oH.below hF
  replace hB := below_to hB hF
  clear hF
  generalize fmul c 1 b.n b.d = mc at *
  obtain ⟨rR, fR⟩ := oR.rules
  have zR := oR.lt
  obtain ⟨rM, fM⟩ := oM.rules
  have zM := oM.lt
  obtain ⟨rH, fH⟩ := oH.rules
  have zH := oH.lt
  by_cases h4 : mc.e = 0
  case neg =>
    have HV2 := Lib.hid (PM.out E3.out h4)
    have b5 : (mc.e != 0) = true := by simpa using h4
    clear h4 PH PM P0
    go_wp2
    replace oR := ((oR).set 0 (.int .i64 0)).set 1 (.int .i64 0)
    replace hB := ((hB).setCell (p := ⟨w.heap.size + 1, 0, none⟩) (by first | omega | (simp; done) | (simp; omega)) (.int .i64 0)).setCell (p := ⟨w.heap.size + 1, 1, none⟩) (by first | omega | (simp; done) | (simp; omega)) (.int .i64 0)
    refine bp_gen' (fun W => Own W _ _ _ ∧ Below w.heap.size w W) ⟨oR, hB⟩ ?_
    rintro wz ⟨oz, bz⟩
    obtain ⟨rz, fz⟩ := oz.rules
    clear oz
    refine bodyPost_ret (v := .tuple #[.agg #[.int .i64 0, .int .i64 0], .int .i64 16]) (by simp [results, Try.results22, go_sem, rz]) rfl ⟨by rw [HV.out, HV2.out], ?_⟩
    exact bz
  have b5 : (mc.e != 0) = false := by simp [h4]
  have HV2 := Lib.hid (P0.out E3.out h4)
  have F5 := Lib.hid (fadd_FOk (H2.out.v E3.out) (M2.out.v h4))
  clear h4 PH PM P0
  go_wp2_with fail
  refine (fadd_any hf.n hf.d mc.n mc.d _ J1.out.1 J1.out.2 J2.out.1 J2.out.2).mono ?_
  rintro e y6 ⟨rfl, hq⟩
  clear rR fR zR rM fM zM rH fH zH
  replace oR := oR.below hq
  replace oM := oM.below hq
  replace oH := oH.below hq
  replace hB := below_to hB hq
  clear hq
  obtain ⟨rR, fR⟩ := oR.rules
  have zR := oR.lt
  obtain ⟨rM, fM⟩ := oM.rules
  have zM := oM.lt
  obtain ⟨rH, fH⟩ := oH.rules
  have zH := oH.lt
  generalize fadd hf.n hf.d mc.n mc.d = r at *
  by_cases h5 : r.e = 0
  case neg =>
    have E5 := Lib.hid (F5.out.e h5)
    have b6 : (r.e != 0) = true := by simpa using h5
    clear h5
    go_wp2
    replace oR := (((oR).set 0 (.int .i64 0)).set 1 (.int .i64 0)).alloc (.cells #[.int .i64 r.n, .int .i64 r.d] 39)
    replace hB := (((hB).setCell (p := ⟨w.heap.size + 1, 0, none⟩) (by first | omega | (simp; done) | (simp; omega)) (.int .i64 0)).setCell (p := ⟨w.heap.size + 1, 1, none⟩) (by first | omega | (simp; done) | (simp; omega)) (.int .i64 0)).alloc (by first | omega | (simp; done) | (simp; omega)) (.cells #[.int .i64 r.n, .int .i64 r.d] 39)
    refine bp_gen' (fun W => Own W _ _ _ ∧ Below w.heap.size w W) ⟨oR, hB⟩ ?_
    rintro wz ⟨oz, bz⟩
    obtain ⟨rz, fz⟩ := oz.rules
    clear oz
    refine bodyPost_ret (v := .tuple #[.agg #[.int .i64 0, .int .i64 0], .int .i64 16]) (by simp [results, Try.results22, go_sem, rz]) rfl ⟨by rw [HV.out, HV2.out, E5.out], ?_⟩
    exact bz
  have b6 : (r.e != 0) = false := by simp [h5]
  have E5 := Lib.hid h5
  clear h5
  go_wp2
  replace oR := (((oR).set 0 (.int .i64 r.n)).set 1 (.int .i64 r.d)).alloc (.cells #[.int .i64 r.n, .int .i64 r.d] 39)
  replace hB := (((hB).setCell (p := ⟨w.heap.size + 1, 0, none⟩) (by first | omega | (simp; done) | (simp; omega)) (.int .i64 r.n)).setCell (p := ⟨w.heap.size + 1, 1, none⟩) (by first | omega | (simp; done) | (simp; omega)) (.int .i64 r.d)).alloc (by first | omega | (simp; done) | (simp; omega)) (.cells #[.int .i64 r.n, .int .i64 r.d] 39)
  refine bp_gen' (fun W => Own W _ _ _ ∧ Below w.heap.size w W) ⟨oR, hB⟩ ?_
  rintro wz ⟨oz, bz⟩
  obtain ⟨rz, fz⟩ := oz.rules
  clear oz
  refine bodyPost_ret (v := .tuple #[.agg #[.int .i64 r.n, .int .i64 r.d], .int .i64 0]) (by simp [results, Try.results22, go_sem, rz]) rfl ⟨by rw [HV.out, HV2.out, E5.out], ?_⟩
  exact bz
end Go.Proofs.Ytfoemacgmehpiaa
