/- What is proved here: contracts of functions and plain facts, several texts in one; each one says ahead what it proves, and its conditions. -/
import Derived.Test.YthlcmlngmcoknaaC42
import Derived.Test.YthlcmlngmcoknaaC40
import Derived.Test.YthlcmlngmcoknaaC33
import Derived.Test.YthlcmlngmcoknaaC41
/- What is proved here: the contract of sparse.Cost. Condition: a system and a slice of fractions that can be read. -/
namespace Go.Proofs.Ythlcmlngmcoknaa
open Go.RowKit

set_option maxRecDepth 100000 in
set_option maxHeartbeats 16000000 in
theorem scost_any (A : List (List Int)) (B : List Int) (c : Int) (x : List (Int × Int)) (va vb vx : Value) (w : World) (hA : SS w va A) (hB : SI w vb B) (hx : SF w vx x) (ix : FI x) :
    Calls Try.prog 97 #[.agg #[va, vb], .int .i64 c, vx] w fun e w' => e = .returned (.tuple #[.agg #[.int .i64 (sCost A B c x).n, .int .i64 (sCost A B c x).d], .int .i64 (sCost A B c x).e]) ∧ Below w.heap.size w w' := by
  have IX := Lib.hid ix
  clear ix
  go_enter Try.func97, Try.ntmps97
  have oS := own_first w 25 [va, vb] (.cells #[.int .i64 0, .int .i64 0] 78)
  have oR := own_second w 78 [.int .i64 0, .int .i64 0] (.cells #[va, vb] 25)
  have hY := ba2 w (.cells #[va, vb] 25) (.cells #[.int .i64 0, .int .i64 0] 78)
  replace hA := hA.below hY
  replace hB := hB.below hY
  replace hx := hx.below hY
  obtain ⟨rS, fS⟩ := oS.rules
  have zS := oS.lt
  obtain ⟨rR, fR⟩ := oR.rules
  have zR := oR.lt
  go_wp2_with fail
  refine (sready_any A B c _ _ _ hA hB).mono ?_
  rintro e y1 ⟨rfl, hq⟩
  clear rS fS zS rR fR zR
  replace oS := oS.below hq
  replace oR := oR.below hq
  replace hA := hA.below hq
  replace hB := hB.below hq
  replace hx := hx.below hq
  replace hY := below_to hY hq
  clear hq
  obtain ⟨rS, fS⟩ := oS.rules
  have zS := oS.lt
  obtain ⟨rR, fR⟩ := oR.rules
  have zR := oR.lt
  by_cases h0 : scheck A B c = 0
  case neg =>
    have HV := Lib.hid (sCost_c (x := x) h0)
    have b1 : (scheck A B c != 0) = true := by simpa using h0
    clear h0 hA hB hx
    have hB := hY
    go_wp2
    replace oR := ((oR).set 0 (.int .i64 0)).set 1 (.int .i64 0)
    replace hB := ((hB).setCell (p := ⟨w.heap.size + 1, 0, none⟩) (by first | omega | (simp; done) | (simp; omega)) (.int .i64 0)).setCell (p := ⟨w.heap.size + 1, 1, none⟩) (by first | omega | (simp; done) | (simp; omega)) (.int .i64 0)
    refine bp_gen' (fun W => Own W _ _ _ ∧ Below w.heap.size w W) ⟨oR, hB⟩ ?_
    rintro wz ⟨oz, bz⟩
    obtain ⟨rz, fz⟩ := oz.rules
    clear oz
    refine bodyPost_ret (v := .tuple #[.agg #[.int .i64 0, .int .i64 0], .int .i64 (scheck A B c)]) (by simp [results, Try.results97, go_sem, rz]) rfl ⟨by rw [HV.out], ?_⟩
    exact bz
  have b1 : (scheck A B c != 0) = false := by simp [h0]
  have HV := Lib.hid (sCost_0 (x := x) h0)
  obtain ⟨_, hc1, hc2⟩ := scheck_of h0
  have CK := Lib.hid (fchk_small (a := c) (by omega) hc2)
  have CI : Hid (i64 c) := ⟨by omega, by omega⟩
  have NV := Lib.hid (nValue_ok (A := A) (B := B) (x := x))
  have BV := Lib.hid (sBright_ok (x := x))
  clear h0
  go_wp2_with fail
  refine (nval_any A B x _ _ _ _ hA hB hx IX.out).mono ?_
  rintro e y2 ⟨rfl, hq⟩
  clear rS fS zS rR fR zR
  replace oS := oS.below hq
  replace oR := oR.below hq
  replace hA := hA.below hq
  replace hB := hB.below hq
  replace hx := hx.below hq
  replace hY := below_to hY hq
  clear hq
  obtain ⟨rS, fS⟩ := oS.rules
  have zS := oS.lt
  obtain ⟨rR, fR⟩ := oR.rules
  have zR := oR.lt
  obtain ⟨V, hV⟩ : ∃ V, V = nValue A B x := ⟨_, rfl⟩
  rw [← hV] at HV NV ⊢
  clear hV
  by_cases h1 : V.e = 0
  case neg =>
    have HV2 := Lib.hid (price_v (b := sBright x) (c := c) h1)
    have b2 : (V.e != 0) = true := by simpa using h1
    clear h1 hA hB hx NV BV
    have hB := hY
    go_wp2
    replace oR := (((oR).set 0 (.int .i64 0)).set 1 (.int .i64 0)).alloc (.cells #[.int .i64 V.n, .int .i64 V.d] 78)
    replace hB := (((hB).setCell (p := ⟨w.heap.size + 1, 0, none⟩) (by first | omega | (simp; done) | (simp; omega)) (.int .i64 0)).setCell (p := ⟨w.heap.size + 1, 1, none⟩) (by first | omega | (simp; done) | (simp; omega)) (.int .i64 0)).alloc (by first | omega | (simp; done) | (simp; omega)) (.cells #[.int .i64 V.n, .int .i64 V.d] 78)
    refine bp_gen' (fun W => Own W _ _ _ ∧ Below w.heap.size w W) ⟨oR, hB⟩ ?_
    rintro wz ⟨oz, bz⟩
    obtain ⟨rz, fz⟩ := oz.rules
    clear oz
    refine bodyPost_ret (v := .tuple #[.agg #[.int .i64 0, .int .i64 0], .int .i64 V.e]) (by simp [results, Try.results97, go_sem, rz]) rfl ⟨by rw [HV.out, HV2.out], ?_⟩
    exact bz
  have b2 : (V.e != 0) = false := by simp [h1]
  have E1 := Lib.hid h1
  have VK := Lib.hid (NV.out h1).2
  clear h1 NV
  go_wp2_with fail
  refine (sbright_any x _ _ (hx.below (ba1 y2 _)) IX.out).mono ?_
  rintro e y3 ⟨rfl, hq⟩
  have oP := (Own.new y2 78 [.int .i64 V.n, .int .i64 V.d]).below hq
  replace hq := below_to (ba1 y2 (.cells #[.int .i64 V.n, .int .i64 V.d] 78)) hq
  obtain ⟨bP, hbP⟩ : ∃ G, G = y2.heap.size := ⟨_, rfl⟩
  rw [← hbP] at oP ⊢
  have zP0 : y2.heap.size ≤ bP := by rw [hbP]; exact Nat.le_refl _
  clear hbP
  clear rS fS zS rR fR zR
  replace oS := oS.below hq
  replace oR := oR.below hq
  replace hA := hA.below hq
  replace hB := hB.below hq
  replace hx := hx.below hq
  replace hY := below_to hY hq
  clear hq
  obtain ⟨rS, fS⟩ := oS.rules
  have zS := oS.lt
  obtain ⟨rR, fR⟩ := oR.rules
  have zR := oR.lt
  obtain ⟨rP, fP⟩ := oP.rules
  have zP := oP.lt
  obtain ⟨b, hb⟩ : ∃ b, b = sBright x := ⟨_, rfl⟩
  rw [← hb] at HV BV ⊢
  clear hb hA hB hx
  have hB := hY
  clear hY
  by_cases h2 : b.e = 0
  case neg =>
    have HV2 := Lib.hid (price_b (c := c) E1.out h2)
    have b3 : (b.e != 0) = true := by simpa using h2
    clear h2 BV
    go_wp2
    replace oR := (((oR).set 0 (.int .i64 0)).set 1 (.int .i64 0)).alloc (.cells #[.int .i64 b.n, .int .i64 b.d] 78)
    replace hB := (((hB).setCell (p := ⟨w.heap.size + 1, 0, none⟩) (by first | omega | (simp; done) | (simp; omega)) (.int .i64 0)).setCell (p := ⟨w.heap.size + 1, 1, none⟩) (by first | omega | (simp; done) | (simp; omega)) (.int .i64 0)).alloc (by first | omega | (simp; done) | (simp; omega)) (.cells #[.int .i64 b.n, .int .i64 b.d] 78)
    refine bp_gen' (fun W => Own W _ _ _ ∧ Below w.heap.size w W) ⟨oR, hB⟩ ?_
    rintro wz ⟨oz, bz⟩
    obtain ⟨rz, fz⟩ := oz.rules
    clear oz
    refine bodyPost_ret (v := .tuple #[.agg #[.int .i64 0, .int .i64 0], .int .i64 b.e]) (by simp [results, Try.results97, go_sem, rz]) rfl ⟨by rw [HV.out, HV2.out], ?_⟩
    exact bz
  have b3 : (b.e != 0) = false := by simp [h2]
  have E2 := Lib.hid h2
  have BK := Lib.hid (BV.out h2)
  have H2 := Lib.hid (fmul_FOk VK.out (show fchk 1 2 = 0 by decide))
  have M2 := Lib.hid (fmul_FOk CK.out BK.out)
  have I1 := Lib.hid (fr_i64 VK.out)
  have I2 := Lib.hid (fr_i64 BK.out)
  have PH := Lib.hid (price_h (c := c) E1.out E2.out)
  have PM := Lib.hid (price_m (c := c) E1.out E2.out)
  have P0 := Lib.hid (price_0 (c := c) E1.out E2.out)
  have J1 := Lib.hid (fmul_i64 V.n V.d 1 2)
  have J2 := Lib.hid (fmul_i64 c 1 b.n b.d)
  clear h2 BV
  go_wp2_with fail
  refine (fmul_any V.n V.d 1 2 _ I1.out.1 I1.out.2 ⟨by decide, by decide⟩ ⟨by decide, by decide⟩).mono ?_
  rintro e y4 ⟨rfl, hq⟩
  have oQ := (Own.new y3 78 [.int .i64 b.n, .int .i64 b.d]).below hq
  replace hq := below_to (ba1 y3 (.cells #[.int .i64 b.n, .int .i64 b.d] 78)) hq
  obtain ⟨bQ, hbQ⟩ : ∃ G, G = y3.heap.size := ⟨_, rfl⟩
  rw [← hbQ] at oQ ⊢
  have zQ0 : y3.heap.size ≤ bQ := by rw [hbQ]; exact Nat.le_refl _
  clear hbQ
  clear rS fS zS rR fR zR rP fP zP
  replace oS := oS.below hq
  replace oR := oR.below hq
  replace oP := oP.below hq
  replace hB := below_to hB hq
  clear hq
  obtain ⟨rS, fS⟩ := oS.rules
  have zS := oS.lt
  obtain ⟨rR, fR⟩ := oR.rules
  have zR := oR.lt
  obtain ⟨rP, fP⟩ := oP.rules
  have zP := oP.lt
  obtain ⟨rQ, fQ⟩ := oQ.rules
  have zQ := oQ.lt
  generalize fmul V.n V.d 1 2 = hf at *
  by_cases h3 : hf.e = 0
  case neg =>
    have HV2 := Lib.hid (PH.out h3)
    have b4 : (hf.e != 0) = true := by simpa using h3
    clear h3 PH PM P0
    go_wp2
    replace oR := (((oR).set 0 (.int .i64 0)).set 1 (.int .i64 0)).alloc (.cells #[.int .i64 hf.n, .int .i64 hf.d] 78)
    replace hB := (((hB).setCell (p := ⟨w.heap.size + 1, 0, none⟩) (by first | omega | (simp; done) | (simp; omega)) (.int .i64 0)).setCell (p := ⟨w.heap.size + 1, 1, none⟩) (by first | omega | (simp; done) | (simp; omega)) (.int .i64 0)).alloc (by first | omega | (simp; done) | (simp; omega)) (.cells #[.int .i64 hf.n, .int .i64 hf.d] 78)
    refine bp_gen' (fun W => Own W _ _ _ ∧ Below w.heap.size w W) ⟨oR, hB⟩ ?_
    rintro wz ⟨oz, bz⟩
    obtain ⟨rz, fz⟩ := oz.rules
    clear oz
    refine bodyPost_ret (v := .tuple #[.agg #[.int .i64 0, .int .i64 0], .int .i64 16]) (by simp [results, Try.results97, go_sem, rz]) rfl ⟨by rw [HV.out, HV2.out], ?_⟩
    exact bz
  have b4 : (hf.e != 0) = false := by simp [h3]
  have E3 := Lib.hid h3
  clear h3
  go_wp2_with fail
  have oH := Own.new y4 78 [.int .i64 hf.n, .int .i64 hf.d]
  have hq := ba1 y4 (.cells #[.int .i64 hf.n, .int .i64 hf.d] 78)
  obtain ⟨bH, hbH⟩ : ∃ G, G = y4.heap.size := ⟨_, rfl⟩
  rw [← hbH] at oH ⊢
  clear hbH
  generalize y4.alloc (.cells #[.int .i64 hf.n, .int .i64 hf.d] 78) = y5 at *
  clear rS fS zS rR fR zR rP fP zP rQ fQ zQ
  replace oS := oS.below hq
  replace oR := oR.below hq
  replace oP := oP.below hq
  replace oQ := oQ.below hq
  replace hB := below_to hB hq
  clear hq
  obtain ⟨rS, fS⟩ := oS.rules
  have zS := oS.lt
  obtain ⟨rR, fR⟩ := oR.rules
  have zR := oR.lt
  obtain ⟨rP, fP⟩ := oP.rules
  have zP := oP.lt
  obtain ⟨rQ, fQ⟩ := oQ.rules
  have zQ := oQ.lt
  go_wp2_with fail
  have gl := @grow_lt
  refine wp_region_fs [(7, ⟨78, [.int .i64 0, .int .i64 0], fun b => .pointer (some ⟨b, 0, none⟩)⟩)] [0, 2] [.op 1, .op 3, .tk 4, .tk 5, .tk 6, .fl 7, .op 8] [9] (by kernel_rfl) (by kernel_rfl) ⟨fun ρ W => by kernel_rfl, trivial⟩ (fun _ _ _ _ _ h => h) (fun _ _ _ _ _ h => h) ?_
  try simp only [opsAt, List.getElem?_toArray, List.getElem?_cons_zero, List.getElem?_cons_succ, Option.getD_some]
  repeat (go_big_quiet_step (fail))
  refine wpQuiet_nil ?_
  clear gl
  refine wpFl_op rfl ?_
  intro w3 hb3 K' hK'
  go_simp
  refine (swhole_any c _).mono ?_
  rintro e w5 ⟨rfl, hq⟩
  refine hK' _ _ (Mod.of_below hq) ?_
  clear hK' K'
  have hF := below_to hb3 hq
  clear hb3 hq
  refine wpFl_op rfl ?_
  intro w3 hb3 K' hK'
  go_simp
  refine (fmul_any c 1 b.n b.d _ CI.out ⟨by decide, by decide⟩ I2.out.1 I2.out.2).mono ?_
  rintro e w5 ⟨rfl, hq⟩
  refine hK' _ _ (Mod.of_below hq) ?_
  clear hK' K'
  replace hF := below_to hF (below_to hb3 hq)
  clear hb3 hq
  refine wpFl_tk ?_
  try simp only [opsAt, List.getElem?_toArray, List.getElem?_cons_zero, List.getElem?_cons_succ, Option.getD_some]
  repeat (go_big_quiet_step (fail))
  refine wpQuiet_nil ?_
  refine wpFl_tk ?_
  try simp only [opsAt, List.getElem?_toArray, List.getElem?_cons_zero, List.getElem?_cons_succ, Option.getD_some]
  repeat (go_big_quiet_step (fail))
  refine wpQuiet_nil ?_
  refine wpFl_tk ?_
  try simp only [opsAt, List.getElem?_toArray, List.getElem?_cons_zero, List.getElem?_cons_succ, Option.getD_some]
  repeat (go_big_quiet_step (fail))
  refine wpQuiet_nil ?_
  refine wpFl_fl rfl ?_
  intro bM w6 hb6 oM zM0 _
  go_simp
  replace hF := below_to hF hb6
  refine wpFl_op rfl ?_
  intro w7 hb7 K' hK'
  replace oM := oM.below hb7
  replace hF := below_to hF hb7
  clear hb6 hb7
  obtain ⟨rM, fM⟩ := oM.rules
  have zM := oM.lt
  go_wp2_with fail
  refine hK' _ _ (((Mod.refl _ _).set (by simp) _).set (by simp) _) ?_
  clear hK' K' rM fM zM
  replace oM := (oM.set 0 (.int .i64 (fmul c 1 b.n b.d).n)).set 1 (.int .i64 (fmul c 1 b.n b.d).d)
  replace hF := (hF.setCell (p := ⟨bM, 0, none⟩) zM0 (.int .i64 (fmul c 1 b.n b.d).n)).setCell (p := ⟨bM, 1, none⟩) zM0 (.int .i64 (fmul c 1 b.n b.d).d)
  refine wpFl_nil (fun w8 hb8 => ?_)
  replace oM := oM.below hb8
  replace hF := below_to hF hb8
  clear hb8
  try simp only [opsAt, List.getElem?_toArray, List.getElem?_cons_zero, List.getElem?_cons_succ, Option.getD_some]
  clear rS fS zS rR fR zR rP fP zP rQ fQ zQ oS oP oQ
  replace oR := oR.below hF
  replace oH := oH.below hF
  replace hB := below_to hB hF
  clear hF
  generalize fmul c 1 b.n b.d = mc at *
  obtain ⟨rR, fR⟩ := oR.rules
  have zR := oR.lt
  obtain ⟨rM, fM⟩ := oM.rules
  have zM := oM.lt
  obtain ⟨rH, fH⟩ := oH.rules
  have zH := oH.lt
  by_cases h4 : mc.e = 0
  case neg =>
    have HV2 := Lib.hid (PM.out E3.out h4)
    have b5 : (mc.e != 0) = true := by simpa using h4
    clear h4 PH PM P0
    go_wp2
    replace oR := ((oR).set 0 (.int .i64 0)).set 1 (.int .i64 0)
    replace hB := ((hB).setCell (p := ⟨w.heap.size + 1, 0, none⟩) (by first | omega | (simp; done) | (simp; omega)) (.int .i64 0)).setCell (p := ⟨w.heap.size + 1, 1, none⟩) (by first | omega | (simp; done) | (simp; omega)) (.int .i64 0)
    refine bp_gen' (fun W => Own W _ _ _ ∧ Below w.heap.size w W) ⟨oR, hB⟩ ?_
    rintro wz ⟨oz, bz⟩
    obtain ⟨rz, fz⟩ := oz.rules
    clear oz
    refine bodyPost_ret (v := .tuple #[.agg #[.int .i64 0, .int .i64 0], .int .i64 16]) (by simp [results, Try.results97, go_sem, rz]) rfl ⟨by rw [HV.out, HV2.out], ?_⟩
    exact bz
  have b5 : (mc.e != 0) = false := by simp [h4]
  have HV2 := Lib.hid (P0.out E3.out h4)
  have F5 := Lib.hid (fadd_FOk (H2.out.v E3.out) (M2.out.v h4))
  clear h4 PH PM P0
  go_wp2_with fail
  refine (fadd_any hf.n hf.d mc.n mc.d _ J1.out.1 J1.out.2 J2.out.1 J2.out.2).mono ?_
  rintro e y6 ⟨rfl, hq⟩
  clear rR fR zR rM fM zM rH fH zH
  replace oR := oR.below hq
  replace oM := oM.below hq
  replace oH := oH.below hq
  replace hB := below_to hB hq
  clear hq
  obtain ⟨rR, fR⟩ := oR.rules
  have zR := oR.lt
  obtain ⟨rM, fM⟩ := oM.rules
  have zM := oM.lt
  obtain ⟨rH, fH⟩ := oH.rules
  have zH := oH.lt
  generalize fadd hf.n hf.d mc.n mc.d = r at *
  by_cases h5 : r.e = 0
  case neg =>
    have E5 := Lib.hid (F5.out.e h5)
    have b6 : (r.e != 0) = true := by simpa using h5
    clear h5
    go_wp2
    replace oR := (((oR).set 0 (.int .i64 0)).set 1 (.int .i64 0)).alloc (.cells #[.int .i64 r.n, .int .i64 r.d] 78)
    replace hB := (((hB).setCell (p := ⟨w.heap.size + 1, 0, none⟩) (by first | omega | (simp; done) | (simp; omega)) (.int .i64 0)).setCell (p := ⟨w.heap.size + 1, 1, none⟩) (by first | omega | (simp; done) | (simp; omega)) (.int .i64 0)).alloc (by first | omega | (simp; done) | (simp; omega)) (.cells #[.int .i64 r.n, .int .i64 r.d] 78)
    refine bp_gen' (fun W => Own W _ _ _ ∧ Below w.heap.size w W) ⟨oR, hB⟩ ?_
    rintro wz ⟨oz, bz⟩
    obtain ⟨rz, fz⟩ := oz.rules
    clear oz
    refine bodyPost_ret (v := .tuple #[.agg #[.int .i64 0, .int .i64 0], .int .i64 16]) (by simp [results, Try.results97, go_sem, rz]) rfl ⟨by rw [HV.out, HV2.out, E5.out], ?_⟩
    exact bz
  have b6 : (r.e != 0) = false := by simp [h5]
  have E5 := Lib.hid h5
  clear h5
  go_wp2
  replace oR := (((oR).set 0 (.int .i64 r.n)).set 1 (.int .i64 r.d)).alloc (.cells #[.int .i64 r.n, .int .i64 r.d] 78)
  replace hB := (((hB).setCell (p := ⟨w.heap.size + 1, 0, none⟩) (by first | omega | (simp; done) | (simp; omega)) (.int .i64 r.n)).setCell (p := ⟨w.heap.size + 1, 1, none⟩) (by first | omega | (simp; done) | (simp; omega)) (.int .i64 r.d)).alloc (by first | omega | (simp; done) | (simp; omega)) (.cells #[.int .i64 r.n, .int .i64 r.d] 78)
  refine bp_gen' (fun W => Own W _ _ _ ∧ Below w.heap.size w W) ⟨oR, hB⟩ ?_
  rintro wz ⟨oz, bz⟩
  obtain ⟨rz, fz⟩ := oz.rules
  clear oz
  refine bodyPost_ret (v := .tuple #[.agg #[.int .i64 r.n, .int .i64 r.d], .int .i64 0]) (by simp [results, Try.results97, go_sem, rz]) rfl ⟨by rw [HV.out, HV2.out, E5.out], ?_⟩
  exact bz
end Go.Proofs.Ythlcmlngmcoknaa

/- What is proved here: the contracts of dual.Gap and Accept. Condition: a system and slices of fractions that can be read. -/
namespace Go.Proofs.Ythlcmlngmcoknaa
open Go.RowKit

set_option maxRecDepth 100000 in
set_option maxHeartbeats 16000000 in
theorem dgap_any (A : List (List Int)) (B : List Int) (c : Int) (x y : List (Int × Int)) (va vb vx vy : Value) (w : World) (hA : SS w va A) (hB : SI w vb B) (hx : SF w vx x) (ix : FI x) (hz : SF w vy y) (iz : FI y) :
    Calls Try.prog 99 #[.agg #[va, vb], .int .i64 c, vx, vy] w fun e w' => e = .returned (.tuple #[.agg #[.int .i64 (dgap A B c x y).n, .int .i64 (dgap A B c x y).d], .int .i64 (dgap A B c x y).e]) ∧ Below w.heap.size w w' := by
  have IX := Lib.hid ix
  have IZ := Lib.hid iz
  clear ix iz
  go_enter Try.func99, Try.ntmps99
  have oS := own_first w 25 [va, vb] (.cells #[.int .i64 0, .int .i64 0] 78)
  have oR := own_second w 78 [.int .i64 0, .int .i64 0] (.cells #[va, vb] 25)
  have hY := ba2 w (.cells #[va, vb] 25) (.cells #[.int .i64 0, .int .i64 0] 78)
  replace hA := hA.below hY
  replace hB := hB.below hY
  replace hx := hx.below hY
  replace hz := hz.below hY
  obtain ⟨rS, fS⟩ := oS.rules
  have zS := oS.lt
  obtain ⟨rR, fR⟩ := oR.rules
  have zR := oR.lt
  go_wp2_with fail
  refine (ncheck_any A B _ _ _ hA hB).mono ?_
  rintro e y1 ⟨rfl, hq⟩
  clear rS fS zS rR fR zR
  replace oS := oS.below hq
  replace oR := oR.below hq
  replace hA := hA.below hq
  replace hB := hB.below hq
  replace hx := hx.below hq
  replace hz := hz.below hq
  replace hY := below_to hY hq
  clear hq
  obtain ⟨rS, fS⟩ := oS.rules
  have zS := oS.lt
  obtain ⟨rR, fR⟩ := oR.rules
  have zR := oR.lt
  by_cases h0 : ncheck A B = 0
  case neg =>
    have E0 := Lib.hid (scheck_c (c := c) h0)
    have HV := Lib.hid (dgap_c (x := x) (y := y) (show ¬ scheck A B c = 0 by rw [E0.out]; exact h0))
    have b1 : (ncheck A B != 0) = true := by simpa using h0
    clear h0 hA hB hx hz
    have hB := hY
    go_wp2
    replace oR := ((oR).set 0 (.int .i64 0)).set 1 (.int .i64 0)
    replace hB := ((hB).setCell (p := ⟨w.heap.size + 1, 0, none⟩) (by first | omega | (simp; done) | (simp; omega)) (.int .i64 0)).setCell (p := ⟨w.heap.size + 1, 1, none⟩) (by first | omega | (simp; done) | (simp; omega)) (.int .i64 0)
    refine bp_gen' (fun W => Own W _ _ _ ∧ Below w.heap.size w W) ⟨oR, hB⟩ ?_
    rintro wz ⟨oz, bz⟩
    obtain ⟨rz, fz⟩ := oz.rules
    clear oz
    refine bodyPost_ret (v := .tuple #[.agg #[.int .i64 0, .int .i64 0], .int .i64 (ncheck A B)]) (by simp [results, Try.results99, go_sem, rz]) rfl ⟨by rw [HV.out, E0.out], ?_⟩
    exact bz
  have b1 : (ncheck A B != 0) = false := by simp [h0]
  have l0 := ncheck_len h0
  go_wp2_with fail
  refine (dcost_any c _).mono ?_
  rintro e _ ⟨rfl, rfl⟩
  by_cases hc : costB c = true
  case neg =>
    have hc' : costB c = false := by simpa using hc
    have E0 := Lib.hid (costQ_no h0 hc')
    have HV := Lib.hid (dgap_c (x := x) (y := y) (show ¬ scheck A B c = 0 by rw [E0.out]; decide))
    rw [hc']
    clear h0 hc hc' hA hB hx hz
    have hB := hY
    go_wp2
    replace oR := ((oR).set 0 (.int .i64 0)).set 1 (.int .i64 0)
    replace hB := ((hB).setCell (p := ⟨w.heap.size + 1, 0, none⟩) (by first | omega | (simp; done) | (simp; omega)) (.int .i64 0)).setCell (p := ⟨w.heap.size + 1, 1, none⟩) (by first | omega | (simp; done) | (simp; omega)) (.int .i64 0)
    refine bp_gen' (fun W => Own W _ _ _ ∧ Below w.heap.size w W) ⟨oR, hB⟩ ?_
    rintro wz ⟨oz, bz⟩
    obtain ⟨rz, fz⟩ := oz.rules
    clear oz
    refine bodyPost_ret (v := .tuple #[.agg #[.int .i64 0, .int .i64 0], .int .i64 2]) (by simp [results, Try.results99, go_sem, rz]) rfl ⟨by rw [HV.out, E0.out], ?_⟩
    exact bz
  obtain ⟨hs, hc1, hc2⟩ := costQ_of h0 hc
  rw [hc]
  have HS := Lib.hid hs
  clear hc hs h0
  go_wp2_with fail
  refine (dpt_any A x _ _ _ _ hA hx IX.out l0).mono ?_
  rintro e y2 ⟨rfl, hq⟩
  clear rS fS zS rR fR zR
  replace oS := oS.below hq
  replace oR := oR.below hq
  replace hA := hA.below hq
  replace hB := hB.below hq
  replace hx := hx.below hq
  replace hz := hz.below hq
  replace hY := below_to hY hq
  clear hq
  obtain ⟨rS, fS⟩ := oS.rules
  have zS := oS.lt
  obtain ⟨rR, fR⟩ := oR.rules
  have zR := oR.lt
  by_cases hp : pointB (A.getD 0 []).length x = true
  case neg =>
    have hp' : pointB (A.getD 0 []).length x = false := by simpa using hp
    have HV := Lib.hid (dgap_2 (y := y) HS.out (by unfold bothB; rw [hp']; rfl))
    rw [hp']
    clear hp hp' hA hB hx hz
    have hB := hY
    go_wp2
    replace oR := ((oR).set 0 (.int .i64 0)).set 1 (.int .i64 0)
    replace hB := ((hB).setCell (p := ⟨w.heap.size + 1, 0, none⟩) (by first | omega | (simp; done) | (simp; omega)) (.int .i64 0)).setCell (p := ⟨w.heap.size + 1, 1, none⟩) (by first | omega | (simp; done) | (simp; omega)) (.int .i64 0)
    refine bp_gen' (fun W => Own W _ _ _ ∧ Below w.heap.size w W) ⟨oR, hB⟩ ?_
    rintro wz ⟨oz, bz⟩
    obtain ⟨rz, fz⟩ := oz.rules
    clear oz
    refine bodyPost_ret (v := .tuple #[.agg #[.int .i64 0, .int .i64 0], .int .i64 2]) (by simp [results, Try.results99, go_sem, rz]) rfl ⟨by rw [HV.out], ?_⟩
    exact bz
  rw [hp]
  have HP := Lib.hid hp
  clear hp
  go_wp2_with fail
  refine (dwitB_any A y _ _ _ _ hA hz IZ.out).mono ?_
  rintro e y3 ⟨rfl, hq⟩
  clear rS fS zS rR fR zR
  replace oS := oS.below hq
  replace oR := oR.below hq
  replace hA := hA.below hq
  replace hB := hB.below hq
  replace hx := hx.below hq
  replace hz := hz.below hq
  replace hY := below_to hY hq
  clear hq
  obtain ⟨rS, fS⟩ := oS.rules
  have zS := oS.lt
  obtain ⟨rR, fR⟩ := oR.rules
  have zR := oR.lt
  by_cases hw : witB A.length y = true
  case neg =>
    have hw' : witB A.length y = false := by simpa using hw
    have HV := Lib.hid (dgap_2 (x := x) HS.out (by unfold bothB; rw [HP.out, hw']; rfl))
    rw [hw']
    clear hw hw' hA hB hx hz
    have hB := hY
    go_wp2
    replace oR := ((oR).set 0 (.int .i64 0)).set 1 (.int .i64 0)
    replace hB := ((hB).setCell (p := ⟨w.heap.size + 1, 0, none⟩) (by first | omega | (simp; done) | (simp; omega)) (.int .i64 0)).setCell (p := ⟨w.heap.size + 1, 1, none⟩) (by first | omega | (simp; done) | (simp; omega)) (.int .i64 0)
    refine bp_gen' (fun W => Own W _ _ _ ∧ Below w.heap.size w W) ⟨oR, hB⟩ ?_
    rintro wz ⟨oz, bz⟩
    obtain ⟨rz, fz⟩ := oz.rules
    clear oz
    refine bodyPost_ret (v := .tuple #[.agg #[.int .i64 0, .int .i64 0], .int .i64 2]) (by simp [results, Try.results99, go_sem, rz]) rfl ⟨by rw [HV.out], ?_⟩
    exact bz
  rw [hw]
  have HBW : Hid (bothB A x y = true) := by show _ = _; unfold bothB; rw [HP.out, hw]; rfl
  clear hw
  have GP := Lib.hid (dgap_p HS.out HBW.out)
  have GW := Lib.hid (dgap_w HS.out HBW.out)
  have G0 := Lib.hid (dgap_0 HS.out HBW.out)
  have PK := Lib.hid (sCost_ok (A := A) (B := B) (c := c) (x := x))
  have WK := Lib.hid (dworth_ok (A := A) (B := B) (y := y))
  go_wp2_with fail
  refine (scost_any A B c x _ _ _ _ hA hB hx IX.out).mono ?_
  rintro e y4 ⟨rfl, hq⟩
  clear rS fS zS rR fR zR
  replace oS := oS.below hq
  replace oR := oR.below hq
  replace hA := hA.below hq
  replace hB := hB.below hq
  replace hx := hx.below hq
  replace hz := hz.below hq
  replace hY := below_to hY hq
  clear hq
  obtain ⟨rS, fS⟩ := oS.rules
  have zS := oS.lt
  obtain ⟨rR, fR⟩ := oR.rules
  have zR := oR.lt
  generalize sCost A B c x = p at *
  by_cases h1 : p.e = 0
  case neg =>
    have HV := Lib.hid (GP.out h1)
    have b2 : (p.e != 0) = true := by simpa using h1
    clear h1 hA hB hx hz GP GW G0 PK WK
    have hB := hY
    go_wp2
    replace oR := (((oR).set 0 (.int .i64 0)).set 1 (.int .i64 0)).alloc (.cells #[.int .i64 p.n, .int .i64 p.d] 78)
    replace hB := (((hB).setCell (p := ⟨w.heap.size + 1, 0, none⟩) (by first | omega | (simp; done) | (simp; omega)) (.int .i64 0)).setCell (p := ⟨w.heap.size + 1, 1, none⟩) (by first | omega | (simp; done) | (simp; omega)) (.int .i64 0)).alloc (by first | omega | (simp; done) | (simp; omega)) (.cells #[.int .i64 p.n, .int .i64 p.d] 78)
    refine bp_gen' (fun W => Own W _ _ _ ∧ Below w.heap.size w W) ⟨oR, hB⟩ ?_
    rintro wz ⟨oz, bz⟩
    obtain ⟨rz, fz⟩ := oz.rules
    clear oz
    refine bodyPost_ret (v := .tuple #[.agg #[.int .i64 0, .int .i64 0], .int .i64 p.e]) (by simp [results, Try.results99, go_sem, rz]) rfl ⟨by rw [HV.out], ?_⟩
    exact bz
  have b2 : (p.e != 0) = false := by simp [h1]
  have E1 := Lib.hid h1
  have PV := Lib.hid (PK.out h1)
  clear h1 GP PK
  go_wp2_with fail
  refine (dworth_any A B y _ _ _ _ (hA.below (ba1 y4 _)) (hB.below (ba1 y4 _)) (hz.below (ba1 y4 _)) IZ.out).mono ?_
  rintro e y5 ⟨rfl, hq⟩
  have oP := (Own.new y4 78 [.int .i64 p.n, .int .i64 p.d]).below hq
  replace hq := below_to (ba1 y4 (.cells #[.int .i64 p.n, .int .i64 p.d] 78)) hq
  obtain ⟨bP, hbP⟩ : ∃ G, G = y4.heap.size := ⟨_, rfl⟩
  rw [← hbP] at oP ⊢
  have zP0 : y4.heap.size ≤ bP := by rw [hbP]; exact Nat.le_refl _
  clear hbP
  clear rS fS zS rR fR zR
  replace oS := oS.below hq
  replace oR := oR.below hq
  replace hY := below_to hY hq
  clear hq
  obtain ⟨rS, fS⟩ := oS.rules
  have zS := oS.lt
  obtain ⟨rR, fR⟩ := oR.rules
  have zR := oR.lt
  obtain ⟨rP, fP⟩ := oP.rules
  have zP := oP.lt
  clear hA hB hx hz
  generalize dworth A B y = q at *
  by_cases h2 : q.e = 0
  case neg =>
    have HV := Lib.hid (GW.out E1.out h2)
    have b3 : (q.e != 0) = true := by simpa using h2
    clear h2 GW G0 WK
    have hB := hY
    go_wp2
    replace oR := (((oR).set 0 (.int .i64 0)).set 1 (.int .i64 0)).alloc (.cells #[.int .i64 q.n, .int .i64 q.d] 78)
    replace hB := (((hB).setCell (p := ⟨w.heap.size + 1, 0, none⟩) (by first | omega | (simp; done) | (simp; omega)) (.int .i64 0)).setCell (p := ⟨w.heap.size + 1, 1, none⟩) (by first | omega | (simp; done) | (simp; omega)) (.int .i64 0)).alloc (by first | omega | (simp; done) | (simp; omega)) (.cells #[.int .i64 q.n, .int .i64 q.d] 78)
    refine bp_gen' (fun W => Own W _ _ _ ∧ Below w.heap.size w W) ⟨oR, hB⟩ ?_
    rintro wz ⟨oz, bz⟩
    obtain ⟨rz, fz⟩ := oz.rules
    clear oz
    refine bodyPost_ret (v := .tuple #[.agg #[.int .i64 0, .int .i64 0], .int .i64 q.e]) (by simp [results, Try.results99, go_sem, rz]) rfl ⟨by rw [HV.out], ?_⟩
    exact bz
  have b3 : (q.e != 0) = false := by simp [h2]
  have HV := Lib.hid (G0.out E1.out h2)
  have QV := Lib.hid (WK.out h2)
  have I1 := Lib.hid (fr_i64 PV.out)
  have I2 := Lib.hid (fr_i64 QV.out)
  have F5 := Lib.hid (fsub_FOk PV.out QV.out)
  clear h2 GW G0 WK
  go_wp2_with fail
  refine (fsub_any p.n p.d q.n q.d _ I1.out.1 I1.out.2 I2.out.1 I2.out.2).mono ?_
  rintro e y6 ⟨rfl, hq⟩
  replace hq := below_to (ba1 y5 _) hq
  clear rS fS zS rR fR zR rP fP zP
  replace oS := oS.below hq
  replace oR := oR.below hq
  replace oP := oP.below hq
  replace hY := below_to hY hq
  clear hq
  obtain ⟨rS, fS⟩ := oS.rules
  have zS := oS.lt
  obtain ⟨rR, fR⟩ := oR.rules
  have zR := oR.lt
  obtain ⟨rP, fP⟩ := oP.rules
  have zP := oP.lt
  generalize fsub p.n p.d q.n q.d = r at *
  by_cases h5 : r.e = 0
  case neg =>
    have E5 := Lib.hid (F5.out.e h5)
    have b6 : (r.e != 0) = true := by simpa using h5
    clear h5
    have hB := hY
    go_wp2
    replace oR := (((oR).set 0 (.int .i64 0)).set 1 (.int .i64 0)).alloc (.cells #[.int .i64 r.n, .int .i64 r.d] 78)
    replace hB := (((hB).setCell (p := ⟨w.heap.size + 1, 0, none⟩) (by first | omega | (simp; done) | (simp; omega)) (.int .i64 0)).setCell (p := ⟨w.heap.size + 1, 1, none⟩) (by first | omega | (simp; done) | (simp; omega)) (.int .i64 0)).alloc (by first | omega | (simp; done) | (simp; omega)) (.cells #[.int .i64 r.n, .int .i64 r.d] 78)
    refine bp_gen' (fun W => Own W _ _ _ ∧ Below w.heap.size w W) ⟨oR, hB⟩ ?_
    rintro wz ⟨oz, bz⟩
    obtain ⟨rz, fz⟩ := oz.rules
    clear oz
    refine bodyPost_ret (v := .tuple #[.agg #[.int .i64 0, .int .i64 0], .int .i64 16]) (by simp [results, Try.results99, go_sem, rz]) rfl ⟨by rw [HV.out, E5.out], ?_⟩
    exact bz
  have b6 : (r.e != 0) = false := by simp [h5]
  have E5 := Lib.hid h5
  clear h5
  have hB := hY
  go_wp2
  replace oR := (((oR).set 0 (.int .i64 r.n)).set 1 (.int .i64 r.d)).alloc (.cells #[.int .i64 r.n, .int .i64 r.d] 78)
  replace hB := (((hB).setCell (p := ⟨w.heap.size + 1, 0, none⟩) (by first | omega | (simp; done) | (simp; omega)) (.int .i64 r.n)).setCell (p := ⟨w.heap.size + 1, 1, none⟩) (by first | omega | (simp; done) | (simp; omega)) (.int .i64 r.d)).alloc (by first | omega | (simp; done) | (simp; omega)) (.cells #[.int .i64 r.n, .int .i64 r.d] 78)
  refine bp_gen' (fun W => Own W _ _ _ ∧ Below w.heap.size w W) ⟨oR, hB⟩ ?_
  rintro wz ⟨oz, bz⟩
  obtain ⟨rz, fz⟩ := oz.rules
  clear oz
  refine bodyPost_ret (v := .tuple #[.agg #[.int .i64 r.n, .int .i64 r.d], .int .i64 0]) (by simp [results, Try.results99, go_sem, rz]) rfl ⟨by rw [HV.out, E5.out], ?_⟩
  exact bz
set_option maxRecDepth 100000 in
set_option maxHeartbeats 16000000 in
theorem dacc_any (A : List (List Int)) (B : List Int) (c : Int) (x y : List (Int × Int)) (gn gd : Int) (va vb vx vy : Value) (w : World) (hA : SS w va A) (hB : SI w vb B) (hx : SF w vx x) (ix : FI x) (hz : SF w vy y) (iz : FI y) (ig : i64 gn) (ih : i64 gd) :
    Calls Try.prog 96 #[.agg #[va, vb], .int .i64 c, vx, vy, .agg #[.int .i64 gn, .int .i64 gd]] w fun e w' => e = .returned (.tuple #[.bool (daccept A B c x y gn gd).1, .int .i64 (daccept A B c x y gn gd).2]) ∧ Below w.heap.size w w' := by
  have IX := Lib.hid ix
  have IZ := Lib.hid iz
  clear ix iz
  go_enter Try.func96, Try.ntmps96
  have oS := own_first w 25 [va, vb] (.cells #[.int .i64 gn, .int .i64 gd] 78)
  have oT := own_second w 78 [.int .i64 gn, .int .i64 gd] (.cells #[va, vb] 25)
  have hY := ba2 w (.cells #[va, vb] 25) (.cells #[.int .i64 gn, .int .i64 gd] 78)
  replace hA := hA.below hY
  replace hB := hB.below hY
  replace hx := hx.below hY
  replace hz := hz.below hY
  obtain ⟨rS, fS⟩ := oS.rules
  have zS := oS.lt
  obtain ⟨rT, fT⟩ := oT.rules
  have zT := oT.lt
  go_wp2_with fail
  refine (ncheck_any A B _ _ _ hA hB).mono ?_
  rintro e y1 ⟨rfl, hq⟩
  clear rS fS zS rT fT zT
  replace oS := oS.below hq
  replace oT := oT.below hq
  replace hA := hA.below hq
  replace hB := hB.below hq
  replace hx := hx.below hq
  replace hz := hz.below hq
  replace hY := below_to hY hq
  clear hq
  obtain ⟨rS, fS⟩ := oS.rules
  have zS := oS.lt
  obtain ⟨rT, fT⟩ := oT.rules
  have zT := oT.lt
  by_cases h0 : ncheck A B = 0
  case neg =>
    have E0 := Lib.hid (scheck_c (c := c) h0)
    have HV := Lib.hid (dacc_c (x := x) (y := y) (gn := gn) (gd := gd) (show ¬ scheck A B c = 0 by rw [E0.out]; exact h0))
    have b1 : (ncheck A B != 0) = true := by simpa using h0
    clear h0 hA hB hx hz
    go_wp2
    go_ret2
    exact ⟨by rw [HV.out, E0.out]; try rfl, hY⟩
  have b1 : (ncheck A B != 0) = false := by simp [h0]
  have l0 := ncheck_len h0
  go_wp2_with fail
  refine (dcost_any c _).mono ?_
  rintro e _ ⟨rfl, rfl⟩
  by_cases hc : costB c = true
  case neg =>
    have hc' : costB c = false := by simpa using hc
    have E0 := Lib.hid (costQ_no h0 hc')
    have HV := Lib.hid (dacc_c (x := x) (y := y) (gn := gn) (gd := gd) (show ¬ scheck A B c = 0 by rw [E0.out]; decide))
    rw [hc']
    clear h0 hc hc' hA hB hx hz
    go_wp2
    go_ret2
    exact ⟨by rw [HV.out, E0.out]; try rfl, hY⟩
  obtain ⟨hs, hc1, hc2⟩ := costQ_of h0 hc
  rw [hc]
  have HS := Lib.hid hs
  clear hc hs h0
  go_wp2_with fail
  refine (dpt_any A x _ _ _ _ hA hx IX.out l0).mono ?_
  rintro e y2 ⟨rfl, hq⟩
  clear rS fS zS rT fT zT
  replace oS := oS.below hq
  replace oT := oT.below hq
  replace hA := hA.below hq
  replace hB := hB.below hq
  replace hx := hx.below hq
  replace hz := hz.below hq
  replace hY := below_to hY hq
  clear hq
  obtain ⟨rS, fS⟩ := oS.rules
  have zS := oS.lt
  obtain ⟨rT, fT⟩ := oT.rules
  have zT := oT.lt
  by_cases hp : pointB (A.getD 0 []).length x = true
  case neg =>
    have hp' : pointB (A.getD 0 []).length x = false := by simpa using hp
    have HV := Lib.hid (dacc_2 (y := y) (gn := gn) (gd := gd) HS.out (by unfold bothB; rw [hp']; rfl))
    rw [hp']
    clear hp hp' hA hB hx hz
    go_wp2
    go_ret2
    exact ⟨by rw [HV.out]; try rfl, hY⟩
  rw [hp]
  have HP := Lib.hid hp
  clear hp
  go_wp2_with fail
  refine (dwitB_any A y _ _ _ _ hA hz IZ.out).mono ?_
  rintro e y3 ⟨rfl, hq⟩
  clear rS fS zS rT fT zT
  replace oS := oS.below hq
  replace oT := oT.below hq
  replace hA := hA.below hq
  replace hB := hB.below hq
  replace hx := hx.below hq
  replace hz := hz.below hq
  replace hY := below_to hY hq
  clear hq
  obtain ⟨rS, fS⟩ := oS.rules
  have zS := oS.lt
  obtain ⟨rT, fT⟩ := oT.rules
  have zT := oT.lt
  by_cases hw : witB A.length y = true
  case neg =>
    have hw' : witB A.length y = false := by simpa using hw
    have HV := Lib.hid (dacc_2 (x := x) (gn := gn) (gd := gd) HS.out (by unfold bothB; rw [HP.out, hw']; rfl))
    rw [hw']
    clear hw hw' hA hB hx hz
    go_wp2
    go_ret2
    exact ⟨by rw [HV.out]; try rfl, hY⟩
  rw [hw]
  have HBW : Hid (bothB A x y = true) := by show _ = _; unfold bothB; rw [HP.out, hw]; rfl
  clear hw
  have A8 := Lib.hid (dacc_8 (gn := gn) (gd := gd) HS.out HBW.out)
  have AF := Lib.hid (dacc_f (gn := gn) (gd := gd) HS.out HBW.out)
  have AG := Lib.hid (dacc_g (gn := gn) (gd := gd) HS.out HBW.out)
  have A0 := Lib.hid (dacc_0 (gn := gn) (gd := gd) HS.out HBW.out)
  go_wp2_with fail
  refine (check_any gn gd _ ig ih).mono ?_
  rintro e y4 ⟨rfl, hq⟩
  clear rS fS zS rT fT zT
  replace oS := oS.below hq
  replace oT := oT.below hq
  replace hA := hA.below hq
  replace hB := hB.below hq
  replace hx := hx.below hq
  replace hz := hz.below hq
  replace hY := below_to hY hq
  clear hq
  obtain ⟨rS, fS⟩ := oS.rules
  have zS := oS.lt
  obtain ⟨rT, fT⟩ := oT.rules
  have zT := oT.lt
  by_cases h1 : fchk gn gd = 0
  case neg =>
    have HV := Lib.hid (A8.out h1)
    have b2 : (fchk gn gd != 0) = true := by simpa using h1
    clear h1 hA hB hx hz A8 AF AG A0
    go_wp2
    go_ret2
    exact ⟨by rw [HV.out]; try rfl, hY⟩
  have b2 : (fchk gn gd != 0) = false := by simp [h1]
  have E1 := Lib.hid h1
  clear h1 A8
  go_wp2_with fail
  refine (dfeas_any A B c y _ _ _ _ hA hB hz IZ.out).mono ?_
  rintro e y5 ⟨rfl, hq⟩
  clear rS fS zS rT fT zT
  replace oS := oS.below hq
  replace oT := oT.below hq
  replace hA := hA.below hq
  replace hB := hB.below hq
  replace hx := hx.below hq
  replace hz := hz.below hq
  replace hY := below_to hY hq
  clear hq
  obtain ⟨rS, fS⟩ := oS.rules
  have zS := oS.lt
  obtain ⟨rT, fT⟩ := oT.rules
  have zT := oT.lt
  generalize dfeas A B c y = f at *
  by_cases h2 : f.2 = 0
  case neg =>
    have HV := Lib.hid (AF.out E1.out h2)
    have b3 : (f.2 != 0) = true := by simpa using h2
    clear h2 hA hB hx hz AF AG A0
    go_wp2
    go_ret2
    exact ⟨by rw [HV.out]; try rfl, hY⟩
  have b3 : (f.2 != 0) = false := by simp [h2]
  have E2 := Lib.hid h2
  clear h2 AF
  go_wp2_with fail
  refine (dgap_any A B c x y _ _ _ _ _ hA hB hx IX.out hz IZ.out).mono ?_
  rintro e y6 ⟨rfl, hq⟩
  clear rS fS zS rT fT zT
  replace oS := oS.below hq
  replace oT := oT.below hq
  replace hA := hA.below hq
  replace hB := hB.below hq
  replace hx := hx.below hq
  replace hz := hz.below hq
  replace hY := below_to hY hq
  clear hq
  obtain ⟨rS, fS⟩ := oS.rules
  have zS := oS.lt
  obtain ⟨rT, fT⟩ := oT.rules
  have zT := oT.lt
  generalize dgap A B c x y = g at *
  clear hA hB hx hz
  by_cases h3 : g.e = 0
  case neg =>
    have HV := Lib.hid (AG.out E1.out E2.out h3)
    have b4 : (g.e != 0) = true := by simpa using h3
    clear h3 AG A0
    go_wp2
    go_ret2
    exact ⟨by rw [HV.out]; try rfl, below_to hY (ba1 _ _)⟩
  have b4 : (g.e != 0) = false := by simp [h3]
  have HV := Lib.hid (A0.out E1.out E2.out h3)
  clear h3 AG A0
  obtain ⟨f1, f2⟩ := f
  simp only at HV E2 b3 ⊢
  cases f1
  · go_wp2
    go_ret2
    exact ⟨by rw [HV.out]; try rfl, below_to hY (ba1 _ _)⟩
  · by_cases q1 : g.n = gn
    · by_cases q2 : g.d = gd
      · have B1 : Hid ((true && (decide (g.n = gn) && decide (g.d = gd))) = true) := by show _ = _; simp [q1, q2]
        have r1 : (g.n == gn) = true := by simp [q1]
        have r2 : (g.d == gd) = true := by simp [q2]
        clear q1 q2
        go_wp2
        go_ret2
        exact ⟨by rw [HV.out, B1.out]; try rfl, below_to hY (ba1 _ _)⟩
      · have B1 : Hid ((true && (decide (g.n = gn) && decide (g.d = gd))) = false) := by show _ = _; simp [q2]
        have r1 : (g.n == gn) = true := by simp [q1]
        have r2 : (g.d == gd) = false := by simpa using q2
        clear q1 q2
        go_wp2
        go_ret2
        exact ⟨by rw [HV.out, B1.out]; try rfl, below_to hY (ba1 _ _)⟩
    · have B1 : Hid ((true && (decide (g.n = gn) && decide (g.d = gd))) = false) := by show _ = _; simp [q1]
      have r1 : (g.n == gn) = false := by simpa using q1
      clear q1
      go_wp2
      go_ret2
      exact ⟨by rw [HV.out, B1.out]; try rfl, below_to hY (ba1 _ _)⟩
end Go.Proofs.Ythlcmlngmcoknaa
