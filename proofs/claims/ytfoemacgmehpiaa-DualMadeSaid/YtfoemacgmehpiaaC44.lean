/- What is proved here: contracts of functions and plain facts, several texts in one; each one says ahead what it proves, and its conditions. -/
import Derived.Test.YtfoemacgmehpiaaC42
import Derived.Test.YtfoemacgmehpiaaC43
import Derived.Test.YtfoemacgmehpiaaC33
/- What is proved here: the contracts of dual.Gap and Accept. Condition: a system and slices of fractions that can be read. -/
namespace Go.Proofs.Ytfoemacgmehpiaa
open Go.RowKit

set_option maxRecDepth 100000 in
set_option maxHeartbeats 16000000 in
theorem dgap_any (A : List (List Int)) (B : List Int) (c : Int) (x y : List (Int × Int)) (va vb vx vy : Value) (w : World) (hA : SS w va A) (hB : SI w vb B) (hx : SF w vx x) (ix : FI x) (hz : SF w vy y) (iz : FI y) :
    Calls Try.prog 40 #[.agg #[va, vb], .int .i64 c, vx, vy] w fun e w' => e = .returned (.tuple #[.agg #[.int .i64 (dgap A B c x y).n, .int .i64 (dgap A B c x y).d], .int .i64 (dgap A B c x y).e]) ∧ Below w.heap.size w w' := by
  have IX := Lib.hid ix
  have IZ := Lib.hid iz
  clear ix iz
  go_enter Try.func40, Try.ntmps40
  have oS := own_first w 25 [va, vb] (.cells #[.int .i64 0, .int .i64 0] 39)
  have oR := own_second w 39 [.int .i64 0, .int .i64 0] (.cells #[va, vb] 25)
  have hY := ba2 w (.cells #[va, vb] 25) (.cells #[.int .i64 0, .int .i64 0] 39)
  replace hA := hA.below hY
  replace hB := hB.below hY
  replace hx := hx.below hY
  replace hz := hz.below hY
  obtain ⟨rS, fS⟩ := oS.rules
  have zS := oS.lt
  obtain ⟨rR, fR⟩ := oR.rules
  have zR := oR.lt
  go_wp2_with fail
  refine (ncheck_any A B _ _ _ hA hB).mono ?_
  rintro e y1 ⟨rfl, hq⟩
  clear rS fS zS rR fR zR
  replace oS := oS.below hq
  replace oR := oR.below hq
  replace hA := hA.below hq
  replace hB := hB.below hq
  replace hx := hx.below hq
  replace hz := hz.below hq
  replace hY := below_to hY hq
  clear hq
  obtain ⟨rS, fS⟩ := oS.rules
  have zS := oS.lt
  obtain ⟨rR, fR⟩ := oR.rules
  have zR := oR.lt
  by_cases h0 : ncheck A B = 0
  case neg =>
    have E0 := Lib.hid (scheck_c (c := c) h0)
    have HV := Lib.hid (dgap_c (x := x) (y := y) (show ¬ scheck A B c = 0 by rw [E0.out]; exact h0))
    have b1 : (ncheck A B != 0) = true := by simpa using h0
    clear h0 hA hB hx hz
    have hB := hY
    go_wp2
    replace oR := ((oR).set 0 (.int .i64 0)).set 1 (.int .i64 0)
    replace hB := ((hB).setCell (p := ⟨w.heap.size + 1, 0, none⟩) (by first | omega | (simp; done) | (simp; omega)) (.int .i64 0)).setCell (p := ⟨w.heap.size + 1, 1, none⟩) (by first | omega | (simp; done) | (simp; omega)) (.int .i64 0)
    refine bp_gen' (fun W => Own W _ _ _ ∧ Below w.heap.size w W) ⟨oR, hB⟩ ?_
    rintro wz ⟨oz, bz⟩
    obtain ⟨rz, fz⟩ := oz.rules
    clear oz
    refine bodyPost_ret (v := .tuple #[.agg #[.int .i64 0, .int .i64 0], .int .i64 (ncheck A B)]) (by simp [results, Try.results40, go_sem, rz]) rfl ⟨by rw [HV.out, E0.out], ?_⟩
    exact bz
  have b1 : (ncheck A B != 0) = false := by simp [h0]
  have l0 := ncheck_len h0
  go_wp2_with fail
  refine (dcost_any c _).mono ?_
  rintro e _ ⟨rfl, rfl⟩
  by_cases hc : costB c = true
  case neg =>
    have hc' : costB c = false := by simpa using hc
    have E0 := Lib.hid (costQ_no h0 hc')
    have HV := Lib.hid (dgap_c (x := x) (y := y) (show ¬ scheck A B c = 0 by rw [E0.out]; decide))
    rw [hc']
    clear h0 hc hc' hA hB hx hz
    have hB := hY
    go_wp2
    replace oR := ((oR).set 0 (.int .i64 0)).set 1 (.int .i64 0)
    replace hB := ((hB).setCell (p := ⟨w.heap.size + 1, 0, none⟩) (by first | omega | (simp; done) | (simp; omega)) (.int .i64 0)).setCell (p := ⟨w.heap.size + 1, 1, none⟩) (by first | omega | (simp; done) | (simp; omega)) (.int .i64 0)
    refine bp_gen' (fun W => Own W _ _ _ ∧ Below w.heap.size w W) ⟨oR, hB⟩ ?_
    rintro wz ⟨oz, bz⟩
    obtain ⟨rz, fz⟩ := oz.rules
    clear oz
    refine bodyPost_ret (v := .tuple #[.agg #[.int .i64 0, .int .i64 0], .int .i64 2]) (by simp [results, Try.results40, go_sem, rz]) rfl ⟨by rw [HV.out, E0.out], ?_⟩
    exact bz
  obtain ⟨hs, hc1, hc2⟩ := costQ_of h0 hc
  rw [hc]
  have HS := Lib.hid hs
  clear hc hs h0
  go_wp2_with fail
  refine (dpt_any A x _ _ _ _ hA hx IX.out l0).mono ?_
  rintro e y2 ⟨rfl, hq⟩
  clear rS fS zS rR fR zR
  replace oS := oS.below hq
  replace oR := oR.below hq
  replace hA := hA.below hq
  replace hB := hB.below hq
  replace hx := hx.below hq
  replace hz := hz.below hq
  replace hY := below_to hY hq
  clear hq
  obtain ⟨rS, fS⟩ := oS.rules
  have zS := oS.lt
  obtain ⟨rR, fR⟩ := oR.rules
  have zR := oR.lt
  by_cases hp : pointB (A.getD 0 []).length x = true
  case neg =>
    have hp' : pointB (A.getD 0 []).length x = false := by simpa using hp
    have HV := Lib.hid (dgap_2 (y := y) HS.out (by unfold bothB; rw [hp']; rfl))
    rw [hp']
    clear hp hp' hA hB hx hz
    have hB := hY
    go_wp2
    replace oR := ((oR).set 0 (.int .i64 0)).set 1 (.int .i64 0)
    replace hB := ((hB).setCell (p := ⟨w.heap.size + 1, 0, none⟩) (by first | omega | (simp; done) | (simp; omega)) (.int .i64 0)).setCell (p := ⟨w.heap.size + 1, 1, none⟩) (by first | omega | (simp; done) | (simp; omega)) (.int .i64 0)
    refine bp_gen' (fun W => Own W _ _ _ ∧ Below w.heap.size w W) ⟨oR, hB⟩ ?_
    rintro wz ⟨oz, bz⟩
    obtain ⟨rz, fz⟩ := oz.rules
    clear oz
    refine bodyPost_ret (v := .tuple #[.agg #[.int .i64 0, .int .i64 0], .int .i64 2]) (by simp [results, Try.results40, go_sem, rz]) rfl ⟨by rw [HV.out], ?_⟩
    exact bz
  rw [hp]
  have HP := Lib.hid hp
  clear hp
  go_wp2_with fail
  refine (dwitB_any A y _ _ _ _ hA hz IZ.out).mono ?_
  rintro e y3 ⟨rfl, hq⟩
  clear rS fS zS rR fR zR
  replace oS := oS.below hq
  replace oR := oR.below hq
  replace hA := hA.below hq
  replace hB := hB.below hq
  replace hx := hx.below hq
  replace hz := hz.below hq
  replace hY := below_to hY hq
  clear hq
  obtain ⟨rS, fS⟩ := oS.rules
  have zS := oS.lt
  obtain ⟨rR, fR⟩ := oR.rules
  have zR := oR.lt
  by_cases hw : witB A.length y = true
  case neg =>
    have hw' : witB A.length y = false := by simpa using hw
    have HV := Lib.hid (dgap_2 (x := x) HS.out (by unfold bothB; rw [HP.out, hw']; rfl))
    rw [hw']
    clear hw hw' hA hB hx hz
    have hB := hY
    go_wp2
    replace oR := ((oR).set 0 (.int .i64 0)).set 1 (.int .i64 0)
    replace hB := ((hB).setCell (p := ⟨w.heap.size + 1, 0, none⟩) (by first | omega | (simp; done) | (simp; omega)) (.int .i64 0)).setCell (p := ⟨w.heap.size + 1, 1, none⟩) (by first | omega | (simp; done) | (simp; omega)) (.int .i64 0)
    refine bp_gen' (fun W => Own W _ _ _ ∧ Below w.heap.size w W) ⟨oR, hB⟩ ?_
    rintro wz ⟨oz, bz⟩
    obtain ⟨rz, fz⟩ := oz.rules
    clear oz
    refine bodyPost_ret (v := .tuple #[.agg #[.int .i64 0, .int .i64 0], .int .i64 2]) (by simp [results, Try.results40, go_sem, rz]) rfl ⟨by rw [HV.out], ?_⟩
    exact bz
  rw [hw]
  have HBW : Hid (bothB A x y = true) := by show _ = _; unfold bothB; rw [HP.out, hw]; rfl
  clear hw
  have GP := Lib.hid (dgap_p HS.out HBW.out)
  have GW := Lib.hid (dgap_w HS.out HBW.out)
  have G0 := Lib.hid (dgap_0 HS.out HBW.out)
  have PK := Lib.hid (sCost_ok (A := A) (B := B) (c := c) (x := x))
  have WK := Lib.hid (dworth_ok (A := A) (B := B) (y := y))
  go_wp2_with fail
  refine (scost_any A B c x _ _ _ _ hA hB hx IX.out).mono ?_
  rintro e y4 ⟨rfl, hq⟩
  clear rS fS zS rR fR zR
  replace oS := oS.below hq
  replace oR := oR.below hq
  replace hA := hA.below hq
  replace hB := hB.below hq
  replace hx := hx.below hq
  replace hz := hz.below hq
  replace hY := below_to hY hq
  clear hq
  obtain ⟨rS, fS⟩ := oS.rules
  have zS := oS.lt
  obtain ⟨rR, fR⟩ := oR.rules
  have zR := oR.lt
  generalize sCost A B c x = p at *
  by_cases h1 : p.e = 0
  case neg =>
    have HV := Lib.hid (GP.out h1)
    have b2 : (p.e != 0) = true := by simpa using h1
    clear h1 hA hB hx hz GP GW G0 PK WK
    have hB := hY
    go_wp2
    replace oR := (((oR).set 0 (.int .i64 0)).set 1 (.int .i64 0)).alloc (.cells #[.int .i64 p.n, .int .i64 p.d] 39)
    replace hB := (((hB).setCell (p := ⟨w.heap.size + 1, 0, none⟩) (by first | omega | (simp; done) | (simp; omega)) (.int .i64 0)).setCell (p := ⟨w.heap.size + 1, 1, none⟩) (by first | omega | (simp; done) | (simp; omega)) (.int .i64 0)).alloc (by first | omega | (simp; done) | (simp; omega)) (.cells #[.int .i64 p.n, .int .i64 p.d] 39)
    refine bp_gen' (fun W => Own W _ _ _ ∧ Below w.heap.size w W) ⟨oR, hB⟩ ?_
    rintro wz ⟨oz, bz⟩
    obtain ⟨rz, fz⟩ := oz.rules
    clear oz
    refine bodyPost_ret (v := .tuple #[.agg #[.int .i64 0, .int .i64 0], .int .i64 p.e]) (by simp [results, Try.results40, go_sem, rz]) rfl ⟨by rw [HV.out], ?_⟩
    exact bz
  have b2 : (p.e != 0) = false := by simp [h1]
  have E1 := Lib.hid h1
  have PV := Lib.hid (PK.out h1)
  clear h1 GP PK
  go_wp2_with fail
  refine (dworth_any A B y _ _ _ _ (hA.below (ba1 y4 _)) (hB.below (ba1 y4 _)) (hz.below (ba1 y4 _)) IZ.out).mono ?_
  rintro e y5 ⟨rfl, hq⟩
  have oP := (Own.new y4 39 [.int .i64 p.n, .int .i64 p.d]).below hq
  replace hq := below_to (ba1 y4 (.cells #[.int .i64 p.n, .int .i64 p.d] 39)) hq
  obtain ⟨bP, hbP⟩ : ∃ G, G = y4.heap.size := ⟨_, rfl⟩
  rw [← hbP] at oP ⊢
  have zP0 : y4.heap.size ≤ bP := by rw [hbP]; exact Nat.le_refl _
  clear hbP
  clear rS fS zS rR fR zR
  replace oS := oS.below hq
  replace oR := oR.below hq
  replace hY := below_to hY hq
  clear hq
  obtain ⟨rS, fS⟩ := oS.rules
  have zS := oS.lt
  obtain ⟨rR, fR⟩ := oR.rules
  have zR := oR.lt
  obtain ⟨rP, fP⟩ := oP.rules
  have zP := oP.lt
  clear hA hB hx hz
  generalize dworth A B y = q at *
  by_cases h2 : q.e = 0
  case neg =>
    have HV := Lib.hid (GW.out E1.out h2)
    have b3 : (q.e != 0) = true := by simpa using h2
    clear h2 GW G0 WK
    have hB := hY
    go_wp2
    replace oR := (((oR).set 0 (.int .i64 0)).set 1 (.int .i64 0)).alloc (.cells #[.int .i64 q.n, .int .i64 q.d] 39)
    replace hB := (((hB).setCell (p := ⟨w.heap.size + 1, 0, none⟩) (by first | omega | (simp; done) | (simp; omega)) (.int .i64 0)).setCell (p := ⟨w.heap.size + 1, 1, none⟩) (by first | omega | (simp; done) | (simp; omega)) (.int .i64 0)).alloc (by first | omega | (simp; done) | (simp; omega)) (.cells #[.int .i64 q.n, .int .i64 q.d] 39)
    refine bp_gen' (fun W => Own W _ _ _ ∧ Below w.heap.size w W) ⟨oR, hB⟩ ?_
    rintro wz ⟨oz, bz⟩
    obtain ⟨rz, fz⟩ := oz.rules
    clear oz
    refine bodyPost_ret (v := .tuple #[.agg #[.int .i64 0, .int .i64 0], .int .i64 q.e]) (by simp [results, Try.results40, go_sem, rz]) rfl ⟨by rw [HV.out], ?_⟩
    exact bz
  have b3 : (q.e != 0) = false := by simp [h2]
  have HV := Lib.hid (G0.out E1.out h2)
  have QV := Lib.hid (WK.out h2)
  have I1 := Lib.hid (fr_i64 PV.out)
  have I2 := Lib.hid (fr_i64 QV.out)
  have F5 := Lib.hid (fsub_FOk PV.out QV.out)
  clear h2 GW G0 WK
  go_wp2_with fail
  refine (fsub_any p.n p.d q.n q.d _ I1.out.1 I1.out.2 I2.out.1 I2.out.2).mono ?_
  rintro e y6 ⟨rfl, hq⟩
  replace hq := below_to (ba1 y5 _) hq
  clear rS fS zS rR fR zR rP fP zP
  replace oS := oS.below hq
  replace oR := oR.below hq
  replace oP := oP.below hq
  replace hY := below_to hY hq
  clear hq
  obtain ⟨rS, fS⟩ := oS.rules
  have zS := oS.lt
  obtain ⟨rR, fR⟩ := oR.rules
  have zR := oR.lt
  obtain ⟨rP, fP⟩ := oP.rules
  have zP := oP.lt
  generalize fsub p.n p.d q.n q.d = r at *
  by_cases h5 : r.e = 0
  case neg =>
    have E5 := Lib.hid (F5.out.e h5)
    have b6 : (r.e != 0) = true := by simpa using h5
    clear h5
    have hB := hY
    go_wp2
    replace oR := (((oR).set 0 (.int .i64 0)).set 1 (.int .i64 0)).alloc (.cells #[.int .i64 r.n, .int .i64 r.d] 39)
    replace hB := (((hB).setCell (p := ⟨w.heap.size + 1, 0, none⟩) (by first | omega | (simp; done) | (simp; omega)) (.int .i64 0)).setCell (p := ⟨w.heap.size + 1, 1, none⟩) (by first | omega | (simp; done) | (simp; omega)) (.int .i64 0)).alloc (by first | omega | (simp; done) | (simp; omega)) (.cells #[.int .i64 r.n, .int .i64 r.d] 39)
    refine bp_gen' (fun W => Own W _ _ _ ∧ Below w.heap.size w W) ⟨oR, hB⟩ ?_
    rintro wz ⟨oz, bz⟩
    obtain ⟨rz, fz⟩ := oz.rules
    clear oz
    refine bodyPost_ret (v := .tuple #[.agg #[.int .i64 0, .int .i64 0], .int .i64 16]) (by simp [results, Try.results40, go_sem, rz]) rfl ⟨by rw [HV.out, E5.out], ?_⟩
    exact bz
  have b6 : (r.e != 0) = false := by simp [h5]
  have E5 := Lib.hid h5
  clear h5
  have hB := hY
  go_wp2
  replace oR := (((oR).set 0 (.int .i64 r.n)).set 1 (.int .i64 r.d)).alloc (.cells #[.int .i64 r.n, .int .i64 r.d] 39)
  replace hB := (((hB).setCell (p := ⟨w.heap.size + 1, 0, none⟩) (by first | omega | (simp; done) | (simp; omega)) (.int .i64 r.n)).setCell (p := ⟨w.heap.size + 1, 1, none⟩) (by first | omega | (simp; done) | (simp; omega)) (.int .i64 r.d)).alloc (by first | omega | (simp; done) | (simp; omega)) (.cells #[.int .i64 r.n, .int .i64 r.d] 39)
  refine bp_gen' (fun W => Own W _ _ _ ∧ Below w.heap.size w W) ⟨oR, hB⟩ ?_
  rintro wz ⟨oz, bz⟩
  obtain ⟨rz, fz⟩ := oz.rules
  clear oz
  refine bodyPost_ret (v := .tuple #[.agg #[.int .i64 r.n, .int .i64 r.d], .int .i64 0]) (by simp [results, Try.results40, go_sem, rz]) rfl ⟨by rw [HV.out, E5.out], ?_⟩
  exact bz
set_option maxRecDepth 100000 in
set_option maxHeartbeats 16000000 in
theorem dacc_any (A : List (List Int)) (B : List Int) (c : Int) (x y : List (Int × Int)) (gn gd : Int) (va vb vx vy : Value) (w : World) (hA : SS w va A) (hB : SI w vb B) (hx : SF w vx x) (ix : FI x) (hz : SF w vy y) (iz : FI y) (ig : i64 gn) (ih : i64 gd) :
    Calls Try.prog 43 #[.agg #[va, vb], .int .i64 c, vx, vy, .agg #[.int .i64 gn, .int .i64 gd]] w fun e w' => e = .returned (.tuple #[.bool (daccept A B c x y gn gd).1, .int .i64 (daccept A B c x y gn gd).2]) ∧ Below w.heap.size w w' := by
  have IX := Lib.hid ix
  have IZ := Lib.hid iz
  clear ix iz
  go_enter Try.func43, Try.ntmps43
  have oS := own_first w 25 [va, vb] (.cells #[.int .i64 gn, .int .i64 gd] 39)
  have oT := own_second w 39 [.int .i64 gn, .int .i64 gd] (.cells #[va, vb] 25)
  have hY := ba2 w (.cells #[va, vb] 25) (.cells #[.int .i64 gn, .int .i64 gd] 39)
  replace hA := hA.below hY
  replace hB := hB.below hY
  replace hx := hx.below hY
  replace hz := hz.below hY
  obtain ⟨rS, fS⟩ := oS.rules
  have zS := oS.lt
  obtain ⟨rT, fT⟩ := oT.rules
  have zT := oT.lt
  go_wp2_with fail
  refine (ncheck_any A B _ _ _ hA hB).mono ?_
  rintro e y1 ⟨rfl, hq⟩
  clear rS fS zS rT fT zT
  replace oS := oS.below hq
  replace oT := oT.below hq
  replace hA := hA.below hq
  replace hB := hB.below hq
  replace hx := hx.below hq
  replace hz := hz.below hq
  replace hY := below_to hY hq
  clear hq
  obtain ⟨rS, fS⟩ := oS.rules
  have zS := oS.lt
  obtain ⟨rT, fT⟩ := oT.rules
  have zT := oT.lt
  by_cases h0 : ncheck A B = 0
  case neg =>
    have E0 := Lib.hid (scheck_c (c := c) h0)
    have HV := Lib.hid (dacc_c (x := x) (y := y) (gn := gn) (gd := gd) (show ¬ scheck A B c = 0 by rw [E0.out]; exact h0))
    have b1 : (ncheck A B != 0) = true := by simpa using h0
    clear h0 hA hB hx hz
    go_wp2
    go_ret2
    exact ⟨by rw [HV.out, E0.out]; try rfl, hY⟩
  have b1 : (ncheck A B != 0) = false := by simp [h0]
  have l0 := ncheck_len h0
  go_wp2_with fail
  refine (dcost_any c _).mono ?_
  rintro e _ ⟨rfl, rfl⟩
  by_cases hc : costB c = true
  case neg =>
    have hc' : costB c = false := by simpa using hc
    have E0 := Lib.hid (costQ_no h0 hc')
    have HV := Lib.hid (dacc_c (x := x) (y := y) (gn := gn) (gd := gd) (show ¬ scheck A B c = 0 by rw [E0.out]; decide))
    rw [hc']
    clear h0 hc hc' hA hB hx hz
    go_wp2
    go_ret2
    exact ⟨by rw [HV.out, E0.out]; try rfl, hY⟩
  obtain ⟨hs, hc1, hc2⟩ := costQ_of h0 hc
  rw [hc]
  have HS := Lib.hid hs
  clear hc hs h0
  go_wp2_with fail
  refine (dpt_any A x _ _ _ _ hA hx IX.out l0).mono ?_
  rintro e y2 ⟨rfl, hq⟩
  clear rS fS zS rT fT zT
  replace oS := oS.below hq
  replace oT := oT.below hq
  replace hA := hA.below hq
  replace hB := hB.below hq
  replace hx := hx.below hq
  replace hz := hz.below hq
  replace hY := below_to hY hq
  clear hq
  obtain ⟨rS, fS⟩ := oS.rules
  have zS := oS.lt
  obtain ⟨rT, fT⟩ := oT.rules
  have zT := oT.lt
  by_cases hp : pointB (A.getD 0 []).length x = true
  case neg =>
    have hp' : pointB (A.getD 0 []).length x = false := by simpa using hp
    have HV := Lib.hid (dacc_2 (y := y) (gn := gn) (gd := gd) HS.out (by unfold bothB; rw [hp']; rfl))
    rw [hp']
    clear hp hp' hA hB hx hz
    go_wp2
    go_ret2
    exact ⟨by rw [HV.out]; try rfl, hY⟩
  rw [hp]
  have HP := Lib.hid hp
  clear hp
  go_wp2_with fail
  refine (dwitB_any A y _ _ _ _ hA hz IZ.out).mono ?_
  rintro e y3 ⟨rfl, hq⟩
  clear rS fS zS rT fT zT
  replace oS := oS.below hq
  replace oT := oT.below hq
  replace hA := hA.below hq
  replace hB := hB.below hq
  replace hx := hx.below hq
  replace hz := hz.below hq
  replace hY := below_to hY hq
  clear hq
  obtain ⟨rS, fS⟩ := oS.rules
  have zS := oS.lt
  obtain ⟨rT, fT⟩ := oT.rules
  have zT := oT.lt
  by_cases hw : witB A.length y = true
  case neg =>
    have hw' : witB A.length y = false := by simpa using hw
    have HV := Lib.hid (dacc_2 (x := x) (gn := gn) (gd := gd) HS.out (by unfold bothB; rw [HP.out, hw']; rfl))
    rw [hw']
    clear hw hw' hA hB hx hz
    go_wp2
    go_ret2
    exact ⟨by rw [HV.out]; try rfl, hY⟩
  rw [hw]
  have HBW : Hid (bothB A x y = true) := by show _ = _; unfold bothB; rw [HP.out, hw]; rfl
  clear hw
  have A8 := Lib.hid (dacc_8 (gn := gn) (gd := gd) HS.out HBW.out)
  have AF := Lib.hid (dacc_f (gn := gn) (gd := gd) HS.out HBW.out)
  have AG := Lib.hid (dacc_g (gn := gn) (gd := gd) HS.out HBW.out)
  have A0 := Lib.hid (dacc_0 (gn := gn) (gd := gd) HS.out HBW.out)
  go_wp2_with fail
  refine (check_any gn gd _ ig ih).mono ?_
  rintro e y4 ⟨rfl, hq⟩
  clear rS fS zS rT fT zT
  replace oS := oS.below hq
  replace oT := oT.below hq
  replace hA := hA.below hq
  replace hB := hB.below hq
  replace hx := hx.below hq
  replace hz := hz.below hq
  replace hY := below_to hY hq
  clear hq
  obtain ⟨rS, fS⟩ := oS.rules
  have zS := oS.lt
  obtain ⟨rT, fT⟩ := oT.rules
  have zT := oT.lt
  by_cases h1 : fchk gn gd = 0
  case neg =>
    have HV := Lib.hid (A8.out h1)
    have b2 : (fchk gn gd != 0) = true := by simpa using h1
    clear h1 hA hB hx hz A8 AF AG A0
    go_wp2
    go_ret2
    exact ⟨by rw [HV.out]; try rfl, hY⟩
  have b2 : (fchk gn gd != 0) = false := by simp [h1]
  have E1 := Lib.hid h1
  clear h1 A8
  go_wp2_with fail
  refine (dfeas_any A B c y _ _ _ _ hA hB hz IZ.out).mono ?_
  rintro e y5 ⟨rfl, hq⟩
  clear rS fS zS rT fT zT
  replace oS := oS.below hq
  replace oT := oT.below hq
  replace hA := hA.below hq
  replace hB := hB.below hq
  replace hx := hx.below hq
  replace hz := hz.below hq
  replace hY := below_to hY hq
  clear hq
  obtain ⟨rS, fS⟩ := oS.rules
  have zS := oS.lt
  obtain ⟨rT, fT⟩ := oT.rules
  have zT := oT.lt
  generalize dfeas A B c y = f at *
  by_cases h2 : f.2 = 0
  case neg =>
    have HV := Lib.hid (AF.out E1.out h2)
    have b3 : (f.2 != 0) = true := by simpa using h2
    clear h2 hA hB hx hz AF AG A0
    go_wp2
    go_ret2
    exact ⟨by rw [HV.out]; try rfl, hY⟩
  have b3 : (f.2 != 0) = false := by simp [h2]
  have E2 := Lib.hid h2
  clear h2 AF
  go_wp2_with fail
  refine (dgap_any A B c x y _ _ _ _ _ hA hB hx IX.out hz IZ.out).mono ?_
  rintro e y6 ⟨rfl, hq⟩
  clear rS fS zS rT fT zT
  replace oS := oS.below hq
  replace oT := oT.below hq
  replace hA := hA.below hq
  replace hB := hB.below hq
  replace hx := hx.below hq
  replace hz := hz.below hq
  replace hY := below_to hY hq
  clear hq
  obtain ⟨rS, fS⟩ := oS.rules
  have zS := oS.lt
  obtain ⟨rT, fT⟩ := oT.rules
  have zT := oT.lt
  generalize dgap A B c x y = g at *
  clear hA hB hx hz
  by_cases h3 : g.e = 0
  case neg =>
    have HV := Lib.hid (AG.out E1.out E2.out h3)
    have b4 : (g.e != 0) = true := by simpa using h3
    clear h3 AG A0
    go_wp2
    go_ret2
    exact ⟨by rw [HV.out]; try rfl, below_to hY (ba1 _ _)⟩
  have b4 : (g.e != 0) = false := by simp [h3]
  have HV := Lib.hid (A0.out E1.out E2.out h3)
  clear h3 AG A0
  obtain ⟨f1, f2⟩ := f
  simp only at HV E2 b3 ⊢
  cases f1
  · go_wp2
    go_ret2
    exact ⟨by rw [HV.out]; try rfl, below_to hY (ba1 _ _)⟩
  · by_cases q1 : g.n = gn
    · by_cases q2 : g.d = gd
      · have B1 : Hid ((true && (decide (g.n = gn) && decide (g.d = gd))) = true) := by show _ = _; simp [q1, q2]
        have r1 : (g.n == gn) = true := by simp [q1]
        have r2 : (g.d == gd) = true := by simp [q2]
        clear q1 q2
        go_wp2
        go_ret2
        exact ⟨by rw [HV.out, B1.out]; try rfl, below_to hY (ba1 _ _)⟩
      · have B1 : Hid ((true && (decide (g.n = gn) && decide (g.d = gd))) = false) := by show _ = _; simp [q2]
        have r1 : (g.n == gn) = true := by simp [q1]
        have r2 : (g.d == gd) = false := by simpa using q2
        clear q1 q2
        go_wp2
        go_ret2
        exact ⟨by rw [HV.out, B1.out]; try rfl, below_to hY (ba1 _ _)⟩
    · have B1 : Hid ((true && (decide (g.n = gn) && decide (g.d = gd))) = false) := by show _ = _; simp [q1]
      have r1 : (g.n == gn) = false := by simpa using q1
      clear q1
      go_wp2
      go_ret2
      exact ⟨by rw [HV.out, B1.out]; try rfl, below_to hY (ba1 _ _)⟩
end Go.Proofs.Ytfoemacgmehpiaa
