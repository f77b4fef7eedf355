/- What is proved here: contracts of functions and plain facts, several texts in one; each one says ahead what it proves, and its conditions. -/
import Derived.Test.YtpjhiojdnebgoaaC06
import Derived.Test.YtpjhiojdnebgoaaC12
import Derived.Test.YtpjhiojdnebgoaaC21
import Derived.Test.YtpjhiojdnebgoaaC01
import Derived.RegionTactic
import Derived.ChangeAlike
import Derived.BigRegion
import Derived.Deep.DeepCutAuto
import Derived.IntWalk
/- What is proved here: the contracts of frac.floor, Floor, of the reference's low and Floor, and of interp.Split and the reference's Split. Condition: 64-bit numbers. -/
namespace Go.Proofs.Ytpjhiojdnebgoaa
open Go.RowKit

theorem tdiv_i64 {n d : Int} (h : 1 ≤ d) (h1 : -1000000000000000000 ≤ n) (h2 : n ≤ 1000000000000000000) : -1000000000000000000 ≤ n.tdiv d ∧ n.tdiv d ≤ 1000000000000000000 := by
  have b := flo_bd h h1 h2
  by_cases hn : n.tmod d < 0
  · have := flo_lt h hn
    have h3 : n < 0 := by
      apply Classical.byContradiction
      intro h4
      have := Int.tmod_nonneg (a := n) d (by omega)
      omega
    have := Int.ediv_neg_of_neg_of_pos h3 (show 0 < d by omega)
    omega
  · have := flo_ge h hn; omega
set_option maxHeartbeats 4000000 in
theorem floor_any (n d : Int) (w : World) (h : fchk n d = 0) :
    Calls Try.prog 89 #[.int .i64 n, .int .i64 d] w fun e w' => e = .returned (.int .i64 (n / d)) ∧ w = w' := by
  obtain ⟨u1, u2, u3, u4, _⟩ := fok_of h
  have t := tdiv_i64 u1 u3 u4
  have a1 : IntKind.i64.wrap (n.tdiv d) = n.tdiv d := IntWalk.i64_in _ (by omega)
  have hd0 : ¬ d = 0 := by omega
  have hb0 : (d == 0) = false := by simpa using hd0
  by_cases hn : n.tmod d < 0
  · have E := Lib.hid (flo_lt u1 hn)
    have a2 : IntKind.i64.wrap (n.tdiv d - 1) = n.tdiv d - 1 := IntWalk.i64_in _ (by omega)
    go_enter Try.func89, Try.ntmps89
    go_wp2
    go_ret
    exact ⟨by first | exact ret_int E.out | (rw [← E.out]), rfl⟩
  · have E := Lib.hid (flo_ge u1 hn)
    go_enter Try.func89, Try.ntmps89
    go_wp2
    go_ret
    exact ⟨by first | exact ret_int E.out | (rw [← E.out]), rfl⟩
set_option maxHeartbeats 4000000 in
theorem low_any (n d : Int) (w : World) (h : fchk n d = 0) :
    Calls Try.prog 92 #[.int .i64 n, .int .i64 d] w fun e w' => e = .returned (.int .i64 (n / d)) ∧ w = w' := by
  obtain ⟨u1, u2, u3, u4, _⟩ := fok_of h
  have t := tdiv_i64 u1 u3 u4
  have a1 : IntKind.i64.wrap (n.tdiv d) = n.tdiv d := IntWalk.i64_in _ (by omega)
  have hd0 : ¬ d = 0 := by omega
  have hb0 : (d == 0) = false := by simpa using hd0
  by_cases hn : n.tmod d < 0
  · have E := Lib.hid (flo_lt u1 hn)
    have a2 : IntKind.i64.wrap (n.tdiv d - 1) = n.tdiv d - 1 := IntWalk.i64_in _ (by omega)
    go_enter Try.func92, Try.ntmps92
    go_wp2
    go_ret
    exact ⟨by first | exact ret_int E.out | (rw [← E.out]), rfl⟩
  · have E := Lib.hid (flo_ge u1 hn)
    go_enter Try.func92, Try.ntmps92
    go_wp2
    go_ret
    exact ⟨by first | exact ret_int E.out | (rw [← E.out]), rfl⟩
/-- Floor. -/
def fflo (n d : Int) : Int × Int := if fchk n d = 0 then (n / d, 0) else (0, 8)
theorem fflo_0 {n d : Int} (h : fchk n d = 0) : fflo n d = (n / d, 0) := if_pos h
theorem fflo_8 {n d : Int} (h : ¬ fchk n d = 0) : fflo n d = (0, 8) := if_neg h
set_option maxHeartbeats 4000000 in
theorem fFloor_any (n d : Int) (w : World) (h1 : i64 n) (h2 : i64 d) :
    Calls Try.prog 51 #[.agg #[.int .i64 n, .int .i64 d]] w fun e w' => e = .returned (.tuple #[.int .i64 (fflo n d).1, .int .i64 (fflo n d).2]) ∧ Below w.heap.size w w' := by
  have J1 := Lib.hid h1
  have J2 := Lib.hid h2
  clear h1 h2
  have oA := Own.new w 24 [.int .i64 n, .int .i64 d]
  have hB := ba1 w (.cells #[.int .i64 n, .int .i64 d] 24)
  by_cases hc : fchk n d = 0
  case neg =>
    have HV := Lib.hid (fflo_8 hc)
    have hc8 : fchk n d = 8 := by rcases fchk_cases n d with h | h; exact absurd h hc; exact h
    clear hc
    go_enter Try.func51, Try.ntmps51
    obtain ⟨rA, fA⟩ := oA.rules
    have zA := oA.lt
    go_wp2_with fail
    refine (check_any n d _ J1.out J2.out).mono ?_
    rintro e y1 ⟨rfl, hq⟩
    clear rA fA zA
    replace oA := oA.below hq
    replace hB := below_to hB hq
    clear hq
    obtain ⟨rA, fA⟩ := oA.rules
    have zA := oA.lt
    rw [hc8]
    go_wp2
    go_ret2
    exact ⟨by rw [HV.out]; try rfl, hB⟩
  have HV := Lib.hid (fflo_0 hc)
  have HC := Lib.hid hc
  clear hc
  go_enter Try.func51, Try.ntmps51
  obtain ⟨rA, fA⟩ := oA.rules
  have zA := oA.lt
  go_wp2_with fail
  refine (check_any n d _ J1.out J2.out).mono ?_
  rintro e y1 ⟨rfl, hq⟩
  clear rA fA zA
  replace oA := oA.below hq
  replace hB := below_to hB hq
  clear hq
  obtain ⟨rA, fA⟩ := oA.rules
  have zA := oA.lt
  rw [HC.out]
  go_wp2_with fail
  refine (floor_any n d _ HC.out).mono ?_
  rintro e _ ⟨rfl, rfl⟩
  generalize n / d = q at *
  go_wp2
  go_ret2
  exact ⟨by rw [HV.out]; try rfl, hB⟩
set_option maxHeartbeats 4000000 in
theorem rFloor_any (n d : Int) (w : World) (h : fchk n d = 0) :
    Calls Try.prog 53 #[.agg #[.int .i64 n, .int .i64 d]] w fun e w' => e = .returned (.tuple #[.int .i64 (n / d), .int .i64 0]) ∧ Below w.heap.size w w' := by
  have HC := Lib.hid h
  have J := Lib.hid (fr_i64 h)
  clear h
  have oA := Own.new w 24 [.int .i64 n, .int .i64 d]
  have hB := ba1 w (.cells #[.int .i64 n, .int .i64 d] 24)
  go_enter Try.func53, Try.ntmps53
  obtain ⟨rA, fA⟩ := oA.rules
  have zA := oA.lt
  go_wp2_with fail
  refine (rcheck_any n d _ J.out.1 J.out.2).mono ?_
  rintro e y1 ⟨rfl, hq⟩
  clear rA fA zA
  replace oA := oA.below hq
  replace hB := below_to hB hq
  clear hq
  obtain ⟨rA, fA⟩ := oA.rules
  have zA := oA.lt
  rw [HC.out]
  go_wp2_with fail
  refine (low_any n d _ HC.out).mono ?_
  rintro e _ ⟨rfl, rfl⟩
  generalize hq : n / d = q at *
  have HQ := Lib.hid hq
  clear hq
  go_wp2
  go_ret2
  exact ⟨by rw [HQ.out]; try rfl, hB⟩
set_option maxRecDepth 100000 in
set_option maxHeartbeats 8000000 in
theorem isplit_any (n d : Int) (w : World) (h1 : i64 n) (h2 : i64 d) :
    Calls Try.prog 18 #[.agg #[.int .i64 n, .int .i64 d]] w fun e w' => e = .returned (.tuple #[.int .i64 (fspl n d).1, .agg #[.int .i64 (fspl n d).2.1, .int .i64 (fspl n d).2.2.1], .int .i64 (fspl n d).2.2.2]) ∧ Below w.heap.size w w' := by
  have J1 := Lib.hid h1
  have J2 := Lib.hid h2
  clear h1 h2
  have oA := (Own.new w 24 [.int .i64 n, .int .i64 d]).alloc (.cells #[.int .i64 0, .int .i64 0] 24)
  have oR := own_second w 24 [.int .i64 0, .int .i64 0] (.cells #[.int .i64 n, .int .i64 d] 24)
  have hB := ba2 w (.cells #[.int .i64 n, .int .i64 d] 24) (.cells #[.int .i64 0, .int .i64 0] 24)
  by_cases hc : fchk n d = 0
  case neg =>
    have HV := Lib.hid (fspl_8 hc)
    have HF := Lib.hid (fflo_8 hc)
    clear hc
    go_enter Try.func18, Try.ntmps18
    obtain ⟨rA, fA⟩ := oA.rules
    have zA := oA.lt
    obtain ⟨rR, fR⟩ := oR.rules
    have zR := oR.lt
    go_wp2_with fail
    refine (fFloor_any n d _ J1.out J2.out).mono ?_
    rintro e y1 ⟨rfl, hq⟩
    clear rA fA zA rR fR zR
    replace oA := oA.below hq
    replace oR := oR.below hq
    replace hB := below_to hB hq
    clear hq
    obtain ⟨rA, fA⟩ := oA.rules
    have zA := oA.lt
    obtain ⟨rR, fR⟩ := oR.rules
    have zR := oR.lt
    rw [HF.out]
    go_wp2
    replace oR := ((oR).set 0 (.int .i64 0)).set 1 (.int .i64 0)
    replace hB := ((hB).setCell (p := ⟨w.heap.size + 1, 0, none⟩) (by first | omega | (simp; done) | (simp; omega)) (.int .i64 0)).setCell (p := ⟨w.heap.size + 1, 1, none⟩) (by first | omega | (simp; done) | (simp; omega)) (.int .i64 0)
    refine bp_gen' (fun W => Own W _ _ _ ∧ Below w.heap.size w W) ⟨oR, hB⟩ ?_
    rintro wz ⟨oz, bz⟩
    obtain ⟨rz, fz⟩ := oz.rules
    clear oz
    refine bodyPost_ret (v := .tuple #[.int .i64 0, .agg #[.int .i64 0, .int .i64 0], .int .i64 8]) (by simp [results, Try.results18, go_sem, rz]) rfl ⟨by rw [HV.out], ?_⟩
    exact bz
  have HV := Lib.hid (fspl_0 hc)
  have HF := Lib.hid (fflo_0 hc)
  have HE := spl_e hc
  have JQ : Hid (i64 (n / d)) := by
    obtain ⟨u1, u2, u3, u4, _⟩ := fok_of hc
    have := flo_bd u1 u3 u4
    exact ⟨by omega, by omega⟩
  clear hc
  generalize n / d = q at *
  go_enter Try.func18, Try.ntmps18
  obtain ⟨rA, fA⟩ := oA.rules
  have zA := oA.lt
  obtain ⟨rR, fR⟩ := oR.rules
  have zR := oR.lt
  go_wp2_with fail
  refine (fFloor_any n d _ J1.out J2.out).mono ?_
  rintro e y1 ⟨rfl, hq⟩
  clear rA fA zA rR fR zR
  replace oA := oA.below hq
  replace oR := oR.below hq
  replace hB := below_to hB hq
  clear hq
  obtain ⟨rA, fA⟩ := oA.rules
  have zA := oA.lt
  obtain ⟨rR, fR⟩ := oR.rules
  have zR := oR.lt
  rw [HF.out]
  go_wp2_with fail
  refine (fsub_any n d q 1 _ J1.out J2.out JQ.out ⟨by decide, by decide⟩).mono ?_
  rintro e y2 ⟨rfl, hq⟩
  clear rA fA zA rR fR zR
  replace oA := oA.below hq
  replace oR := oR.below hq
  replace hB := below_to hB hq
  clear hq
  obtain ⟨rA, fA⟩ := oA.rules
  have zA := oA.lt
  obtain ⟨rR, fR⟩ := oR.rules
  have zR := oR.lt
  generalize fsub n d q 1 = p at *
  rw [HE]
  go_wp2_with fail
  go_region
  go_wp2
  replace oR := ((((oR.set 0 (.int .i64 p.n)).set 1 (.int .i64 p.d)).set 0 (.int .i64 p.n)).set 1 (.int .i64 p.d)).drew
  replace hB := ((((hB.setCell (p := ⟨w.heap.size + 1, 0, none⟩) (by simp) (.int .i64 p.n)).setCell (p := ⟨w.heap.size + 1, 1, none⟩) (by simp) (.int .i64 p.d)).setCell (p := ⟨w.heap.size + 1, 0, none⟩) (by simp) (.int .i64 p.n)).setCell (p := ⟨w.heap.size + 1, 1, none⟩) (by simp) (.int .i64 p.d)).drew
  refine bp_gen' (fun W => Own W _ _ _ ∧ Below w.heap.size w W) ⟨oR, hB⟩ ?_
  rintro wz ⟨oz, bz⟩
  obtain ⟨rz, fz⟩ := oz.rules
  clear oz
  refine bodyPost_ret (v := .tuple #[.int .i64 q, .agg #[.int .i64 p.n, .int .i64 p.d], .int .i64 0]) (by simp [results, Try.results18, go_sem, rz]) rfl ⟨by rw [HV.out], ?_⟩
  exact bz
set_option maxRecDepth 100000 in
set_option maxHeartbeats 8000000 in
theorem risplit_any (n d : Int) (w : World) (h1 : i64 n) (h2 : i64 d) :
    Calls Try.prog 19 #[.agg #[.int .i64 n, .int .i64 d]] w fun e w' => e = .returned (.tuple #[.int .i64 (fspl n d).1, .agg #[.int .i64 (fspl n d).2.1, .int .i64 (fspl n d).2.2.1], .int .i64 (fspl n d).2.2.2]) ∧ Below w.heap.size w w' := by
  have J1 := Lib.hid h1
  have J2 := Lib.hid h2
  clear h1 h2
  have oA := (Own.new w 24 [.int .i64 n, .int .i64 d]).alloc (.cells #[.int .i64 0, .int .i64 0] 24)
  have oR := own_second w 24 [.int .i64 0, .int .i64 0] (.cells #[.int .i64 n, .int .i64 d] 24)
  have hB := ba2 w (.cells #[.int .i64 n, .int .i64 d] 24) (.cells #[.int .i64 0, .int .i64 0] 24)
  by_cases hc : fchk n d = 0
  case neg =>
    have HV := Lib.hid (fspl_8 hc)
    have b1 : (fchk n d != 0) = true := by simpa using hc
    clear hc
    go_enter Try.func19, Try.ntmps19
    obtain ⟨rA, fA⟩ := oA.rules
    have zA := oA.lt
    obtain ⟨rR, fR⟩ := oR.rules
    have zR := oR.lt
    go_wp2_with fail
    refine (rcheck_any n d _ J1.out J2.out).mono ?_
    rintro e y1 ⟨rfl, hq⟩
    clear rA fA zA rR fR zR
    replace oA := oA.below hq
    replace oR := oR.below hq
    replace hB := below_to hB hq
    clear hq
    obtain ⟨rA, fA⟩ := oA.rules
    have zA := oA.lt
    obtain ⟨rR, fR⟩ := oR.rules
    have zR := oR.lt
    generalize fchk n d = fe at *
    go_wp2
    replace oR := ((oR).set 0 (.int .i64 0)).set 1 (.int .i64 0)
    replace hB := ((hB).setCell (p := ⟨w.heap.size + 1, 0, none⟩) (by first | omega | (simp; done) | (simp; omega)) (.int .i64 0)).setCell (p := ⟨w.heap.size + 1, 1, none⟩) (by first | omega | (simp; done) | (simp; omega)) (.int .i64 0)
    refine bp_gen' (fun W => Own W _ _ _ ∧ Below w.heap.size w W) ⟨oR, hB⟩ ?_
    rintro wz ⟨oz, bz⟩
    obtain ⟨rz, fz⟩ := oz.rules
    clear oz
    refine bodyPost_ret (v := .tuple #[.int .i64 0, .agg #[.int .i64 0, .int .i64 0], .int .i64 8]) (by simp [results, Try.results19, go_sem, rz]) rfl ⟨by rw [HV.out], ?_⟩
    exact bz
  have HV := Lib.hid (fspl_0 hc)
  have HC := Lib.hid hc
  have HE := Lib.hid (spl_e hc)
  have JQ : Hid (i64 (n / d)) := by
    obtain ⟨u1, u2, u3, u4, _⟩ := fok_of hc
    have := flo_bd u1 u3 u4
    exact ⟨by omega, by omega⟩
  clear hc
  go_enter Try.func19, Try.ntmps19
  obtain ⟨rA, fA⟩ := oA.rules
  have zA := oA.lt
  obtain ⟨rR, fR⟩ := oR.rules
  have zR := oR.lt
  go_wp2_with fail
  refine (rcheck_any n d _ J1.out J2.out).mono ?_
  rintro e y1 ⟨rfl, hq⟩
  clear rA fA zA rR fR zR
  replace oA := oA.below hq
  replace oR := oR.below hq
  replace hB := below_to hB hq
  clear hq
  obtain ⟨rA, fA⟩ := oA.rules
  have zA := oA.lt
  obtain ⟨rR, fR⟩ := oR.rules
  have zR := oR.lt
  rw [HC.out]
  go_wp2_with fail
  refine (rFloor_any n d _ HC.out).mono ?_
  rintro e y2 ⟨rfl, hq⟩
  clear rA fA zA rR fR zR
  replace oA := oA.below hq
  replace oR := oR.below hq
  replace hB := below_to hB hq
  clear hq
  obtain ⟨rA, fA⟩ := oA.rules
  have zA := oA.lt
  obtain ⟨rR, fR⟩ := oR.rules
  have zR := oR.lt
  generalize n / d = q at *
  go_wp2_with fail
  refine (rsub_any n d q 1 _ J1.out J2.out JQ.out ⟨by decide, by decide⟩).mono ?_
  rintro e y3 ⟨rfl, hq⟩
  clear rA fA zA rR fR zR oA
  replace oR := oR.below hq
  replace hB := below_to hB hq
  clear hq
  generalize fsub n d q 1 = p at *
  rw [HE.out]
  obtain ⟨rR, fR⟩ := oR.rules
  have zR := oR.lt
  go_wp2_with fail
  have oP := Own.new y3 24 [.int .i64 p.n, .int .i64 p.d]
  obtain ⟨rP, fP⟩ := oP.rules
  go_region
  go_wp2
  replace oR := (((oR.set 0 (.int .i64 p.n)).set 1 (.int .i64 p.d)).alloc (.cells #[.int .i64 p.n, .int .i64 p.d] 24)).drew
  replace hB := (((hB.setCell (p := ⟨w.heap.size + 1, 0, none⟩) (by simp) (.int .i64 p.n)).setCell (p := ⟨w.heap.size + 1, 1, none⟩) (by simp) (.int .i64 p.d)).alloc (by have := hB.size; simp; omega) (.cells #[.int .i64 p.n, .int .i64 p.d] 24)).drew
  refine bp_gen' (fun W => Own W _ _ _ ∧ Below w.heap.size w W) ⟨oR, hB⟩ ?_
  rintro wz ⟨oz, bz⟩
  obtain ⟨rz, fz⟩ := oz.rules
  clear oz
  refine bodyPost_ret (v := .tuple #[.int .i64 q, .agg #[.int .i64 p.n, .int .i64 p.d], .int .i64 0]) (by simp [results, Try.results19, go_sem, rz]) rfl ⟨by rw [HV.out], ?_⟩
  exact bz
end Go.Proofs.Ytpjhiojdnebgoaa
