/- What is proved here: contracts of functions and plain facts, several texts in one; each one says ahead what it proves, and its conditions. -/
import Derived.Test.YtpjhiojdnebgoaaC05
import Derived.Test.YtpjhiojdnebgoaaC24
import Derived.Test.YtpjhiojdnebgoaaC12
import Derived.Test.YtpjhiojdnebgoaaC21
/- What is proved here: the contracts of interp.addProduct and of the reference's product of layer 15. Condition: 64-bit numbers. -/
namespace Go.Proofs.Ytpjhiojdnebgoaa
open Go.RowKit

set_option maxRecDepth 100000 in
set_option maxHeartbeats 4000000 in
theorem iplus_any (sn sd an ad bn bd : Int) (w : World) (h1 : i64 sn) (h2 : i64 sd) (h3 : i64 an) (h4 : i64 ad) (h5 : i64 bn) (h6 : i64 bd) :
    Calls Try.prog 60 #[.agg #[.int .i64 sn, .int .i64 sd], .agg #[.int .i64 an, .int .i64 ad], .agg #[.int .i64 bn, .int .i64 bd]] w fun e w' => e = .returned (.tuple #[.agg #[.int .i64 (fplus sn sd an ad bn bd).n, .int .i64 (fplus sn sd an ad bn bd).d], .int .i64 (fplus sn sd an ad bn bd).e]) ∧ Below w.heap.size w w' := by
  obtain ⟨j1, j2⟩ := fmul_i64 an ad bn bd
  have J1 := Lib.hid j1
  have J2 := Lib.hid j2
  clear j1 j2
  by_cases hb : (fmul an ad bn bd).e = 0
  · have HV := Lib.hid (fplus_0 (sn := sn) (sd := sd) hb)
    have b1 : ((fmul an ad bn bd).e != 0) = false := by simp [hb]
    clear hb
    obtain ⟨m, hm⟩ : ∃ m, m = fmul an ad bn bd := ⟨_, rfl⟩
    rw [← hm] at HV b1 J1 J2
    have HM := Lib.hid hm
    clear hm
    go_enter Try.func60, Try.ntmps60
    have oS := ((own_first w 24 [.int .i64 sn, .int .i64 sd] (.cells #[.int .i64 an, .int .i64 ad] 24)).alloc (.cells #[.int .i64 bn, .int .i64 bd] 24)).alloc (.cells #[.int .i64 0, .int .i64 0] 24)
    have oA := ((own_second w 24 [.int .i64 an, .int .i64 ad] (.cells #[.int .i64 sn, .int .i64 sd] 24)).alloc (.cells #[.int .i64 bn, .int .i64 bd] 24)).alloc (.cells #[.int .i64 0, .int .i64 0] 24)
    have oB := (own_third w 24 [.int .i64 bn, .int .i64 bd] (.cells #[.int .i64 sn, .int .i64 sd] 24) (.cells #[.int .i64 an, .int .i64 ad] 24)).alloc (.cells #[.int .i64 0, .int .i64 0] 24)
    have oR := own_fourth w 24 [.int .i64 0, .int .i64 0] (.cells #[.int .i64 sn, .int .i64 sd] 24) (.cells #[.int .i64 an, .int .i64 ad] 24) (.cells #[.int .i64 bn, .int .i64 bd] 24)
    have hB := ba4 w (.cells #[.int .i64 sn, .int .i64 sd] 24) (.cells #[.int .i64 an, .int .i64 ad] 24) (.cells #[.int .i64 bn, .int .i64 bd] 24) (.cells #[.int .i64 0, .int .i64 0] 24)
    go_wp2_with fail
    generalize (((w.alloc (.cells #[.int .i64 sn, .int .i64 sd] 24)).alloc (.cells #[.int .i64 an, .int .i64 ad] 24)).alloc (.cells #[.int .i64 bn, .int .i64 bd] 24)).alloc (.cells #[.int .i64 0, .int .i64 0] 24) = y0 at *
    obtain ⟨rS, fS⟩ := oS.rules
    have zS := oS.lt
    obtain ⟨rA, fA⟩ := oA.rules
    have zA := oA.lt
    obtain ⟨rB, fB⟩ := oB.rules
    have zB := oB.lt
    obtain ⟨rR, fR⟩ := oR.rules
    have zR := oR.lt
    refine (fmul_any _ _ _ _ _ h3 h4 h5 h6).mono ?_
    rintro e y1 ⟨rfl, hq⟩
    rw [← HM.out]
    clear rS fS zS rA fA zA rB fB zB rR fR zR
    replace oS := oS.below hq
    replace oA := oA.below hq
    replace oB := oB.below hq
    replace oR := oR.below hq
    replace hB := below_to hB hq
    clear hq
    obtain ⟨rS, fS⟩ := oS.rules
    have zS := oS.lt
    obtain ⟨rA, fA⟩ := oA.rules
    have zA := oA.lt
    obtain ⟨rB, fB⟩ := oB.rules
    have zB := oB.lt
    obtain ⟨rR, fR⟩ := oR.rules
    have zR := oR.lt
    go_wp2_with fail
    refine (fadd_any _ _ _ _ _ h1 h2 J1.out J2.out).mono ?_
    rintro e y2 ⟨rfl, hq⟩
    replace hq := below_to (ba1 y1 _) hq
    clear rS fS zS rA fA zA rB fB zB rR fR zR
    replace oS := oS.below hq
    replace oA := oA.below hq
    replace oB := oB.below hq
    replace oR := oR.below hq
    replace hB := below_to hB hq
    clear hq
    obtain ⟨rS, fS⟩ := oS.rules
    have zS := oS.lt
    obtain ⟨rA, fA⟩ := oA.rules
    have zA := oA.lt
    obtain ⟨rB, fB⟩ := oB.rules
    have zB := oB.lt
    obtain ⟨rR, fR⟩ := oR.rules
    have zR := oR.lt
    generalize fadd sn sd m.n m.d = r at *
    go_wp2
    refine bp_gen' (fun W => Own W (w.heap.size + 1 + 1 + 1) 24 [.int .i64 r.n, .int .i64 r.d] ∧ Below w.heap.size w W) ⟨(oR.set 0 (.int .i64 r.n)).set 1 (.int .i64 r.d), ?_⟩ ?_
    · repeat (first | (with_reducible refine Below.alloc ?_ (by first | omega | (simp; omega)) _) | (with_reducible refine Below.setCell ?_ (by first | omega | (simp; done) | (simp; omega)) _))
      exact hB
    rintro wz ⟨oz, bz⟩
    obtain ⟨rz, fz⟩ := oz.rules
    clear oz
    refine bodyPost_ret (v := .tuple #[.agg #[.int .i64 r.n, .int .i64 r.d], .int .i64 r.e]) (by simp [results, Try.results60, go_sem, rz]) rfl ⟨by rw [HV.out], ?_⟩
    repeat (refine Below.setCell ?_ (by first | omega | (simp; done) | (simp; omega)) _)
    exact bz
  · have HV := Lib.hid (fplus_1 (sn := sn) (sd := sd) hb)
    have b1 : ((fmul an ad bn bd).e != 0) = true := by simpa using hb
    clear hb
    obtain ⟨m, hm⟩ : ∃ m, m = fmul an ad bn bd := ⟨_, rfl⟩
    rw [← hm] at HV b1 J1 J2
    have HM := Lib.hid hm
    clear hm
    go_enter Try.func60, Try.ntmps60
    have oS := ((own_first w 24 [.int .i64 sn, .int .i64 sd] (.cells #[.int .i64 an, .int .i64 ad] 24)).alloc (.cells #[.int .i64 bn, .int .i64 bd] 24)).alloc (.cells #[.int .i64 0, .int .i64 0] 24)
    have oA := ((own_second w 24 [.int .i64 an, .int .i64 ad] (.cells #[.int .i64 sn, .int .i64 sd] 24)).alloc (.cells #[.int .i64 bn, .int .i64 bd] 24)).alloc (.cells #[.int .i64 0, .int .i64 0] 24)
    have oB := (own_third w 24 [.int .i64 bn, .int .i64 bd] (.cells #[.int .i64 sn, .int .i64 sd] 24) (.cells #[.int .i64 an, .int .i64 ad] 24)).alloc (.cells #[.int .i64 0, .int .i64 0] 24)
    have oR := own_fourth w 24 [.int .i64 0, .int .i64 0] (.cells #[.int .i64 sn, .int .i64 sd] 24) (.cells #[.int .i64 an, .int .i64 ad] 24) (.cells #[.int .i64 bn, .int .i64 bd] 24)
    have hB := ba4 w (.cells #[.int .i64 sn, .int .i64 sd] 24) (.cells #[.int .i64 an, .int .i64 ad] 24) (.cells #[.int .i64 bn, .int .i64 bd] 24) (.cells #[.int .i64 0, .int .i64 0] 24)
    go_wp2_with fail
    generalize (((w.alloc (.cells #[.int .i64 sn, .int .i64 sd] 24)).alloc (.cells #[.int .i64 an, .int .i64 ad] 24)).alloc (.cells #[.int .i64 bn, .int .i64 bd] 24)).alloc (.cells #[.int .i64 0, .int .i64 0] 24) = y0 at *
    obtain ⟨rS, fS⟩ := oS.rules
    have zS := oS.lt
    obtain ⟨rA, fA⟩ := oA.rules
    have zA := oA.lt
    obtain ⟨rB, fB⟩ := oB.rules
    have zB := oB.lt
    obtain ⟨rR, fR⟩ := oR.rules
    have zR := oR.lt
    refine (fmul_any _ _ _ _ _ h3 h4 h5 h6).mono ?_
    rintro e y1 ⟨rfl, hq⟩
    rw [← HM.out]
    clear rS fS zS rA fA zA rB fB zB rR fR zR
    replace oS := oS.below hq
    replace oA := oA.below hq
    replace oB := oB.below hq
    replace oR := oR.below hq
    replace hB := below_to hB hq
    clear hq
    obtain ⟨rS, fS⟩ := oS.rules
    have zS := oS.lt
    obtain ⟨rA, fA⟩ := oA.rules
    have zA := oA.lt
    obtain ⟨rB, fB⟩ := oB.rules
    have zB := oB.lt
    obtain ⟨rR, fR⟩ := oR.rules
    have zR := oR.lt
    go_wp2
    refine bp_gen' (fun W => Own W (w.heap.size + 1 + 1 + 1) 24 [.int .i64 0, .int .i64 0] ∧ Below w.heap.size w W) ⟨?_, ?_⟩ ?_
    · exact (((oR.set 0 (.int .i64 0)).set 1 (.int .i64 0)).alloc _)
    · repeat (first | (with_reducible refine Below.alloc ?_ (by first | omega | (simp; omega)) _) | (with_reducible refine Below.setCell ?_ (by first | omega | (simp; done) | (simp; omega)) _))
      exact hB
    rintro wz ⟨oz, bz⟩
    obtain ⟨rz, fz⟩ := oz.rules
    clear oz
    refine bodyPost_ret (v := .tuple #[.agg #[.int .i64 0, .int .i64 0], .int .i64 m.e]) (by simp [results, Try.results60, go_sem, rz]) rfl ⟨by rw [HV.out], ?_⟩
    repeat (refine Below.setCell ?_ (by first | omega | (simp; done) | (simp; omega)) _)
    exact bz
set_option maxRecDepth 100000 in
set_option maxHeartbeats 4000000 in
theorem riplus_any (sn sd an ad bn bd : Int) (w : World) (h1 : i64 sn) (h2 : i64 sd) (h3 : i64 an) (h4 : i64 ad) (h5 : i64 bn) (h6 : i64 bd) :
    Calls Try.prog 88 #[.agg #[.int .i64 sn, .int .i64 sd], .agg #[.int .i64 an, .int .i64 ad], .agg #[.int .i64 bn, .int .i64 bd]] w fun e w' => e = .returned (.tuple #[.agg #[.int .i64 (fplus sn sd an ad bn bd).n, .int .i64 (fplus sn sd an ad bn bd).d], .int .i64 (fplus sn sd an ad bn bd).e]) ∧ Below w.heap.size w w' := by
  obtain ⟨j1, j2⟩ := fmul_i64 an ad bn bd
  have J1 := Lib.hid j1
  have J2 := Lib.hid j2
  clear j1 j2
  by_cases hb : (fmul an ad bn bd).e = 0
  · have HV := Lib.hid (fplus_0 (sn := sn) (sd := sd) hb)
    have b1 : ((fmul an ad bn bd).e != 0) = false := by simp [hb]
    clear hb
    obtain ⟨m, hm⟩ : ∃ m, m = fmul an ad bn bd := ⟨_, rfl⟩
    rw [← hm] at HV b1 J1 J2
    have HM := Lib.hid hm
    clear hm
    go_enter Try.func88, Try.ntmps88
    have oS := ((own_first w 24 [.int .i64 sn, .int .i64 sd] (.cells #[.int .i64 an, .int .i64 ad] 24)).alloc (.cells #[.int .i64 bn, .int .i64 bd] 24)).alloc (.cells #[.int .i64 0, .int .i64 0] 24)
    have oA := ((own_second w 24 [.int .i64 an, .int .i64 ad] (.cells #[.int .i64 sn, .int .i64 sd] 24)).alloc (.cells #[.int .i64 bn, .int .i64 bd] 24)).alloc (.cells #[.int .i64 0, .int .i64 0] 24)
    have oB := (own_third w 24 [.int .i64 bn, .int .i64 bd] (.cells #[.int .i64 sn, .int .i64 sd] 24) (.cells #[.int .i64 an, .int .i64 ad] 24)).alloc (.cells #[.int .i64 0, .int .i64 0] 24)
    have oR := own_fourth w 24 [.int .i64 0, .int .i64 0] (.cells #[.int .i64 sn, .int .i64 sd] 24) (.cells #[.int .i64 an, .int .i64 ad] 24) (.cells #[.int .i64 bn, .int .i64 bd] 24)
    have hB := ba4 w (.cells #[.int .i64 sn, .int .i64 sd] 24) (.cells #[.int .i64 an, .int .i64 ad] 24) (.cells #[.int .i64 bn, .int .i64 bd] 24) (.cells #[.int .i64 0, .int .i64 0] 24)
    go_wp2_with fail
    generalize (((w.alloc (.cells #[.int .i64 sn, .int .i64 sd] 24)).alloc (.cells #[.int .i64 an, .int .i64 ad] 24)).alloc (.cells #[.int .i64 bn, .int .i64 bd] 24)).alloc (.cells #[.int .i64 0, .int .i64 0] 24) = y0 at *
    obtain ⟨rS, fS⟩ := oS.rules
    have zS := oS.lt
    obtain ⟨rA, fA⟩ := oA.rules
    have zA := oA.lt
    obtain ⟨rB, fB⟩ := oB.rules
    have zB := oB.lt
    obtain ⟨rR, fR⟩ := oR.rules
    have zR := oR.lt
    refine (rmul_any _ _ _ _ _ h3 h4 h5 h6).mono ?_
    rintro e y1 ⟨rfl, hq⟩
    rw [← HM.out]
    clear rS fS zS rA fA zA rB fB zB rR fR zR
    replace oS := oS.below hq
    replace oA := oA.below hq
    replace oB := oB.below hq
    replace oR := oR.below hq
    replace hB := below_to hB hq
    clear hq
    obtain ⟨rS, fS⟩ := oS.rules
    have zS := oS.lt
    obtain ⟨rA, fA⟩ := oA.rules
    have zA := oA.lt
    obtain ⟨rB, fB⟩ := oB.rules
    have zB := oB.lt
    obtain ⟨rR, fR⟩ := oR.rules
    have zR := oR.lt
    go_wp2_with fail
    refine (radd_any _ _ _ _ _ h1 h2 J1.out J2.out).mono ?_
    rintro e y2 ⟨rfl, hq⟩
    replace hq := below_to (ba1 y1 _) hq
    clear rS fS zS rA fA zA rB fB zB rR fR zR
    replace oS := oS.below hq
    replace oA := oA.below hq
    replace oB := oB.below hq
    replace oR := oR.below hq
    replace hB := below_to hB hq
    clear hq
    obtain ⟨rS, fS⟩ := oS.rules
    have zS := oS.lt
    obtain ⟨rA, fA⟩ := oA.rules
    have zA := oA.lt
    obtain ⟨rB, fB⟩ := oB.rules
    have zB := oB.lt
    obtain ⟨rR, fR⟩ := oR.rules
    have zR := oR.lt
    generalize fadd sn sd m.n m.d = r at *
    go_wp2
    refine bp_gen' (fun W => Own W (w.heap.size + 1 + 1 + 1) 24 [.int .i64 r.n, .int .i64 r.d] ∧ Below w.heap.size w W) ⟨(oR.set 0 (.int .i64 r.n)).set 1 (.int .i64 r.d), ?_⟩ ?_
    · repeat (first | (with_reducible refine Below.alloc ?_ (by first | omega | (simp; omega)) _) | (with_reducible refine Below.setCell ?_ (by first | omega | (simp; done) | (simp; omega)) _))
      exact hB
    rintro wz ⟨oz, bz⟩
    obtain ⟨rz, fz⟩ := oz.rules
    clear oz
    refine bodyPost_ret (v := .tuple #[.agg #[.int .i64 r.n, .int .i64 r.d], .int .i64 r.e]) (by simp [results, Try.results88, go_sem, rz]) rfl ⟨by rw [HV.out], ?_⟩
    repeat (refine Below.setCell ?_ (by first | omega | (simp; done) | (simp; omega)) _)
    exact bz
  · have HV := Lib.hid (fplus_1 (sn := sn) (sd := sd) hb)
    have b1 : ((fmul an ad bn bd).e != 0) = true := by simpa using hb
    clear hb
    obtain ⟨m, hm⟩ : ∃ m, m = fmul an ad bn bd := ⟨_, rfl⟩
    rw [← hm] at HV b1 J1 J2
    have HM := Lib.hid hm
    clear hm
    go_enter Try.func88, Try.ntmps88
    have oS := ((own_first w 24 [.int .i64 sn, .int .i64 sd] (.cells #[.int .i64 an, .int .i64 ad] 24)).alloc (.cells #[.int .i64 bn, .int .i64 bd] 24)).alloc (.cells #[.int .i64 0, .int .i64 0] 24)
    have oA := ((own_second w 24 [.int .i64 an, .int .i64 ad] (.cells #[.int .i64 sn, .int .i64 sd] 24)).alloc (.cells #[.int .i64 bn, .int .i64 bd] 24)).alloc (.cells #[.int .i64 0, .int .i64 0] 24)
    have oB := (own_third w 24 [.int .i64 bn, .int .i64 bd] (.cells #[.int .i64 sn, .int .i64 sd] 24) (.cells #[.int .i64 an, .int .i64 ad] 24)).alloc (.cells #[.int .i64 0, .int .i64 0] 24)
    have oR := own_fourth w 24 [.int .i64 0, .int .i64 0] (.cells #[.int .i64 sn, .int .i64 sd] 24) (.cells #[.int .i64 an, .int .i64 ad] 24) (.cells #[.int .i64 bn, .int .i64 bd] 24)
    have hB := ba4 w (.cells #[.int .i64 sn, .int .i64 sd] 24) (.cells #[.int .i64 an, .int .i64 ad] 24) (.cells #[.int .i64 bn, .int .i64 bd] 24) (.cells #[.int .i64 0, .int .i64 0] 24)
    go_wp2_with fail
    generalize (((w.alloc (.cells #[.int .i64 sn, .int .i64 sd] 24)).alloc (.cells #[.int .i64 an, .int .i64 ad] 24)).alloc (.cells #[.int .i64 bn, .int .i64 bd] 24)).alloc (.cells #[.int .i64 0, .int .i64 0] 24) = y0 at *
    obtain ⟨rS, fS⟩ := oS.rules
    have zS := oS.lt
    obtain ⟨rA, fA⟩ := oA.rules
    have zA := oA.lt
    obtain ⟨rB, fB⟩ := oB.rules
    have zB := oB.lt
    obtain ⟨rR, fR⟩ := oR.rules
    have zR := oR.lt
    refine (rmul_any _ _ _ _ _ h3 h4 h5 h6).mono ?_
    rintro e y1 ⟨rfl, hq⟩
    rw [← HM.out]
    clear rS fS zS rA fA zA rB fB zB rR fR zR
    replace oS := oS.below hq
    replace oA := oA.below hq
    replace oB := oB.below hq
    replace oR := oR.below hq
    replace hB := below_to hB hq
    clear hq
    obtain ⟨rS, fS⟩ := oS.rules
    have zS := oS.lt
    obtain ⟨rA, fA⟩ := oA.rules
    have zA := oA.lt
    obtain ⟨rB, fB⟩ := oB.rules
    have zB := oB.lt
    obtain ⟨rR, fR⟩ := oR.rules
    have zR := oR.lt
    go_wp2
    refine bp_gen' (fun W => Own W (w.heap.size + 1 + 1 + 1) 24 [.int .i64 0, .int .i64 0] ∧ Below w.heap.size w W) ⟨?_, ?_⟩ ?_
    · exact (((oR.set 0 (.int .i64 0)).set 1 (.int .i64 0)).alloc _)
    · repeat (first | (with_reducible refine Below.alloc ?_ (by first | omega | (simp; omega)) _) | (with_reducible refine Below.setCell ?_ (by first | omega | (simp; done) | (simp; omega)) _))
      exact hB
    rintro wz ⟨oz, bz⟩
    obtain ⟨rz, fz⟩ := oz.rules
    clear oz
    refine bodyPost_ret (v := .tuple #[.agg #[.int .i64 0, .int .i64 0], .int .i64 m.e]) (by simp [results, Try.results88, go_sem, rz]) rfl ⟨by rw [HV.out], ?_⟩
    repeat (refine Below.setCell ?_ (by first | omega | (simp; done) | (simp; omega)) _)
    exact bz
end Go.Proofs.Ytpjhiojdnebgoaa
