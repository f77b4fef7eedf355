/- What is proved here: the walk of the law WeightMakes: it returns true whatever numbers, fractions and visibility come in. Condition: the fractions are of 64-bit integers. -/
import Derived.Test.YtapdkmonfoooiaaWeightI
import Derived.Test.YtapdkmonfoooiaaOpenVis
namespace Go.Proofs.Ytapdkmonfoooiaa
open Go.RowKit

set_option maxRecDepth 100000 in
set_option maxHeartbeats 32000000 in
theorem makes_any (i j rn rd m d n vi vj vr vm vd vn by' : Int) (w : World) (h1 : i64 rn) (h2 : i64 rd) (h3 : i64 m) (h4 : i64 d) :
    Calls Try.prog 3 #[.int .i64 i, .int .i64 j, .agg #[.int .i64 rn, .int .i64 rd], .agg #[.int .i64 m, .int .i64 d], .int .i64 n, .agg #[.int .i64 vi, .int .i64 vj, .int .i64 vr, .int .i64 vm, .int .i64 vd, .int .i64 vn], .int .i64 by'] w fun e w' => e = .returned (.bool true) ∧ Below w.heap.size w w' := by
  go_enter Try.func3, Try.ntmps3
  go_upto_region 1 with fail
  have oA := (own_first w 23 [.int .i64 rn, .int .i64 rd] (.cells #[.int .i64 m, .int .i64 d] 23)).alloc (.cells #[.int .i64 vi, .int .i64 vj, .int .i64 vr, .int .i64 vm, .int .i64 vd, .int .i64 vn] 27)
  have oB := (own_second w 23 [.int .i64 m, .int .i64 d] (.cells #[.int .i64 rn, .int .i64 rd] 23)).alloc (.cells #[.int .i64 vi, .int .i64 vj, .int .i64 vr, .int .i64 vm, .int .i64 vd, .int .i64 vn] 27)
  have oV := own_third w 27 [.int .i64 vi, .int .i64 vj, .int .i64 vr, .int .i64 vm, .int .i64 vd, .int .i64 vn] (.cells #[.int .i64 rn, .int .i64 rd] 23) (.cells #[.int .i64 m, .int .i64 d] 23)
  have hB := ba3 w (.cells #[.int .i64 rn, .int .i64 rd] 23) (.cells #[.int .i64 m, .int .i64 d] 23) (.cells #[.int .i64 vi, .int .i64 vj, .int .i64 vr, .int .i64 vm, .int .i64 vd, .int .i64 vn] 27)
  generalize ((w.alloc (.cells #[.int .i64 rn, .int .i64 rd] 23)).alloc (.cells #[.int .i64 m, .int .i64 d] 23)).alloc (.cells #[.int .i64 vi, .int .i64 vj, .int .i64 vr, .int .i64 vm, .int .i64 vd, .int .i64 vn] 27) = y0 at *
  obtain ⟨rA, fA⟩ := oA.rules
  obtain ⟨rB, fB⟩ := oB.rules
  have zA := oA.lt
  have zB := oB.lt
  go_wp2_with fail
  refine (vmake_any i j rn rd m d n _ h1 h2 h3 h4).mono ?_
  rintro e v1 ⟨rfl, hq⟩
  generalize hM : wmk i j rn rd m d n = M at *
  have HM := Lib.hid hM
  clear hM
  clear rA fA zA rB fB zB
  replace oA := oA.below hq
  replace oB := oB.below hq
  replace oV := oV.below hq
  replace hB := below_to hB hq
  clear hq
  go_upto_region 2 with fail
  replace oA := oA.alloc (.cells #[.int .i64 M.i, .int .i64 M.j, .int .i64 M.re, .int .i64 M.im, .int .i64 M.den, .int .i64 M.n] 27)
  replace oB := oB.alloc (.cells #[.int .i64 M.i, .int .i64 M.j, .int .i64 M.re, .int .i64 M.im, .int .i64 M.den, .int .i64 M.n] 27)
  replace oV := oV.alloc (.cells #[.int .i64 M.i, .int .i64 M.j, .int .i64 M.re, .int .i64 M.im, .int .i64 M.den, .int .i64 M.n] 27)
  replace hB := below_to hB (ba1 v1 (.cells #[.int .i64 M.i, .int .i64 M.j, .int .i64 M.re, .int .i64 M.im, .int .i64 M.den, .int .i64 M.n] 27))
  have oP := Own.new v1 27 [.int .i64 M.i, .int .i64 M.j, .int .i64 M.re, .int .i64 M.im, .int .i64 M.den, .int .i64 M.n]
  generalize hbk : v1.heap.size = kP at oP ⊢
  clear hbk
  generalize v1.alloc (.cells #[.int .i64 M.i, .int .i64 M.j, .int .i64 M.re, .int .i64 M.im, .int .i64 M.den, .int .i64 M.n] 27) = y1 at *
  obtain ⟨rA, fA⟩ := oA.rules
  obtain ⟨rB, fB⟩ := oB.rules
  have zA := oA.lt
  have zB := oB.lt
  go_wp2_with fail
  refine (rvmake_any i j rn rd m d n _ h1 h2 h3 h4).mono ?_
  rintro e v2 ⟨rfl, hq⟩
  rw [HM.out]
  clear rA fA zA rB fB zB
  replace oA := oA.below hq
  replace oB := oB.below hq
  replace oV := oV.below hq
  replace oP := oP.below hq
  replace hB := below_to hB hq
  clear hq
  go_upto_region 3 with fail
  replace oA := oA.alloc (.cells #[.int .i64 M.i, .int .i64 M.j, .int .i64 M.re, .int .i64 M.im, .int .i64 M.den, .int .i64 M.n] 27)
  replace oB := oB.alloc (.cells #[.int .i64 M.i, .int .i64 M.j, .int .i64 M.re, .int .i64 M.im, .int .i64 M.den, .int .i64 M.n] 27)
  replace oV := oV.alloc (.cells #[.int .i64 M.i, .int .i64 M.j, .int .i64 M.re, .int .i64 M.im, .int .i64 M.den, .int .i64 M.n] 27)
  replace oP := oP.alloc (.cells #[.int .i64 M.i, .int .i64 M.j, .int .i64 M.re, .int .i64 M.im, .int .i64 M.den, .int .i64 M.n] 27)
  replace hB := below_to hB (ba1 v2 (.cells #[.int .i64 M.i, .int .i64 M.j, .int .i64 M.re, .int .i64 M.im, .int .i64 M.den, .int .i64 M.n] 27))
  have oQ := Own.new v2 27 [.int .i64 M.i, .int .i64 M.j, .int .i64 M.re, .int .i64 M.im, .int .i64 M.den, .int .i64 M.n]
  generalize hbk : v2.heap.size = kQ at oQ ⊢
  clear hbk
  generalize v2.alloc (.cells #[.int .i64 M.i, .int .i64 M.j, .int .i64 M.re, .int .i64 M.im, .int .i64 M.den, .int .i64 M.n] 27) = y2 at *
  obtain ⟨rV, fV⟩ := oV.rules
  have zV := oV.lt
  go_wp2_with fail
  refine (vparts_any vi vj vr vm vd vn _).mono ?_
  rintro e v3 ⟨rfl, hq⟩
  generalize hX : wpt vi vj vr vm vd vn vr = X at *
  generalize hY : wpt vi vj vr vm vd vn vm = Y at *
  generalize hE : vchk vi vj vr vm vd vn = E at *
  have HX := Lib.hid hX
  have HY := Lib.hid hY
  have HE := Lib.hid hE
  clear hX hY hE
  clear rV fV zV
  replace oA := oA.below hq
  replace oB := oB.below hq
  replace oV := oV.below hq
  replace oP := oP.below hq
  replace oQ := oQ.below hq
  replace hB := below_to hB hq
  clear hq
  go_upto_region 4 with fail
  have oR := own_first v3 23 [.int .i64 X.n, .int .i64 X.d] (.cells #[.int .i64 Y.n, .int .i64 Y.d] 23)
  have oS := own_second v3 23 [.int .i64 Y.n, .int .i64 Y.d] (.cells #[.int .i64 X.n, .int .i64 X.d] 23)
  replace oA := oA.below (ba2 v3 (.cells #[.int .i64 X.n, .int .i64 X.d] 23) (.cells #[.int .i64 Y.n, .int .i64 Y.d] 23))
  replace oB := oB.below (ba2 v3 (.cells #[.int .i64 X.n, .int .i64 X.d] 23) (.cells #[.int .i64 Y.n, .int .i64 Y.d] 23))
  replace oV := oV.below (ba2 v3 (.cells #[.int .i64 X.n, .int .i64 X.d] 23) (.cells #[.int .i64 Y.n, .int .i64 Y.d] 23))
  replace oP := oP.below (ba2 v3 (.cells #[.int .i64 X.n, .int .i64 X.d] 23) (.cells #[.int .i64 Y.n, .int .i64 Y.d] 23))
  replace oQ := oQ.below (ba2 v3 (.cells #[.int .i64 X.n, .int .i64 X.d] 23) (.cells #[.int .i64 Y.n, .int .i64 Y.d] 23))
  replace hB := below_to hB (ba2 v3 (.cells #[.int .i64 X.n, .int .i64 X.d] 23) (.cells #[.int .i64 Y.n, .int .i64 Y.d] 23))
  generalize hk2 : v3.heap.size + 1 = kS at oS ⊢
  generalize hk1 : v3.heap.size = kR at oR ⊢
  clear hk1 hk2
  generalize (v3.alloc (.cells #[.int .i64 X.n, .int .i64 X.d] 23)).alloc (.cells #[.int .i64 Y.n, .int .i64 Y.d] 23) = y3 at *
  obtain ⟨rV, fV⟩ := oV.rules
  have zV := oV.lt
  go_wp2_with fail
  refine (rvparts_any vi vj vr vm vd vn _).mono ?_
  rintro e v4 ⟨rfl, hq⟩
  rw [HX.out, HY.out, HE.out]
  clear rV fV zV
  replace oA := oA.below hq
  replace oB := oB.below hq
  replace oV := oV.below hq
  replace oP := oP.below hq
  replace oQ := oQ.below hq
  replace oR := oR.below hq
  replace oS := oS.below hq
  replace hB := below_to hB hq
  clear hq
  go_upto_region 5 with fail
  have oT := own_first v4 23 [.int .i64 X.n, .int .i64 X.d] (.cells #[.int .i64 Y.n, .int .i64 Y.d] 23)
  have oU := own_second v4 23 [.int .i64 Y.n, .int .i64 Y.d] (.cells #[.int .i64 X.n, .int .i64 X.d] 23)
  replace oA := oA.below (ba2 v4 (.cells #[.int .i64 X.n, .int .i64 X.d] 23) (.cells #[.int .i64 Y.n, .int .i64 Y.d] 23))
  replace oB := oB.below (ba2 v4 (.cells #[.int .i64 X.n, .int .i64 X.d] 23) (.cells #[.int .i64 Y.n, .int .i64 Y.d] 23))
  replace oV := oV.below (ba2 v4 (.cells #[.int .i64 X.n, .int .i64 X.d] 23) (.cells #[.int .i64 Y.n, .int .i64 Y.d] 23))
  replace oP := oP.below (ba2 v4 (.cells #[.int .i64 X.n, .int .i64 X.d] 23) (.cells #[.int .i64 Y.n, .int .i64 Y.d] 23))
  replace oQ := oQ.below (ba2 v4 (.cells #[.int .i64 X.n, .int .i64 X.d] 23) (.cells #[.int .i64 Y.n, .int .i64 Y.d] 23))
  replace oR := oR.below (ba2 v4 (.cells #[.int .i64 X.n, .int .i64 X.d] 23) (.cells #[.int .i64 Y.n, .int .i64 Y.d] 23))
  replace oS := oS.below (ba2 v4 (.cells #[.int .i64 X.n, .int .i64 X.d] 23) (.cells #[.int .i64 Y.n, .int .i64 Y.d] 23))
  replace hB := below_to hB (ba2 v4 (.cells #[.int .i64 X.n, .int .i64 X.d] 23) (.cells #[.int .i64 Y.n, .int .i64 Y.d] 23))
  generalize hk2 : v4.heap.size + 1 = kU at oU ⊢
  generalize hk1 : v4.heap.size = kT at oT ⊢
  clear hk1 hk2
  generalize (v4.alloc (.cells #[.int .i64 X.n, .int .i64 X.d] 23)).alloc (.cells #[.int .i64 Y.n, .int .i64 Y.d] 23) = y4 at *
  obtain ⟨rV, fV⟩ := oV.rules
  have zV := oV.lt
  go_wp2_with fail
  refine (vscale_any vi vj vr vm vd vn by' _).mono ?_
  rintro e v5 ⟨rfl, hq⟩
  generalize hN : wsc vi vj vr vm vd vn by' = N at *
  have HN := Lib.hid hN
  clear hN
  clear rV fV zV
  replace oA := oA.below hq
  replace oB := oB.below hq
  replace oV := oV.below hq
  replace oP := oP.below hq
  replace oQ := oQ.below hq
  replace oR := oR.below hq
  replace oS := oS.below hq
  replace oT := oT.below hq
  replace oU := oU.below hq
  replace hB := below_to hB hq
  clear hq
  go_upto_region 6 with fail
  replace oA := oA.alloc (.cells #[.int .i64 N.i, .int .i64 N.j, .int .i64 N.re, .int .i64 N.im, .int .i64 N.den, .int .i64 N.n] 27)
  replace oB := oB.alloc (.cells #[.int .i64 N.i, .int .i64 N.j, .int .i64 N.re, .int .i64 N.im, .int .i64 N.den, .int .i64 N.n] 27)
  replace oV := oV.alloc (.cells #[.int .i64 N.i, .int .i64 N.j, .int .i64 N.re, .int .i64 N.im, .int .i64 N.den, .int .i64 N.n] 27)
  replace oP := oP.alloc (.cells #[.int .i64 N.i, .int .i64 N.j, .int .i64 N.re, .int .i64 N.im, .int .i64 N.den, .int .i64 N.n] 27)
  replace oQ := oQ.alloc (.cells #[.int .i64 N.i, .int .i64 N.j, .int .i64 N.re, .int .i64 N.im, .int .i64 N.den, .int .i64 N.n] 27)
  replace oR := oR.alloc (.cells #[.int .i64 N.i, .int .i64 N.j, .int .i64 N.re, .int .i64 N.im, .int .i64 N.den, .int .i64 N.n] 27)
  replace oS := oS.alloc (.cells #[.int .i64 N.i, .int .i64 N.j, .int .i64 N.re, .int .i64 N.im, .int .i64 N.den, .int .i64 N.n] 27)
  replace oT := oT.alloc (.cells #[.int .i64 N.i, .int .i64 N.j, .int .i64 N.re, .int .i64 N.im, .int .i64 N.den, .int .i64 N.n] 27)
  replace oU := oU.alloc (.cells #[.int .i64 N.i, .int .i64 N.j, .int .i64 N.re, .int .i64 N.im, .int .i64 N.den, .int .i64 N.n] 27)
  replace hB := below_to hB (ba1 v5 (.cells #[.int .i64 N.i, .int .i64 N.j, .int .i64 N.re, .int .i64 N.im, .int .i64 N.den, .int .i64 N.n] 27))
  have oK := Own.new v5 27 [.int .i64 N.i, .int .i64 N.j, .int .i64 N.re, .int .i64 N.im, .int .i64 N.den, .int .i64 N.n]
  generalize hbk : v5.heap.size = kK at oK ⊢
  clear hbk
  generalize v5.alloc (.cells #[.int .i64 N.i, .int .i64 N.j, .int .i64 N.re, .int .i64 N.im, .int .i64 N.den, .int .i64 N.n] 27) = y5 at *
  obtain ⟨rV, fV⟩ := oV.rules
  have zV := oV.lt
  go_wp2_with fail
  refine (rvscale_any vi vj vr vm vd vn by' _).mono ?_
  rintro e v6 ⟨rfl, hq⟩
  rw [HN.out]
  clear rV fV zV
  replace oA := oA.below hq
  replace oB := oB.below hq
  replace oV := oV.below hq
  replace oP := oP.below hq
  replace oQ := oQ.below hq
  replace oR := oR.below hq
  replace oS := oS.below hq
  replace oT := oT.below hq
  replace oU := oU.below hq
  replace oK := oK.below hq
  replace hB := below_to hB hq
  clear hq
  go_upto_region 7 with fail
  replace oA := oA.alloc (.cells #[.int .i64 N.i, .int .i64 N.j, .int .i64 N.re, .int .i64 N.im, .int .i64 N.den, .int .i64 N.n] 27)
  replace oB := oB.alloc (.cells #[.int .i64 N.i, .int .i64 N.j, .int .i64 N.re, .int .i64 N.im, .int .i64 N.den, .int .i64 N.n] 27)
  replace oV := oV.alloc (.cells #[.int .i64 N.i, .int .i64 N.j, .int .i64 N.re, .int .i64 N.im, .int .i64 N.den, .int .i64 N.n] 27)
  replace oP := oP.alloc (.cells #[.int .i64 N.i, .int .i64 N.j, .int .i64 N.re, .int .i64 N.im, .int .i64 N.den, .int .i64 N.n] 27)
  replace oQ := oQ.alloc (.cells #[.int .i64 N.i, .int .i64 N.j, .int .i64 N.re, .int .i64 N.im, .int .i64 N.den, .int .i64 N.n] 27)
  replace oR := oR.alloc (.cells #[.int .i64 N.i, .int .i64 N.j, .int .i64 N.re, .int .i64 N.im, .int .i64 N.den, .int .i64 N.n] 27)
  replace oS := oS.alloc (.cells #[.int .i64 N.i, .int .i64 N.j, .int .i64 N.re, .int .i64 N.im, .int .i64 N.den, .int .i64 N.n] 27)
  replace oT := oT.alloc (.cells #[.int .i64 N.i, .int .i64 N.j, .int .i64 N.re, .int .i64 N.im, .int .i64 N.den, .int .i64 N.n] 27)
  replace oU := oU.alloc (.cells #[.int .i64 N.i, .int .i64 N.j, .int .i64 N.re, .int .i64 N.im, .int .i64 N.den, .int .i64 N.n] 27)
  replace oK := oK.alloc (.cells #[.int .i64 N.i, .int .i64 N.j, .int .i64 N.re, .int .i64 N.im, .int .i64 N.den, .int .i64 N.n] 27)
  replace hB := below_to hB (ba1 v6 (.cells #[.int .i64 N.i, .int .i64 N.j, .int .i64 N.re, .int .i64 N.im, .int .i64 N.den, .int .i64 N.n] 27))
  have oL := Own.new v6 27 [.int .i64 N.i, .int .i64 N.j, .int .i64 N.re, .int .i64 N.im, .int .i64 N.den, .int .i64 N.n]
  generalize hbk : v6.heap.size = kL at oL ⊢
  clear hbk
  generalize v6.alloc (.cells #[.int .i64 N.i, .int .i64 N.j, .int .i64 N.re, .int .i64 N.im, .int .i64 N.den, .int .i64 N.n] 27) = y6 at *
  obtain ⟨rV, fV⟩ := oV.rules
  obtain ⟨rP, fP⟩ := oP.rules
  obtain ⟨rQ, fQ⟩ := oQ.rules
  obtain ⟨rR, fR⟩ := oR.rules
  obtain ⟨rS, fS⟩ := oS.rules
  obtain ⟨rT, fT⟩ := oT.rules
  obtain ⟨rU, fU⟩ := oU.rules
  obtain ⟨rK, fK⟩ := oK.rules
  obtain ⟨rL, fL⟩ := oL.rules
  have zV := oV.lt
  have zP := oP.lt
  have zQ := oQ.lt
  have zR := oR.lt
  have zS := oS.lt
  have zT := oT.lt
  have zU := oU.lt
  have zK := oK.lt
  have zL := oL.lt
  have gl := @grow_lt
  refine wp_region_grow (by kernel_rfl) (by kernel_rfl) ?_
  repeat (go_big_quiet_step (first | (go_at_call 15; exact Calls.grow_of (vcheck_of _ _ _ _ _ _ E _ HE.out)) | (go_at_call 16; exact Calls.grow_of (rvcheck_of _ _ _ _ _ _ E _ HE.out))))
  refine wpQuiet_nil ?_
  rintro _ ⟨ex, rfl⟩
  have hq := below_grow y6 ex
  go_wp2
  go_ret
  exact ⟨by first | rfl | simp, below_to hB hq⟩
end Go.Proofs.Ytapdkmonfoooiaa
