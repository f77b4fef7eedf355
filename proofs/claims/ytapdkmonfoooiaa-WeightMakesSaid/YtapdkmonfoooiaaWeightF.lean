/- What is proved here: the contract of weight.Parts, and those of the reference's Real, Imaginary, Parts and Scale. Condition: the numbers are 64-bit integers. -/
import Derived.Test.YtapdkmonfoooiaaWeightE
namespace Go.Proofs.Ytapdkmonfoooiaa
open Go.RowKit

/-- A part of a visibility: 0 if that is not valid. -/
def wpt (i j re im den n x : Int) : FR := if vchk i j re im den n = 0 then fmk x den else ⟨0, 0, 0⟩
theorem wpt_0 {i j re im den n x : Int} (h : vchk i j re im den n = 0) : wpt i j re im den n x = fmk x den := if_pos h
theorem wpt_8 {i j re im den n x : Int} (h : vchk i j re im den n = 8) : wpt i j re im den n x = ⟨0, 0, 0⟩ := if_neg (by rw [h]; decide)

set_option maxRecDepth 100000 in
set_option maxHeartbeats 16000000 in
theorem vparts_any (i j re im den n : Int) (w : World) :
    Calls Try.prog 11 #[.agg #[.int .i64 i, .int .i64 j, .int .i64 re, .int .i64 im, .int .i64 den, .int .i64 n]] w fun e w' =>
      e = .returned (.tuple #[.agg #[.int .i64 (wpt i j re im den n re).n, .int .i64 (wpt i j re im den n re).d], .agg #[.int .i64 (wpt i j re im den n im).n, .int .i64 (wpt i j re im den n im).d], .int .i64 (vchk i j re im den n)]) ∧ Below w.heap.size w w' := by
  rcases vchk_cases i j re im den n with hv | hv
  case inr =>
    have HV1 := Lib.hid (wpt_8 (x := re) hv)
    have HV2 := Lib.hid (wpt_8 (x := im) hv)
    go_enter Try.func11, Try.ntmps11
    have oV := (own_first w 27 [.int .i64 i, .int .i64 j, .int .i64 re, .int .i64 im, .int .i64 den, .int .i64 n] (.cells #[.int .i64 0, .int .i64 0] 23)).alloc (.cells #[.int .i64 0, .int .i64 0] 23)
    have oP := (own_second w 23 [.int .i64 0, .int .i64 0] (.cells #[.int .i64 i, .int .i64 j, .int .i64 re, .int .i64 im, .int .i64 den, .int .i64 n] 27)).alloc (.cells #[.int .i64 0, .int .i64 0] 23)
    have oQ := own_third w 23 [.int .i64 0, .int .i64 0] (.cells #[.int .i64 i, .int .i64 j, .int .i64 re, .int .i64 im, .int .i64 den, .int .i64 n] 27) (.cells #[.int .i64 0, .int .i64 0] 23)
    go_wp2_with fail
    refine (vcheck_of _ _ _ _ _ _ _ _ hv).mono ?_
    rintro e w1 ⟨rfl, hb1⟩
    replace oV := oV.below hb1
    replace oP := oP.below hb1
    replace oQ := oQ.below hb1
    have hB := below_to (ba3 _ _ _ _) hb1
    clear hb1
    obtain ⟨rV, fV⟩ := oV.rules
    obtain ⟨rP, fP⟩ := oP.rules
    obtain ⟨rQ, fQ⟩ := oQ.rules
    have zV := oV.lt
    have zP := oP.lt
    have zQ := oQ.lt
    go_wp2
    refine bp_gen (fun W => Own W (w.heap.size + 1) 23 [.int .i64 0, .int .i64 0] ∧ Own W (w.heap.size + 1 + 1) 23 [.int .i64 0, .int .i64 0] ∧ Below w.heap.size w W) ⟨((((oP).set 0 (.int .i64 0)).set 1 (.int .i64 0)).other (by omega) 0 (.int .i64 0)).other (by omega) 1 (.int .i64 0), ((((oQ).other (by omega) 0 (.int .i64 0)).other (by omega) 1 (.int .i64 0)).set 0 (.int .i64 0)).set 1 (.int .i64 0), ?_⟩ ?_
    · repeat (refine Below.setCell ?_ (by first | omega | (simp; done) | (simp; omega)) _)
      exact hB
    rintro wz ⟨op, oq, bz⟩
    obtain ⟨rp, fp⟩ := op.rules
    obtain ⟨rq, fq⟩ := oq.rules
    clear op oq
    refine bodyPost_ret (v := .tuple #[.agg #[.int .i64 0, .int .i64 0], .agg #[.int .i64 0, .int .i64 0], .int .i64 8]) (by simp [results, Try.results11, go_sem, rp, rq]) rfl ⟨by rw [HV1.out, HV2.out, hv], ?_⟩
    repeat (refine Below.setCell ?_ (by first | omega | (simp; done) | (simp; omega)) _)
    exact bz
  obtain ⟨_, _, _, hcok, _, _⟩ := vchk_ok hv
  obtain ⟨d1, d2, r1, r2, i1, i2⟩ := cok_fit hcok
  obtain ⟨ke, _, _⟩ := fmk_ok (num := re) (den := den) d1 (by omega) (by omega) (by omega)
  obtain ⟨le, _, _⟩ := fmk_ok (num := im) (den := den) d1 (by omega) (by omega) (by omega)
  have HV1 := Lib.hid (wpt_0 (x := re) hv)
  have HV2 := Lib.hid (wpt_0 (x := im) hv)
  have Hv := Lib.hid hv
  go_enter Try.func11, Try.ntmps11
  have oV := (own_first w 27 [.int .i64 i, .int .i64 j, .int .i64 re, .int .i64 im, .int .i64 den, .int .i64 n] (.cells #[.int .i64 0, .int .i64 0] 23)).alloc (.cells #[.int .i64 0, .int .i64 0] 23)
  have oP := (own_second w 23 [.int .i64 0, .int .i64 0] (.cells #[.int .i64 i, .int .i64 j, .int .i64 re, .int .i64 im, .int .i64 den, .int .i64 n] 27)).alloc (.cells #[.int .i64 0, .int .i64 0] 23)
  have oQ := own_third w 23 [.int .i64 0, .int .i64 0] (.cells #[.int .i64 i, .int .i64 j, .int .i64 re, .int .i64 im, .int .i64 den, .int .i64 n] 27) (.cells #[.int .i64 0, .int .i64 0] 23)
  go_wp2_with fail
  refine (vcheck_of _ _ _ _ _ _ _ _ hv).mono ?_
  rintro e w1 ⟨rfl, hb1⟩
  replace oV := oV.below hb1
  replace oP := oP.below hb1
  replace oQ := oQ.below hb1
  have hB := below_to (ba3 _ _ _ _) hb1
  clear hb1
  obtain ⟨rV, fV⟩ := oV.rules
  obtain ⟨rP, fP⟩ := oP.rules
  obtain ⟨rQ, fQ⟩ := oQ.rules
  have zV := oV.lt
  have zP := oP.lt
  have zQ := oQ.lt
  go_wp2_with fail
  refine (make_any re den _ ⟨by omega, by omega⟩ ⟨by omega, by omega⟩).mono ?_
  rintro e w2 ⟨rfl, hb2⟩
  rw [ke]
  generalize hka : (fmk re den).n = a at *
  generalize hkb : (fmk re den).d = b at *
  have KA := Lib.hid hka
  have KB := Lib.hid hkb
  clear hka hkb
  clear rV fV zV rP fP zP rQ fQ zQ
  replace oV := oV.below hb2
  replace oP := oP.below hb2
  replace oQ := oQ.below hb2
  replace hB := below_to hB hb2
  clear hb2
  obtain ⟨rV, fV⟩ := oV.rules
  obtain ⟨rP, fP⟩ := oP.rules
  obtain ⟨rQ, fQ⟩ := oQ.rules
  have zV := oV.lt
  have zP := oP.lt
  have zQ := oQ.lt
  go_upto_region 5 with fail
  clear rV fV zV rP fP zP rQ fQ zQ
  replace oV := ((oV).other (g' := w.heap.size + 1) (by omega) 0 (.int .i64 a)).other (g' := w.heap.size + 1) (by omega) 1 (.int .i64 b)
  replace oP := ((oP).set 0 (.int .i64 a)).set 1 (.int .i64 b)
  replace oQ := ((oQ).other (g' := w.heap.size + 1) (by omega) 0 (.int .i64 a)).other (g' := w.heap.size + 1) (by omega) 1 (.int .i64 b)
  replace hB := ((hB).setCell (p := ⟨w.heap.size + 1, 0, none⟩) (by first | (simp; done) | (simp; omega)) (.int .i64 a)).setCell (p := ⟨w.heap.size + 1, 1, none⟩) (by first | (simp; done) | (simp; omega)) (.int .i64 b)
  generalize ((w2.setCell ⟨w.heap.size + 1, 0, none⟩ (.int .i64 a)).setCell ⟨w.heap.size + 1, 1, none⟩ (.int .i64 b)) = y1 at *
  obtain ⟨rV, fV⟩ := oV.rules
  obtain ⟨rP, fP⟩ := oP.rules
  obtain ⟨rQ, fQ⟩ := oQ.rules
  have zV := oV.lt
  have zP := oP.lt
  have zQ := oQ.lt
  go_wp2_with fail
  refine (make_any im den _ ⟨by omega, by omega⟩ ⟨by omega, by omega⟩).mono ?_
  rintro e w3 ⟨rfl, hb3⟩
  rw [le]
  generalize hka : (fmk im den).n = a' at *
  generalize hkb : (fmk im den).d = b' at *
  have KA' := Lib.hid hka
  have KB' := Lib.hid hkb
  clear hka hkb
  clear rV fV zV rP fP zP rQ fQ zQ
  replace oV := oV.below hb3
  replace oP := oP.below hb3
  replace oQ := oQ.below hb3
  replace hB := below_to hB hb3
  clear hb3
  obtain ⟨rV, fV⟩ := oV.rules
  obtain ⟨rP, fP⟩ := oP.rules
  obtain ⟨rQ, fQ⟩ := oQ.rules
  have zV := oV.lt
  have zP := oP.lt
  have zQ := oQ.lt
  go_upto_region 8 with fail
  clear rV fV zV rP fP zP rQ fQ zQ
  replace oV := ((oV).other (g' := w.heap.size + 1 + 1) (by omega) 0 (.int .i64 a')).other (g' := w.heap.size + 1 + 1) (by omega) 1 (.int .i64 b')
  replace oP := ((oP).other (g' := w.heap.size + 1 + 1) (by omega) 0 (.int .i64 a')).other (g' := w.heap.size + 1 + 1) (by omega) 1 (.int .i64 b')
  replace oQ := ((oQ).set 0 (.int .i64 a')).set 1 (.int .i64 b')
  replace hB := ((hB).setCell (p := ⟨w.heap.size + 1 + 1, 0, none⟩) (by first | (simp; done) | (simp; omega)) (.int .i64 a')).setCell (p := ⟨w.heap.size + 1 + 1, 1, none⟩) (by first | (simp; done) | (simp; omega)) (.int .i64 b')
  generalize ((w3.setCell ⟨w.heap.size + 1 + 1, 0, none⟩ (.int .i64 a')).setCell ⟨w.heap.size + 1 + 1, 1, none⟩ (.int .i64 b')) = y2 at *
  obtain ⟨rV, fV⟩ := oV.rules
  obtain ⟨rP, fP⟩ := oP.rules
  obtain ⟨rQ, fQ⟩ := oQ.rules
  have zV := oV.lt
  have zP := oP.lt
  have zQ := oQ.lt
  go_wp2
  go_region
  clear rV fV zV rP fP zP rQ fQ zQ
  replace oV := ((oV).other (g' := w.heap.size + 1) (by omega) 0 (.int .i64 a)).other (g' := w.heap.size + 1) (by omega) 1 (.int .i64 b)
  replace oP := ((oP).set 0 (.int .i64 a)).set 1 (.int .i64 b)
  replace oQ := ((oQ).other (g' := w.heap.size + 1) (by omega) 0 (.int .i64 a)).other (g' := w.heap.size + 1) (by omega) 1 (.int .i64 b)
  replace hB := ((hB).setCell (p := ⟨w.heap.size + 1, 0, none⟩) (by first | (simp; done) | (simp; omega)) (.int .i64 a)).setCell (p := ⟨w.heap.size + 1, 1, none⟩) (by first | (simp; done) | (simp; omega)) (.int .i64 b)
  replace oV := ((oV).other (g' := w.heap.size + 1 + 1) (by omega) 0 (.int .i64 a')).other (g' := w.heap.size + 1 + 1) (by omega) 1 (.int .i64 b')
  replace oP := ((oP).other (g' := w.heap.size + 1 + 1) (by omega) 0 (.int .i64 a')).other (g' := w.heap.size + 1 + 1) (by omega) 1 (.int .i64 b')
  replace oQ := ((oQ).set 0 (.int .i64 a')).set 1 (.int .i64 b')
  replace hB := ((hB).setCell (p := ⟨w.heap.size + 1 + 1, 0, none⟩) (by first | (simp; done) | (simp; omega)) (.int .i64 a')).setCell (p := ⟨w.heap.size + 1 + 1, 1, none⟩) (by first | (simp; done) | (simp; omega)) (.int .i64 b')
  replace oV := oV.drew
  replace oP := oP.drew
  replace oQ := oQ.drew
  replace hB := hB.drew
  generalize (((((y2.setCell ⟨w.heap.size + 1, 0, none⟩ (.int .i64 a)).setCell ⟨w.heap.size + 1, 1, none⟩ (.int .i64 b)).setCell ⟨w.heap.size + 1 + 1, 0, none⟩ (.int .i64 a')).setCell ⟨w.heap.size + 1 + 1, 1, none⟩ (.int .i64 b'))).drew = y3 at *
  go_wp2
  obtain ⟨rP, fP⟩ := oP.rules
  obtain ⟨rQ, fQ⟩ := oQ.rules
  refine bodyPost_ret (v := .tuple #[.agg #[.int .i64 a, .int .i64 b], .agg #[.int .i64 a', .int .i64 b'], .int .i64 0]) (by simp [results, Try.results11, go_sem, rP, rQ]) rfl ⟨by rw [HV1.out, HV2.out, Hv.out, KA.out, KB.out, KA'.out, KB'.out], ?_⟩
  repeat (refine Below.setCell ?_ (by first | omega | (simp; done) | (simp; omega)) _)
  exact hB

set_option maxHeartbeats 1600000 in
theorem real_any (re im den : Int) (w : World) (h1 : i64 re) (h2 : i64 den) :
    Calls Try.prog 33 #[.agg #[.int .i64 re, .int .i64 im, .int .i64 den]] w fun e w' => e = .returned (.agg #[.int .i64 (fmk re den).n, .int .i64 (fmk re den).d]) ∧ Below w.heap.size w w' := by
  go_enter Try.func33, Try.ntmps33
  have oR := own_second w 23 [.int .i64 0, .int .i64 0] (.cells #[.int .i64 re, .int .i64 im, .int .i64 den] 25)
  go_wp2_with fail
  refine (rmake_any re den _ h1 h2).mono ?_
  rintro e w1 ⟨rfl, hb1⟩
  generalize hka : (fmk re den).n = a at *
  generalize hkb : (fmk re den).d = b at *
  generalize hke : (fmk re den).e = c at *
  have KA := Lib.hid hka
  have KB := Lib.hid hkb
  clear hka hkb hke
  replace oR := oR.below hb1
  have hB := below_to (ba2 _ _ _) hb1
  clear hb1
  go_upto_region 2 with fail
  have oX := Own.new w1 23 [.int .i64 a, .int .i64 b]
  replace oR := oR.alloc (.cells #[.int .i64 a, .int .i64 b] 23)
  replace hB := below_to hB (ba1 w1 (.cells #[.int .i64 a, .int .i64 b] 23))
  generalize hkx : w1.heap.size = kx at oX ⊢
  clear hkx
  generalize w1.alloc (.cells #[.int .i64 a, .int .i64 b] 23) = y1 at *
  obtain ⟨rX, fX⟩ := oX.rules
  obtain ⟨rR, fR⟩ := oR.rules
  have zX := oX.lt
  have zR := oR.lt
  go_wp2
  refine bp_gen (fun W => Own W (w.heap.size + 1) 23 [.int .i64 a, .int .i64 b] ∧ Below w.heap.size w W) ⟨(oR.set 0 (.int .i64 a)).set 1 (.int .i64 b), ?_⟩ ?_
  · repeat (refine Below.setCell ?_ (by first | omega | (simp; done) | (simp; omega)) _)
    exact hB
  rintro wz ⟨oz, bz⟩
  obtain ⟨rz, fz⟩ := oz.rules
  clear oz
  refine bodyPost_ret (v := .agg #[.int .i64 a, .int .i64 b]) (by simp [results, Try.results33, go_sem, rz]) rfl ⟨by rw [KA.out, KB.out], ?_⟩
  repeat (refine Below.setCell ?_ (by first | omega | (simp; done) | (simp; omega)) _)
  exact bz

set_option maxHeartbeats 1600000 in
theorem imag_any (re im den : Int) (w : World) (h1 : i64 im) (h2 : i64 den) :
    Calls Try.prog 34 #[.agg #[.int .i64 re, .int .i64 im, .int .i64 den]] w fun e w' => e = .returned (.agg #[.int .i64 (fmk im den).n, .int .i64 (fmk im den).d]) ∧ Below w.heap.size w w' := by
  go_enter Try.func34, Try.ntmps34
  have oR := own_second w 23 [.int .i64 0, .int .i64 0] (.cells #[.int .i64 re, .int .i64 im, .int .i64 den] 25)
  go_wp2_with fail
  refine (rmake_any im den _ h1 h2).mono ?_
  rintro e w1 ⟨rfl, hb1⟩
  generalize hka : (fmk im den).n = a at *
  generalize hkb : (fmk im den).d = b at *
  generalize hke : (fmk im den).e = c at *
  have KA := Lib.hid hka
  have KB := Lib.hid hkb
  clear hka hkb hke
  replace oR := oR.below hb1
  have hB := below_to (ba2 _ _ _) hb1
  clear hb1
  go_upto_region 2 with fail
  have oX := Own.new w1 23 [.int .i64 a, .int .i64 b]
  replace oR := oR.alloc (.cells #[.int .i64 a, .int .i64 b] 23)
  replace hB := below_to hB (ba1 w1 (.cells #[.int .i64 a, .int .i64 b] 23))
  generalize hkx : w1.heap.size = kx at oX ⊢
  clear hkx
  generalize w1.alloc (.cells #[.int .i64 a, .int .i64 b] 23) = y1 at *
  obtain ⟨rX, fX⟩ := oX.rules
  obtain ⟨rR, fR⟩ := oR.rules
  have zX := oX.lt
  have zR := oR.lt
  go_wp2
  refine bp_gen (fun W => Own W (w.heap.size + 1) 23 [.int .i64 a, .int .i64 b] ∧ Below w.heap.size w W) ⟨(oR.set 0 (.int .i64 a)).set 1 (.int .i64 b), ?_⟩ ?_
  · repeat (refine Below.setCell ?_ (by first | omega | (simp; done) | (simp; omega)) _)
    exact hB
  rintro wz ⟨oz, bz⟩
  obtain ⟨rz, fz⟩ := oz.rules
  clear oz
  refine bodyPost_ret (v := .agg #[.int .i64 a, .int .i64 b]) (by simp [results, Try.results34, go_sem, rz]) rfl ⟨by rw [KA.out, KB.out], ?_⟩
  repeat (refine Below.setCell ?_ (by first | omega | (simp; done) | (simp; omega)) _)
  exact bz

theorem rvcheck_of (i j re im den n e : Int) (w : World) (h : vchk i j re im den n = e) : Calls Try.prog 16 #[.agg #[.int .i64 i, .int .i64 j, .int .i64 re, .int .i64 im, .int .i64 den, .int .i64 n]] w fun r w' => r = .returned (.int .i64 e) ∧ Below w.heap.size w w' := by
  subst h; exact rvcheck_any i j re im den n w
set_option maxRecDepth 100000 in
set_option maxHeartbeats 16000000 in
theorem rvparts_any (i j re im den n : Int) (w : World) :
    Calls Try.prog 12 #[.agg #[.int .i64 i, .int .i64 j, .int .i64 re, .int .i64 im, .int .i64 den, .int .i64 n]] w fun e w' =>
      e = .returned (.tuple #[.agg #[.int .i64 (wpt i j re im den n re).n, .int .i64 (wpt i j re im den n re).d], .agg #[.int .i64 (wpt i j re im den n im).n, .int .i64 (wpt i j re im den n im).d], .int .i64 (vchk i j re im den n)]) ∧ Below w.heap.size w w' := by
  rcases vchk_cases i j re im den n with hv | hv
  case inr =>
    have HV1 := Lib.hid (wpt_8 (x := re) hv)
    have HV2 := Lib.hid (wpt_8 (x := im) hv)
    go_enter Try.func12, Try.ntmps12
    have oV := (own_first w 27 [.int .i64 i, .int .i64 j, .int .i64 re, .int .i64 im, .int .i64 den, .int .i64 n] (.cells #[.int .i64 0, .int .i64 0] 23)).alloc (.cells #[.int .i64 0, .int .i64 0] 23)
    have oP := (own_second w 23 [.int .i64 0, .int .i64 0] (.cells #[.int .i64 i, .int .i64 j, .int .i64 re, .int .i64 im, .int .i64 den, .int .i64 n] 27)).alloc (.cells #[.int .i64 0, .int .i64 0] 23)
    have oQ := own_third w 23 [.int .i64 0, .int .i64 0] (.cells #[.int .i64 i, .int .i64 j, .int .i64 re, .int .i64 im, .int .i64 den, .int .i64 n] 27) (.cells #[.int .i64 0, .int .i64 0] 23)
    go_wp2_with fail
    refine (rvcheck_of _ _ _ _ _ _ _ _ hv).mono ?_
    rintro e w1 ⟨rfl, hb1⟩
    replace oV := oV.below hb1
    replace oP := oP.below hb1
    replace oQ := oQ.below hb1
    have hB := below_to (ba3 _ _ _ _) hb1
    clear hb1
    obtain ⟨rV, fV⟩ := oV.rules
    obtain ⟨rP, fP⟩ := oP.rules
    obtain ⟨rQ, fQ⟩ := oQ.rules
    have zV := oV.lt
    have zP := oP.lt
    have zQ := oQ.lt
    go_wp2
    refine bp_gen (fun W => Own W (w.heap.size + 1) 23 [.int .i64 0, .int .i64 0] ∧ Own W (w.heap.size + 1 + 1) 23 [.int .i64 0, .int .i64 0] ∧ Below w.heap.size w W) ⟨((((oP).set 0 (.int .i64 0)).set 1 (.int .i64 0)).other (by omega) 0 (.int .i64 0)).other (by omega) 1 (.int .i64 0), ((((oQ).other (by omega) 0 (.int .i64 0)).other (by omega) 1 (.int .i64 0)).set 0 (.int .i64 0)).set 1 (.int .i64 0), ?_⟩ ?_
    · repeat (refine Below.setCell ?_ (by first | omega | (simp; done) | (simp; omega)) _)
      exact hB
    rintro wz ⟨op, oq, bz⟩
    obtain ⟨rp, fp⟩ := op.rules
    obtain ⟨rq, fq⟩ := oq.rules
    clear op oq
    refine bodyPost_ret (v := .tuple #[.agg #[.int .i64 0, .int .i64 0], .agg #[.int .i64 0, .int .i64 0], .int .i64 8]) (by simp [results, Try.results12, go_sem, rp, rq]) rfl ⟨by rw [HV1.out, HV2.out, hv], ?_⟩
    repeat (refine Below.setCell ?_ (by first | omega | (simp; done) | (simp; omega)) _)
    exact bz
  obtain ⟨_, _, _, hcok, _, _⟩ := vchk_ok hv
  obtain ⟨d1, d2, r1, r2, i1, i2⟩ := cok_fit hcok
  have HV1 := Lib.hid (wpt_0 (x := re) hv)
  have HV2 := Lib.hid (wpt_0 (x := im) hv)
  have Hv := Lib.hid hv
  go_enter Try.func12, Try.ntmps12
  have oV := (own_first w 27 [.int .i64 i, .int .i64 j, .int .i64 re, .int .i64 im, .int .i64 den, .int .i64 n] (.cells #[.int .i64 0, .int .i64 0] 23)).alloc (.cells #[.int .i64 0, .int .i64 0] 23)
  have oP := (own_second w 23 [.int .i64 0, .int .i64 0] (.cells #[.int .i64 i, .int .i64 j, .int .i64 re, .int .i64 im, .int .i64 den, .int .i64 n] 27)).alloc (.cells #[.int .i64 0, .int .i64 0] 23)
  have oQ := own_third w 23 [.int .i64 0, .int .i64 0] (.cells #[.int .i64 i, .int .i64 j, .int .i64 re, .int .i64 im, .int .i64 den, .int .i64 n] 27) (.cells #[.int .i64 0, .int .i64 0] 23)
  go_wp2_with fail
  refine (rvcheck_of _ _ _ _ _ _ _ _ hv).mono ?_
  rintro e w1 ⟨rfl, hb1⟩
  replace oV := oV.below hb1
  replace oP := oP.below hb1
  replace oQ := oQ.below hb1
  have hB := below_to (ba3 _ _ _ _) hb1
  clear hb1
  obtain ⟨rV, fV⟩ := oV.rules
  obtain ⟨rP, fP⟩ := oP.rules
  obtain ⟨rQ, fQ⟩ := oQ.rules
  have zV := oV.lt
  have zP := oP.lt
  have zQ := oQ.lt
  go_wp2_with fail
  have gl := @grow_lt
  go_wp2_with fail
  refine wp_region_st [.t [0, 1, 3, 4], .f 2, .f 5] [6, 7, 8] (by kernel_rfl) (by kernel_rfl) (fun _ _ _ _ _ h => h) ?_
  refine wpX_t ?_
  try simp only [opsAt, List.getElem?_toArray, List.getElem?_cons_zero, List.getElem?_cons_succ, Option.getD_some]
  repeat (go_big_quiet_step (fail))
  refine wpQuiet_nil ?_
  refine wpX_f rfl rfl (fun K' hK' => ?_)
  go_simp
  refine (real_any _ _ _ _ ⟨by omega, by omega⟩ ⟨by omega, by omega⟩).mono ?_
  rintro e w2 ⟨rfl, hb2⟩
  refine hK' _ _ (grow_of (below_to ((Below.refl _ _).drew) hb2)) ?_
  clear hK' K'
  refine wpX_f rfl rfl (fun K' hK' => ?_)
  go_simp
  refine (imag_any _ _ _ _ ⟨by omega, by omega⟩ ⟨by omega, by omega⟩).mono ?_
  rintro e w3 ⟨rfl, hb3⟩
  refine hK' _ _ (grow_of (below_to (below_to ((Below.refl _ _).drew) hb2) hb3)) ?_
  clear hK' K'
  refine wpX_nil ?_
  try simp only [opsAt, List.getElem?_toArray, List.getElem?_cons_zero, List.getElem?_cons_succ, Option.getD_some]
  clear gl
  generalize hka : (fmk re den).n = a at *
  generalize hkb : (fmk re den).d = b at *
  generalize hka' : (fmk im den).n = a' at *
  generalize hkb' : (fmk im den).d = b' at *
  have KA := Lib.hid hka
  have KB := Lib.hid hkb
  have KA' := Lib.hid hka'
  have KB' := Lib.hid hkb'
  clear hka hkb hka' hkb'
  clear rV fV zV rP fP zP rQ fQ zQ
  replace oV := ((oV.drew).below hb2).below hb3
  replace oP := ((oP.drew).below hb2).below hb3
  replace oQ := ((oQ.drew).below hb2).below hb3
  replace hB := below_to (below_to (hB.drew) hb2) hb3
  obtain ⟨rV, fV⟩ := oV.rules
  obtain ⟨rP, fP⟩ := oP.rules
  obtain ⟨rQ, fQ⟩ := oQ.rules
  have zV := oV.lt
  have zP := oP.lt
  have zQ := oQ.lt
  go_wp2
  refine bp_gen (fun W => Own W (w.heap.size + 1) 23 [Value.int .i64 a, .int .i64 b] ∧ Own W (w.heap.size + 1 + 1) 23 [Value.int .i64 a', .int .i64 b'] ∧ Below w.heap.size w W) ⟨((((oP).set 0 (.int .i64 a)).set 1 (.int .i64 b)).other (by omega) 0 (.int .i64 a')).other (by omega) 1 (.int .i64 b'), ((((oQ).other (by omega) 0 (.int .i64 a)).other (by omega) 1 (.int .i64 b)).set 0 (.int .i64 a')).set 1 (.int .i64 b'), ?_⟩ ?_
  · repeat (refine Below.setCell ?_ (by first | omega | (simp; done) | (simp; omega)) _)
    exact hB
  rintro wz ⟨op, oq, bz⟩
  obtain ⟨rp, fp⟩ := op.rules
  obtain ⟨rq, fq⟩ := oq.rules
  clear op oq
  refine bodyPost_ret (v := .tuple #[.agg #[.int .i64 a, .int .i64 b], .agg #[.int .i64 a', .int .i64 b'], .int .i64 0]) (by simp [results, Try.results12, go_sem, rp, rq]) rfl ⟨by rw [HV1.out, HV2.out, Hv.out, KA.out, KB.out, KA'.out, KB'.out], ?_⟩
  repeat (refine Below.setCell ?_ (by first | omega | (simp; done) | (simp; omega)) _)
  exact bz
end Go.Proofs.Ytapdkmonfoooiaa
