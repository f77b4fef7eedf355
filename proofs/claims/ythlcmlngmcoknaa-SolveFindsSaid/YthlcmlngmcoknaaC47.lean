/- What is proved here: contracts of functions and plain facts, several texts in one; each one says ahead what it proves, and its conditions. -/
import Derived.Test.YthlcmlngmcoknaaC33
/- What is proved here: the contract of the reference's Div. Condition: 64-bit numbers. -/
namespace Go.Proofs.Ythlcmlngmcoknaa
open Go.RowKit

set_option maxRecDepth 100000 in
set_option maxHeartbeats 4000000 in
theorem rdiv_any (an ad bn bd : Int) (w : World) (h1 : i64 an) (h2 : i64 ad) (h3 : i64 bn) (h4 : i64 bd) :
    Calls Try.prog 121 #[.agg #[.int .i64 an, .int .i64 ad], .agg #[.int .i64 bn, .int .i64 bd]] w fun e w' => e = .returned (.tuple #[.agg #[.int .i64 (fdiv an ad bn bd).n, .int .i64 (fdiv an ad bn bd).d], .int .i64 (fdiv an ad bn bd).e]) ∧ Below w.heap.size w w' := by
  by_cases hb : fboth an ad bn bd = 0
  case neg =>
    have HV := Lib.hid (fdiv_8 hb)
    have b1 : (fboth an ad bn bd != 0) = true := by simpa using hb
    clear hb
    go_enter Try.func121, Try.ntmps121
    have oA := (own_first w 78 [.int .i64 an, .int .i64 ad] (.cells #[.int .i64 bn, .int .i64 bd] 78)).alloc (.cells #[.int .i64 0, .int .i64 0] 78)
    have oB := (own_second w 78 [.int .i64 bn, .int .i64 bd] (.cells #[.int .i64 an, .int .i64 ad] 78)).alloc (.cells #[.int .i64 0, .int .i64 0] 78)
    have oR := own_third w 78 [.int .i64 0, .int .i64 0] (.cells #[.int .i64 an, .int .i64 ad] 78) (.cells #[.int .i64 bn, .int .i64 bd] 78)
    have hB := ba3 w (.cells #[.int .i64 an, .int .i64 ad] 78) (.cells #[.int .i64 bn, .int .i64 bd] 78) (.cells #[.int .i64 0, .int .i64 0] 78)
    go_wp2_with fail
    generalize ((w.alloc (.cells #[.int .i64 an, .int .i64 ad] 78)).alloc (.cells #[.int .i64 bn, .int .i64 bd] 78)).alloc (.cells #[.int .i64 0, .int .i64 0] 78) = y0 at *
    obtain ⟨rA, fA⟩ := oA.rules
    have zA := oA.lt
    obtain ⟨rB, fB⟩ := oB.rules
    have zB := oB.lt
    obtain ⟨rR, fR⟩ := oR.rules
    have zR := oR.lt
    refine (rfrboth_any _ _ _ _ _ h1 h2 h3 h4).mono ?_
    rintro e y1 ⟨rfl, hq⟩
    clear rA fA zA rB fB zB rR fR zR
    replace oA := oA.below hq
    replace oB := oB.below hq
    replace oR := oR.below hq
    replace hB := below_to hB hq
    clear hq
    obtain ⟨rA, fA⟩ := oA.rules
    have zA := oA.lt
    obtain ⟨rB, fB⟩ := oB.rules
    have zB := oB.lt
    obtain ⟨rR, fR⟩ := oR.rules
    have zR := oR.lt
    go_wp2_with fail
    refine (rfrboth_any _ _ _ _ _ h1 h2 h3 h4).mono ?_
    rintro e y2 ⟨rfl, hq⟩
    clear rA fA zA rB fB zB rR fR zR
    replace oA := oA.below hq
    replace oB := oB.below hq
    replace oR := oR.below hq
    replace hB := below_to hB hq
    clear hq
    obtain ⟨rA, fA⟩ := oA.rules
    have zA := oA.lt
    obtain ⟨rB, fB⟩ := oB.rules
    have zB := oB.lt
    obtain ⟨rR, fR⟩ := oR.rules
    have zR := oR.lt
    generalize fboth an ad bn bd = fe at *
    go_wp2
    refine bp_gen' (fun W => Own W (w.heap.size + 1 + 1) 78 [.int .i64 0, .int .i64 0] ∧ Below w.heap.size w W) ⟨(oR.set 0 (.int .i64 0)).set 1 (.int .i64 0), ?_⟩ ?_
    · repeat (refine Below.setCell ?_ (by first | omega | (simp; done) | (simp; omega)) _)
      exact hB
    rintro wz ⟨oz, bz⟩
    obtain ⟨rz, fz⟩ := oz.rules
    clear oz
    refine bodyPost_ret (v := .tuple #[.agg #[.int .i64 0, .int .i64 0], .int .i64 fe]) (by simp [results, Try.results121, go_sem, rz]) rfl ⟨by rw [HV.out], ?_⟩
    repeat (refine Below.setCell ?_ (by first | omega | (simp; done) | (simp; omega)) _)
    exact bz
  obtain ⟨c1, c2⟩ := fboth_ok hb
  obtain ⟨k1, k2, k3, k4, _⟩ := fok_of c1
  obtain ⟨l1, l2, l3, l4, _⟩ := fok_of c2
  have b1 : (fboth an ad bn bd != 0) = false := by simp [hb]
  by_cases hz : bn = 0
  · have HV := Lib.hid (fdiv_0 hb hz)
    have bz : (bn == 0) = true := by simpa using hz
    clear hb c1 c2 hz
    go_enter Try.func121, Try.ntmps121
    have oA := (own_first w 78 [.int .i64 an, .int .i64 ad] (.cells #[.int .i64 bn, .int .i64 bd] 78)).alloc (.cells #[.int .i64 0, .int .i64 0] 78)
    have oB := (own_second w 78 [.int .i64 bn, .int .i64 bd] (.cells #[.int .i64 an, .int .i64 ad] 78)).alloc (.cells #[.int .i64 0, .int .i64 0] 78)
    have oR := own_third w 78 [.int .i64 0, .int .i64 0] (.cells #[.int .i64 an, .int .i64 ad] 78) (.cells #[.int .i64 bn, .int .i64 bd] 78)
    have hB := ba3 w (.cells #[.int .i64 an, .int .i64 ad] 78) (.cells #[.int .i64 bn, .int .i64 bd] 78) (.cells #[.int .i64 0, .int .i64 0] 78)
    go_wp2_with fail
    generalize ((w.alloc (.cells #[.int .i64 an, .int .i64 ad] 78)).alloc (.cells #[.int .i64 bn, .int .i64 bd] 78)).alloc (.cells #[.int .i64 0, .int .i64 0] 78) = y0 at *
    obtain ⟨rA, fA⟩ := oA.rules
    have zA := oA.lt
    obtain ⟨rB, fB⟩ := oB.rules
    have zB := oB.lt
    obtain ⟨rR, fR⟩ := oR.rules
    have zR := oR.lt
    refine (rfrboth_any _ _ _ _ _ h1 h2 h3 h4).mono ?_
    rintro e y1 ⟨rfl, hq⟩
    clear rA fA zA rB fB zB rR fR zR
    replace oA := oA.below hq
    replace oB := oB.below hq
    replace oR := oR.below hq
    replace hB := below_to hB hq
    clear hq
    obtain ⟨rA, fA⟩ := oA.rules
    have zA := oA.lt
    obtain ⟨rB, fB⟩ := oB.rules
    have zB := oB.lt
    obtain ⟨rR, fR⟩ := oR.rules
    have zR := oR.lt
    go_wp2
    refine bp_gen' (fun W => Own W (w.heap.size + 1 + 1) 78 [.int .i64 0, .int .i64 0] ∧ Below w.heap.size w W) ⟨(oR.set 0 (.int .i64 0)).set 1 (.int .i64 0), ?_⟩ ?_
    · repeat (refine Below.setCell ?_ (by first | omega | (simp; done) | (simp; omega)) _)
      exact hB
    rintro wz ⟨oz, bz⟩
    obtain ⟨rz, fz⟩ := oz.rules
    clear oz
    refine bodyPost_ret (v := .tuple #[.agg #[.int .i64 0, .int .i64 0], .int .i64 18]) (by simp [results, Try.results121, go_sem, rz]) rfl ⟨by rw [HV.out], ?_⟩
    repeat (refine Below.setCell ?_ (by first | omega | (simp; done) | (simp; omega)) _)
    exact bz
  have HV0 := fdiv_1 hb hz
  have bz : (bn == 0) = false := by simpa using hz
  clear hb
  rcases Int.lt_or_gt_of_ne hz with hs | hs
  · have co := fchk_over' c2 hs
    have HV : Hid (fdiv an ad bn bd = fmul an ad (-bd) (-bn)) := by show _ = _; rw [HV0, fmul_0 (fboth_of c1 co), fmulV_pack c1 co, div_as_mul']
    clear HV0 hz c1 c2 co
    go_enter Try.func121, Try.ntmps121
    have oA := (own_first w 78 [.int .i64 an, .int .i64 ad] (.cells #[.int .i64 bn, .int .i64 bd] 78)).alloc (.cells #[.int .i64 0, .int .i64 0] 78)
    have oB := (own_second w 78 [.int .i64 bn, .int .i64 bd] (.cells #[.int .i64 an, .int .i64 ad] 78)).alloc (.cells #[.int .i64 0, .int .i64 0] 78)
    have oR := own_third w 78 [.int .i64 0, .int .i64 0] (.cells #[.int .i64 an, .int .i64 ad] 78) (.cells #[.int .i64 bn, .int .i64 bd] 78)
    have hB := ba3 w (.cells #[.int .i64 an, .int .i64 ad] 78) (.cells #[.int .i64 bn, .int .i64 bd] 78) (.cells #[.int .i64 0, .int .i64 0] 78)
    go_wp2_with fail
    generalize ((w.alloc (.cells #[.int .i64 an, .int .i64 ad] 78)).alloc (.cells #[.int .i64 bn, .int .i64 bd] 78)).alloc (.cells #[.int .i64 0, .int .i64 0] 78) = y0 at *
    obtain ⟨rA, fA⟩ := oA.rules
    have zA := oA.lt
    obtain ⟨rB, fB⟩ := oB.rules
    have zB := oB.lt
    obtain ⟨rR, fR⟩ := oR.rules
    have zR := oR.lt
    refine (rfrboth_any _ _ _ _ _ h1 h2 h3 h4).mono ?_
    rintro e y1 ⟨rfl, hq⟩
    clear rA fA zA rB fB zB rR fR zR
    replace oA := oA.below hq
    replace oB := oB.below hq
    replace oR := oR.below hq
    replace hB := below_to hB hq
    clear hq
    obtain ⟨rA, fA⟩ := oA.rules
    have zA := oA.lt
    obtain ⟨rB, fB⟩ := oB.rules
    have zB := oB.lt
    obtain ⟨rR, fR⟩ := oR.rules
    have zR := oR.lt
    go_wp2_with fail
    refine (rmul_any an ad (-bd) (-bn) _ h1 h2 ⟨by omega, by omega⟩ ⟨by omega, by omega⟩).mono ?_
    rintro e y2 ⟨rfl, hq⟩
    clear rA fA zA rB fB zB rR fR zR
    replace oA := oA.below hq
    replace oB := oB.below hq
    replace oR := oR.below hq
    replace hB := below_to hB hq
    clear hq
    obtain ⟨rA, fA⟩ := oA.rules
    have zA := oA.lt
    obtain ⟨rB, fB⟩ := oB.rules
    have zB := oB.lt
    obtain ⟨rR, fR⟩ := oR.rules
    have zR := oR.lt
    generalize fmul an ad (-bd) (-bn) = r at *
    go_wp2
    refine bp_gen' (fun W => Own W (w.heap.size + 1 + 1) 78 [.int .i64 r.n, .int .i64 r.d] ∧ Below w.heap.size w W) ⟨(oR.set 0 (.int .i64 r.n)).set 1 (.int .i64 r.d), ?_⟩ ?_
    · repeat (refine Below.setCell ?_ (by first | omega | (simp; done) | (simp; omega)) _)
      exact hB
    rintro wz ⟨oz, bz⟩
    obtain ⟨rz, fz⟩ := oz.rules
    clear oz
    refine bodyPost_ret (v := .tuple #[.agg #[.int .i64 r.n, .int .i64 r.d], .int .i64 r.e]) (by simp [results, Try.results121, go_sem, rz]) rfl ⟨by rw [HV.out], ?_⟩
    repeat (refine Below.setCell ?_ (by first | omega | (simp; done) | (simp; omega)) _)
    exact bz
  · have co := fchk_over c2 hs
    have HV : Hid (fdiv an ad bn bd = fmul an ad bd bn) := by show _ = _; rw [HV0, fmul_0 (fboth_of c1 co), fmulV_pack c1 co, div_as_mul]
    clear HV0 hz c1 c2 co
    go_enter Try.func121, Try.ntmps121
    have oA := (own_first w 78 [.int .i64 an, .int .i64 ad] (.cells #[.int .i64 bn, .int .i64 bd] 78)).alloc (.cells #[.int .i64 0, .int .i64 0] 78)
    have oB := (own_second w 78 [.int .i64 bn, .int .i64 bd] (.cells #[.int .i64 an, .int .i64 ad] 78)).alloc (.cells #[.int .i64 0, .int .i64 0] 78)
    have oR := own_third w 78 [.int .i64 0, .int .i64 0] (.cells #[.int .i64 an, .int .i64 ad] 78) (.cells #[.int .i64 bn, .int .i64 bd] 78)
    have hB := ba3 w (.cells #[.int .i64 an, .int .i64 ad] 78) (.cells #[.int .i64 bn, .int .i64 bd] 78) (.cells #[.int .i64 0, .int .i64 0] 78)
    go_wp2_with fail
    generalize ((w.alloc (.cells #[.int .i64 an, .int .i64 ad] 78)).alloc (.cells #[.int .i64 bn, .int .i64 bd] 78)).alloc (.cells #[.int .i64 0, .int .i64 0] 78) = y0 at *
    obtain ⟨rA, fA⟩ := oA.rules
    have zA := oA.lt
    obtain ⟨rB, fB⟩ := oB.rules
    have zB := oB.lt
    obtain ⟨rR, fR⟩ := oR.rules
    have zR := oR.lt
    refine (rfrboth_any _ _ _ _ _ h1 h2 h3 h4).mono ?_
    rintro e y1 ⟨rfl, hq⟩
    clear rA fA zA rB fB zB rR fR zR
    replace oA := oA.below hq
    replace oB := oB.below hq
    replace oR := oR.below hq
    replace hB := below_to hB hq
    clear hq
    obtain ⟨rA, fA⟩ := oA.rules
    have zA := oA.lt
    obtain ⟨rB, fB⟩ := oB.rules
    have zB := oB.lt
    obtain ⟨rR, fR⟩ := oR.rules
    have zR := oR.lt
    go_wp2_with fail
    refine (rmul_any an ad bd bn _ h1 h2 ⟨by omega, by omega⟩ ⟨by omega, by omega⟩).mono ?_
    rintro e y2 ⟨rfl, hq⟩
    clear rA fA zA rB fB zB rR fR zR
    replace oA := oA.below hq
    replace oB := oB.below hq
    replace oR := oR.below hq
    replace hB := below_to hB hq
    clear hq
    obtain ⟨rA, fA⟩ := oA.rules
    have zA := oA.lt
    obtain ⟨rB, fB⟩ := oB.rules
    have zB := oB.lt
    obtain ⟨rR, fR⟩ := oR.rules
    have zR := oR.lt
    generalize fmul an ad bd bn = r at *
    go_wp2
    refine bp_gen' (fun W => Own W (w.heap.size + 1 + 1) 78 [.int .i64 r.n, .int .i64 r.d] ∧ Below w.heap.size w W) ⟨(oR.set 0 (.int .i64 r.n)).set 1 (.int .i64 r.d), ?_⟩ ?_
    · repeat (refine Below.setCell ?_ (by first | omega | (simp; done) | (simp; omega)) _)
      exact hB
    rintro wz ⟨oz, bz⟩
    obtain ⟨rz, fz⟩ := oz.rules
    clear oz
    refine bodyPost_ret (v := .tuple #[.agg #[.int .i64 r.n, .int .i64 r.d], .int .i64 r.e]) (by simp [results, Try.results121, go_sem, rz]) rfl ⟨by rw [HV.out], ?_⟩
    repeat (refine Below.setCell ?_ (by first | omega | (simp; done) | (simp; omega)) _)
    exact bz
end Go.Proofs.Ythlcmlngmcoknaa
