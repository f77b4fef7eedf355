/- What is proved here: contracts of functions and plain facts, several texts in one; each one says ahead what it proves, and its conditions. -/
import Derived.Test.YthlcmlngmcoknaaC41
import Derived.Test.YthlcmlngmcoknaaC45
/- What is proved here: the contract of the reference's Sub. Condition: 64-bit numbers. -/
namespace Go.Proofs.Ythlcmlngmcoknaa
open Go.RowKit

set_option maxRecDepth 100000 in
set_option maxHeartbeats 4000000 in
theorem rsub_any (an ad bn bd : Int) (w : World) (h1 : i64 an) (h2 : i64 ad) (h3 : i64 bn) (h4 : i64 bd) :
    Calls Try.prog 122 #[.agg #[.int .i64 an, .int .i64 ad], .agg #[.int .i64 bn, .int .i64 bd]] w fun e w' => e = .returned (.tuple #[.agg #[.int .i64 (fsub an ad bn bd).n, .int .i64 (fsub an ad bn bd).d], .int .i64 (fsub an ad bn bd).e]) ∧ Below w.heap.size w w' := by
  by_cases hb : fboth an ad bn bd = 0
  case neg =>
    have HV := Lib.hid (fsub_8 hb)
    have b1 : (fboth an ad bn bd != 0) = true := by simpa using hb
    clear hb
    go_enter Try.func122, Try.ntmps122
    have oA := (own_first w 78 [.int .i64 an, .int .i64 ad] (.cells #[.int .i64 bn, .int .i64 bd] 78)).alloc (.cells #[.int .i64 0, .int .i64 0] 78)
    have oB := (own_second w 78 [.int .i64 bn, .int .i64 bd] (.cells #[.int .i64 an, .int .i64 ad] 78)).alloc (.cells #[.int .i64 0, .int .i64 0] 78)
    have oR := own_third w 78 [.int .i64 0, .int .i64 0] (.cells #[.int .i64 an, .int .i64 ad] 78) (.cells #[.int .i64 bn, .int .i64 bd] 78)
    have hB := ba3 w (.cells #[.int .i64 an, .int .i64 ad] 78) (.cells #[.int .i64 bn, .int .i64 bd] 78) (.cells #[.int .i64 0, .int .i64 0] 78)
    go_wp2_with fail
    generalize ((w.alloc (.cells #[.int .i64 an, .int .i64 ad] 78)).alloc (.cells #[.int .i64 bn, .int .i64 bd] 78)).alloc (.cells #[.int .i64 0, .int .i64 0] 78) = y0 at *
    obtain ⟨rA, fA⟩ := oA.rules
    have zA := oA.lt
    obtain ⟨rB, fB⟩ := oB.rules
    have zB := oB.lt
    obtain ⟨rR, fR⟩ := oR.rules
    have zR := oR.lt
    refine (rfrboth_any _ _ _ _ _ h1 h2 h3 h4).mono ?_
    rintro e y1 ⟨rfl, hq⟩
    clear rA fA zA rB fB zB rR fR zR
    replace oA := oA.below hq
    replace oB := oB.below hq
    replace oR := oR.below hq
    replace hB := below_to hB hq
    clear hq
    obtain ⟨rA, fA⟩ := oA.rules
    have zA := oA.lt
    obtain ⟨rB, fB⟩ := oB.rules
    have zB := oB.lt
    obtain ⟨rR, fR⟩ := oR.rules
    have zR := oR.lt
    go_wp2_with fail
    refine (rfrboth_any _ _ _ _ _ h1 h2 h3 h4).mono ?_
    rintro e y2 ⟨rfl, hq⟩
    clear rA fA zA rB fB zB rR fR zR
    replace oA := oA.below hq
    replace oB := oB.below hq
    replace oR := oR.below hq
    replace hB := below_to hB hq
    clear hq
    obtain ⟨rA, fA⟩ := oA.rules
    have zA := oA.lt
    obtain ⟨rB, fB⟩ := oB.rules
    have zB := oB.lt
    obtain ⟨rR, fR⟩ := oR.rules
    have zR := oR.lt
    generalize fboth an ad bn bd = fe at *
    go_wp2
    refine bp_gen' (fun W => Own W (w.heap.size + 1 + 1) 78 [.int .i64 0, .int .i64 0] ∧ Below w.heap.size w W) ⟨(oR.set 0 (.int .i64 0)).set 1 (.int .i64 0), ?_⟩ ?_
    · repeat (refine Below.setCell ?_ (by first | omega | (simp; done) | (simp; omega)) _)
      exact hB
    rintro wz ⟨oz, bz⟩
    obtain ⟨rz, fz⟩ := oz.rules
    clear oz
    refine bodyPost_ret (v := .tuple #[.agg #[.int .i64 0, .int .i64 0], .int .i64 fe]) (by simp [results, Try.results122, go_sem, rz]) rfl ⟨by rw [HV.out], ?_⟩
    repeat (refine Below.setCell ?_ (by first | omega | (simp; done) | (simp; omega)) _)
    exact bz
  obtain ⟨c1, c2⟩ := fboth_ok hb
  obtain ⟨k1, k2, k3, k4, _⟩ := fok_of c1
  obtain ⟨l1, l2, l3, l4, _⟩ := fok_of c2
  have HV : Hid (fsub an ad bn bd = fadd an ad (-bn) bd) := by show _ = _; rw [fsub_0 hb, fadd_0 (fboth_of c1 (fchk_neg c2)), sub_as_add]
  have b1 : (fboth an ad bn bd != 0) = false := by simp [hb]
  clear hb c1 c2
  go_enter Try.func122, Try.ntmps122
  have oA := (own_first w 78 [.int .i64 an, .int .i64 ad] (.cells #[.int .i64 bn, .int .i64 bd] 78)).alloc (.cells #[.int .i64 0, .int .i64 0] 78)
  have oB := (own_second w 78 [.int .i64 bn, .int .i64 bd] (.cells #[.int .i64 an, .int .i64 ad] 78)).alloc (.cells #[.int .i64 0, .int .i64 0] 78)
  have oR := own_third w 78 [.int .i64 0, .int .i64 0] (.cells #[.int .i64 an, .int .i64 ad] 78) (.cells #[.int .i64 bn, .int .i64 bd] 78)
  have hB := ba3 w (.cells #[.int .i64 an, .int .i64 ad] 78) (.cells #[.int .i64 bn, .int .i64 bd] 78) (.cells #[.int .i64 0, .int .i64 0] 78)
  go_wp2_with fail
  generalize ((w.alloc (.cells #[.int .i64 an, .int .i64 ad] 78)).alloc (.cells #[.int .i64 bn, .int .i64 bd] 78)).alloc (.cells #[.int .i64 0, .int .i64 0] 78) = y0 at *
  obtain ⟨rA, fA⟩ := oA.rules
  have zA := oA.lt
  obtain ⟨rB, fB⟩ := oB.rules
  have zB := oB.lt
  obtain ⟨rR, fR⟩ := oR.rules
  have zR := oR.lt
  refine (rfrboth_any _ _ _ _ _ h1 h2 h3 h4).mono ?_
  rintro e y1 ⟨rfl, hq⟩
  clear rA fA zA rB fB zB rR fR zR
  replace oA := oA.below hq
  replace oB := oB.below hq
  replace oR := oR.below hq
  replace hB := below_to hB hq
  clear hq
  obtain ⟨rA, fA⟩ := oA.rules
  have zA := oA.lt
  obtain ⟨rB, fB⟩ := oB.rules
  have zB := oB.lt
  obtain ⟨rR, fR⟩ := oR.rules
  have zR := oR.lt
  go_wp2
  have gl := @grow_lt
  go_wp2_with fail
  refine wp_region_st [.t [0, 1], .f 2, .f 3, .t [4, 5]] [6, 7] (by kernel_rfl) (by kernel_rfl) (fun _ _ _ _ _ h => h) ?_
  refine wpX_t ?_
  try simp only [opsAt, List.getElem?_toArray, List.getElem?_cons_zero, List.getElem?_cons_succ, Option.getD_some]
  repeat (go_big_quiet_step (fail))
  refine wpQuiet_nil ?_
  refine wpX_f rfl rfl (fun K' hK' => ?_)
  go_simp
  refine (rneg_any _ _ _ (by omega) (by omega)).mono ?_
  rintro e y2 ⟨rfl, hq1⟩
  refine hK' _ _ (grow_of (below_to ((Below.refl _ _).drew) hq1)) ?_
  clear hK' K'
  refine wpX_f rfl rfl (fun K' hK' => ?_)
  go_simp
  refine (radd_any _ _ _ _ _ h1 h2 ⟨by omega, by omega⟩ h4).mono ?_
  rintro e y3 ⟨rfl, hq2⟩
  refine hK' _ _ (grow_of (below_to (below_to ((Below.refl _ _).drew) hq1) hq2)) ?_
  clear hK' K'
  refine wpX_t ?_
  try simp only [opsAt, List.getElem?_toArray, List.getElem?_cons_zero, List.getElem?_cons_succ, Option.getD_some]
  repeat (go_big_quiet_step (fail))
  refine wpQuiet_nil ?_
  refine wpX_nil ?_
  try simp only [opsAt, List.getElem?_toArray, List.getElem?_cons_zero, List.getElem?_cons_succ, Option.getD_some]
  clear gl
  clear rA fA zA rB fB zB rR fR zR oA oB
  replace oR := ((oR.drew).below hq1).below hq2
  replace hB := below_to (below_to (hB.drew) hq1) hq2
  clear hq1 hq2
  obtain ⟨rR, fR⟩ := oR.rules
  have zR := oR.lt
  generalize fadd an ad (-bn) bd = rs at *
  go_wp2
  refine bp_gen' (fun W => Own W (w.heap.size + 1 + 1) 78 [.int .i64 rs.n, .int .i64 rs.d] ∧ Below w.heap.size w W) ⟨(oR.set 0 (.int .i64 rs.n)).set 1 (.int .i64 rs.d), ?_⟩ ?_
  · repeat (refine Below.setCell ?_ (by first | omega | (simp; done) | (simp; omega)) _)
    exact hB
  rintro wz ⟨oz, bz⟩
  obtain ⟨rz, fz⟩ := oz.rules
  clear oz
  refine bodyPost_ret (v := .tuple #[.agg #[.int .i64 rs.n, .int .i64 rs.d], .int .i64 rs.e]) (by simp [results, Try.results122, go_sem, rz]) rfl ⟨by rw [HV.out], ?_⟩
  repeat (refine Below.setCell ?_ (by first | omega | (simp; done) | (simp; omega)) _)
  exact bz
end Go.Proofs.Ythlcmlngmcoknaa
