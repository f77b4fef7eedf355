/- What is proved here: the law WeightMeans returns true. Condition: a slice of visibilities. -/
import Derived.Test.YtpjhiojdnebgoaaC22
import Derived.Test.YtpjhiojdnebgoaaC23
import Derived.Test.YtpjhiojdnebgoaaC41
import Derived.Test.YtpjhiojdnebgoaaC01
import Derived.Deep.DeepCutAuto
namespace Go.Proofs.Ytpjhiojdnebgoaa
open Go.RowKit

theorem one_vcs (l : List Vs) : ∀ u ∈ vcs l, u.oneCell' = true := fun u hu => by
  unfold vcs at hu
  obtain ⟨x, _, hx⟩ := List.mem_flatMap.1 hu
  simp only [Vs.cs, List.mem_cons, List.mem_nil_iff, or_false] at hx
  rcases hx with rfl | rfl | rfl | rfl | rfl | rfl <;> rfl
set_option maxRecDepth 100000 in
set_option maxHeartbeats 16000000 in
theorem weightMeans_any (l : List Vs) (v : Value) (w : World) (hs : SV w v l) :
    Calls Try.prog 10 #[v] w fun e w' => e = .returned (.bool true) ∧ Below w.heap.size w w' := by
  have S0 := Lib.hid hs
  obtain ⟨ad, cap, rfl, h1, h2, _⟩ := hs.open
  clear hs
  by_cases g : 250 < l.length
  · go_enter Try.func10, Try.ntmps10
    go_wp2_with fail
    refine (rvlong_any l _ _ S0.out).mono ?_
    rintro e _ ⟨rfl, rfl⟩
    rw [decide_eq_true g]
    go_wp2
    go_ret
    exact ⟨rfl, Below.refl _ _⟩
  go_enter Try.func10, Try.ntmps10
  go_wp2_with fail
  refine (rvlong_any l _ _ S0.out).mono ?_
  rintro e _ ⟨rfl, rfl⟩
  rw [decide_eq_false g]
  go_wp2_with (at_builtin; refine wpList_own _ rfl _ _ _ rfl 60 6 48 (.agg #[.int .i64 0, .int .i64 0, .int .i64 0, .int .i64 0, .int .i64 0, .int .i64 0]) Try.underlying55 vis_info rfl (by omega) (by omega) w.heap.size rfl (heap_alloc_new w _) _ l.length (vcs l) rfl (S0.out.below (ba1 _ _)) (vcs_len l) (one_vcs l) (by omega) ?_; intro g cap2 w2 hown hg hbw)
  have hB : Below w.heap.size w w2 := grown_below hbw (Nat.le_refl _) (ba1 _ _) (by simp)
  have so : SV w2 (.slice (some ⟨g, 0, none⟩) l.length cap2) l := owns_sl hown (by omega)
  clear hown hg hbw
  refine (vMean_any l _ _ so).mono ?_
  rintro e y1 ⟨rfl, hq⟩
  replace hB := below_to hB hq
  replace so := so.below hq
  clear hq
  generalize hr : vMean l = r at *
  have HR := Lib.hid hr
  clear hr
  unfold VR.res
  have oA := Own.new y1 60 [.int .i64 r.i, .int .i64 r.j, .int .i64 r.re, .int .i64 r.im, .int .i64 r.den, .int .i64 r.n]
  have hq := ba1 y1 (.cells #[.int .i64 r.i, .int .i64 r.j, .int .i64 r.re, .int .i64 r.im, .int .i64 r.den, .int .i64 r.n] 60)
  go_upto_region 5 with fail
  replace hB := below_to hB hq
  replace so := so.below hq
  clear hq
  obtain ⟨bA, hA⟩ : ∃ B, B = y1.heap.size := ⟨_, rfl⟩
  rw [← hA] at oA ⊢
  clear hA
  generalize y1.alloc (.cells #[.int .i64 r.i, .int .i64 r.j, .int .i64 r.re, .int .i64 r.im, .int .i64 r.den, .int .i64 r.n] 60) = y2 at *
  go_wp2_with fail
  refine (rvMean_any l _ _ (S0.out.below hB)).mono ?_
  rintro e y3 ⟨rfl, hq⟩
  rw [HR.out]
  replace hB := below_to hB hq
  replace so := so.below hq
  replace oA := oA.below hq
  clear hq
  unfold VR.res
  have oC := Own.new y3 60 [.int .i64 r.i, .int .i64 r.j, .int .i64 r.re, .int .i64 r.im, .int .i64 r.den, .int .i64 r.n]
  have hq := ba1 y3 (.cells #[.int .i64 r.i, .int .i64 r.j, .int .i64 r.re, .int .i64 r.im, .int .i64 r.den, .int .i64 r.n] 60)
  go_upto_region 6 with fail
  replace hB := below_to hB hq
  replace so := so.below hq
  replace oA := oA.below hq
  clear hq
  obtain ⟨bC, hC⟩ : ∃ B, B = y3.heap.size := ⟨_, rfl⟩
  rw [← hC] at oC ⊢
  clear hC
  generalize y3.alloc (.cells #[.int .i64 r.i, .int .i64 r.j, .int .i64 r.re, .int .i64 r.im, .int .i64 r.den, .int .i64 r.n] 60) = y4 at *
  go_wp2_with fail
  refine (vgroup_any l _ _ so).mono ?_
  rintro e y5 ⟨u1, rfl, s1, hq⟩
  replace hB := below_to hB hq
  replace so := so.below hq
  replace oA := oA.below hq
  replace oC := oC.below hq
  clear hq
  go_wp2_with fail
  refine (rvgroup_any l _ _ (S0.out.below hB)).mono ?_
  rintro e y6 ⟨u2, rfl, s2, hq⟩
  replace hB := below_to hB hq
  replace so := so.below hq
  replace oA := oA.below hq
  replace oC := oC.below hq
  replace s1 := s1.below hq
  clear hq
  generalize (vGroup l).1 = gs at *
  generalize (vGroup l).2 = ge at *
  obtain ⟨rA, fA⟩ := oA.rules
  have zA := oA.lt
  obtain ⟨rC, fC⟩ := oC.rules
  have zC := oC.lt
  go_wp2_with fail
  refine (vsame_true gs _ _ _ s1 s2).mono ?_
  rintro e y7 ⟨rfl, hq⟩
  clear rA fA zA rC fC zC oA oC s1 s2
  replace hB := below_to hB hq
  replace so := so.below hq
  clear hq
  go_wp2_with fail
  refine (vsame_true l _ _ _ so (S0.out.below hB)).mono ?_
  rintro e y8 ⟨rfl, hq⟩
  replace hB := below_to hB hq
  clear hq so
  go_wp2
  go_ret
  exact ⟨rfl, hB⟩
end Go.Proofs.Ytpjhiojdnebgoaa
