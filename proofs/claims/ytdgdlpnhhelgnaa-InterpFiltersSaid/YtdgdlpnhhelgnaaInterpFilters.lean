/- What is proved here: the law InterpFilters returns true. Condition: two slices of fractions of 64-bit numbers. -/
import Derived.Test.YtdgdlpnhhelgnaaIfilt
import Derived.Test.YtdgdlpnhhelgnaaRIfilt
import Derived.Test.YtdgdlpnhhelgnaaIjoin
import Derived.Test.YtdgdlpnhhelgnaaRIjoin
import Derived.Test.YtdgdlpnhhelgnaaISame
import Derived.Test.YtdgdlpnhhelgnaaILong
import Derived.Test.YtdgdlpnhhelgnaaAppend2
namespace Go.Proofs.Ytdgdlpnhhelgnaa
open Go.RowKit

theorem one_fcs (xs : List (Int × Int)) : ∀ u ∈ fcs xs, u.oneCell' = true := fun u hu => by
  simp only [fcs, List.mem_flatMap] at hu
  obtain ⟨p, _, hp⟩ := hu
  simp at hp
  rcases hp with rfl | rfl <;> rfl
theorem flong_le {n : Nat} (h : flong n = false) : n ≤ 300 := by
  unfold flong at h; simp at h; omega
set_option maxRecDepth 100000 in
set_option maxHeartbeats 16000000 in
theorem interpFilters_any (l t : List (Int × Int)) (u v : Value) (w : World) (hs : SF w u l) (ht : SF w v t) (il : FI l) (it : FI t) :
    Calls Try.prog 3 #[u, v] w fun e w' => e = .returned (.bool true) ∧ Below w.heap.size w w' := by
  have IL := Lib.hid il
  have IT := Lib.hid it
  have hs0 := Lib.hid hs
  have ht0 := Lib.hid ht
  obtain ⟨ad, cap, rfl, h1, h2, _⟩ := hs.open
  obtain ⟨ad', cap', rfl, h1', h2', _⟩ := ht.open
  clear hs ht il it
  by_cases g1 : flong l.length = true
  · have G1 := Lib.hid g1
    clear g1
    go_enter Try.func3, Try.ntmps3
    go_wp2_with fail
    refine (ilong_any _ _ _ _ h2).mono ?_
    rintro e _ ⟨rfl, rfl⟩
    rw [G1.out]
    go_wp2
    go_ret
    exact ⟨rfl, Below.refl _ _⟩
  have G1 : Hid (flong l.length = false) := by show _ = _; simpa using g1
  by_cases g2 : flong t.length = true
  · have G2 := Lib.hid g2
    clear g1 g2
    go_enter Try.func3, Try.ntmps3
    go_wp2_with fail
    refine (ilong_any _ _ _ _ h2).mono ?_
    rintro e _ ⟨rfl, rfl⟩
    rw [G1.out]
    go_wp2_with fail
    refine (ilong_any _ _ _ _ h2').mono ?_
    rintro e _ ⟨rfl, rfl⟩
    rw [G2.out]
    go_wp2
    go_ret
    exact ⟨rfl, Below.refl _ _⟩
  have G2 : Hid (flong t.length = false) := by show _ = _; simpa using g2
  have n1 := flong_le G1.out
  have n2 := flong_le G2.out
  clear g1 g2
  go_enter Try.func3, Try.ntmps3
  go_wp2_with fail
  refine (ilong_any _ _ _ _ h2).mono ?_
  rintro e _ ⟨rfl, rfl⟩
  rw [G1.out]
  go_wp2_with fail
  refine (ilong_any _ _ _ _ h2').mono ?_
  rintro e _ ⟨rfl, rfl⟩
  rw [G2.out]
  go_wp2_with (at_builtin; first | (refine wpList_own _ rfl _ _ _ rfl 32 2 16 (.agg #[.int .i64 0, .int .i64 0]) Try.underlying22 ifilt_info rfl (by omega) (by omega) w.heap.size rfl (heap_alloc_new w _) _ l.length (fcs l) rfl (hs0.out.below (ba1 _ _)) (fcs_len l) (one_fcs l) (by omega) ?_; intro g cap2 w2 hown hg hbw) | (refine wpList_own _ rfl _ _ _ rfl 32 2 16 (.agg #[.int .i64 0, .int .i64 0]) Try.underlying22 ifilt_info rfl (by omega) (by omega) w2.heap.size rfl (heap_alloc_new w2 _) _ t.length (fcs t) rfl ((ht0.out.below (grown_below hbw (Nat.le_refl _) (ba1 _ _) (by simp))).below (ba1 _ _)) (fcs_len t) (one_fcs t) (by omega) ?_; intro g' cap3 w3 hown' hg' hbw'))
  have hW1 : Below w.heap.size w w2 := grown_below hbw (Nat.le_refl _) (ba1 _ _) (by simp)
  have so : SF w2 (.slice (some ⟨g, 0, none⟩) l.length cap2) l := owns_sl hown (by omega)
  have sl := hs0.out.below hW1
  have st0 := ht0.out.below hW1
  have hW2 : Below w2.heap.size w2 w3 := grown_below hbw' (Nat.le_refl _) (ba1 _ _) (by simp)
  have sp : SF w3 (.slice (some ⟨g', 0, none⟩) t.length cap3) t := owns_sl hown' (by omega)
  replace so := so.below hW2
  replace sl := sl.below hW2
  replace st0 := st0.below hW2
  have hB := below_to hW1 hW2
  clear hown hg hbw hown' hg' hbw' hW1 hW2
  go_wp2_with fail
  refine (ifilt_any l t _ _ _ so sp IL.out IT.out).mono ?_
  rintro e y1 ⟨x1, rfl, s1, hq⟩
  replace so := so.below hq
  replace sl := sl.below hq
  replace st0 := st0.below hq
  replace sp := sp.below hq
  replace hB := below_to hB hq
  clear hq
  go_wp2_with fail
  refine (rifilt_any l t _ _ _ sl st0 IL.out IT.out).mono ?_
  rintro e y2 ⟨x2, rfl, s2, hq⟩
  replace so := so.below hq
  replace sl := sl.below hq
  replace st0 := st0.below hq
  replace sp := sp.below hq
  replace s1 := s1.below hq
  replace hB := below_to hB hq
  clear hq
  go_wp2_with fail
  refine (ijoin_any l t _ _ _ so sp IL.out IT.out).mono ?_
  rintro e y3 ⟨x3, rfl, s3, hq⟩
  replace so := so.below hq
  replace sl := sl.below hq
  replace st0 := st0.below hq
  replace sp := sp.below hq
  replace s1 := s1.below hq
  replace s2 := s2.below hq
  replace hB := below_to hB hq
  clear hq
  go_wp2_with fail
  refine (rijoin_any l t _ _ _ sl st0 IL.out IT.out).mono ?_
  rintro e y4 ⟨x4, rfl, s4, hq⟩
  replace so := so.below hq
  replace sl := sl.below hq
  replace st0 := st0.below hq
  replace sp := sp.below hq
  replace s1 := s1.below hq
  replace s2 := s2.below hq
  replace s3 := s3.below hq
  replace hB := below_to hB hq
  clear hq
  generalize ffilt l t = p at *
  generalize fjoin l t = q at *
  go_wp2_with fail
  refine (rsame_any _ _ _ _ _ s1 s2).mono ?_
  rintro e z0 ⟨rfl, hq⟩
  rw [decide_eq_true rfl]
  replace so := so.below hq
  replace sl := sl.below hq
  replace st0 := st0.below hq
  replace sp := sp.below hq
  replace s1 := s1.below hq
  replace s2 := s2.below hq
  replace s3 := s3.below hq
  replace s4 := s4.below hq
  replace hB := below_to hB hq
  clear hq
  go_wp2_with fail
  refine (rsame_any _ _ _ _ _ s3 s4).mono ?_
  rintro e z1 ⟨rfl, hq⟩
  rw [decide_eq_true rfl]
  replace so := so.below hq
  replace sl := sl.below hq
  replace st0 := st0.below hq
  replace sp := sp.below hq
  replace s1 := s1.below hq
  replace s2 := s2.below hq
  replace s3 := s3.below hq
  replace s4 := s4.below hq
  replace hB := below_to hB hq
  clear hq
  go_wp2_with fail
  refine (rsame_any _ _ _ _ _ so sl).mono ?_
  rintro e z2 ⟨rfl, hq⟩
  rw [decide_eq_true rfl]
  replace so := so.below hq
  replace sl := sl.below hq
  replace st0 := st0.below hq
  replace sp := sp.below hq
  replace s1 := s1.below hq
  replace s2 := s2.below hq
  replace s3 := s3.below hq
  replace s4 := s4.below hq
  replace hB := below_to hB hq
  clear hq
  go_wp2_with fail
  refine (rsame_any _ _ _ _ _ sp st0).mono ?_
  rintro e z3 ⟨rfl, hq⟩
  rw [decide_eq_true rfl]
  replace so := so.below hq
  replace sl := sl.below hq
  replace st0 := st0.below hq
  replace sp := sp.below hq
  replace s1 := s1.below hq
  replace s2 := s2.below hq
  replace s3 := s3.below hq
  replace s4 := s4.below hq
  replace hB := below_to hB hq
  clear hq
  go_wp2
  go_ret
  exact ⟨rfl, hB⟩
end Go.Proofs.Ytdgdlpnhhelgnaa
