/- What is proved here: the contracts of flag.Join and flag.Both. Condition: the arguments are slices of bools that can be read, and 64-bit integers. -/
import Derived.Test.YtpkggglifahioaaFlagC
namespace Go.Proofs.Ytpkggglifahioaa
open Go.RowKit

set_option maxHeartbeats 1600000 in
theorem join_any (t c t' c' : Int) (v v' : Value) (xs ys : List Bool) (w : World) (h : SB w v xs) (h' : SB w v' ys) :
    Calls Try.prog 13 #[.agg #[.int .i64 t, .int .i64 c, v], .agg #[.int .i64 t', .int .i64 c', v']] w fun e w' =>
      ∃ u, e = .returned (.tuple #[.agg #[.int .i64 (zt (mpair t c xs.length t' c' ys.length) t), .int .i64 (zt (mpair t c xs.length t' c' ys.length) c), u], .int .i64 (mpair t c xs.length t' c' ys.length)]) ∧
        SB w' u (zl (mpair t c xs.length t' c' ys.length) (List.zipWith (· || ·) xs ys)) ∧ Frv w.heap.size u ∧ Below w.heap.size w w' := by
  have hs := h
  have hs' := h'
  obtain ⟨ad, cap, rfl, h1, h2, h3⟩ := h.open
  obtain ⟨ad', cap', rfl, h1', h2', h3'⟩ := h'.open
  clear h h' h3 h3'
  go_enter Try.func13, Try.ntmps13
  go_wp2_with fail
  refine (combine_or _ _ _ _ _ _ xs ys _ (hs.below (ba3 _ _ _ _)) (hs'.below (ba3 _ _ _ _))).mono ?_
  rintro e w1 ⟨u, rfl, hu, hf, hb1⟩
  obtain ⟨c1, f1⟩ := bcell hb1
  obtain ⟨z0, z1, z2⟩ := bsz3 hb1
  have hb := below_to (ba3 _ _ _ _) hb1
  have hub := hu.open
  obtain ⟨ua, uc, rfl, u1, u2, u3⟩ := hub
  go_wp2
  refine bodyPost_ret (v := .tuple #[.agg #[.int .i64 (zt (mpair t c xs.length t' c' ys.length) t), .int .i64 (zt (mpair t c xs.length t' c' ys.length) c), .slice ua (zl (mpair t c xs.length t' c' ys.length) (List.zipWith (· || ·) xs ys)).length uc], .int .i64 (mpair t c xs.length t' c' ys.length)]) (by simp [results, Try.results13, go_sem, c1]) rfl ⟨_, rfl, ((hu.low hf (by simp) _).low hf (by simp) _).low hf (by simp) _, hf.mono (by simp; omega), ?_⟩
  · exact ((hb.setCell (by simp; omega) _).setCell (by simp; omega) _).setCell (by simp; omega) _

set_option maxHeartbeats 1600000 in
theorem both_any (t c t' c' : Int) (v v' : Value) (xs ys : List Bool) (w : World) (h : SB w v xs) (h' : SB w v' ys) :
    Calls Try.prog 18 #[.agg #[.int .i64 t, .int .i64 c, v], .agg #[.int .i64 t', .int .i64 c', v']] w fun e w' =>
      ∃ u, e = .returned (.tuple #[.agg #[.int .i64 (zt (mpair t c xs.length t' c' ys.length) t), .int .i64 (zt (mpair t c xs.length t' c' ys.length) c), u], .int .i64 (mpair t c xs.length t' c' ys.length)]) ∧
        SB w' u (zl (mpair t c xs.length t' c' ys.length) (List.zipWith (· && ·) xs ys)) ∧ Frv w.heap.size u ∧ Below w.heap.size w w' := by
  have hs := h
  have hs' := h'
  obtain ⟨ad, cap, rfl, h1, h2, h3⟩ := h.open
  obtain ⟨ad', cap', rfl, h1', h2', h3'⟩ := h'.open
  clear h h' h3 h3'
  go_enter Try.func18, Try.ntmps18
  go_wp2_with fail
  refine (combine_and _ _ _ _ _ _ xs ys _ (hs.below (ba3 _ _ _ _)) (hs'.below (ba3 _ _ _ _))).mono ?_
  rintro e w1 ⟨u, rfl, hu, hf, hb1⟩
  obtain ⟨c1, f1⟩ := bcell hb1
  obtain ⟨z0, z1, z2⟩ := bsz3 hb1
  have hb := below_to (ba3 _ _ _ _) hb1
  have hub := hu.open
  obtain ⟨ua, uc, rfl, u1, u2, u3⟩ := hub
  go_wp2
  refine bodyPost_ret (v := .tuple #[.agg #[.int .i64 (zt (mpair t c xs.length t' c' ys.length) t), .int .i64 (zt (mpair t c xs.length t' c' ys.length) c), .slice ua (zl (mpair t c xs.length t' c' ys.length) (List.zipWith (· && ·) xs ys)).length uc], .int .i64 (mpair t c xs.length t' c' ys.length)]) (by simp [results, Try.results18, go_sem, c1]) rfl ⟨_, rfl, ((hu.low hf (by simp) _).low hf (by simp) _).low hf (by simp) _, hf.mono (by simp; omega), ?_⟩
  · exact ((hb.setCell (by simp; omega) _).setCell (by simp; omega) _).setCell (by simp; omega) _

end Go.Proofs.Ytpkggglifahioaa
