/- What is proved here: contracts of functions and plain facts, several texts in one; each one says ahead what it proves, and its conditions. -/
import Derived.Test.YthlcmlngmcoknaaC45
import Derived.Test.YthlcmlngmcoknaaC15
import Derived.Test.YthlcmlngmcoknaaC41
/- What is proved here: fringelaw29's systems and whole numbers as fractions; the reference's Same and SameAll of equal lists. Condition: as each theorem says. -/
namespace Go.Proofs.Ythlcmlngmcoknaa
open Go.RowKit

set_option maxRecDepth 100000 in
set_option maxHeartbeats 4000000 in
theorem example29_any (w : World) : Calls Try.prog 59 #[] w fun e w' => ∃ u v, e = .returned (.agg #[u, v]) ∧ SS w' u [[1, 1, 1], [0, 1, -1]] ∧ SI w' v [6, 1] ∧ Below w.heap.size w w' := by
  have oR := Own.new w 25 [.slice none 0 0, .slice none 0 0]
  have hy := ba1 w (.cells #[.slice none 0 0, .slice none 0 0] 25)
  go_enter Try.func59, Try.ntmps59
  go_upto_region 1 with fail
  have zR0 : w.heap.size < w.heap.size + 1 := by omega
  obtain ⟨bR, hR⟩ : ∃ b, b = w.heap.size := ⟨_, rfl⟩
  have zR1 : w.heap.size ≤ bR := by omega
  rw [← hR] at oR ⊢
  clear hR zR0
  generalize w.alloc (.cells #[.slice none 0 0, .slice none 0 0] 25) = y0 at *
  have zR := oR.lt
  have zy := hy.size
  have o1 := ((own_first y0 3 [.int .i64 1, .int .i64 1, .int .i64 1] (.cells #[.int .i64 0, .int .i64 1, .int .i64 (-1)] 3)).alloc (.cells #[.slice (some ⟨y0.heap.size, 0, none⟩) 3 3, .slice (some ⟨y0.heap.size + 1, 0, none⟩) 3 3] 23)).alloc (.cells #[.int .i64 6, .int .i64 1] 3)
  have o2 := ((own_second y0 3 [.int .i64 0, .int .i64 1, .int .i64 (-1)] (.cells #[.int .i64 1, .int .i64 1, .int .i64 1] 3)).alloc (.cells #[.slice (some ⟨y0.heap.size, 0, none⟩) 3 3, .slice (some ⟨y0.heap.size + 1, 0, none⟩) 3 3] 23)).alloc (.cells #[.int .i64 6, .int .i64 1] 3)
  have o3 := (own_third y0 23 [.slice (some ⟨y0.heap.size, 0, none⟩) 3 3, .slice (some ⟨y0.heap.size + 1, 0, none⟩) 3 3] (.cells #[.int .i64 1, .int .i64 1, .int .i64 1] 3) (.cells #[.int .i64 0, .int .i64 1, .int .i64 (-1)] 3)).alloc (.cells #[.int .i64 6, .int .i64 1] 3)
  have o4 := own_fourth y0 3 [.int .i64 6, .int .i64 1] (.cells #[.int .i64 1, .int .i64 1, .int .i64 1] 3) (.cells #[.int .i64 0, .int .i64 1, .int .i64 (-1)] 3) (.cells #[.slice (some ⟨y0.heap.size, 0, none⟩) 3 3, .slice (some ⟨y0.heap.size + 1, 0, none⟩) 3 3] 23)
  have o0 := oR.below (ba4 y0 (.cells #[.int .i64 1, .int .i64 1, .int .i64 1] 3) (.cells #[.int .i64 0, .int .i64 1, .int .i64 (-1)] 3) (.cells #[.slice (some ⟨y0.heap.size, 0, none⟩) 3 3, .slice (some ⟨y0.heap.size + 1, 0, none⟩) 3 3] 23) (.cells #[.int .i64 6, .int .i64 1] 3))
  have hB := (below_to hy (ba4 y0 (.cells #[.int .i64 1, .int .i64 1, .int .i64 1] 3) (.cells #[.int .i64 0, .int .i64 1, .int .i64 (-1)] 3) (.cells #[.slice (some ⟨y0.heap.size, 0, none⟩) 3 3, .slice (some ⟨y0.heap.size + 1, 0, none⟩) 3 3] 23) (.cells #[.int .i64 6, .int .i64 1] 3)))
  have c1 := ((o1).other (g' := bR) (by omega) 0 (.slice (some ⟨y0.heap.size + 1 + 1, 0, none⟩) 2 2)).other (g' := bR) (by omega) 1 (.slice (some ⟨y0.heap.size + 1 + 1 + 1, 0, none⟩) 2 2)
  have c2 := ((o2).other (g' := bR) (by omega) 0 (.slice (some ⟨y0.heap.size + 1 + 1, 0, none⟩) 2 2)).other (g' := bR) (by omega) 1 (.slice (some ⟨y0.heap.size + 1 + 1 + 1, 0, none⟩) 2 2)
  have c3 := ((o3).other (g' := bR) (by omega) 0 (.slice (some ⟨y0.heap.size + 1 + 1, 0, none⟩) 2 2)).other (g' := bR) (by omega) 1 (.slice (some ⟨y0.heap.size + 1 + 1 + 1, 0, none⟩) 2 2)
  have c4 := ((o4).other (g' := bR) (by omega) 0 (.slice (some ⟨y0.heap.size + 1 + 1, 0, none⟩) 2 2)).other (g' := bR) (by omega) 1 (.slice (some ⟨y0.heap.size + 1 + 1 + 1, 0, none⟩) 2 2)
  have c0 := (o0.set 0 (.slice (some ⟨y0.heap.size + 1 + 1, 0, none⟩) 2 2)).set 1 (.slice (some ⟨y0.heap.size + 1 + 1 + 1, 0, none⟩) 2 2)
  have hB2 := (hB.setCell (p := ⟨bR, 0, none⟩) zR1 (.slice (some ⟨y0.heap.size + 1 + 1, 0, none⟩) 2 2)).setCell (p := ⟨bR, 1, none⟩) zR1 (.slice (some ⟨y0.heap.size + 1 + 1 + 1, 0, none⟩) 2 2)
  have s1 := si_of_own [1, 1, 1] 3 rfl (by decide) c1
  have s2 := si_of_own [0, 1, -1] 3 rfl (by decide) c2
  have s3 := ss_of_own [[1, 1, 1], [0, 1, -1]] [.slice (some ⟨y0.heap.size, 0, none⟩) 3 3, .slice (some ⟨y0.heap.size + 1, 0, none⟩) 3 3] 2 rfl rfl (by decide) c3 (fun i h h' => by
    rcases (show i = 0 ∨ i = 1 by simp at h; omega) with rfl | rfl
    · exact s1
    · exact s2)
  have s4 := si_of_own [6, 1] 2 rfl (by decide) c4
  obtain ⟨r0, f0⟩ := o0.rules
  have z0 := o0.lt
  go_wp2
  refine bp_gen' (fun X => Own X bR 25 [.slice (some ⟨y0.heap.size + 1 + 1, 0, none⟩) 2 2, .slice (some ⟨y0.heap.size + 1 + 1 + 1, 0, none⟩) 2 2] ∧ SS X (.slice (some ⟨y0.heap.size + 1 + 1, 0, none⟩) 2 2) [[1, 1, 1], [0, 1, -1]] ∧ SI X (.slice (some ⟨y0.heap.size + 1 + 1 + 1, 0, none⟩) 2 2) [6, 1] ∧ Below w.heap.size w X) ⟨c0, s3, s4, hB2⟩ ?_
  rintro wz ⟨oz, sz1, sz2, bz⟩
  obtain ⟨rz, fz⟩ := oz.rules
  refine bodyPost_ret (v := .agg #[.slice (some ⟨y0.heap.size + 1 + 1, 0, none⟩) 2 2, .slice (some ⟨y0.heap.size + 1 + 1 + 1, 0, none⟩) 2 2]) (by simp [results, Try.results59, go_sem, rz]) rfl ⟨_, _, rfl, sz1, sz2, bz⟩
set_option maxRecDepth 100000 in
set_option maxHeartbeats 4000000 in
theorem against29_any (w : World) : Calls Try.prog 60 #[] w fun e w' => ∃ u v, e = .returned (.agg #[u, v]) ∧ SS w' u [[1, 1], [2, 2]] ∧ SI w' v [1, 3] ∧ Below w.heap.size w w' := by
  have oR := Own.new w 25 [.slice none 0 0, .slice none 0 0]
  have hy := ba1 w (.cells #[.slice none 0 0, .slice none 0 0] 25)
  go_enter Try.func60, Try.ntmps60
  go_upto_region 1 with fail
  have zR0 : w.heap.size < w.heap.size + 1 := by omega
  obtain ⟨bR, hR⟩ : ∃ b, b = w.heap.size := ⟨_, rfl⟩
  have zR1 : w.heap.size ≤ bR := by omega
  rw [← hR] at oR ⊢
  clear hR zR0
  generalize w.alloc (.cells #[.slice none 0 0, .slice none 0 0] 25) = y0 at *
  have zR := oR.lt
  have zy := hy.size
  have o1 := ((own_first y0 3 [.int .i64 1, .int .i64 1] (.cells #[.int .i64 2, .int .i64 2] 3)).alloc (.cells #[.slice (some ⟨y0.heap.size, 0, none⟩) 2 2, .slice (some ⟨y0.heap.size + 1, 0, none⟩) 2 2] 23)).alloc (.cells #[.int .i64 1, .int .i64 3] 3)
  have o2 := ((own_second y0 3 [.int .i64 2, .int .i64 2] (.cells #[.int .i64 1, .int .i64 1] 3)).alloc (.cells #[.slice (some ⟨y0.heap.size, 0, none⟩) 2 2, .slice (some ⟨y0.heap.size + 1, 0, none⟩) 2 2] 23)).alloc (.cells #[.int .i64 1, .int .i64 3] 3)
  have o3 := (own_third y0 23 [.slice (some ⟨y0.heap.size, 0, none⟩) 2 2, .slice (some ⟨y0.heap.size + 1, 0, none⟩) 2 2] (.cells #[.int .i64 1, .int .i64 1] 3) (.cells #[.int .i64 2, .int .i64 2] 3)).alloc (.cells #[.int .i64 1, .int .i64 3] 3)
  have o4 := own_fourth y0 3 [.int .i64 1, .int .i64 3] (.cells #[.int .i64 1, .int .i64 1] 3) (.cells #[.int .i64 2, .int .i64 2] 3) (.cells #[.slice (some ⟨y0.heap.size, 0, none⟩) 2 2, .slice (some ⟨y0.heap.size + 1, 0, none⟩) 2 2] 23)
  have o0 := oR.below (ba4 y0 (.cells #[.int .i64 1, .int .i64 1] 3) (.cells #[.int .i64 2, .int .i64 2] 3) (.cells #[.slice (some ⟨y0.heap.size, 0, none⟩) 2 2, .slice (some ⟨y0.heap.size + 1, 0, none⟩) 2 2] 23) (.cells #[.int .i64 1, .int .i64 3] 3))
  have hB := (below_to hy (ba4 y0 (.cells #[.int .i64 1, .int .i64 1] 3) (.cells #[.int .i64 2, .int .i64 2] 3) (.cells #[.slice (some ⟨y0.heap.size, 0, none⟩) 2 2, .slice (some ⟨y0.heap.size + 1, 0, none⟩) 2 2] 23) (.cells #[.int .i64 1, .int .i64 3] 3)))
  have c1 := ((o1).other (g' := bR) (by omega) 0 (.slice (some ⟨y0.heap.size + 1 + 1, 0, none⟩) 2 2)).other (g' := bR) (by omega) 1 (.slice (some ⟨y0.heap.size + 1 + 1 + 1, 0, none⟩) 2 2)
  have c2 := ((o2).other (g' := bR) (by omega) 0 (.slice (some ⟨y0.heap.size + 1 + 1, 0, none⟩) 2 2)).other (g' := bR) (by omega) 1 (.slice (some ⟨y0.heap.size + 1 + 1 + 1, 0, none⟩) 2 2)
  have c3 := ((o3).other (g' := bR) (by omega) 0 (.slice (some ⟨y0.heap.size + 1 + 1, 0, none⟩) 2 2)).other (g' := bR) (by omega) 1 (.slice (some ⟨y0.heap.size + 1 + 1 + 1, 0, none⟩) 2 2)
  have c4 := ((o4).other (g' := bR) (by omega) 0 (.slice (some ⟨y0.heap.size + 1 + 1, 0, none⟩) 2 2)).other (g' := bR) (by omega) 1 (.slice (some ⟨y0.heap.size + 1 + 1 + 1, 0, none⟩) 2 2)
  have c0 := (o0.set 0 (.slice (some ⟨y0.heap.size + 1 + 1, 0, none⟩) 2 2)).set 1 (.slice (some ⟨y0.heap.size + 1 + 1 + 1, 0, none⟩) 2 2)
  have hB2 := (hB.setCell (p := ⟨bR, 0, none⟩) zR1 (.slice (some ⟨y0.heap.size + 1 + 1, 0, none⟩) 2 2)).setCell (p := ⟨bR, 1, none⟩) zR1 (.slice (some ⟨y0.heap.size + 1 + 1 + 1, 0, none⟩) 2 2)
  have s1 := si_of_own [1, 1] 2 rfl (by decide) c1
  have s2 := si_of_own [2, 2] 2 rfl (by decide) c2
  have s3 := ss_of_own [[1, 1], [2, 2]] [.slice (some ⟨y0.heap.size, 0, none⟩) 2 2, .slice (some ⟨y0.heap.size + 1, 0, none⟩) 2 2] 2 rfl rfl (by decide) c3 (fun i h h' => by
    rcases (show i = 0 ∨ i = 1 by simp at h; omega) with rfl | rfl
    · exact s1
    · exact s2)
  have s4 := si_of_own [1, 3] 2 rfl (by decide) c4
  obtain ⟨r0, f0⟩ := o0.rules
  have z0 := o0.lt
  go_wp2
  refine bp_gen' (fun X => Own X bR 25 [.slice (some ⟨y0.heap.size + 1 + 1, 0, none⟩) 2 2, .slice (some ⟨y0.heap.size + 1 + 1 + 1, 0, none⟩) 2 2] ∧ SS X (.slice (some ⟨y0.heap.size + 1 + 1, 0, none⟩) 2 2) [[1, 1], [2, 2]] ∧ SI X (.slice (some ⟨y0.heap.size + 1 + 1 + 1, 0, none⟩) 2 2) [1, 3] ∧ Below w.heap.size w X) ⟨c0, s3, s4, hB2⟩ ?_
  rintro wz ⟨oz, sz1, sz2, bz⟩
  obtain ⟨rz, fz⟩ := oz.rules
  refine bodyPost_ret (v := .agg #[.slice (some ⟨y0.heap.size + 1 + 1, 0, none⟩) 2 2, .slice (some ⟨y0.heap.size + 1 + 1 + 1, 0, none⟩) 2 2]) (by simp [results, Try.results60, go_sem, rz]) rfl ⟨_, _, rfl, sz1, sz2, bz⟩
def whole (l : List Int) : List (Int × Int) := l.map fun x => (x, 1)
theorem whole_take {l : List Int} {k : Nat} (hk : k < l.length) : whole (l.take (k + 1)) = whole (l.take k) ++ [(l[k], 1)] := by
  unfold whole; rw [List.take_succ_eq_append_getElem hk, List.map_append]; rfl
theorem whole_len (l : List Int) : (whole l).length = l.length := by simp [whole]
set_option maxRecDepth 100000 in
set_option maxHeartbeats 4000000 in
theorem whole29_any (l : List Int) (v : Value) (w : World) (hs : SI w v l) (hl : l.length ≤ 100) : Calls Try.prog 49 #[v] w fun e w' => ∃ u, e = .returned u ∧ SF w' u (whole l) ∧ Below w.heap.size w w' := by
  have S0 := Lib.hid hs
  obtain ⟨ad, cap, rfl, h1, h2, _⟩ := hs.open
  clear hs
  go_enter Try.func49, Try.ntmps49
  go_wp2
  go_loopw [3, 4] (fun ov i wr => ∃ k : Nat, k ≤ l.length ∧ i = .int .i64 k ∧ wr.ownsRow w.heap.size 78 2 ov k (fcs (whole (l.take k))) ∧ Below w.heap.size w wr) (fun _ i _ => l.length + 1 - (intOf i).toNat)
  case atStart => exact ⟨0, Nat.zero_le _, rfl, World.ownsRow_nil _ _ _ _, Below.refl _ _⟩
  case round =>
    obtain ⟨k, hk, rfl, ow, hB⟩ := hrel
    rename World => W
    obtain ⟨ad4, cap4, e4⟩ := oslice ow
    subst e4
    by_cases hlt : k < l.length
    · obtain ⟨_, _, e, _, _, H⟩ := (S0.out.below hB).open
      cases e
      obtain ⟨b, off, e, c1⟩ := H.out k hlt
      subst e
      clear H
      have WT := Lib.hid (whole_take hlt)
      generalize l[k] = x at *
      go_wp2_with fail
      refine (rof_any x _).mono ?_
      rintro e y1 ⟨rfl, hq⟩
      have ow2 := owns_at ow hq
      have hB2 := below_to hB hq
      have zB := hB2.size
      clear ow hB hq c1
      go_wp2_with (at_builtin; refine wpList_app _ rfl _ _ _ rfl w.heap.size 78 2 16 (.agg #[.int .i64 0, .int .i64 0]) Try.underlying28 Try.infoFrac rfl (by omega) (by omega) _ k _ rfl (ow2.alloc _) (by omega) (by simp; omega) y1.heap.size [.int .i64 x, .int .i64 1] (0, 0) rfl (heap_alloc_new y1 _) rfl (by simp [Value.oneCell']) ?_; intro g cap2 w2 hown hg hbw)
      go_roundw
      case rel =>
        refine ⟨k + 1, by omega, by go_num, ?_, ?_⟩
        · rw [WT.out, fcs_append]; exact hown
        · exact (below_to hB2 (ba1 y1 _)).trans (hbw.mono (Nat.le_refl _))
      case measure => simp [intOf]; try omega
    · obtain rfl : k = l.length := by omega
      rw [List.take_of_length_le (Nat.le_refl _)] at ow
      have SW : SF W (.slice ad4 l.length cap4) (whole l) := by unfold SF; rw [whole_len]; exact owns_sl ow (by omega)
      go_wp2
      go_ret
      exact ⟨_, rfl, SW, hB⟩
theorem same29_true (xs : List (Int × Int)) (u v : Value) (w : World) (hs : SF w u xs) (ht : SF w v xs) :
    Calls Try.prog 15 #[u, v] w fun e w' => e = .returned (.bool true) ∧ Below w.heap.size w w' :=
  (rsame_any xs xs u v w hs ht).mono fun _ _ ⟨he, hb⟩ => ⟨by rw [he, decide_eq_true rfl], hb⟩
set_option maxRecDepth 100000 in
set_option maxHeartbeats 4000000 in
theorem sameall_true (xss : List (List (Int × Int))) (v1 v2 : Value) (w : World) (h1 : SFF w v1 xss) (h2 : SFF w v2 xss) :
    Calls Try.prog 16 #[v1, v2] w fun e w' => e = .returned (.bool true) ∧ Below w.heap.size w w' := by
  have S1 := Lib.hid h1
  have S2 := Lib.hid h2
  obtain ⟨ad1, cap1, rfl, l1, l2, _⟩ := h1.open
  obtain ⟨ad2, cap2, rfl, l3, l4, _⟩ := h2.open
  clear h1 h2
  go_enter Try.func16, Try.ntmps16
  go_wp2
  go_loopw [5] (fun i wr => ∃ k : Nat, k ≤ xss.length ∧ i = .int .i64 k ∧ Below w.heap.size w wr) (fun i _ => xss.length + 1 - (intOf i).toNat)
  case atStart => exact ⟨0, Nat.zero_le _, rfl, Below.refl _ _⟩
  case round =>
    obtain ⟨k, hk, rfl, hB⟩ := hrel
    rename World => W
    by_cases hlt : k < xss.length
    · obtain ⟨_, _, e, _, _, H⟩ := (S1.out.below hB).open
      cases e
      obtain ⟨b, off, ad', cap', e, c1, _, _, s1⟩ := H.out k hlt
      subst e
      obtain ⟨_, _, e, _, _, H'⟩ := (S2.out.below hB).open
      cases e
      obtain ⟨b', off', ad'', cap'', e, c2, _, _, s2⟩ := H'.out k hlt
      subst e
      clear H H'
      generalize xss.getD k [] = xs at *
      have zb := World.block_lt_of_cell? _ _ c1
      have zb2 := World.block_lt_of_cell? _ _ c2
      simp only at zb zb2
      have gl := @grow_lt
      have hD := (Below.refl W.heap.size W).drew
      go_wp2
      go_wp2_with fail
      refine wp_region_st [.t [0, 1, 2, 3, 4, 5, 6, 7], .f 8] [9] (by kernel_rfl) (by kernel_rfl) (fun _ _ _ _ _ h => h) ?_
      refine wpX_t ?_
      try simp only [opsAt, List.getElem?_toArray, List.getElem?_cons_zero, List.getElem?_cons_succ, Option.getD_some]
      repeat (go_big_quiet_step (fail))
      refine wpQuiet_nil ?_
      refine wpX_f rfl rfl (fun K' hK' => ?_)
      go_simp
      refine (same29_true xs _ _ _ (s1.below hD) (s2.below hD)).mono ?_
      rintro e z1 ⟨rfl, hq1⟩
      refine hK' _ _ (grow_of (below_to hD hq1)) ?_
      clear hK' K'
      refine wpX_nil ?_
      try simp only [opsAt, List.getElem?_toArray, List.getElem?_cons_zero, List.getElem?_cons_succ, Option.getD_some]
      clear gl c1 c2 zb zb2
      replace hB := below_to hB (below_to hD hq1)
      go_wp2
      go_roundw
      case rel => exact ⟨k + 1, by omega, by go_num, hB⟩
      case measure => simp [intOf]; try omega
    · obtain rfl : k = xss.length := by omega
      go_wp2
      go_ret
      exact ⟨rfl, hB⟩
end Go.Proofs.Ythlcmlngmcoknaa

/- What is proved here: fringelaw29.alive returns true. No condition. -/
namespace Go.Proofs.Ythlcmlngmcoknaa
open Go.RowKit

theorem sff_one {w : World} {g : Nat} {T : TypeId} {v : Value} {xs : List (Int × Int)} (h : Own w g T [v]) (hs : SF w v xs) : SFF w (.slice (some ⟨g, 0, none⟩) 1 1) [xs] :=
  ⟨[v], rfl, h.sl 1 (Nat.le_refl _) (by omega) _ ⟨[], by simp⟩, fun i hi hi' => by
    obtain rfl : i = 0 := by simp at hi; omega
    exact hs⟩
set_option maxRecDepth 100000 in
set_option maxHeartbeats 16000000 in
theorem alive29_any (w : World) : Calls Try.prog 12 #[] w fun e w' => e = .returned (.bool true) ∧ Below w.heap.size w w' := by
  go_enter Try.func12, Try.ntmps12
  have hy := Below.refl w.heap.size w
  go_wp2_with fail
  refine (example29_any _).mono ?_
  rintro e y1 ⟨va, vb, rfl, sA, sB, hq⟩
  replace hy := below_to hy hq
  clear hq
  go_wp2_with fail
  refine (osolve_any [[1, 1, 1], [0, 1, -1]] [6, 1] va vb _ sA sB).mono ?_
  rintro e y2 ⟨x, b, rfl, sx, sb, hq⟩
  clear sA sB
  replace hy := below_to hy hq
  clear hq
  rw [show oSolve [[1, 1, 1], [0, 1, -1]] [6, 1] = ([(5, 1), (1, 1), (0, 1)], [[(-2, 1), (1, 1), (1, 1)]], 0) from by decide +kernel] at sx sb ⊢
  go_wp2_with fail
  refine (against29_any _).mono ?_
  rintro e y3 ⟨va2, vb2, rfl, sA, sB, hq⟩
  replace sx := sx.below hq
  replace sb := sb.below hq
  replace hy := below_to hy hq
  clear hq
  go_wp2_with fail
  refine (orefute_any [[1, 1], [2, 2]] [1, 3] va2 vb2 _ sA sB).mono ?_
  rintro e y4 ⟨yv, rfl, sy, hq⟩
  clear sA sB
  replace sx := sx.below hq
  replace sb := sb.below hq
  replace hy := below_to hy hq
  clear hq
  rw [show oRefute [[1, 1], [2, 2]] [1, 3] = ([(-2, 1), (1, 1)], 0) from by decide +kernel] at sy ⊢
  go_wp2_with fail
  refine (against29_any _).mono ?_
  rintro e y5 ⟨va3, vb3, rfl, sA, sB, hq⟩
  replace sx := sx.below hq
  replace sb := sb.below hq
  replace sy := sy.below hq
  replace hy := below_to hy hq
  clear hq
  go_wp2_with fail
  refine (osolve_any [[1, 1], [2, 2]] [1, 3] va3 vb3 _ sA sB).mono ?_
  rintro e y6 ⟨x3, b3, rfl, sx3, sb3, hq⟩
  clear sA sB sx3 sb3
  replace sx := sx.below hq
  replace sb := sb.below hq
  replace sy := sy.below hq
  replace hy := below_to hy hq
  clear hq
  rw [show oSolve [[1, 1], [2, 2]] [1, 3] = ([], [], 6) from by decide +kernel]
  go_wp2_with fail
  have oL := Own.new y6 2 [.int .i64 5, .int .i64 1, .int .i64 0]
  have hq := ba1 y6 (.cells #[.int .i64 5, .int .i64 1, .int .i64 0] 2)
  have sL := si_of_own [5, 1, 0] 3 rfl (by decide) oL
  clear oL
  replace sx := sx.below hq
  replace sb := sb.below hq
  replace sy := sy.below hq
  replace hy := below_to hy hq
  clear hq
  refine (whole29_any [5, 1, 0] _ _ sL (by decide)).mono ?_
  rintro e y7 ⟨u1, rfl, su1, hq⟩
  clear sL
  replace sx := sx.below hq
  replace sb := sb.below hq
  replace sy := sy.below hq
  replace hy := below_to hy hq
  clear hq
  replace su1 : SF _ _ [(5, 1), (1, 1), (0, 1)] := su1
  go_wp2_with fail
  refine (same29_true [(5, 1), (1, 1), (0, 1)] _ _ _ sx su1).mono ?_
  rintro e y8 ⟨rfl, hq⟩
  clear sx su1
  replace sb := sb.below hq
  replace sy := sy.below hq
  replace hy := below_to hy hq
  clear hq
  go_wp2_with fail
  have oL := Own.new y8 2 [.int .i64 (-2), .int .i64 1, .int .i64 1]
  have hq := ba1 y8 (.cells #[.int .i64 (-2), .int .i64 1, .int .i64 1] 2)
  have sL := si_of_own [-2, 1, 1] 3 rfl (by decide) oL
  clear oL
  replace sb := sb.below hq
  replace sy := sy.below hq
  replace hy := below_to hy hq
  clear hq
  refine (whole29_any [-2, 1, 1] _ _ sL (by decide)).mono ?_
  rintro e y9 ⟨u2, rfl, su2, hq⟩
  clear sL
  replace sb := sb.below hq
  replace sy := sy.below hq
  replace hy := below_to hy hq
  clear hq
  replace su2 : SF _ _ [(-2, 1), (1, 1), (1, 1)] := su2
  obtain ⟨adu, capu, rfl, _, _, _⟩ := su2.open
  go_wp2_with fail
  have oL := Own.new y9 28 [.slice adu 3 capu]
  have hq := ba1 y9 (.cells #[.slice adu 3 capu] 28)
  have sL := sff_one oL (su2.below hq)
  clear oL su2
  replace sb := sb.below hq
  replace sy := sy.below hq
  replace hy := below_to hy hq
  clear hq
  refine (sameall_true [[(-2, 1), (1, 1), (1, 1)]] _ _ _ sb sL).mono ?_
  rintro e y10 ⟨rfl, hq⟩
  clear sb sL
  replace sy := sy.below hq
  replace hy := below_to hy hq
  clear hq
  go_wp2_with fail
  have oL := Own.new y10 2 [.int .i64 (-2), .int .i64 1]
  have hq := ba1 y10 (.cells #[.int .i64 (-2), .int .i64 1] 2)
  have sL := si_of_own [-2, 1] 2 rfl (by decide) oL
  clear oL
  replace sy := sy.below hq
  replace hy := below_to hy hq
  clear hq
  refine (whole29_any [-2, 1] _ _ sL (by decide)).mono ?_
  rintro e y11 ⟨u3, rfl, su3, hq⟩
  clear sL
  replace sy := sy.below hq
  replace hy := below_to hy hq
  clear hq
  replace su3 : SF _ _ [(-2, 1), (1, 1)] := su3
  go_wp2_with fail
  refine (same29_true [(-2, 1), (1, 1)] _ _ _ sy su3).mono ?_
  rintro e y12 ⟨rfl, hq⟩
  clear sy su3
  replace hy := below_to hy hq
  clear hq
  go_wp2
  go_ret
  exact ⟨by first | rfl | simp, hy⟩
end Go.Proofs.Ythlcmlngmcoknaa
