/- What is proved here: contracts of functions and plain facts, several texts in one; each one says ahead what it proves, and its conditions. -/
import Derived.Test.YtpjhiojdnebgoaaC18
import Derived.Test.YtpjhiojdnebgoaaC19
import Derived.BigQuiet
import Derived.Test.YtpjhiojdnebgoaaC11
import Derived.Test.YtpjhiojdnebgoaaC01
import Derived.Deep.DeepCutAuto
/- What is proved here: the contract of weight.Mean. Condition: a slice of visibilities. -/
namespace Go.Proofs.Ytpjhiojdnebgoaa
open Go.RowKit

set_option maxRecDepth 100000 in
set_option maxHeartbeats 16000000 in
theorem vMean_any (l : List Vs) (v : Value) (w : World) (hs : SV w v l) :
    Calls Try.prog 35 #[v] w fun e w' => e = .returned (vMean l).res ∧ Below w.heap.size w w' := by
  have S0 := Lib.hid hs
  obtain ⟨ad, cap, rfl, h1, h2, _⟩ := hs.open
  clear hs
  have oR := Own.new w 60 [.int .i64 0, .int .i64 0, .int .i64 0, .int .i64 0, .int .i64 0, .int .i64 0]
  have hB := ba1 w (.cells #[.int .i64 0, .int .i64 0, .int .i64 0, .int .i64 0, .int .i64 0, .int .i64 0] 60)
  go_enter Try.func35, Try.ntmps35
  go_upto_region 1 with fail
  generalize w.alloc (.cells #[.int .i64 0, .int .i64 0, .int .i64 0, .int .i64 0, .int .i64 0, .int .i64 0] 60) = y0 at *
  go_wp2_with fail
  refine (vclist_any l _ _ (S0.out.below hB)).mono ?_
  rintro e y1 ⟨rfl, hq⟩
  replace oR := oR.below hq
  replace hB := below_to hB hq
  clear hq
  by_cases hl : vlist l = 0
  case neg =>
    have b1 : (vlist l != 0) = true := by simpa using hl
    have HF := Lib.hid (vMean_l hl)
    clear hl
    generalize vlist l = u at *
    obtain ⟨rR, fR⟩ := oR.rules
    have zR := oR.lt
    go_wp2
    clear rR fR zR
    replace oR := ((((((oR.set 0 (.int .i64 0)).set 1 (.int .i64 0)).set 2 (.int .i64 0)).set 3 (.int .i64 0)).set 4 (.int .i64 0)).set 5 (.int .i64 0))
    replace hB := ((((((hB.setCell (p := ⟨w.heap.size, 0, none⟩) (by simp) (.int .i64 0)).setCell (p := ⟨w.heap.size, 1, none⟩) (by simp) (.int .i64 0)).setCell (p := ⟨w.heap.size, 2, none⟩) (by simp) (.int .i64 0)).setCell (p := ⟨w.heap.size, 3, none⟩) (by simp) (.int .i64 0)).setCell (p := ⟨w.heap.size, 4, none⟩) (by simp) (.int .i64 0)).setCell (p := ⟨w.heap.size, 5, none⟩) (by simp) (.int .i64 0))
    refine bp_gen' (fun W => Own W _ _ _ ∧ Below w.heap.size w W) ⟨oR, hB⟩ ?_
    rintro wz ⟨oz, bz⟩
    obtain ⟨rz, fz⟩ := oz.rules
    clear oz
    refine bodyPost_ret (v := .tuple #[.agg #[.int .i64 0, .int .i64 0, .int .i64 0, .int .i64 0, .int .i64 0, .int .i64 0], .int .i64 u]) (by simp [results, Try.results35, go_sem, rz]) rfl ⟨by rw [HF.out]; rfl, ?_⟩
    exact bz
  have b1 : (vlist l != 0) = false := by simpa using hl
  have HM := Lib.hid (vlist_0 hl)
  have ME := Lib.hid (fun h => vMean_e hl h)
  have M2 := Lib.hid (fun h0 h => vMean_2 hl h0 h)
  have M0 := Lib.hid (fun h0 h => vMean_0 hl h0 h)
  clear hl
  generalize vlist l = u at *
  by_cases h0 : l.length = 0
  · have b2 : ((l.length : Int) == 0) = true := by simpa using h0
    have HF := Lib.hid (ME.out h0)
    clear h0
    obtain ⟨rR, fR⟩ := oR.rules
    have zR := oR.lt
    go_wp2
    clear rR fR zR
    replace oR := ((((((oR.set 0 (.int .i64 0)).set 1 (.int .i64 0)).set 2 (.int .i64 0)).set 3 (.int .i64 0)).set 4 (.int .i64 0)).set 5 (.int .i64 0))
    replace hB := ((((((hB.setCell (p := ⟨w.heap.size, 0, none⟩) (by simp) (.int .i64 0)).setCell (p := ⟨w.heap.size, 1, none⟩) (by simp) (.int .i64 0)).setCell (p := ⟨w.heap.size, 2, none⟩) (by simp) (.int .i64 0)).setCell (p := ⟨w.heap.size, 3, none⟩) (by simp) (.int .i64 0)).setCell (p := ⟨w.heap.size, 4, none⟩) (by simp) (.int .i64 0)).setCell (p := ⟨w.heap.size, 5, none⟩) (by simp) (.int .i64 0))
    refine bp_gen' (fun W => Own W _ _ _ ∧ Below w.heap.size w W) ⟨oR, hB⟩ ?_
    rintro wz ⟨oz, bz⟩
    obtain ⟨rz, fz⟩ := oz.rules
    clear oz
    refine bodyPost_ret (v := .tuple #[.agg #[.int .i64 0, .int .i64 0, .int .i64 0, .int .i64 0, .int .i64 0, .int .i64 0], .int .i64 2]) (by simp [results, Try.results35, go_sem, rz]) rfl ⟨by rw [HF.out]; rfl, ?_⟩
    exact bz
  have b2 : ((l.length : Int) == 0) = false := by simpa using h0
  replace h0 : 0 < l.length := by omega
  have hz0 : (0 : Int) < (l.length : Int) := by omega
  go_upto_region 6 with fail
  go_wp2
  go_loopw [19] (fun i wr => ∃ k : Nat, k ≤ l.length ∧ i = .int .i64 k ∧ Hid (vsame (l.take k) l[0].i l[0].j = true) ∧ Own wr w.heap.size 60 [.int .i64 0, .int .i64 0, .int .i64 0, .int .i64 0, .int .i64 0, .int .i64 0] ∧ Below w.heap.size w wr) (fun i _ => l.length + 1 - (intOf i).toNat)
  case atStart => exact ⟨0, Nat.zero_le _, rfl, rfl, oR, hB⟩
  case round =>
    clear oR hB
    obtain ⟨k, hk, rfl, hv, oR, hB⟩ := hrel
    rename World => Wr
    by_cases hlt : k < l.length
    · obtain ⟨_, _, e, _, _, H⟩ := (S0.out.below hB).open
      cases e
      obtain ⟨b, off, rfl, c0, c1, c2, c3, c4, c5⟩ := H.out k hlt
      obtain ⟨_, _, e, d0, d1, _, _, _, _⟩ := H.out 0 h0
      cases e
      clear H
      simp only [Nat.zero_mul, Nat.add_zero] at d0 d1
      have HT := Lib.hid (fun h1 h2 => vsame_take hlt hv.out h1 h2)
      have HN := Lib.hid (fun h1 => M2.out h0 (vsame_not hlt h1))
      generalize l[k] = x at *
      generalize l[0].i = i0 at *
      generalize l[0].j = j0 at *
      clear hv
      have oV := Own.new Wr 60 [.int .i64 x.i, .int .i64 x.j, .int .i64 x.re, .int .i64 x.im, .int .i64 x.den, .int .i64 x.n]
      have hq := ba1 Wr (.cells #[.int .i64 x.i, .int .i64 x.j, .int .i64 x.re, .int .i64 x.im, .int .i64 x.den, .int .i64 x.n] 60)
      go_upto_region 9 with fail
      replace oR := oR.below hq
      replace d0 := below_cell hq d0
      replace d1 := below_cell hq d1
      replace hB := below_to hB hq
      clear hq c0 c1 c2 c3 c4 c5
      obtain ⟨bV, hV⟩ : ∃ B, B = Wr.heap.size := ⟨_, rfl⟩
      rw [← hV] at oV ⊢
      clear hV
      generalize Wr.alloc (.cells #[.int .i64 x.i, .int .i64 x.j, .int .i64 x.re, .int .i64 x.im, .int .i64 x.den, .int .i64 x.n] 60) = y2 at *
      obtain ⟨rV, fV⟩ := oV.rules
      have zV := oV.lt
      have zb := World.block_lt_of_cell? _ _ d0
      simp only at zb
      by_cases e1 : x.i = i0
      case neg =>
        have q1 : (x.i != i0) = true := by simpa using e1
        have HF := Lib.hid (HN.out (fun h => e1 h.1))
        clear e1 HT HN
        go_quiet (fail)
        clear rV fV zV oV
        replace oR := oR.drewN nq
        replace hB := bd hB nq
        generalize y2.drewN nq = y3 at *
        obtain ⟨rR, fR⟩ := oR.rules
        have zR := oR.lt
        go_wp2
        clear rR fR zR
        replace oR := ((((((oR.set 0 (.int .i64 0)).set 1 (.int .i64 0)).set 2 (.int .i64 0)).set 3 (.int .i64 0)).set 4 (.int .i64 0)).set 5 (.int .i64 0))
        replace hB := ((((((hB.setCell (p := ⟨w.heap.size, 0, none⟩) (by simp) (.int .i64 0)).setCell (p := ⟨w.heap.size, 1, none⟩) (by simp) (.int .i64 0)).setCell (p := ⟨w.heap.size, 2, none⟩) (by simp) (.int .i64 0)).setCell (p := ⟨w.heap.size, 3, none⟩) (by simp) (.int .i64 0)).setCell (p := ⟨w.heap.size, 4, none⟩) (by simp) (.int .i64 0)).setCell (p := ⟨w.heap.size, 5, none⟩) (by simp) (.int .i64 0))
        refine bp_gen' (fun W => Own W _ _ _ ∧ Below w.heap.size w W) ⟨oR, hB⟩ ?_
        rintro wz ⟨oz, bz⟩
        obtain ⟨rz, fz⟩ := oz.rules
        clear oz
        refine bodyPost_ret (v := .tuple #[.agg #[.int .i64 0, .int .i64 0, .int .i64 0, .int .i64 0, .int .i64 0, .int .i64 0], .int .i64 2]) (by simp [results, Try.results35, go_sem, rz]) rfl ⟨by rw [HF.out]; rfl, ?_⟩
        exact bz
      have q1 : (x.i != i0) = false := by simpa using e1
      by_cases e2 : x.j = j0
      case neg =>
        have q2 : (x.j != j0) = true := by simpa using e2
        have HF := Lib.hid (HN.out (fun h => e2 h.2))
        clear e1 e2 HT HN
        go_quiet (fail)
        clear rV fV zV oV
        replace oR := oR.drewN nq
        replace hB := bd hB nq
        generalize y2.drewN nq = y3 at *
        obtain ⟨rR, fR⟩ := oR.rules
        have zR := oR.lt
        go_wp2
        clear rR fR zR
        replace oR := ((((((oR.set 0 (.int .i64 0)).set 1 (.int .i64 0)).set 2 (.int .i64 0)).set 3 (.int .i64 0)).set 4 (.int .i64 0)).set 5 (.int .i64 0))
        replace hB := ((((((hB.setCell (p := ⟨w.heap.size, 0, none⟩) (by simp) (.int .i64 0)).setCell (p := ⟨w.heap.size, 1, none⟩) (by simp) (.int .i64 0)).setCell (p := ⟨w.heap.size, 2, none⟩) (by simp) (.int .i64 0)).setCell (p := ⟨w.heap.size, 3, none⟩) (by simp) (.int .i64 0)).setCell (p := ⟨w.heap.size, 4, none⟩) (by simp) (.int .i64 0)).setCell (p := ⟨w.heap.size, 5, none⟩) (by simp) (.int .i64 0))
        refine bp_gen' (fun W => Own W _ _ _ ∧ Below w.heap.size w W) ⟨oR, hB⟩ ?_
        rintro wz ⟨oz, bz⟩
        obtain ⟨rz, fz⟩ := oz.rules
        clear oz
        refine bodyPost_ret (v := .tuple #[.agg #[.int .i64 0, .int .i64 0, .int .i64 0, .int .i64 0, .int .i64 0, .int .i64 0], .int .i64 2]) (by simp [results, Try.results35, go_sem, rz]) rfl ⟨by rw [HF.out]; rfl, ?_⟩
        exact bz
      have q2 : (x.j != j0) = false := by simpa using e2
      replace HT := Lib.hid (HT.out e1 e2)
      clear e1 e2 HN
      go_quiet (fail)
      clear rV fV zV oV
      replace oR := oR.drewN nq
      replace hB := bd hB nq
      generalize y2.drewN nq = y3 at *
      go_wp2
      go_roundw
      case rel => exact ⟨k + 1, by omega, by go_num, HT, oR, hB⟩
      case measure => simp [intOf]; try omega
    · obtain rfl : k = l.length := by omega
      have HF := Lib.hid (M0.out h0 (vsame_end hlt hv.out))
      clear hv hlt hk
      go_wp2_with fail
      refine (vmean_any l _ _ (S0.out.below hB) HM.out.2 HM.out.1 h0).mono ?_
      rintro e y2 ⟨rfl, hq⟩
      rw [← HF.out]
      replace oR := oR.below hq
      replace hB := below_to hB hq
      clear hq
      generalize hr : vMean l = r at *
      have HR := Lib.hid hr
      clear hr
      unfold VR.res
      obtain ⟨rR, fR⟩ := oR.rules
      have zR := oR.lt
      go_wp2
      clear rR fR zR
      replace oR := ((((((oR.set 0 (.int .i64 r.i)).set 1 (.int .i64 r.j)).set 2 (.int .i64 r.re)).set 3 (.int .i64 r.im)).set 4 (.int .i64 r.den)).set 5 (.int .i64 r.n))
      replace hB := ((((((hB.setCell (p := ⟨w.heap.size, 0, none⟩) (by simp) (.int .i64 r.i)).setCell (p := ⟨w.heap.size, 1, none⟩) (by simp) (.int .i64 r.j)).setCell (p := ⟨w.heap.size, 2, none⟩) (by simp) (.int .i64 r.re)).setCell (p := ⟨w.heap.size, 3, none⟩) (by simp) (.int .i64 r.im)).setCell (p := ⟨w.heap.size, 4, none⟩) (by simp) (.int .i64 r.den)).setCell (p := ⟨w.heap.size, 5, none⟩) (by simp) (.int .i64 r.n))
      refine bp_gen' (fun W => Own W _ _ _ ∧ Below w.heap.size w W) ⟨oR, hB⟩ ?_
      rintro wz ⟨oz, bz⟩
      obtain ⟨rz, fz⟩ := oz.rules
      clear oz
      refine bodyPost_ret (v := .tuple #[.agg #[.int .i64 r.i, .int .i64 r.j, .int .i64 r.re, .int .i64 r.im, .int .i64 r.den, .int .i64 r.n], .int .i64 r.e]) (by simp [results, Try.results35, go_sem, rz]) rfl ⟨by rw [HR.out]; rfl, ?_⟩
      exact bz
end Go.Proofs.Ytpjhiojdnebgoaa

/- What is proved here: fringelaw22.vis, alive and fit. Condition: as each theorem says. -/
namespace Go.Proofs.Ytpjhiojdnebgoaa
open Go.RowKit

theorem sv_of_own {w : World} {g : Nat} {T : TypeId} (xs : List Vs) (n : Nat) (hn : xs.length = n) (hm : n ≤ 1000) (h : Own w g T (vcs xs)) : SV w (.slice (some ⟨g, 0, none⟩) n n) xs := by
  unfold SV; rw [hn]
  exact h.sl n (Nat.le_refl _) (by omega) _ ⟨[], by simp⟩
theorem vr_is {a : VR} {i j re im den n e : Int} (h : a.i = i ∧ a.j = j ∧ a.re = re ∧ a.im = im ∧ a.den = den ∧ a.n = n ∧ a.e = e) : a = ⟨i, j, re, im, den, n, e⟩ := by
  obtain ⟨rfl, rfl, rfl, rfl, rfl, rfl, rfl⟩ := h; rfl
set_option maxRecDepth 100000 in
set_option maxHeartbeats 4000000 in
theorem vis22_any (re im den n : Int) (w : World) : Calls Try.prog 46 #[.int .i64 re, .int .i64 im, .int .i64 den, .int .i64 n] w fun e w' => e = .returned (.agg #[.int .i64 0, .int .i64 1, .int .i64 re, .int .i64 im, .int .i64 den, .int .i64 n]) ∧ Below w.heap.size w w' := by
  have oR := Own.new w 60 [.int .i64 0, .int .i64 0, .int .i64 0, .int .i64 0, .int .i64 0, .int .i64 0]
  have hB := ba1 w (.cells #[.int .i64 0, .int .i64 0, .int .i64 0, .int .i64 0, .int .i64 0, .int .i64 0] 60)
  go_enter Try.func46, Try.ntmps46
  go_upto_region 1 with fail
  generalize w.alloc (.cells #[.int .i64 0, .int .i64 0, .int .i64 0, .int .i64 0, .int .i64 0, .int .i64 0] 60) = y0 at *
  obtain ⟨rR, fR⟩ := oR.rules
  have zR := oR.lt
  go_wp2
  clear rR fR zR
  replace oR := ((((((oR.set 0 (.int .i64 0)).set 1 (.int .i64 1)).set 2 (.int .i64 re)).set 3 (.int .i64 im)).set 4 (.int .i64 den)).set 5 (.int .i64 n))
  replace hB := ((((((hB.setCell (p := ⟨w.heap.size, 0, none⟩) (by simp) (.int .i64 0)).setCell (p := ⟨w.heap.size, 1, none⟩) (by simp) (.int .i64 1)).setCell (p := ⟨w.heap.size, 2, none⟩) (by simp) (.int .i64 re)).setCell (p := ⟨w.heap.size, 3, none⟩) (by simp) (.int .i64 im)).setCell (p := ⟨w.heap.size, 4, none⟩) (by simp) (.int .i64 den)).setCell (p := ⟨w.heap.size, 5, none⟩) (by simp) (.int .i64 n))
  refine bp_gen' (fun W => Own W _ _ _ ∧ Below w.heap.size w W) ⟨oR, hB⟩ ?_
  rintro wz ⟨oz, bz⟩
  obtain ⟨rz, fz⟩ := oz.rules
  clear oz
  refine bodyPost_ret (v := .agg #[.int .i64 0, .int .i64 1, .int .i64 re, .int .i64 im, .int .i64 den, .int .i64 n]) (by simp [results, Try.results46, go_sem, rz]) rfl ⟨rfl, ?_⟩
  exact bz
set_option maxRecDepth 100000 in
set_option maxHeartbeats 16000000 in
theorem alive22_any (w : World) : Calls Try.prog 33 #[] w fun e w' => e = .returned (.bool true) ∧ Below w.heap.size w w' := by
  go_enter Try.func33, Try.ntmps33
  go_wp2_with fail
  refine (vis22_any 1 0 2 1 _).mono ?_
  rintro e W1 ⟨rfl, hy⟩
  go_wp2_with fail
  refine (vis22_any 1 1 1 3 _).mono ?_
  rintro e W2 ⟨rfl, hq⟩
  replace hy := below_to hy hq
  clear hq
  go_wp2_with fail
  have oL := Own.new W2 60 (vcs [⟨0, 1, 1, 0, 2, 1⟩, ⟨0, 1, 1, 1, 1, 3⟩])
  have hq := ba1 W2 (.cells (vcs [⟨0, 1, 1, 0, 2, 1⟩, ⟨0, 1, 1, 1, 1, 3⟩]).toArray 60)
  have sL := sv_of_own _ 2 rfl (by decide) oL
  replace hy := below_to hy hq
  clear hq oL
  refine (vMean_any [⟨0, 1, 1, 0, 2, 1⟩, ⟨0, 1, 1, 1, 1, 3⟩] _ _ sL).mono ?_
  rintro e W3 ⟨rfl, hq⟩
  replace hy := below_to hy hq
  clear hq sL
  rw [show vMean [⟨0, 1, 1, 0, 2, 1⟩, ⟨0, 1, 1, 1, 1, 3⟩] = ⟨0, 1, 7, 6, 8, 4, 0⟩ from vr_is (by decide +kernel)]
  unfold VR.res
  have oA := Own.new W3 60 [.int .i64 0, .int .i64 1, .int .i64 7, .int .i64 6, .int .i64 8, .int .i64 4]
  have hq := ba1 W3 (.cells #[.int .i64 0, .int .i64 1, .int .i64 7, .int .i64 6, .int .i64 8, .int .i64 4] 60)
  go_upto_region 2 with fail
  replace hy := below_to hy hq
  clear hq
  obtain ⟨bA, hA⟩ : ∃ B, B = W3.heap.size := ⟨_, rfl⟩
  rw [← hA] at oA ⊢
  clear hA
  generalize W3.alloc (.cells #[.int .i64 0, .int .i64 1, .int .i64 7, .int .i64 6, .int .i64 8, .int .i64 4] 60) = W4 at *
  go_wp2_with fail
  refine (vmake_any 1 0 1 2 1 3 5 _ ⟨by decide, by decide⟩ ⟨by decide, by decide⟩ ⟨by decide, by decide⟩ ⟨by decide, by decide⟩).mono ?_
  rintro e W5 ⟨rfl, hq⟩
  replace oA := oA.below hq
  replace hy := below_to hy hq
  clear hq
  rw [show wmk 1 0 1 2 1 3 5 = ⟨0, 1, 3, -2, 6, 5, 0⟩ from vr_is (by decide +kernel)]
  have oB := Own.new W5 60 [.int .i64 0, .int .i64 1, .int .i64 3, .int .i64 (-2), .int .i64 6, .int .i64 5]
  have hq := ba1 W5 (.cells #[.int .i64 0, .int .i64 1, .int .i64 3, .int .i64 (-2), .int .i64 6, .int .i64 5] 60)
  go_upto_region 3 with fail
  replace oA := oA.below hq
  replace hy := below_to hy hq
  clear hq
  obtain ⟨bB, hB⟩ : ∃ B, B = W5.heap.size := ⟨_, rfl⟩
  rw [← hB] at oB ⊢
  clear hB
  generalize W5.alloc (.cells #[.int .i64 0, .int .i64 1, .int .i64 3, .int .i64 (-2), .int .i64 6, .int .i64 5] 60) = W6 at *
  have gl := @grow_lt
  obtain ⟨rA, fA⟩ := oA.rules
  have zA := oA.lt
  obtain ⟨rB, fB⟩ := oB.rules
  have zB := oB.lt
  go_wp2_with fail
  refine wp_region_st [.t [0, 1, 2, 3], .f 4, .t [5, 6, 7, 8, 9, 10, 11, 12], .f 13, .t [14, 15]] [16] (by kernel_rfl) (by kernel_rfl) (fun _ _ _ _ _ h => h) ?_
  refine wpX_t ?_
  try simp only [opsAt, List.getElem?_toArray, List.getElem?_cons_zero, List.getElem?_cons_succ, Option.getD_some]
  repeat (go_big_quiet_step (fail))
  refine wpQuiet_nil ?_
  have hD := (Below.refl W6.heap.size W6).drew
  refine wpX_f rfl rfl (fun K' hK' => ?_)
  go_simp
  refine (vis22_any 7 6 8 4 _).mono ?_
  rintro e z1 ⟨rfl, hq1⟩
  refine hK' _ _ (grow_of (below_to hD hq1)) ?_
  clear hK' K'
  refine wpX_t ?_
  try simp only [opsAt, List.getElem?_toArray, List.getElem?_cons_zero, List.getElem?_cons_succ, Option.getD_some]
  repeat (go_big_quiet_step (fail))
  refine wpQuiet_nil ?_
  refine wpX_f rfl rfl (fun K' hK' => ?_)
  go_simp
  refine (vis22_any 3 (-2) 6 5 _).mono ?_
  rintro e z2 ⟨rfl, hq2⟩
  refine hK' _ _ (grow_of (below_to (below_to hD hq1) hq2)) ?_
  clear hK' K'
  refine wpX_t ?_
  try simp only [opsAt, List.getElem?_toArray, List.getElem?_cons_zero, List.getElem?_cons_succ, Option.getD_some]
  repeat (go_big_quiet_step (fail))
  refine wpQuiet_nil ?_
  refine wpX_nil ?_
  try simp only [opsAt, List.getElem?_toArray, List.getElem?_cons_zero, List.getElem?_cons_succ, Option.getD_some]
  replace hy := below_to hy (below_to (below_to hD hq1) hq2)
  go_wp2
  go_ret
  exact ⟨by first | rfl | simp, hy⟩
set_option maxRecDepth 100000 in
set_option maxHeartbeats 4000000 in
theorem fit22_any (l : List Vs) (v : Value) (w : World) (hs : SV w v l) : Calls Try.prog 34 #[v] w fun e w' => e = .returned (.bool (decide (l.length ≤ 250) && decide (vlist l = 0))) ∧ Below w.heap.size w w' := by
  have S0 := Lib.hid hs
  clear hs
  by_cases g : 250 < l.length
  · go_enter Try.func34, Try.ntmps34
    go_wp2_with fail
    refine (rvlong_any l _ _ S0.out).mono ?_
    rintro e _ ⟨rfl, rfl⟩
    rw [decide_eq_true g]
    go_wp2
    go_ret
    exact ⟨by rw [decide_eq_false (show ¬ l.length ≤ 250 by omega)]; rfl, Below.refl _ _⟩
  go_enter Try.func34, Try.ntmps34
  go_wp2_with fail
  refine (rvlong_any l _ _ S0.out).mono ?_
  rintro e _ ⟨rfl, rfl⟩
  rw [decide_eq_false g]
  go_wp2_with fail
  refine (rvlist_any l _ _ S0.out).mono ?_
  rintro e W1 ⟨rfl, hq⟩
  by_cases h : vlist l = 0
  · have b1 : (vlist l == 0) = true := by simp [h]
    go_wp2
    go_ret
    exact ⟨by rw [decide_eq_true (show l.length ≤ 250 by omega), decide_eq_true h]; rfl, hq⟩
  · have b1 : (vlist l == 0) = false := by simpa using h
    go_wp2
    go_ret
    exact ⟨by rw [decide_eq_true (show l.length ≤ 250 by omega), decide_eq_false h]; rfl, hq⟩
end Go.Proofs.Ytpjhiojdnebgoaa
