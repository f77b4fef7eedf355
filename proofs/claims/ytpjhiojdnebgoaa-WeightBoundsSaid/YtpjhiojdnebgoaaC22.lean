/- What is proved here: contracts of functions and plain facts, several texts in one; each one says ahead what it proves, and its conditions. -/
import Derived.Test.YtpjhiojdnebgoaaC20
import Derived.Test.YtpjhiojdnebgoaaC21
import Derived.BigQuiet
/- What is proved here: the contract of weight.Mean. Condition: a slice of visibilities. -/
namespace Go.Proofs.Ytpjhiojdnebgoaa
open Go.RowKit

set_option maxRecDepth 100000 in
set_option maxHeartbeats 16000000 in
theorem vMean_any (l : List Vs) (v : Value) (w : World) (hs : SV w v l) :
    Calls Try.prog 35 #[v] w fun e w' => e = .returned (vMean l).res ∧ Below w.heap.size w w' := by
  have S0 := Lib.hid hs
  obtain ⟨ad, cap, rfl, h1, h2, _⟩ := hs.open
  clear hs
  have oR := Own.new w 60 [.int .i64 0, .int .i64 0, .int .i64 0, .int .i64 0, .int .i64 0, .int .i64 0]
  have hB := ba1 w (.cells #[.int .i64 0, .int .i64 0, .int .i64 0, .int .i64 0, .int .i64 0, .int .i64 0] 60)
  go_enter Try.func35, Try.ntmps35
  go_upto_region 1 with fail
  generalize w.alloc (.cells #[.int .i64 0, .int .i64 0, .int .i64 0, .int .i64 0, .int .i64 0, .int .i64 0] 60) = y0 at *
  go_wp2_with fail
  refine (vclist_any l _ _ (S0.out.below hB)).mono ?_
  rintro e y1 ⟨rfl, hq⟩
  replace oR := oR.below hq
  replace hB := below_to hB hq
  clear hq
  by_cases hl : vlist l = 0
  case neg =>
    have b1 : (vlist l != 0) = true := by simpa using hl
    have HF := Lib.hid (vMean_l hl)
    clear hl
    generalize vlist l = u at *
    obtain ⟨rR, fR⟩ := oR.rules
    have zR := oR.lt
    go_wp2
    clear rR fR zR
    replace oR := ((((((oR.set 0 (.int .i64 0)).set 1 (.int .i64 0)).set 2 (.int .i64 0)).set 3 (.int .i64 0)).set 4 (.int .i64 0)).set 5 (.int .i64 0))
    replace hB := ((((((hB.setCell (p := ⟨w.heap.size, 0, none⟩) (by simp) (.int .i64 0)).setCell (p := ⟨w.heap.size, 1, none⟩) (by simp) (.int .i64 0)).setCell (p := ⟨w.heap.size, 2, none⟩) (by simp) (.int .i64 0)).setCell (p := ⟨w.heap.size, 3, none⟩) (by simp) (.int .i64 0)).setCell (p := ⟨w.heap.size, 4, none⟩) (by simp) (.int .i64 0)).setCell (p := ⟨w.heap.size, 5, none⟩) (by simp) (.int .i64 0))
    refine bp_gen' (fun W => Own W _ _ _ ∧ Below w.heap.size w W) ⟨oR, hB⟩ ?_
    rintro wz ⟨oz, bz⟩
    obtain ⟨rz, fz⟩ := oz.rules
    clear oz
    refine bodyPost_ret (v := .tuple #[.agg #[.int .i64 0, .int .i64 0, .int .i64 0, .int .i64 0, .int .i64 0, .int .i64 0], .int .i64 u]) (by simp [results, Try.results35, go_sem, rz]) rfl ⟨by rw [HF.out]; rfl, ?_⟩
    exact bz
  have b1 : (vlist l != 0) = false := by simpa using hl
  have HM := Lib.hid (vlist_0 hl)
  have ME := Lib.hid (fun h => vMean_e hl h)
  have M2 := Lib.hid (fun h0 h => vMean_2 hl h0 h)
  have M0 := Lib.hid (fun h0 h => vMean_0 hl h0 h)
  clear hl
  generalize vlist l = u at *
  by_cases h0 : l.length = 0
  · have b2 : ((l.length : Int) == 0) = true := by simpa using h0
    have HF := Lib.hid (ME.out h0)
    clear h0
    obtain ⟨rR, fR⟩ := oR.rules
    have zR := oR.lt
    go_wp2
    clear rR fR zR
    replace oR := ((((((oR.set 0 (.int .i64 0)).set 1 (.int .i64 0)).set 2 (.int .i64 0)).set 3 (.int .i64 0)).set 4 (.int .i64 0)).set 5 (.int .i64 0))
    replace hB := ((((((hB.setCell (p := ⟨w.heap.size, 0, none⟩) (by simp) (.int .i64 0)).setCell (p := ⟨w.heap.size, 1, none⟩) (by simp) (.int .i64 0)).setCell (p := ⟨w.heap.size, 2, none⟩) (by simp) (.int .i64 0)).setCell (p := ⟨w.heap.size, 3, none⟩) (by simp) (.int .i64 0)).setCell (p := ⟨w.heap.size, 4, none⟩) (by simp) (.int .i64 0)).setCell (p := ⟨w.heap.size, 5, none⟩) (by simp) (.int .i64 0))
    refine bp_gen' (fun W => Own W _ _ _ ∧ Below w.heap.size w W) ⟨oR, hB⟩ ?_
    rintro wz ⟨oz, bz⟩
    obtain ⟨rz, fz⟩ := oz.rules
    clear oz
    refine bodyPost_ret (v := .tuple #[.agg #[.int .i64 0, .int .i64 0, .int .i64 0, .int .i64 0, .int .i64 0, .int .i64 0], .int .i64 2]) (by simp [results, Try.results35, go_sem, rz]) rfl ⟨by rw [HF.out]; rfl, ?_⟩
    exact bz
  have b2 : ((l.length : Int) == 0) = false := by simpa using h0
  replace h0 : 0 < l.length := by omega
  have hz0 : (0 : Int) < (l.length : Int) := by omega
  go_upto_region 6 with fail
  go_wp2
  go_loopw [19] (fun i wr => ∃ k : Nat, k ≤ l.length ∧ i = .int .i64 k ∧ Hid (vsame (l.take k) l[0].i l[0].j = true) ∧ Own wr w.heap.size 60 [.int .i64 0, .int .i64 0, .int .i64 0, .int .i64 0, .int .i64 0, .int .i64 0] ∧ Below w.heap.size w wr) (fun i _ => l.length + 1 - (intOf i).toNat)
  case atStart => exact ⟨0, Nat.zero_le _, rfl, rfl, oR, hB⟩
  case round =>
    clear oR hB
    obtain ⟨k, hk, rfl, hv, oR, hB⟩ := hrel
    rename World => Wr
    by_cases hlt : k < l.length
    · obtain ⟨_, _, e, _, _, H⟩ := (S0.out.below hB).open
      cases e
      obtain ⟨b, off, rfl, c0, c1, c2, c3, c4, c5⟩ := H.out k hlt
      obtain ⟨_, _, e, d0, d1, _, _, _, _⟩ := H.out 0 h0
      cases e
      clear H
      simp only [Nat.zero_mul, Nat.add_zero] at d0 d1
      have HT := Lib.hid (fun h1 h2 => vsame_take hlt hv.out h1 h2)
      have HN := Lib.hid (fun h1 => M2.out h0 (vsame_not hlt h1))
      generalize l[k] = x at *
      generalize l[0].i = i0 at *
      generalize l[0].j = j0 at *
      clear hv
      have oV := Own.new Wr 60 [.int .i64 x.i, .int .i64 x.j, .int .i64 x.re, .int .i64 x.im, .int .i64 x.den, .int .i64 x.n]
      have hq := ba1 Wr (.cells #[.int .i64 x.i, .int .i64 x.j, .int .i64 x.re, .int .i64 x.im, .int .i64 x.den, .int .i64 x.n] 60)
      go_upto_region 9 with fail
      replace oR := oR.below hq
      replace d0 := below_cell hq d0
      replace d1 := below_cell hq d1
      replace hB := below_to hB hq
      clear hq c0 c1 c2 c3 c4 c5
      obtain ⟨bV, hV⟩ : ∃ B, B = Wr.heap.size := ⟨_, rfl⟩
      rw [← hV] at oV ⊢
      clear hV
      generalize Wr.alloc (.cells #[.int .i64 x.i, .int .i64 x.j, .int .i64 x.re, .int .i64 x.im, .int .i64 x.den, .int .i64 x.n] 60) = y2 at *
      obtain ⟨rV, fV⟩ := oV.rules
      have zV := oV.lt
      have zb := World.block_lt_of_cell? _ _ d0
      simp only at zb
      by_cases e1 : x.i = i0
      case neg =>
        have q1 : (x.i != i0) = true := by simpa using e1
        have HF := Lib.hid (HN.out (fun h => e1 h.1))
        clear e1 HT HN
        go_quiet (fail)
        clear rV fV zV oV
        replace oR := oR.drewN nq
        replace hB := bd hB nq
        generalize y2.drewN nq = y3 at *
        obtain ⟨rR, fR⟩ := oR.rules
        have zR := oR.lt
        go_wp2
        clear rR fR zR
        replace oR := ((((((oR.set 0 (.int .i64 0)).set 1 (.int .i64 0)).set 2 (.int .i64 0)).set 3 (.int .i64 0)).set 4 (.int .i64 0)).set 5 (.int .i64 0))
        replace hB := ((((((hB.setCell (p := ⟨w.heap.size, 0, none⟩) (by simp) (.int .i64 0)).setCell (p := ⟨w.heap.size, 1, none⟩) (by simp) (.int .i64 0)).setCell (p := ⟨w.heap.size, 2, none⟩) (by simp) (.int .i64 0)).setCell (p := ⟨w.heap.size, 3, none⟩) (by simp) (.int .i64 0)).setCell (p := ⟨w.heap.size, 4, none⟩) (by simp) (.int .i64 0)).setCell (p := ⟨w.heap.size, 5, none⟩) (by simp) (.int .i64 0))
        refine bp_gen' (fun W => Own W _ _ _ ∧ Below w.heap.size w W) ⟨oR, hB⟩ ?_
        rintro wz ⟨oz, bz⟩
        obtain ⟨rz, fz⟩ := oz.rules
        clear oz
        refine bodyPost_ret (v := .tuple #[.agg #[.int .i64 0, .int .i64 0, .int .i64 0, .int .i64 0, .int .i64 0, .int .i64 0], .int .i64 2]) (by simp [results, Try.results35, go_sem, rz]) rfl ⟨by rw [HF.out]; rfl, ?_⟩
        exact bz
      have q1 : (x.i != i0) = false := by simpa using e1
      by_cases e2 : x.j = j0
      case neg =>
        have q2 : (x.j != j0) = true := by simpa using e2
        have HF := Lib.hid (HN.out (fun h => e2 h.2))
        clear e1 e2 HT HN
        go_quiet (fail)
        clear rV fV zV oV
        replace oR := oR.drewN nq
        replace hB := bd hB nq
        generalize y2.drewN nq = y3 at *
        obtain ⟨rR, fR⟩ := oR.rules
        have zR := oR.lt
        go_wp2
        clear rR fR zR
        replace oR := ((((((oR.set 0 (.int .i64 0)).set 1 (.int .i64 0)).set 2 (.int .i64 0)).set 3 (.int .i64 0)).set 4 (.int .i64 0)).set 5 (.int .i64 0))
        replace hB := ((((((hB.setCell (p := ⟨w.heap.size, 0, none⟩) (by simp) (.int .i64 0)).setCell (p := ⟨w.heap.size, 1, none⟩) (by simp) (.int .i64 0)).setCell (p := ⟨w.heap.size, 2, none⟩) (by simp) (.int .i64 0)).setCell (p := ⟨w.heap.size, 3, none⟩) (by simp) (.int .i64 0)).setCell (p := ⟨w.heap.size, 4, none⟩) (by simp) (.int .i64 0)).setCell (p := ⟨w.heap.size, 5, none⟩) (by simp) (.int .i64 0))
        refine bp_gen' (fun W => Own W _ _ _ ∧ Below w.heap.size w W) ⟨oR, hB⟩ ?_
        rintro wz ⟨oz, bz⟩
        obtain ⟨rz, fz⟩ := oz.rules
        clear oz
        refine bodyPost_ret (v := .tuple #[.agg #[.int .i64 0, .int .i64 0, .int .i64 0, .int .i64 0, .int .i64 0, .int .i64 0], .int .i64 2]) (by simp [results, Try.results35, go_sem, rz]) rfl ⟨by rw [HF.out]; rfl, ?_⟩
        exact bz
      have q2 : (x.j != j0) = false := by simpa using e2
      replace HT := Lib.hid (HT.out e1 e2)
      clear e1 e2 HN
      go_quiet (fail)
      clear rV fV zV oV
      replace oR := oR.drewN nq
      replace hB := bd hB nq
      generalize y2.drewN nq = y3 at *
      go_wp2
      go_roundw
      case rel => exact ⟨k + 1, by omega, by go_num, HT, oR, hB⟩
      case measure => simp [intOf]; try omega
    · obtain rfl : k = l.length := by omega
      have HF := Lib.hid (M0.out h0 (vsame_end hlt hv.out))
      clear hv hlt hk
      go_wp2_with fail
      refine (vmean_any l _ _ (S0.out.below hB) HM.out.2 HM.out.1 h0).mono ?_
      rintro e y2 ⟨rfl, hq⟩
      rw [← HF.out]
      replace oR := oR.below hq
      replace hB := below_to hB hq
      clear hq
      generalize hr : vMean l = r at *
      have HR := Lib.hid hr
      clear hr
      unfold VR.res
      obtain ⟨rR, fR⟩ := oR.rules
      have zR := oR.lt
      go_wp2
      clear rR fR zR
      replace oR := ((((((oR.set 0 (.int .i64 r.i)).set 1 (.int .i64 r.j)).set 2 (.int .i64 r.re)).set 3 (.int .i64 r.im)).set 4 (.int .i64 r.den)).set 5 (.int .i64 r.n))
      replace hB := ((((((hB.setCell (p := ⟨w.heap.size, 0, none⟩) (by simp) (.int .i64 r.i)).setCell (p := ⟨w.heap.size, 1, none⟩) (by simp) (.int .i64 r.j)).setCell (p := ⟨w.heap.size, 2, none⟩) (by simp) (.int .i64 r.re)).setCell (p := ⟨w.heap.size, 3, none⟩) (by simp) (.int .i64 r.im)).setCell (p := ⟨w.heap.size, 4, none⟩) (by simp) (.int .i64 r.den)).setCell (p := ⟨w.heap.size, 5, none⟩) (by simp) (.int .i64 r.n))
      refine bp_gen' (fun W => Own W _ _ _ ∧ Below w.heap.size w W) ⟨oR, hB⟩ ?_
      rintro wz ⟨oz, bz⟩
      obtain ⟨rz, fz⟩ := oz.rules
      clear oz
      refine bodyPost_ret (v := .tuple #[.agg #[.int .i64 r.i, .int .i64 r.j, .int .i64 r.re, .int .i64 r.im, .int .i64 r.den, .int .i64 r.n], .int .i64 r.e]) (by simp [results, Try.results35, go_sem, rz]) rfl ⟨by rw [HR.out]; rfl, ?_⟩
      exact bz
end Go.Proofs.Ytpjhiojdnebgoaa
