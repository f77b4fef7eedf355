/- What is proved here: contracts of functions and plain facts, several texts in one; each one says ahead what it proves, and its conditions. -/
import Derived.Test.YtpjhiojdnebgoaaC19
import Derived.Test.YtpjhiojdnebgoaaC11
import Derived.Test.YtpjhiojdnebgoaaC01
/- What is proved here: the contract of weight.mean. Condition: valid visibilities, at least one, at most 200. -/
namespace Go.Proofs.Ytpjhiojdnebgoaa
open Go.RowKit

/-- A visibility with an error, as two results. -/
def VR.res (r : VR) : Value := .tuple #[.agg #[.int .i64 r.i, .int .i64 r.j, .int .i64 r.re, .int .i64 r.im, .int .i64 r.den, .int .i64 r.n], .int .i64 r.e]
set_option maxRecDepth 100000 in
set_option maxHeartbeats 16000000 in
theorem vmean_any (l : List Vs) (v : Value) (w : World) (hs : SV w v l) (hv : vall l = true) (hl : l.length ≤ 200) (h0 : 0 < l.length) :
    Calls Try.prog 73 #[v] w fun e w' => e = .returned (vmean l).res ∧ Below w.heap.size w w' := by
  have S0 := Lib.hid hs
  have V0 := Lib.hid hv
  have HL := Lib.hid hl
  obtain ⟨ad, cap, rfl, h1, h2, _⟩ := hs.open
  clear hs hv
  have oR := Own.new w 60 [.int .i64 0, .int .i64 0, .int .i64 0, .int .i64 0, .int .i64 0, .int .i64 0]
  have hB := ba1 w (.cells #[.int .i64 0, .int .i64 0, .int .i64 0, .int .i64 0, .int .i64 0, .int .i64 0] 60)
  go_enter Try.func73, Try.ntmps73
  go_upto_region 2 with fail
  generalize w.alloc (.cells #[.int .i64 0, .int .i64 0, .int .i64 0, .int .i64 0, .int .i64 0, .int .i64 0] 60) = y0 at *
  go_wp2
  go_loopw [4, 14] (fun s i wr => ∃ k : Nat, k ≤ l.length ∧ i = .int .i64 k ∧ s = .int .i64 (wsum l k) ∧ Own wr w.heap.size 60 [.int .i64 0, .int .i64 0, .int .i64 0, .int .i64 0, .int .i64 0, .int .i64 0] ∧ Below w.heap.size w wr) (fun _ i _ => l.length + 1 - (intOf i).toNat)
  case atStart => exact ⟨0, Nat.zero_le _, rfl, rfl, oR, hB⟩
  case round =>
    clear oR hB
    obtain ⟨k, hk, rfl, rfl, oR, hB⟩ := hrel
    rename World => Wr
    by_cases hlt : k < l.length
    · obtain ⟨_, _, e, _, _, H⟩ := (S0.out.below hB).open
      cases e
      obtain ⟨b, off, rfl, c0, c1, c2, c3, c4, c5⟩ := H.out k hlt
      clear H
      have b1 := wsum_bd V0.out k hk
      have b2 := wsum_bd V0.out (k + 1) (by omega)
      have HS := Lib.hid (wsum_succ hlt)
      have a1 : IntKind.i64.wrap (wsum l k + l[k].n) = wsum l k + l[k].n := IntWalk.i64_in _ (by rw [← HS.out]; omega)
      generalize l[k] = x at *
      clear b1 b2
      go_wp2
      go_roundw
      case rel => exact ⟨k + 1, by omega, by go_num, by rw [HS.out], oR.alloc _, below_to hB (ba1 _ _)⟩
      case measure => simp [intOf]; try omega
    · obtain rfl : k = l.length := by omega
      clear hlt hk
      by_cases hz : wsum l l.length = 0
      · have b1 : (wsum l l.length == 0) = true := by simpa using hz
        have HF := Lib.hid (vmean_18 hz)
        clear hz
        obtain ⟨rR, fR⟩ := oR.rules
        have zR := oR.lt
        go_wp2
        clear rR fR zR
        replace oR := (((((oR.set 0 (.int .i64 0)).set 1 (.int .i64 0)).set 2 (.int .i64 0)).set 3 (.int .i64 0)).set 4 (.int .i64 0)).set 5 (.int .i64 0)
        replace hB := (((((hB.setCell (p := ⟨w.heap.size, 0, none⟩) (by simp) (.int .i64 0)).setCell (p := ⟨w.heap.size, 1, none⟩) (by simp) (.int .i64 0)).setCell (p := ⟨w.heap.size, 2, none⟩) (by simp) (.int .i64 0)).setCell (p := ⟨w.heap.size, 3, none⟩) (by simp) (.int .i64 0)).setCell (p := ⟨w.heap.size, 4, none⟩) (by simp) (.int .i64 0)).setCell (p := ⟨w.heap.size, 5, none⟩) (by simp) (.int .i64 0)
        refine bp_gen' (fun W => Own W _ _ _ ∧ Below w.heap.size w W) ⟨oR, hB⟩ ?_
        rintro wz ⟨oz, bz⟩
        obtain ⟨rz, fz⟩ := oz.rules
        clear oz
        refine bodyPost_ret (v := .tuple #[.agg #[.int .i64 0, .int .i64 0, .int .i64 0, .int .i64 0, .int .i64 0, .int .i64 0], .int .i64 18]) (by simp [results, Try.results73, go_sem, rz]) rfl ⟨by rw [HF.out]; rfl, ?_⟩
        exact bz
      have b1 : (wsum l l.length == 0) = false := by simpa using hz
      have HZ := Lib.hid hz
      clear hz
      go_wp2_with fail
      refine (meanof_re_any l _ _ (S0.out.below hB) V0.out hl).mono ?_
      rintro e y1 ⟨rfl, hq⟩
      replace oR := oR.below hq
      replace hB := below_to hB hq
      clear hq
      by_cases he1 : (fmean Vs.re l).e = 0
      case neg =>
        have b2 : ((fmean Vs.re l).e != 0) = true := by simpa using he1
        have HF := Lib.hid (vmean_re HZ.out he1)
        clear he1
        generalize fmean Vs.re l = r at *
        replace oR := oR.alloc (.cells #[.int .i64 r.n, .int .i64 r.d] 24)
        replace hB := below_to hB (ba1 y1 (.cells #[.int .i64 r.n, .int .i64 r.d] 24))
        obtain ⟨rR, fR⟩ := oR.rules
        have zR := oR.lt
        go_wp2
        clear rR fR zR
        replace oR := ((((((oR.set 0 (.int .i64 0)).set 1 (.int .i64 0)).set 2 (.int .i64 0)).set 3 (.int .i64 0)).set 4 (.int .i64 0)).set 5 (.int .i64 0))
        replace hB := ((((((hB.setCell (p := ⟨w.heap.size, 0, none⟩) (by simp) (.int .i64 0)).setCell (p := ⟨w.heap.size, 1, none⟩) (by simp) (.int .i64 0)).setCell (p := ⟨w.heap.size, 2, none⟩) (by simp) (.int .i64 0)).setCell (p := ⟨w.heap.size, 3, none⟩) (by simp) (.int .i64 0)).setCell (p := ⟨w.heap.size, 4, none⟩) (by simp) (.int .i64 0)).setCell (p := ⟨w.heap.size, 5, none⟩) (by simp) (.int .i64 0))
        refine bp_gen' (fun W => Own W _ _ _ ∧ Below w.heap.size w W) ⟨oR, hB⟩ ?_
        rintro wz ⟨oz, bz⟩
        obtain ⟨rz, fz⟩ := oz.rules
        clear oz
        refine bodyPost_ret (v := .tuple #[.agg #[.int .i64 0, .int .i64 0, .int .i64 0, .int .i64 0, .int .i64 0, .int .i64 0], .int .i64 r.e]) (by simp [results, Try.results73, go_sem, rz]) rfl ⟨by rw [HF.out]; rfl, ?_⟩
        exact bz
      have b2 : ((fmean Vs.re l).e != 0) = false := by simpa using he1
      have E1 := Lib.hid he1
      have C1 := Lib.hid (fmean_chk he1)
      clear he1
      have F16 := Lib.hid (fun h2 h3 => vmean_16 (l := l) HZ.out E1.out h2 h3)
      have FIM := Lib.hid (fun h2 => vmean_im (l := l) HZ.out E1.out h2)
      have F0 := Lib.hid (fun h2 h3 h4 => vmean_0 h0 HZ.out E1.out h2 h3 h4)
      generalize fmean Vs.re l = r at *
      have oX := Own.new y1 24 [.int .i64 r.n, .int .i64 r.d]
      have hq := ba1 y1 (.cells #[.int .i64 r.n, .int .i64 r.d] 24)
      have zX0 := hB.size
      go_upto_region 12 with fail
      replace oR := oR.below hq
      replace hB := below_to hB hq
      clear hq
      obtain ⟨bX, hX⟩ : ∃ B, B = y1.heap.size := ⟨_, rfl⟩
      rw [← hX] at oX zX0 ⊢
      clear hX
      generalize y1.alloc (.cells #[.int .i64 r.n, .int .i64 r.d] 24) = y2 at *
      go_wp2_with fail
      refine (meanof_im_any l _ _ (S0.out.below hB) V0.out hl).mono ?_
      rintro e y3 ⟨rfl, hq⟩
      replace oR := oR.below hq
      replace oX := oX.below hq
      replace hB := below_to hB hq
      clear hq
      by_cases he2 : (fmean Vs.im l).e = 0
      case neg =>
        have b3 : ((fmean Vs.im l).e != 0) = true := by simpa using he2
        have HF := Lib.hid (FIM.out he2)
        clear he2
        generalize fmean Vs.im l = m at *
        replace oR := oR.alloc (.cells #[.int .i64 m.n, .int .i64 m.d] 24)
        replace hB := below_to hB (ba1 y3 (.cells #[.int .i64 m.n, .int .i64 m.d] 24))
        obtain ⟨rR, fR⟩ := oR.rules
        have zR := oR.lt
        go_wp2
        clear rR fR zR
        replace oR := ((((((oR.set 0 (.int .i64 0)).set 1 (.int .i64 0)).set 2 (.int .i64 0)).set 3 (.int .i64 0)).set 4 (.int .i64 0)).set 5 (.int .i64 0))
        replace hB := ((((((hB.setCell (p := ⟨w.heap.size, 0, none⟩) (by simp) (.int .i64 0)).setCell (p := ⟨w.heap.size, 1, none⟩) (by simp) (.int .i64 0)).setCell (p := ⟨w.heap.size, 2, none⟩) (by simp) (.int .i64 0)).setCell (p := ⟨w.heap.size, 3, none⟩) (by simp) (.int .i64 0)).setCell (p := ⟨w.heap.size, 4, none⟩) (by simp) (.int .i64 0)).setCell (p := ⟨w.heap.size, 5, none⟩) (by simp) (.int .i64 0))
        refine bp_gen' (fun W => Own W _ _ _ ∧ Below w.heap.size w W) ⟨oR, hB⟩ ?_
        rintro wz ⟨oz, bz⟩
        obtain ⟨rz, fz⟩ := oz.rules
        clear oz
        refine bodyPost_ret (v := .tuple #[.agg #[.int .i64 0, .int .i64 0, .int .i64 0, .int .i64 0, .int .i64 0, .int .i64 0], .int .i64 m.e]) (by simp [results, Try.results73, go_sem, rz]) rfl ⟨by rw [HF.out]; rfl, ?_⟩
        exact bz
      have b3 : ((fmean Vs.im l).e != 0) = false := by simpa using he2
      replace F16 := Lib.hid (F16.out he2)
      replace F0 := Lib.hid (F0.out he2)
      have C2 := Lib.hid (fmean_chk he2)
      clear he2 FIM
      generalize fmean Vs.im l = m at *
      have oY := Own.new y3 24 [.int .i64 m.n, .int .i64 m.d]
      have hq := ba1 y3 (.cells #[.int .i64 m.n, .int .i64 m.d] 24)
      go_upto_region 15 with fail
      replace oR := oR.below hq
      replace oX := oX.below hq
      replace hB := below_to hB hq
      clear hq
      obtain ⟨bY, hY⟩ : ∃ B, B = y3.heap.size := ⟨_, rfl⟩
      rw [← hY] at oY ⊢
      clear hY
      generalize y3.alloc (.cells #[.int .i64 m.n, .int .i64 m.d] 24) = y4 at *
      by_cases hw : wok r.n r.d m.n m.d = false
      · have HF := Lib.hid (F16.out (.inl hw))
        have HW := Lib.hid hw
        clear hw
        obtain ⟨rX, fX⟩ := oX.rules
        have zX := oX.lt
        obtain ⟨rY, fY⟩ := oY.rules
        have zY := oY.lt
        go_wp2_with fail
        refine (valueOf_0 r.n r.d m.n m.d _ C1.out C2.out HW.out).mono ?_
        rintro e y5 ⟨⟨x, y, z, rfl⟩, hq⟩
        clear rX fX zX rY fY zY oX oY
        replace oR := oR.below hq
        replace hB := below_to hB hq
        clear hq
        replace oR := oR.alloc (.cells #[.int .i64 x, .int .i64 y, .int .i64 z] 58)
        replace hB := below_to hB (ba1 y5 (.cells #[.int .i64 x, .int .i64 y, .int .i64 z] 58))
        obtain ⟨rR, fR⟩ := oR.rules
        have zR := oR.lt
        go_wp2
        clear rR fR zR
        replace oR := ((((((oR.set 0 (.int .i64 0)).set 1 (.int .i64 0)).set 2 (.int .i64 0)).set 3 (.int .i64 0)).set 4 (.int .i64 0)).set 5 (.int .i64 0))
        replace hB := ((((((hB.setCell (p := ⟨w.heap.size, 0, none⟩) (by simp) (.int .i64 0)).setCell (p := ⟨w.heap.size, 1, none⟩) (by simp) (.int .i64 0)).setCell (p := ⟨w.heap.size, 2, none⟩) (by simp) (.int .i64 0)).setCell (p := ⟨w.heap.size, 3, none⟩) (by simp) (.int .i64 0)).setCell (p := ⟨w.heap.size, 4, none⟩) (by simp) (.int .i64 0)).setCell (p := ⟨w.heap.size, 5, none⟩) (by simp) (.int .i64 0))
        refine bp_gen' (fun W => Own W _ _ _ ∧ Below w.heap.size w W) ⟨oR, hB⟩ ?_
        rintro wz ⟨oz, bz⟩
        obtain ⟨rz, fz⟩ := oz.rules
        clear oz
        refine bodyPost_ret (v := .tuple #[.agg #[.int .i64 0, .int .i64 0, .int .i64 0, .int .i64 0, .int .i64 0, .int .i64 0], .int .i64 16]) (by simp [results, Try.results73, go_sem, rz]) rfl ⟨by rw [HF.out]; rfl, ?_⟩
        exact bz
      have HW : Hid (wok r.n r.d m.n m.d = true) := by show _ = _; simpa using hw
      clear hw
      obtain ⟨rX, fX⟩ := oX.rules
      have zX := oX.lt
      obtain ⟨rY, fY⟩ := oY.rules
      have zY := oY.lt
      go_wp2_with fail
      refine (valueOf_1 r.n r.d m.n m.d _ C1.out C2.out HW.out).mono ?_
      rintro e y5 ⟨rfl, hq⟩
      clear rX fX zX rY fY zY oX oY
      replace oR := oR.below hq
      replace hB := below_to hB hq
      clear hq
      have bw := wsum_bd V0.out l.length (Nat.le_refl _)
      by_cases hn : wsum l l.length ≤ 1000000
      case neg =>
        have HF := Lib.hid (F16.out (.inr (by omega)))
        have b4 : cntB (wsum l l.length) = false := by unfold cntB; simp; omega
        have B4 := Lib.hid b4
        clear hn b4 bw
        generalize wval r.n r.d m.n m.d = c at *
        replace oR := oR.alloc (.cells #[.int .i64 c.re, .int .i64 c.im, .int .i64 c.den] 58)
        replace hB := below_to hB (ba1 y5 (.cells #[.int .i64 c.re, .int .i64 c.im, .int .i64 c.den] 58))
        go_wp2_with fail
        refine (isWeight_of _ false _ B4.out).mono ?_
        rintro e _ ⟨rfl, rfl⟩
        obtain ⟨rR, fR⟩ := oR.rules
        have zR := oR.lt
        go_wp2
        clear rR fR zR
        replace oR := ((((((oR.set 0 (.int .i64 0)).set 1 (.int .i64 0)).set 2 (.int .i64 0)).set 3 (.int .i64 0)).set 4 (.int .i64 0)).set 5 (.int .i64 0))
        replace hB := ((((((hB.setCell (p := ⟨w.heap.size, 0, none⟩) (by simp) (.int .i64 0)).setCell (p := ⟨w.heap.size, 1, none⟩) (by simp) (.int .i64 0)).setCell (p := ⟨w.heap.size, 2, none⟩) (by simp) (.int .i64 0)).setCell (p := ⟨w.heap.size, 3, none⟩) (by simp) (.int .i64 0)).setCell (p := ⟨w.heap.size, 4, none⟩) (by simp) (.int .i64 0)).setCell (p := ⟨w.heap.size, 5, none⟩) (by simp) (.int .i64 0))
        refine bp_gen' (fun W => Own W _ _ _ ∧ Below w.heap.size w W) ⟨oR, hB⟩ ?_
        rintro wz ⟨oz, bz⟩
        obtain ⟨rz, fz⟩ := oz.rules
        clear oz
        refine bodyPost_ret (v := .tuple #[.agg #[.int .i64 0, .int .i64 0, .int .i64 0, .int .i64 0, .int .i64 0, .int .i64 0], .int .i64 16]) (by simp [results, Try.results73, go_sem, rz]) rfl ⟨by rw [HF.out]; rfl, ?_⟩
        exact bz
      have HF := Lib.hid (F0.out HW.out hn)
      have b4 : cntB (wsum l l.length) = true := by unfold cntB; simp; omega
      have B4 := Lib.hid b4
      clear hn b4 bw F0 F16
      generalize wval r.n r.d m.n m.d = c at *
      obtain ⟨_, _, e, _, _, H⟩ := (S0.out.below hB).open
      cases e
      obtain ⟨b, off, rfl, c0, c1, c2, c3, c4, c5⟩ := H.out 0 h0
      clear H c2 c3 c4 c5
      simp only [Nat.zero_mul, Nat.add_zero] at c0 c1
      generalize l[0].i = i at *
      generalize l[0].j = j at *
      have oC := Own.new y5 58 [.int .i64 c.re, .int .i64 c.im, .int .i64 c.den]
      have hq := ba1 y5 (.cells #[.int .i64 c.re, .int .i64 c.im, .int .i64 c.den] 58)
      go_upto_region 16 with fail
      replace oR := oR.below hq
      replace c0 := below_cell hq c0
      replace c1 := below_cell hq c1
      replace hB := below_to hB hq
      clear hq
      obtain ⟨bC, hC⟩ : ∃ B, B = y5.heap.size := ⟨_, rfl⟩
      rw [← hC] at oC ⊢
      clear hC
      generalize y5.alloc (.cells #[.int .i64 c.re, .int .i64 c.im, .int .i64 c.den] 58) = y6 at *
      go_wp2_with fail
      refine (isWeight_of _ true _ B4.out).mono ?_
      rintro e _ ⟨rfl, rfl⟩
      obtain ⟨rR, fR⟩ := oR.rules
      have zR := oR.lt
      obtain ⟨rC, fC⟩ := oC.rules
      have zC := oC.lt
      have zb := World.block_lt_of_cell? _ _ c0
      simp only at zb
      have gl := @grow_lt
      go_wp2_with fail
      refine wp_region_st [.t [0, 1, 2, 3, 4, 5, 6, 7, 8, 9, 10]] [11, 12] (by kernel_rfl) (by kernel_rfl) (fun _ _ _ _ _ h => h) ?_
      refine wpX_t ?_
      try simp only [opsAt, List.getElem?_toArray, List.getElem?_cons_zero, List.getElem?_cons_succ, Option.getD_some]
      repeat (go_big_quiet_step (fail))
      refine wpQuiet_nil ?_
      refine wpX_nil ?_
      try simp only [opsAt, List.getElem?_toArray, List.getElem?_cons_zero, List.getElem?_cons_succ, Option.getD_some]
      clear gl
      go_wp2
      clear rR fR zR rC fC zC
      replace oR := (((((((oR.set 0 (.int .i64 i)).set 1 (.int .i64 j)).set 2 (.int .i64 c.re)).set 3 (.int .i64 c.im)).set 4 (.int .i64 c.den)).set 5 (.int .i64 (wsum l l.length)))).drew
      replace hB := (((((((hB.setCell (p := ⟨w.heap.size, 0, none⟩) (by simp) (.int .i64 i)).setCell (p := ⟨w.heap.size, 1, none⟩) (by simp) (.int .i64 j)).setCell (p := ⟨w.heap.size, 2, none⟩) (by simp) (.int .i64 c.re)).setCell (p := ⟨w.heap.size, 3, none⟩) (by simp) (.int .i64 c.im)).setCell (p := ⟨w.heap.size, 4, none⟩) (by simp) (.int .i64 c.den)).setCell (p := ⟨w.heap.size, 5, none⟩) (by simp) (.int .i64 (wsum l l.length)))).drew
      refine bp_gen' (fun W => Own W _ _ _ ∧ Below w.heap.size w W) ⟨oR, hB⟩ ?_
      rintro wz ⟨oz, bz⟩
      obtain ⟨rz, fz⟩ := oz.rules
      clear oz
      refine bodyPost_ret (v := .tuple #[.agg #[.int .i64 i, .int .i64 j, .int .i64 c.re, .int .i64 c.im, .int .i64 c.den, .int .i64 (wsum l l.length)], .int .i64 0]) (by simp [results, Try.results73, go_sem, rz]) rfl ⟨by rw [HF.out]; rfl, ?_⟩
      exact bz
end Go.Proofs.Ytpjhiojdnebgoaa
