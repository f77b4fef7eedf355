/- What is proved here: contracts of functions and plain facts, several texts in one; each one says ahead what it proves, and its conditions. -/
import Derived.Test.YtpjhiojdnebgoaaC07
import Derived.Test.YtpjhiojdnebgoaaC32
import Derived.Test.YtpjhiojdnebgoaaC33
import Derived.Test.YtpjhiojdnebgoaaC01
import Derived.IntWalk
import Derived.RegionTactic
import Derived.ChangeAlike
import Derived.BigRegion
/- What is proved here: the contract of the reference's averaged. Condition: the parts of at most 200 valid visibilities as fractions, and their weights. -/
namespace Go.Proofs.Ytpjhiojdnebgoaa
open Go.RowKit

/-- The parts of visibilities as fractions. -/
def pfr (p : Vs → Int) (v : Vs) : Int × Int := ((fmk (p v) v.den).n, (fmk (p v) v.den).d)
set_option maxRecDepth 100000 in
set_option maxHeartbeats 8000000 in
theorem raver_any (p : Vs → Int) (l : List Vs) (vx vn : Value) (w : World) (hx : SF w vx (l.map (pfr p))) (hn : SI w vn (l.map Vs.n)) (hv : vall l = true) (hl : l.length ≤ 200) :
    Calls Try.prog 77 #[vx, vn] w fun e w' => e = .returned (.tuple #[.agg #[.int .i64 (fmean p l).n, .int .i64 (fmean p l).d], .int .i64 (fmean p l).e]) ∧ Below w.heap.size w w' := by
  have V0 := Lib.hid hv
  have SX := Lib.hid hx
  have SN := Lib.hid hn
  obtain ⟨adx, capx, rfl, h1, h2, _⟩ := hx.open
  obtain ⟨adn, capn, rfl, h3, h4, _⟩ := hn.open
  rw [List.length_map] at SX SN h1 h2 h3 h4
  rw [List.length_map, List.length_map]
  have HE0 := Lib.hid (fun h => fmean_0 (p := p) (l := l) h)
  clear hx hn hv
  have oR := (Own.new w 24 [.int .i64 0, .int .i64 0]).alloc (.cells #[.int .i64 0, .int .i64 1] 24)
  have oS := own_second w 24 [.int .i64 0, .int .i64 1] (.cells #[.int .i64 0, .int .i64 0] 24)
  have hB := ba2 w (.cells #[.int .i64 0, .int .i64 0] 24) (.cells #[.int .i64 0, .int .i64 1] 24)
  go_enter Try.func77, Try.ntmps77
  go_upto_region 2 with fail
  generalize (w.alloc (.cells #[.int .i64 0, .int .i64 0] 24)).alloc (.cells #[.int .i64 0, .int .i64 1] 24) = y0 at *
  go_wp2
  go_loopw [7, 8] (fun s i wr => ∃ k : Nat, k ≤ l.length ∧ i = .int .i64 k ∧ s = .int .i64 (wsum l k) ∧ Hid ((gsum (meanT p l) k).e = 0) ∧ Own wr w.heap.size 24 [.int .i64 0, .int .i64 0] ∧ Own wr (w.heap.size + 1) 24 [.int .i64 (gsum (meanT p l) k).n, .int .i64 (gsum (meanT p l) k).d] ∧ Below w.heap.size w wr) (fun _ i _ => l.length + 1 - (intOf i).toNat)
  case atStart => exact ⟨0, Nat.zero_le _, rfl, rfl, rfl, oR, oS, hB⟩
  case round =>
    clear oR oS hB
    obtain ⟨k, hk, rfl, rfl, hv, oR, oS, hB⟩ := hrel
    rename World => Wr
    have JG := Lib.hid (gsum_i64 (meanT p l) k)
    by_cases hlt : k < l.length
    · obtain ⟨_, _, e, _, _, H⟩ := (SX.out.below hB).open
      rw [List.length_map] at e
      cases e
      obtain ⟨b, off, rfl, c0, c1⟩ := H.out k (by rw [List.length_map]; exact hlt)
      obtain ⟨_, _, e, _, _, H'⟩ := (SN.out.below hB).open
      rw [List.length_map] at e
      cases e
      obtain ⟨b', off', rfl, d0⟩ := H'.out k (by rw [List.length_map]; exact hlt)
      clear H H'
      obtain ⟨_, _, e, _, _, H⟩ := SN.out.open
      rw [List.length_map] at e
      cases e
      obtain ⟨_, _, e, dw⟩ := H.out k (by rw [List.length_map]; exact hlt)
      cases e
      have hbn0 := World.block_lt_of_cell? _ _ dw
      simp only at hbn0
      clear H dw
      rw [List.getElem_map] at c0 c1 d0
      have HN := Lib.hid (mean_succ (p := p) hlt hv.out)
      have HV := Lib.hid (fun h => fmean_end (p := p) hlt h)
      have HP1 := Lib.hid (fplus_1 (sn := (gsum (meanT p l) k).n) (sd := (gsum (meanT p l) k).d) (an := l[k].n) (ad := 1) (bn := (fmk (p l[k]) l[k].den).n) (bd := (fmk (p l[k]) l[k].den).d))
      have HP0 := Lib.hid (fplus_0 (sn := (gsum (meanT p l) k).n) (sd := (gsum (meanT p l) k).d) (an := l[k].n) (ad := 1) (bn := (fmk (p l[k]) l[k].den).n) (bd := (fmk (p l[k]) l[k].den).d))
      have JX := Lib.hid (fmk_i64 (p l[k]) l[k].den)
      have JM := Lib.hid (fmul_i64 l[k].n 1 (fmk (p l[k]) l[k].den).n (fmk (p l[k]) l[k].den).d)
      have b1 := wsum_bd V0.out k hk
      have b2 := wsum_bd V0.out (k + 1) (by omega)
      have HS := Lib.hid (wsum_succ hlt)
      have a1 : IntKind.i64.wrap (wsum l k + l[k].n) = wsum l k + l[k].n := IntWalk.i64_in _ (by rw [← HS.out]; omega)
      have CK := Vs.chk_ok (vall_get V0.out hlt)
      have JN : Hid (i64 l[k].n) := by show i64 _; exact ⟨by omega, by omega⟩
      clear CK b1 b2
      unfold pfr at c0 c1
      generalize hg : gsum (meanT p l) (k + 1) = g at *
      have HGG := Lib.hid hg
      clear hg
      generalize (gsum (meanT p l) k).n = sn at *
      generalize (gsum (meanT p l) k).d = sd at *
      generalize l[k].n = n at *
      generalize (fmk (p l[k]) l[k].den).n = xn at *
      generalize (fmk (p l[k]) l[k].den).d = xd at *
      clear hv
      have zb1 := World.block_lt_of_cell? _ _ c0
      have zb2 := World.block_lt_of_cell? _ _ d0
      simp only at zb1 zb2
      generalize hm : fmul n 1 xn xd = m at *
      have HM := Lib.hid hm
      clear hm
      go_wp2
      go_wp2_with fail
      have gl := @grow_lt
      refine wp_region_fs [(13, ⟨24, [.int .i64 0, .int .i64 0], fun b => .pointer (some ⟨b, 0, none⟩)⟩)] [0, 1, 2, 3, 4, 5, 6, 7, 8] [.op 9, .tk 10, .tk 11, .tk 12, .fl 13, .op 14] [15] (by kernel_rfl) (by kernel_rfl) ⟨fun ρ W => by kernel_rfl, trivial⟩ (fun _ _ _ _ _ h => h) (fun _ _ _ _ _ h => h) ?_
      try simp only [opsAt, List.getElem?_toArray, List.getElem?_cons_zero, List.getElem?_cons_succ, Option.getD_some]
      repeat (go_big_quiet_step (fail))
      refine wpQuiet_nil ?_
      clear gl
      refine wpFl_op rfl ?_
      intro w3 hb3 K' hK'
      go_simp
      refine (rmul_any n 1 xn xd _ JN.out ⟨by decide, by decide⟩ JX.out.1 JX.out.2).mono ?_
      rintro e w5 ⟨rfl, hq⟩
      refine hK' _ _ (Mod.of_below hq) ?_
      clear hK' K'
      have hF := below_to hb3 hq
      clear hb3 hq
      rw [HM.out]
      refine wpFl_tk ?_
      try simp only [opsAt, List.getElem?_toArray, List.getElem?_cons_zero, List.getElem?_cons_succ, Option.getD_some]
      repeat (go_big_quiet_step (fail))
      refine wpQuiet_nil ?_
      refine wpFl_tk ?_
      try simp only [opsAt, List.getElem?_toArray, List.getElem?_cons_zero, List.getElem?_cons_succ, Option.getD_some]
      repeat (go_big_quiet_step (fail))
      refine wpQuiet_nil ?_
      refine wpFl_tk ?_
      try simp only [opsAt, List.getElem?_toArray, List.getElem?_cons_zero, List.getElem?_cons_succ, Option.getD_some]
      repeat (go_big_quiet_step (fail))
      refine wpQuiet_nil ?_
      refine wpFl_fl rfl ?_
      intro bM w6 hb6 oM zM0 _
      go_simp
      replace hF := below_to hF hb6
      refine wpFl_op rfl ?_
      intro w7 hb7 K' hK'
      replace oM := oM.below hb7
      replace hF := below_to hF hb7
      clear hb6 hb7
      obtain ⟨rM, fM⟩ := oM.rules
      have zM := oM.lt
      go_wp2_with fail
      refine hK' _ _ (((Mod.refl _ _).set (by simp) _).set (by simp) _) ?_
      clear hK' K' rM fM zM
      replace oM := (oM.set 0 (.int .i64 m.n)).set 1 (.int .i64 m.d)
      replace hF := (hF.setCell (p := ⟨bM, 0, none⟩) zM0 (.int .i64 m.n)).setCell (p := ⟨bM, 1, none⟩) zM0 (.int .i64 m.d)
      refine wpFl_nil (fun w8 hb8 => ?_)
      replace oM := oM.below hb8
      replace hF := below_to hF hb8
      clear hb8
      try simp only [opsAt, List.getElem?_toArray, List.getElem?_cons_zero, List.getElem?_cons_succ, Option.getD_some]
      replace oR := oR.below hF
      replace oS := oS.below hF
      replace hB := below_to hB hF
      replace d0 := below_cell hF d0
      clear hF c0 c1 zb1 zb2
      have zb2 := World.block_lt_of_cell? _ _ d0
      simp only at zb2
      by_cases hz : m.e = 0
      case neg =>
        have q1 : (m.e != 0) = true := by simpa using hz
        have P1 := HP1.out hz
        rw [← HN.out] at P1
        have HF := Lib.hid (HV.out (by rw [P1]; exact hz))
        rw [P1] at HF
        clear hz oM oS d0 zb2 P1
        obtain ⟨rR, fR⟩ := oR.rules
        have zR := oR.lt
        go_wp2
        clear rR fR zR
        replace oR := (oR.set 0 (.int .i64 0)).set 1 (.int .i64 0)
        replace hB := (hB.setCell (p := ⟨w.heap.size, 0, none⟩) (by simp) (.int .i64 0)).setCell (p := ⟨w.heap.size, 1, none⟩) (by simp) (.int .i64 0)
        refine bp_gen' (fun W => Own W _ _ _ ∧ Below w.heap.size w W) ⟨oR, hB⟩ ?_
        rintro wz ⟨oz, bz⟩
        obtain ⟨rz, fz⟩ := oz.rules
        clear oz
        refine bodyPost_ret (v := .tuple #[.agg #[.int .i64 0, .int .i64 0], .int .i64 m.e]) (by simp [results, Try.results77, go_sem, rz]) rfl ⟨by rw [HF.out], ?_⟩
        exact bz
      have q1 : (m.e != 0) = false := by simpa using hz
      have P0 := HP0.out hz
      rw [← HN.out] at P0
      have HP := Lib.hid P0
      clear P0 hz HP0 HP1 HN
      obtain ⟨rS, fS⟩ := oS.rules
      have zS := oS.lt
      obtain ⟨rM, fM⟩ := oM.rules
      have zM := oM.lt
      go_wp2_with fail
      refine (radd_any sn sd m.n m.d _ JG.out.1 JG.out.2 JM.out.1 JM.out.2).mono ?_
      rintro e y4 ⟨rfl, hq⟩
      rw [← HP.out]
      clear rS fS zS rM fM zM oM
      replace oR := oR.below hq
      replace oS := oS.below hq
      replace hB := below_to hB hq
      replace d0 := below_cell hq d0
      clear hq zb2
      have zb2 := World.block_lt_of_cell? _ _ d0
      simp only at zb2
      by_cases hz : g.e = 0
      case neg =>
        have q2 : (g.e != 0) = true := by simpa using hz
        have HF := Lib.hid (HV.out hz)
        clear hz d0 zb2
        replace oR := (oR.other (g' := w.heap.size + 1) (by omega) 0 (.int .i64 g.n)).other (g' := w.heap.size + 1) (by omega) 1 (.int .i64 g.d)
        replace hB := (hB.setCell (p := ⟨w.heap.size + 1, 0, none⟩) (by simp) (.int .i64 g.n)).setCell (p := ⟨w.heap.size + 1, 1, none⟩) (by simp) (.int .i64 g.d)
        obtain ⟨rS, fS⟩ := oS.rules
        have zS := oS.lt
        go_upto_region 10 with fail
        clear rS fS zS oS
        generalize (y4.setCell ⟨w.heap.size + 1, 0, none⟩ (.int .i64 g.n)).setCell ⟨w.heap.size + 1, 1, none⟩ (.int .i64 g.d) = y5 at *
        obtain ⟨rR, fR⟩ := oR.rules
        have zR := oR.lt
        go_wp2
        clear rR fR zR
        replace oR := (oR.set 0 (.int .i64 0)).set 1 (.int .i64 0)
        replace hB := (hB.setCell (p := ⟨w.heap.size, 0, none⟩) (by simp) (.int .i64 0)).setCell (p := ⟨w.heap.size, 1, none⟩) (by simp) (.int .i64 0)
        refine bp_gen' (fun W => Own W _ _ _ ∧ Below w.heap.size w W) ⟨oR, hB⟩ ?_
        rintro wz ⟨oz, bz⟩
        obtain ⟨rz, fz⟩ := oz.rules
        clear oz
        refine bodyPost_ret (v := .tuple #[.agg #[.int .i64 0, .int .i64 0], .int .i64 g.e]) (by simp [results, Try.results77, go_sem, rz]) rfl ⟨by rw [HF.out], ?_⟩
        exact bz
      have q2 : (g.e != 0) = false := by simpa using hz
      have GE := Lib.hid hz
      clear hz
      obtain ⟨rS, fS⟩ := oS.rules
      have zS := oS.lt
      have hbn : b' ≠ w.heap.size + 1 := by omega
      go_wp2
      go_roundw
      case rel =>
        refine ⟨k + 1, by omega, by go_num, by rw [HS.out], by show _ = _; rw [HGG.out]; exact GE.out, ?_, ?_, ?_⟩
        · exact (oR.other (g' := w.heap.size + 1) (by omega) 0 (.int .i64 g.n)).other (g' := w.heap.size + 1) (by omega) 1 (.int .i64 g.d)
        · rw [HGG.out]; exact (oS.set 0 (.int .i64 g.n)).set 1 (.int .i64 g.d)
        · exact (hB.setCell (p := ⟨w.heap.size + 1, 0, none⟩) (by simp) (.int .i64 g.n)).setCell (p := ⟨w.heap.size + 1, 1, none⟩) (by simp) (.int .i64 g.d)
      case measure => simp [intOf]; try omega
    · obtain rfl : k = l.length := by omega
      have HF := Lib.hid (HE0.out hv.out)
      have bw := wsum_bd V0.out l.length (Nat.le_refl _)
      have JW : Hid (i64 (wsum l l.length)) := by show i64 _; exact ⟨by omega, by omega⟩
      clear hv hlt bw
      generalize (gsum (meanT p l) l.length).n = sn at *
      generalize (gsum (meanT p l) l.length).d = sd at *
      generalize wsum l l.length = W at *
      obtain ⟨rS, fS⟩ := oS.rules
      have zS := oS.lt
      go_wp2_with fail
      refine (rdiv_any sn sd W 1 _ JG.out.1 JG.out.2 JW.out ⟨by decide, by decide⟩).mono ?_
      rintro e y3 ⟨rfl, hq⟩
      clear rS fS zS oS
      replace oR := oR.below hq
      replace hB := below_to hB hq
      clear hq
      generalize fdiv sn sd W 1 = r at *
      obtain ⟨rR, fR⟩ := oR.rules
      have zR := oR.lt
      go_wp2
      clear rR fR zR
      replace oR := (oR.set 0 (.int .i64 r.n)).set 1 (.int .i64 r.d)
      replace hB := (hB.setCell (p := ⟨w.heap.size, 0, none⟩) (by simp) (.int .i64 r.n)).setCell (p := ⟨w.heap.size, 1, none⟩) (by simp) (.int .i64 r.d)
      refine bp_gen' (fun W => Own W _ _ _ ∧ Below w.heap.size w W) ⟨oR, hB⟩ ?_
      rintro wz ⟨oz, bz⟩
      obtain ⟨rz, fz⟩ := oz.rules
      clear oz
      refine bodyPost_ret (v := .tuple #[.agg #[.int .i64 r.n, .int .i64 r.d], .int .i64 r.e]) (by simp [results, Try.results77, go_sem, rz]) rfl ⟨by rw [HF.out], ?_⟩
      exact bz
end Go.Proofs.Ytpjhiojdnebgoaa
