/- What is proved here: contracts of functions and plain facts, several texts in one; each one says ahead what it proves, and its conditions. -/
import Derived.Test.YtpjhiojdnebgoaaC07
import Derived.Test.YtpjhiojdnebgoaaC11
import Derived.Test.YtpjhiojdnebgoaaC09
import Derived.Test.YtpjhiojdnebgoaaC12
import Derived.Test.YtpjhiojdnebgoaaC17
import Derived.Test.YtpjhiojdnebgoaaC01
import Derived.Laws.EntriesVeiled
import Derived.IntWalk
import Derived.RegionTactic
import Derived.ChangeAlike
import Derived.BigRegion
import Derived.Deep.DeepCutAuto
import Derived.Test.YtpjhiojdnebgoaaC10
/- What is proved here: the contract of weight.meanOf and of its closure. Condition: valid visibilities, at most 200; the function that is handed in gives a number that makes a valid fraction. -/
namespace Go.Proofs.Ytpjhiojdnebgoaa
open Go.RowKit

theorem mod_trans {bs : List Nat} {w1 w2 w3 : World} (h1 : Mod bs w1 w2) (h2 : Mod bs w2 w3) : Mod bs w1 w3 :=
  ⟨h2.os.trans h1.os, h2.tape.trans h1.tape, h2.output.trans h1.output, Nat.le_trans h1.size h2.size, fun b hb hn => by
    rw [h2.block b (Nat.lt_of_lt_of_le hb h1.size) hn, h1.block b hb hn]⟩
theorem part_re_any (v : Vs) (w : World) : Calls Try.prog 102 #[.agg #[.int .i64 v.re, .int .i64 v.im, .int .i64 v.den]] w fun e w' => e = .returned (.int .i64 v.re) ∧ Below w.heap.size w w' := by
  go_enter Try.func102, Try.ntmps102
  go_wp2
  go_ret
  exact ⟨rfl, by first | exact Below.refl _ _ | exact ba1 _ _⟩
set_option maxRecDepth 100000 in
set_option maxHeartbeats 4000000 in
theorem vadd_re_any (v : Vs) (bp bs : Nat) (sn sd : Int) (w : World) (h0 : (fmk (v.re) v.den).e = 0) (h1 : i64 sn) (h2 : i64 sd) (h3 : i64 (v.re)) (h4 : i64 v.den) (h5 : i64 v.n)
    (hp : w.cell? ⟨bp, 0, none⟩ = some (.func (.func 102) #[] #[])) (oS : Own w bs 24 [.int .i64 sn, .int .i64 sd]) :
    Calls Try.prog 120 #[.agg #[.int .i64 v.i, .int .i64 v.j, .int .i64 v.re, .int .i64 v.im, .int .i64 v.den, .int .i64 v.n], .pointer (some ⟨bp, 0, none⟩), .pointer (some ⟨bs, 0, none⟩)] w
      fun e w' => e = .returned (.int .i64 (fplus sn sd v.n 1 (fmk (v.re) v.den).n (fmk (v.re) v.den).d).e) ∧ ((fplus sn sd v.n 1 (fmk (v.re) v.den).n (fmk (v.re) v.den).d).e = 0 → Own w' bs 24 [.int .i64 (fplus sn sd v.n 1 (fmk (v.re) v.den).n (fmk (v.re) v.den).d).n, .int .i64 (fplus sn sd v.n 1 (fmk (v.re) v.den).n (fmk (v.re) v.den).d).d]) ∧ Mod [bs] w w' := by
  have J1 := Lib.hid h1
  have J2 := Lib.hid h2
  have J3 := Lib.hid h3
  have J4 := Lib.hid h4
  have J5 := Lib.hid h5
  have HQ := Lib.hid (part_re_any v)
  have JX := Lib.hid (fmk_i64 (v.re) v.den)
  have X0 := Lib.hid h0
  have e0 : ((fmk (v.re) v.den).e != 0) = false := by simp [h0]
  clear h0 h1 h2 h3 h4 h5
  have hb := World.block_lt_of_cell? _ _ hp
  simp only at hb
  generalize hx : fmk (v.re) v.den = x at *
  have HX := Lib.hid hx
  clear hx
  obtain ⟨i, j, re, im, den, n⟩ := v
  simp only at *
  have oV := Own.new w 60 [.int .i64 i, .int .i64 j, .int .i64 re, .int .i64 im, .int .i64 den, .int .i64 n]
  have hB := ba1 w (.cells #[.int .i64 i, .int .i64 j, .int .i64 re, .int .i64 im, .int .i64 den, .int .i64 n] 60)
  have zw := oS.lt
  replace oS := oS.below hB
  replace hp := below_cell hB hp
  have hM := Mod.of_below (bs := [bs]) hB
  have zS : bs < w.heap.size := zw
  go_enter Try.func120, Try.ntmps120
  go_upto_region 1 with fail
  generalize w.alloc (.cells #[.int .i64 i, .int .i64 j, .int .i64 re, .int .i64 im, .int .i64 den, .int .i64 n] 60) = y0 at *
  obtain ⟨V, hV⟩ : ∃ V, V = w.heap.size := ⟨_, rfl⟩
  have zV0 : bs < V := by omega
  rw [← hV] at oV hb ⊢
  clear hV hB zS
  have zSy := oS.lt
  obtain ⟨rV, fV⟩ := oV.rules
  have zV := oV.lt
  have hb2 : bp < y0.heap.size := by omega
  go_wp2_with fail
  have gl := @grow_lt
  refine wp_region_fs [(11, ⟨24, [.int .i64 0, .int .i64 0], fun b => .pointer (some ⟨b, 0, none⟩)⟩)] [0, 1, 2, 4, 5, 6] [.op 3, .op 7, .tk 8, .tk 9, .tk 10, .fl 11, .op 12] [13] (by kernel_rfl) (by kernel_rfl) ⟨fun ρ W => by kernel_rfl, trivial⟩ (fun _ _ _ _ _ h => h) (fun _ _ _ _ _ h => h) ?_
  try simp only [opsAt, List.getElem?_toArray, List.getElem?_cons_zero, List.getElem?_cons_succ, Option.getD_some]
  repeat (go_big_quiet_step (fail))
  refine wpQuiet_nil ?_
  clear gl
  refine wpFl_op rfl ?_
  intro w3 hb3 K' hK'
  go_simp
  refine (HQ.out _).mono ?_
  rintro e w5 ⟨rfl, hq⟩
  refine hK' _ _ (Mod.of_below hq) ?_
  clear hK' K'
  have hF := below_to hb3 hq
  clear hb3 hq
  refine wpFl_op rfl ?_
  intro w3 hb3 K' hK'
  go_simp
  refine (make_any re den _ J3.out J4.out).mono ?_
  rintro e w5 ⟨rfl, hq⟩
  refine hK' _ _ (Mod.of_below hq) ?_
  clear hK' K'
  replace hF := below_to hF (below_to hb3 hq)
  clear hb3 hq
  rw [HX.out]
  refine wpFl_tk ?_
  try simp only [opsAt, List.getElem?_toArray, List.getElem?_cons_zero, List.getElem?_cons_succ, Option.getD_some]
  repeat (go_big_quiet_step (fail))
  refine wpQuiet_nil ?_
  refine wpFl_tk ?_
  try simp only [opsAt, List.getElem?_toArray, List.getElem?_cons_zero, List.getElem?_cons_succ, Option.getD_some]
  repeat (go_big_quiet_step (fail))
  refine wpQuiet_nil ?_
  refine wpFl_tk ?_
  try simp only [opsAt, List.getElem?_toArray, List.getElem?_cons_zero, List.getElem?_cons_succ, Option.getD_some]
  repeat (go_big_quiet_step (fail))
  refine wpQuiet_nil ?_
  refine wpFl_fl rfl ?_
  intro bX w6 hb6 oX zX0 _
  go_simp
  replace hF := below_to hF hb6
  refine wpFl_op rfl ?_
  intro w7 hb7 K' hK'
  replace oX := oX.below hb7
  replace hF := below_to hF hb7
  clear hb6 hb7
  obtain ⟨rX, fX⟩ := oX.rules
  have zX := oX.lt
  go_wp2_with fail
  refine hK' _ _ (((Mod.refl _ _).set (by simp) _).set (by simp) _) ?_
  clear hK' K' rX fX zX
  replace oX := (oX.set 0 (.int .i64 x.n)).set 1 (.int .i64 x.d)
  replace hF := (hF.setCell (p := ⟨bX, 0, none⟩) zX0 (.int .i64 x.n)).setCell (p := ⟨bX, 1, none⟩) zX0 (.int .i64 x.d)
  refine wpFl_nil (fun w8 hb8 => ?_)
  replace oX := oX.below hb8
  replace hF := below_to hF hb8
  clear hb8
  try simp only [opsAt, List.getElem?_toArray, List.getElem?_cons_zero, List.getElem?_cons_succ, Option.getD_some]
  clear rV fV zV
  replace oV := oV.below hF
  replace oS := oS.below hF
  replace hM := mod_trans hM (Mod.of_below hF)
  have zX1 : bs < bX := by omega
  clear hF hp
  obtain ⟨rV, fV⟩ := oV.rules
  have zV := oV.lt
  obtain ⟨rX, fX⟩ := oX.rules
  have zX := oX.lt
  go_wp2_with fail
  refine (fmul_any n 1 x.n x.d _ J5.out ⟨by decide, by decide⟩ JX.out.1 JX.out.2).mono ?_
  rintro e y9 ⟨rfl, hq⟩
  clear rV fV zV rX fX zX oV oX
  replace oS := oS.below hq
  replace hM := mod_trans hM (Mod.of_below hq)
  clear hq
  have JM := Lib.hid (fmul_i64 n 1 x.n x.d)
  by_cases hm : (fmul n 1 x.n x.d).e = 0
  · have HV := Lib.hid (fplus_0 (sn := sn) (sd := sd) hm)
    have b1 : ((fmul n 1 x.n x.d).e != 0) = false := by simp [hm]
    clear hm
    generalize fmul n 1 x.n x.d = m at *
    have oP := Own.new y9 24 [.int .i64 m.n, .int .i64 m.d]
    have hq := ba1 y9 (.cells #[.int .i64 m.n, .int .i64 m.d] 24)
    have zPs := oS.lt
    go_upto_region 7 with fail
    replace oS := oS.below hq
    replace hM := mod_trans hM (Mod.of_below hq)
    clear hq
    obtain ⟨bP, hP⟩ : ∃ B, B = y9.heap.size := ⟨_, rfl⟩
    rw [← hP] at oP zPs ⊢
    clear hP
    generalize y9.alloc (.cells #[.int .i64 m.n, .int .i64 m.d] 24) = y10 at *
    obtain ⟨rP, fP⟩ := oP.rules
    have zP := oP.lt
    obtain ⟨rS, fS⟩ := oS.rules
    have zS := oS.lt
    go_wp2_with fail
    refine (fadd_any sn sd m.n m.d _ J1.out J2.out JM.out.1 JM.out.2).mono ?_
    rintro e y11 ⟨rfl, hq⟩
    clear rP fP zP oP rS fS zS
    replace oS := oS.below hq
    replace hM := mod_trans hM (Mod.of_below hq)
    clear hq
    generalize fadd sn sd m.n m.d = r at *
    obtain ⟨rS, fS⟩ := oS.rules
    have zS := oS.lt
    go_wp2
    go_ret
    refine ⟨by rw [HV.out]; rfl, fun _ => ?_, ?_⟩
    · rw [HV.out]; exact (oS.set 0 (.int .i64 r.n)).set 1 (.int .i64 r.d)
    · exact (hM.set (p := ⟨bs, 0, none⟩) (by simp) _).set (p := ⟨bs, 1, none⟩) (by simp) _
  · have HV := Lib.hid (fplus_1 (sn := sn) (sd := sd) hm)
    have b1 : ((fmul n 1 x.n x.d).e != 0) = true := by simpa using hm
    have HM := Lib.hid hm
    clear hm
    generalize fmul n 1 x.n x.d = m at *
    replace hM := mod_trans hM (Mod.of_below (ba1 y9 (.cells #[.int .i64 m.n, .int .i64 m.d] 24)))
    go_wp2
    go_ret
    refine ⟨by rw [HV.out]; rfl, fun h => ?_, hM⟩
    rw [HV.out] at h
    exact absurd h HM.out
set_option maxRecDepth 100000 in
set_option maxHeartbeats 8000000 in
theorem meanof_re_any (l : List Vs) (v : Value) (w : World) (hs : SV w v l) (hv : vall l = true) (hl : l.length ≤ 200) :
    Calls Try.prog 101 #[v, .int .i64 (wsum l l.length), .func (.func 102) #[] #[]] w fun e w' => e = .returned (.tuple #[.agg #[.int .i64 (fmean Vs.re l).n, .int .i64 (fmean Vs.re l).d], .int .i64 (fmean Vs.re l).e]) ∧ Below w.heap.size w w' := by
  have S0 := Lib.hid hs
  have V0 := Lib.hid hv
  obtain ⟨ad, cap, rfl, h1, h2, _⟩ := hs.open
  have bw := wsum_bd hv l.length (Nat.le_refl _)
  have JW : Hid (i64 (wsum l l.length)) := by show i64 _; exact ⟨by omega, by omega⟩
  have HE0 := Lib.hid (fun h => fmean_0 (p := Vs.re) (l := l) h)
  clear hs hv bw
  generalize wsum l l.length = W at *
  have oP := ((Own.new w 129 [.func (.func 102) #[] #[]]).alloc (.cells #[.int .i64 0, .int .i64 0] 24)).alloc (.cells #[.int .i64 0, .int .i64 1] 24)
  have oR := (own_second w 24 [.int .i64 0, .int .i64 0] (.cells #[.func (.func 102) #[] #[]] 129)).alloc (.cells #[.int .i64 0, .int .i64 1] 24)
  have oS := own_third w 24 [.int .i64 0, .int .i64 1] (.cells #[.func (.func 102) #[] #[]] 129) (.cells #[.int .i64 0, .int .i64 0] 24)
  have hB := ba3 w (.cells #[.func (.func 102) #[] #[]] 129) (.cells #[.int .i64 0, .int .i64 0] 24) (.cells #[.int .i64 0, .int .i64 1] 24)
  go_enter Try.func101, Try.ntmps101
  go_upto_region 2 with fail
  generalize ((w.alloc (.cells #[.func (.func 102) #[] #[]] 129)).alloc (.cells #[.int .i64 0, .int .i64 0] 24)).alloc (.cells #[.int .i64 0, .int .i64 1] 24) = y0 at *
  go_wp2
  go_loopw [17] (fun i wr => ∃ k : Nat, k ≤ l.length ∧ i = .int .i64 k ∧ Hid ((gsum (meanT Vs.re l) k).e = 0) ∧ Own wr w.heap.size 129 [.func (.func 102) #[] #[]] ∧ Own wr (w.heap.size + 1) 24 [.int .i64 0, .int .i64 0] ∧ Own wr (w.heap.size + 1 + 1) 24 [.int .i64 (gsum (meanT Vs.re l) k).n, .int .i64 (gsum (meanT Vs.re l) k).d] ∧ Below w.heap.size w wr) (fun i _ => l.length + 1 - (intOf i).toNat)
  case atStart => exact ⟨0, Nat.zero_le _, rfl, rfl, oP, oR, oS, hB⟩
  case round =>
    clear oP oR oS hB
    obtain ⟨k, hk, rfl, hv, oP, oR, oS, hB⟩ := hrel
    rename World => Wr
    have JG := Lib.hid (gsum_i64 (meanT Vs.re l) k)
    by_cases hlt : k < l.length
    · obtain ⟨_, _, e, _, _, H⟩ := (S0.out.below hB).open
      cases e
      obtain ⟨b, off, rfl, c0, c1, c2, c3, c4, c5⟩ := H.out k hlt
      clear H
      have PK := Lib.hid (part_re (vall_get V0.out hlt))
      have HN := Lib.hid (mean_succ hlt hv.out)
      have HV := Lib.hid (fun h => fmean_end (p := Vs.re) hlt h)
      have HG : Hid ((gsum (meanT Vs.re l) (k + 1)).e = 0 → (gsum (meanT Vs.re l) (k + 1)).e = 0) := fun h => h
      generalize l[k] = x at *
      generalize hg : gsum (meanT Vs.re l) (k + 1) = g at *
      have HGG := Lib.hid hg
      clear hg
      generalize (gsum (meanT Vs.re l) k).n = sn at *
      generalize (gsum (meanT Vs.re l) k).d = sd at *
      clear hv
      go_wp2_with fail
      have oP2 := oP.alloc (.cells #[.int .i64 x.i, .int .i64 x.j, .int .i64 x.re, .int .i64 x.im, .int .i64 x.den, .int .i64 x.n] 60)
      have oR2 := oR.alloc (.cells #[.int .i64 x.i, .int .i64 x.j, .int .i64 x.re, .int .i64 x.im, .int .i64 x.den, .int .i64 x.n] 60)
      have oS2 := oS.alloc (.cells #[.int .i64 x.i, .int .i64 x.j, .int .i64 x.re, .int .i64 x.im, .int .i64 x.den, .int .i64 x.n] 60)
      have hB2 := below_to hB (ba1 Wr (.cells #[.int .i64 x.i, .int .i64 x.j, .int .i64 x.re, .int .i64 x.im, .int .i64 x.den, .int .i64 x.n] 60))
      clear oP oR oS hB c0 c1 c2 c3 c4 c5
      generalize Wr.alloc (.cells #[.int .i64 x.i, .int .i64 x.j, .int .i64 x.re, .int .i64 x.im, .int .i64 x.den, .int .i64 x.n] 60) = y1 at *
      refine (vadd_re_any x w.heap.size (w.heap.size + 1 + 1) sn sd _ PK.out.e JG.out.1 JG.out.2 PK.out.p PK.out.d PK.out.n (oP2.rules.1 0) oS2).mono ?_
      rintro e y2 ⟨rfl, hf, hM⟩
      rw [← HN.out] at hf ⊢
      have oP := hM.own oP2 (by simp; omega)
      have oR := hM.own oR2 (by simp)
      have hB := hM.below hB2 (fun b hb => by simp at hb; omega)
      clear oP2 oR2 oS2 hB2 hM
      by_cases he : g.e = 0
      · have b1 : (g.e != 0) = false := by simp [he]
        have oS := hf he
        have GE := Lib.hid he
        clear he hf
        go_wp2
        go_roundw
        case rel => exact ⟨k + 1, by omega, by go_num, by show _ = _; rw [HGG.out]; exact GE.out, oP, oR, by rw [HGG.out]; exact oS, hB⟩
        case measure => simp [intOf]; try omega
      · have b1 : (g.e != 0) = true := by simpa using he
        have HF := Lib.hid (HV.out he)
        clear he hf oP HV
        obtain ⟨rR, fR⟩ := oR.rules
        have zR := oR.lt
        go_wp2
        clear rR fR zR
        replace oR := (oR.set 0 (.int .i64 0)).set 1 (.int .i64 0)
        replace hB := (hB.setCell (p := ⟨w.heap.size + 1, 0, none⟩) (by simp) (.int .i64 0)).setCell (p := ⟨w.heap.size + 1, 1, none⟩) (by simp) (.int .i64 0)
        refine bp_gen' (fun W => Own W _ _ _ ∧ Below w.heap.size w W) ⟨oR, hB⟩ ?_
        rintro wz ⟨oz, bz⟩
        obtain ⟨rz, fz⟩ := oz.rules
        clear oz
        refine bodyPost_ret (v := .tuple #[.agg #[.int .i64 0, .int .i64 0], .int .i64 g.e]) (by simp [results, Try.results101, go_sem, rz]) rfl ⟨by rw [HF.out], ?_⟩
        exact bz
    · obtain rfl : k = l.length := by omega
      have HF := Lib.hid (HE0.out hv.out)
      clear hv hlt
      generalize (gsum (meanT Vs.re l) l.length).n = sn at *
      generalize (gsum (meanT Vs.re l) l.length).d = sd at *
      obtain ⟨rS, fS⟩ := oS.rules
      have zS := oS.lt
      go_wp2_with fail
      refine (fdiv_any sn sd W 1 _ JG.out.1 JG.out.2 JW.out ⟨by decide, by decide⟩).mono ?_
      rintro e y3 ⟨rfl, hq⟩
      clear rS fS zS oS oP
      replace oR := oR.below hq
      replace hB := below_to hB hq
      clear hq
      generalize fdiv sn sd W 1 = r at *
      obtain ⟨rR, fR⟩ := oR.rules
      have zR := oR.lt
      go_wp2
      clear rR fR zR
      replace oR := (oR.set 0 (.int .i64 r.n)).set 1 (.int .i64 r.d)
      replace hB := (hB.setCell (p := ⟨w.heap.size + 1, 0, none⟩) (by simp) (.int .i64 r.n)).setCell (p := ⟨w.heap.size + 1, 1, none⟩) (by simp) (.int .i64 r.d)
      refine bp_gen' (fun W => Own W _ _ _ ∧ Below w.heap.size w W) ⟨oR, hB⟩ ?_
      rintro wz ⟨oz, bz⟩
      obtain ⟨rz, fz⟩ := oz.rules
      clear oz
      refine bodyPost_ret (v := .tuple #[.agg #[.int .i64 r.n, .int .i64 r.d], .int .i64 r.e]) (by simp [results, Try.results101, go_sem, rz]) rfl ⟨by rw [HF.out], ?_⟩
      exact bz
theorem part_im_any (v : Vs) (w : World) : Calls Try.prog 103 #[.agg #[.int .i64 v.re, .int .i64 v.im, .int .i64 v.den]] w fun e w' => e = .returned (.int .i64 v.im) ∧ Below w.heap.size w w' := by
  go_enter Try.func103, Try.ntmps103
  go_wp2
  go_ret
  exact ⟨rfl, by first | exact Below.refl _ _ | exact ba1 _ _⟩
set_option maxRecDepth 100000 in
set_option maxHeartbeats 4000000 in
theorem vadd_im_any (v : Vs) (bp bs : Nat) (sn sd : Int) (w : World) (h0 : (fmk (v.im) v.den).e = 0) (h1 : i64 sn) (h2 : i64 sd) (h3 : i64 (v.im)) (h4 : i64 v.den) (h5 : i64 v.n)
    (hp : w.cell? ⟨bp, 0, none⟩ = some (.func (.func 103) #[] #[])) (oS : Own w bs 24 [.int .i64 sn, .int .i64 sd]) :
    Calls Try.prog 120 #[.agg #[.int .i64 v.i, .int .i64 v.j, .int .i64 v.re, .int .i64 v.im, .int .i64 v.den, .int .i64 v.n], .pointer (some ⟨bp, 0, none⟩), .pointer (some ⟨bs, 0, none⟩)] w
      fun e w' => e = .returned (.int .i64 (fplus sn sd v.n 1 (fmk (v.im) v.den).n (fmk (v.im) v.den).d).e) ∧ ((fplus sn sd v.n 1 (fmk (v.im) v.den).n (fmk (v.im) v.den).d).e = 0 → Own w' bs 24 [.int .i64 (fplus sn sd v.n 1 (fmk (v.im) v.den).n (fmk (v.im) v.den).d).n, .int .i64 (fplus sn sd v.n 1 (fmk (v.im) v.den).n (fmk (v.im) v.den).d).d]) ∧ Mod [bs] w w' := by
  have J1 := Lib.hid h1
  have J2 := Lib.hid h2
  have J3 := Lib.hid h3
  have J4 := Lib.hid h4
  have J5 := Lib.hid h5
  have HQ := Lib.hid (part_im_any v)
  have JX := Lib.hid (fmk_i64 (v.im) v.den)
  have X0 := Lib.hid h0
  have e0 : ((fmk (v.im) v.den).e != 0) = false := by simp [h0]
  clear h0 h1 h2 h3 h4 h5
  have hb := World.block_lt_of_cell? _ _ hp
  simp only at hb
  generalize hx : fmk (v.im) v.den = x at *
  have HX := Lib.hid hx
  clear hx
  obtain ⟨i, j, re, im, den, n⟩ := v
  simp only at *
  have oV := Own.new w 60 [.int .i64 i, .int .i64 j, .int .i64 re, .int .i64 im, .int .i64 den, .int .i64 n]
  have hB := ba1 w (.cells #[.int .i64 i, .int .i64 j, .int .i64 re, .int .i64 im, .int .i64 den, .int .i64 n] 60)
  have zw := oS.lt
  replace oS := oS.below hB
  replace hp := below_cell hB hp
  have hM := Mod.of_below (bs := [bs]) hB
  have zS : bs < w.heap.size := zw
  go_enter Try.func120, Try.ntmps120
  go_upto_region 1 with fail
  generalize w.alloc (.cells #[.int .i64 i, .int .i64 j, .int .i64 re, .int .i64 im, .int .i64 den, .int .i64 n] 60) = y0 at *
  obtain ⟨V, hV⟩ : ∃ V, V = w.heap.size := ⟨_, rfl⟩
  have zV0 : bs < V := by omega
  rw [← hV] at oV hb ⊢
  clear hV hB zS
  have zSy := oS.lt
  obtain ⟨rV, fV⟩ := oV.rules
  have zV := oV.lt
  have hb2 : bp < y0.heap.size := by omega
  go_wp2_with fail
  have gl := @grow_lt
  refine wp_region_fs [(11, ⟨24, [.int .i64 0, .int .i64 0], fun b => .pointer (some ⟨b, 0, none⟩)⟩)] [0, 1, 2, 4, 5, 6] [.op 3, .op 7, .tk 8, .tk 9, .tk 10, .fl 11, .op 12] [13] (by kernel_rfl) (by kernel_rfl) ⟨fun ρ W => by kernel_rfl, trivial⟩ (fun _ _ _ _ _ h => h) (fun _ _ _ _ _ h => h) ?_
  try simp only [opsAt, List.getElem?_toArray, List.getElem?_cons_zero, List.getElem?_cons_succ, Option.getD_some]
  repeat (go_big_quiet_step (fail))
  refine wpQuiet_nil ?_
  clear gl
  refine wpFl_op rfl ?_
  intro w3 hb3 K' hK'
  go_simp
  refine (HQ.out _).mono ?_
  rintro e w5 ⟨rfl, hq⟩
  refine hK' _ _ (Mod.of_below hq) ?_
  clear hK' K'
  have hF := below_to hb3 hq
  clear hb3 hq
  refine wpFl_op rfl ?_
  intro w3 hb3 K' hK'
  go_simp
  refine (make_any im den _ J3.out J4.out).mono ?_
  rintro e w5 ⟨rfl, hq⟩
  refine hK' _ _ (Mod.of_below hq) ?_
  clear hK' K'
  replace hF := below_to hF (below_to hb3 hq)
  clear hb3 hq
  rw [HX.out]
  refine wpFl_tk ?_
  try simp only [opsAt, List.getElem?_toArray, List.getElem?_cons_zero, List.getElem?_cons_succ, Option.getD_some]
  repeat (go_big_quiet_step (fail))
  refine wpQuiet_nil ?_
  refine wpFl_tk ?_
  try simp only [opsAt, List.getElem?_toArray, List.getElem?_cons_zero, List.getElem?_cons_succ, Option.getD_some]
  repeat (go_big_quiet_step (fail))
  refine wpQuiet_nil ?_
  refine wpFl_tk ?_
  try simp only [opsAt, List.getElem?_toArray, List.getElem?_cons_zero, List.getElem?_cons_succ, Option.getD_some]
  repeat (go_big_quiet_step (fail))
  refine wpQuiet_nil ?_
  refine wpFl_fl rfl ?_
  intro bX w6 hb6 oX zX0 _
  go_simp
  replace hF := below_to hF hb6
  refine wpFl_op rfl ?_
  intro w7 hb7 K' hK'
  replace oX := oX.below hb7
  replace hF := below_to hF hb7
  clear hb6 hb7
  obtain ⟨rX, fX⟩ := oX.rules
  have zX := oX.lt
  go_wp2_with fail
  refine hK' _ _ (((Mod.refl _ _).set (by simp) _).set (by simp) _) ?_
  clear hK' K' rX fX zX
  replace oX := (oX.set 0 (.int .i64 x.n)).set 1 (.int .i64 x.d)
  replace hF := (hF.setCell (p := ⟨bX, 0, none⟩) zX0 (.int .i64 x.n)).setCell (p := ⟨bX, 1, none⟩) zX0 (.int .i64 x.d)
  refine wpFl_nil (fun w8 hb8 => ?_)
  replace oX := oX.below hb8
  replace hF := below_to hF hb8
  clear hb8
  try simp only [opsAt, List.getElem?_toArray, List.getElem?_cons_zero, List.getElem?_cons_succ, Option.getD_some]
  clear rV fV zV
  replace oV := oV.below hF
  replace oS := oS.below hF
  replace hM := mod_trans hM (Mod.of_below hF)
  have zX1 : bs < bX := by omega
  clear hF hp
  obtain ⟨rV, fV⟩ := oV.rules
  have zV := oV.lt
  obtain ⟨rX, fX⟩ := oX.rules
  have zX := oX.lt
  go_wp2_with fail
  refine (fmul_any n 1 x.n x.d _ J5.out ⟨by decide, by decide⟩ JX.out.1 JX.out.2).mono ?_
  rintro e y9 ⟨rfl, hq⟩
  clear rV fV zV rX fX zX oV oX
  replace oS := oS.below hq
  replace hM := mod_trans hM (Mod.of_below hq)
  clear hq
  have JM := Lib.hid (fmul_i64 n 1 x.n x.d)
  by_cases hm : (fmul n 1 x.n x.d).e = 0
  · have HV := Lib.hid (fplus_0 (sn := sn) (sd := sd) hm)
    have b1 : ((fmul n 1 x.n x.d).e != 0) = false := by simp [hm]
    clear hm
    generalize fmul n 1 x.n x.d = m at *
    have oP := Own.new y9 24 [.int .i64 m.n, .int .i64 m.d]
    have hq := ba1 y9 (.cells #[.int .i64 m.n, .int .i64 m.d] 24)
    have zPs := oS.lt
    go_upto_region 7 with fail
    replace oS := oS.below hq
    replace hM := mod_trans hM (Mod.of_below hq)
    clear hq
    obtain ⟨bP, hP⟩ : ∃ B, B = y9.heap.size := ⟨_, rfl⟩
    rw [← hP] at oP zPs ⊢
    clear hP
    generalize y9.alloc (.cells #[.int .i64 m.n, .int .i64 m.d] 24) = y10 at *
    obtain ⟨rP, fP⟩ := oP.rules
    have zP := oP.lt
    obtain ⟨rS, fS⟩ := oS.rules
    have zS := oS.lt
    go_wp2_with fail
    refine (fadd_any sn sd m.n m.d _ J1.out J2.out JM.out.1 JM.out.2).mono ?_
    rintro e y11 ⟨rfl, hq⟩
    clear rP fP zP oP rS fS zS
    replace oS := oS.below hq
    replace hM := mod_trans hM (Mod.of_below hq)
    clear hq
    generalize fadd sn sd m.n m.d = r at *
    obtain ⟨rS, fS⟩ := oS.rules
    have zS := oS.lt
    go_wp2
    go_ret
    refine ⟨by rw [HV.out]; rfl, fun _ => ?_, ?_⟩
    · rw [HV.out]; exact (oS.set 0 (.int .i64 r.n)).set 1 (.int .i64 r.d)
    · exact (hM.set (p := ⟨bs, 0, none⟩) (by simp) _).set (p := ⟨bs, 1, none⟩) (by simp) _
  · have HV := Lib.hid (fplus_1 (sn := sn) (sd := sd) hm)
    have b1 : ((fmul n 1 x.n x.d).e != 0) = true := by simpa using hm
    have HM := Lib.hid hm
    clear hm
    generalize fmul n 1 x.n x.d = m at *
    replace hM := mod_trans hM (Mod.of_below (ba1 y9 (.cells #[.int .i64 m.n, .int .i64 m.d] 24)))
    go_wp2
    go_ret
    refine ⟨by rw [HV.out]; rfl, fun h => ?_, hM⟩
    rw [HV.out] at h
    exact absurd h HM.out
set_option maxRecDepth 100000 in
set_option maxHeartbeats 8000000 in
theorem meanof_im_any (l : List Vs) (v : Value) (w : World) (hs : SV w v l) (hv : vall l = true) (hl : l.length ≤ 200) :
    Calls Try.prog 101 #[v, .int .i64 (wsum l l.length), .func (.func 103) #[] #[]] w fun e w' => e = .returned (.tuple #[.agg #[.int .i64 (fmean Vs.im l).n, .int .i64 (fmean Vs.im l).d], .int .i64 (fmean Vs.im l).e]) ∧ Below w.heap.size w w' := by
  have S0 := Lib.hid hs
  have V0 := Lib.hid hv
  obtain ⟨ad, cap, rfl, h1, h2, _⟩ := hs.open
  have bw := wsum_bd hv l.length (Nat.le_refl _)
  have JW : Hid (i64 (wsum l l.length)) := by show i64 _; exact ⟨by omega, by omega⟩
  have HE0 := Lib.hid (fun h => fmean_0 (p := Vs.im) (l := l) h)
  clear hs hv bw
  generalize wsum l l.length = W at *
  have oP := ((Own.new w 129 [.func (.func 103) #[] #[]]).alloc (.cells #[.int .i64 0, .int .i64 0] 24)).alloc (.cells #[.int .i64 0, .int .i64 1] 24)
  have oR := (own_second w 24 [.int .i64 0, .int .i64 0] (.cells #[.func (.func 103) #[] #[]] 129)).alloc (.cells #[.int .i64 0, .int .i64 1] 24)
  have oS := own_third w 24 [.int .i64 0, .int .i64 1] (.cells #[.func (.func 103) #[] #[]] 129) (.cells #[.int .i64 0, .int .i64 0] 24)
  have hB := ba3 w (.cells #[.func (.func 103) #[] #[]] 129) (.cells #[.int .i64 0, .int .i64 0] 24) (.cells #[.int .i64 0, .int .i64 1] 24)
  go_enter Try.func101, Try.ntmps101
  go_upto_region 2 with fail
  generalize ((w.alloc (.cells #[.func (.func 103) #[] #[]] 129)).alloc (.cells #[.int .i64 0, .int .i64 0] 24)).alloc (.cells #[.int .i64 0, .int .i64 1] 24) = y0 at *
  go_wp2
  go_loopw [17] (fun i wr => ∃ k : Nat, k ≤ l.length ∧ i = .int .i64 k ∧ Hid ((gsum (meanT Vs.im l) k).e = 0) ∧ Own wr w.heap.size 129 [.func (.func 103) #[] #[]] ∧ Own wr (w.heap.size + 1) 24 [.int .i64 0, .int .i64 0] ∧ Own wr (w.heap.size + 1 + 1) 24 [.int .i64 (gsum (meanT Vs.im l) k).n, .int .i64 (gsum (meanT Vs.im l) k).d] ∧ Below w.heap.size w wr) (fun i _ => l.length + 1 - (intOf i).toNat)
  case atStart => exact ⟨0, Nat.zero_le _, rfl, rfl, oP, oR, oS, hB⟩
  case round =>
    clear oP oR oS hB
    obtain ⟨k, hk, rfl, hv, oP, oR, oS, hB⟩ := hrel
    rename World => Wr
    have JG := Lib.hid (gsum_i64 (meanT Vs.im l) k)
    by_cases hlt : k < l.length
    · obtain ⟨_, _, e, _, _, H⟩ := (S0.out.below hB).open
      cases e
      obtain ⟨b, off, rfl, c0, c1, c2, c3, c4, c5⟩ := H.out k hlt
      clear H
      have PK := Lib.hid (part_im (vall_get V0.out hlt))
      have HN := Lib.hid (mean_succ hlt hv.out)
      have HV := Lib.hid (fun h => fmean_end (p := Vs.im) hlt h)
      have HG : Hid ((gsum (meanT Vs.im l) (k + 1)).e = 0 → (gsum (meanT Vs.im l) (k + 1)).e = 0) := fun h => h
      generalize l[k] = x at *
      generalize hg : gsum (meanT Vs.im l) (k + 1) = g at *
      have HGG := Lib.hid hg
      clear hg
      generalize (gsum (meanT Vs.im l) k).n = sn at *
      generalize (gsum (meanT Vs.im l) k).d = sd at *
      clear hv
      go_wp2_with fail
      have oP2 := oP.alloc (.cells #[.int .i64 x.i, .int .i64 x.j, .int .i64 x.re, .int .i64 x.im, .int .i64 x.den, .int .i64 x.n] 60)
      have oR2 := oR.alloc (.cells #[.int .i64 x.i, .int .i64 x.j, .int .i64 x.re, .int .i64 x.im, .int .i64 x.den, .int .i64 x.n] 60)
      have oS2 := oS.alloc (.cells #[.int .i64 x.i, .int .i64 x.j, .int .i64 x.re, .int .i64 x.im, .int .i64 x.den, .int .i64 x.n] 60)
      have hB2 := below_to hB (ba1 Wr (.cells #[.int .i64 x.i, .int .i64 x.j, .int .i64 x.re, .int .i64 x.im, .int .i64 x.den, .int .i64 x.n] 60))
      clear oP oR oS hB c0 c1 c2 c3 c4 c5
      generalize Wr.alloc (.cells #[.int .i64 x.i, .int .i64 x.j, .int .i64 x.re, .int .i64 x.im, .int .i64 x.den, .int .i64 x.n] 60) = y1 at *
      refine (vadd_im_any x w.heap.size (w.heap.size + 1 + 1) sn sd _ PK.out.e JG.out.1 JG.out.2 PK.out.p PK.out.d PK.out.n (oP2.rules.1 0) oS2).mono ?_
      rintro e y2 ⟨rfl, hf, hM⟩
      rw [← HN.out] at hf ⊢
      have oP := hM.own oP2 (by simp; omega)
      have oR := hM.own oR2 (by simp)
      have hB := hM.below hB2 (fun b hb => by simp at hb; omega)
      clear oP2 oR2 oS2 hB2 hM
      by_cases he : g.e = 0
      · have b1 : (g.e != 0) = false := by simp [he]
        have oS := hf he
        have GE := Lib.hid he
        clear he hf
        go_wp2
        go_roundw
        case rel => exact ⟨k + 1, by omega, by go_num, by show _ = _; rw [HGG.out]; exact GE.out, oP, oR, by rw [HGG.out]; exact oS, hB⟩
        case measure => simp [intOf]; try omega
      · have b1 : (g.e != 0) = true := by simpa using he
        have HF := Lib.hid (HV.out he)
        clear he hf oP HV
        obtain ⟨rR, fR⟩ := oR.rules
        have zR := oR.lt
        go_wp2
        clear rR fR zR
        replace oR := (oR.set 0 (.int .i64 0)).set 1 (.int .i64 0)
        replace hB := (hB.setCell (p := ⟨w.heap.size + 1, 0, none⟩) (by simp) (.int .i64 0)).setCell (p := ⟨w.heap.size + 1, 1, none⟩) (by simp) (.int .i64 0)
        refine bp_gen' (fun W => Own W _ _ _ ∧ Below w.heap.size w W) ⟨oR, hB⟩ ?_
        rintro wz ⟨oz, bz⟩
        obtain ⟨rz, fz⟩ := oz.rules
        clear oz
        refine bodyPost_ret (v := .tuple #[.agg #[.int .i64 0, .int .i64 0], .int .i64 g.e]) (by simp [results, Try.results101, go_sem, rz]) rfl ⟨by rw [HF.out], ?_⟩
        exact bz
    · obtain rfl : k = l.length := by omega
      have HF := Lib.hid (HE0.out hv.out)
      clear hv hlt
      generalize (gsum (meanT Vs.im l) l.length).n = sn at *
      generalize (gsum (meanT Vs.im l) l.length).d = sd at *
      obtain ⟨rS, fS⟩ := oS.rules
      have zS := oS.lt
      go_wp2_with fail
      refine (fdiv_any sn sd W 1 _ JG.out.1 JG.out.2 JW.out ⟨by decide, by decide⟩).mono ?_
      rintro e y3 ⟨rfl, hq⟩
      clear rS fS zS oS oP
      replace oR := oR.below hq
      replace hB := below_to hB hq
      clear hq
      generalize fdiv sn sd W 1 = r at *
      obtain ⟨rR, fR⟩ := oR.rules
      have zR := oR.lt
      go_wp2
      clear rR fR zR
      replace oR := (oR.set 0 (.int .i64 r.n)).set 1 (.int .i64 r.d)
      replace hB := (hB.setCell (p := ⟨w.heap.size + 1, 0, none⟩) (by simp) (.int .i64 r.n)).setCell (p := ⟨w.heap.size + 1, 1, none⟩) (by simp) (.int .i64 r.d)
      refine bp_gen' (fun W => Own W _ _ _ ∧ Below w.heap.size w W) ⟨oR, hB⟩ ?_
      rintro wz ⟨oz, bz⟩
      obtain ⟨rz, fz⟩ := oz.rules
      clear oz
      refine bodyPost_ret (v := .tuple #[.agg #[.int .i64 r.n, .int .i64 r.d], .int .i64 r.e]) (by simp [results, Try.results101, go_sem, rz]) rfl ⟨by rw [HF.out], ?_⟩
      exact bz
end Go.Proofs.Ytpjhiojdnebgoaa

/- What is proved here: the contract of weight.mean. Condition: valid visibilities, at least one, at most 200. -/
namespace Go.Proofs.Ytpjhiojdnebgoaa
open Go.RowKit

/-- A visibility with an error, as two results. -/
def VR.res (r : VR) : Value := .tuple #[.agg #[.int .i64 r.i, .int .i64 r.j, .int .i64 r.re, .int .i64 r.im, .int .i64 r.den, .int .i64 r.n], .int .i64 r.e]
set_option maxRecDepth 100000 in
set_option maxHeartbeats 16000000 in
theorem vmean_any (l : List Vs) (v : Value) (w : World) (hs : SV w v l) (hv : vall l = true) (hl : l.length ≤ 200) (h0 : 0 < l.length) :
    Calls Try.prog 73 #[v] w fun e w' => e = .returned (vmean l).res ∧ Below w.heap.size w w' := by
  have S0 := Lib.hid hs
  have V0 := Lib.hid hv
  have HL := Lib.hid hl
  obtain ⟨ad, cap, rfl, h1, h2, _⟩ := hs.open
  clear hs hv
  have oR := Own.new w 60 [.int .i64 0, .int .i64 0, .int .i64 0, .int .i64 0, .int .i64 0, .int .i64 0]
  have hB := ba1 w (.cells #[.int .i64 0, .int .i64 0, .int .i64 0, .int .i64 0, .int .i64 0, .int .i64 0] 60)
  go_enter Try.func73, Try.ntmps73
  go_upto_region 2 with fail
  generalize w.alloc (.cells #[.int .i64 0, .int .i64 0, .int .i64 0, .int .i64 0, .int .i64 0, .int .i64 0] 60) = y0 at *
  go_wp2
  go_loopw [4, 14] (fun s i wr => ∃ k : Nat, k ≤ l.length ∧ i = .int .i64 k ∧ s = .int .i64 (wsum l k) ∧ Own wr w.heap.size 60 [.int .i64 0, .int .i64 0, .int .i64 0, .int .i64 0, .int .i64 0, .int .i64 0] ∧ Below w.heap.size w wr) (fun _ i _ => l.length + 1 - (intOf i).toNat)
  case atStart => exact ⟨0, Nat.zero_le _, rfl, rfl, oR, hB⟩
  case round =>
    clear oR hB
    obtain ⟨k, hk, rfl, rfl, oR, hB⟩ := hrel
    rename World => Wr
    by_cases hlt : k < l.length
    · obtain ⟨_, _, e, _, _, H⟩ := (S0.out.below hB).open
      cases e
      obtain ⟨b, off, rfl, c0, c1, c2, c3, c4, c5⟩ := H.out k hlt
      clear H
      have b1 := wsum_bd V0.out k hk
      have b2 := wsum_bd V0.out (k + 1) (by omega)
      have HS := Lib.hid (wsum_succ hlt)
      have a1 : IntKind.i64.wrap (wsum l k + l[k].n) = wsum l k + l[k].n := IntWalk.i64_in _ (by rw [← HS.out]; omega)
      generalize l[k] = x at *
      clear b1 b2
      go_wp2
      go_roundw
      case rel => exact ⟨k + 1, by omega, by go_num, by rw [HS.out], oR.alloc _, below_to hB (ba1 _ _)⟩
      case measure => simp [intOf]; try omega
    · obtain rfl : k = l.length := by omega
      clear hlt hk
      by_cases hz : wsum l l.length = 0
      · have b1 : (wsum l l.length == 0) = true := by simpa using hz
        have HF := Lib.hid (vmean_18 hz)
        clear hz
        obtain ⟨rR, fR⟩ := oR.rules
        have zR := oR.lt
        go_wp2
        clear rR fR zR
        replace oR := (((((oR.set 0 (.int .i64 0)).set 1 (.int .i64 0)).set 2 (.int .i64 0)).set 3 (.int .i64 0)).set 4 (.int .i64 0)).set 5 (.int .i64 0)
        replace hB := (((((hB.setCell (p := ⟨w.heap.size, 0, none⟩) (by simp) (.int .i64 0)).setCell (p := ⟨w.heap.size, 1, none⟩) (by simp) (.int .i64 0)).setCell (p := ⟨w.heap.size, 2, none⟩) (by simp) (.int .i64 0)).setCell (p := ⟨w.heap.size, 3, none⟩) (by simp) (.int .i64 0)).setCell (p := ⟨w.heap.size, 4, none⟩) (by simp) (.int .i64 0)).setCell (p := ⟨w.heap.size, 5, none⟩) (by simp) (.int .i64 0)
        refine bp_gen' (fun W => Own W _ _ _ ∧ Below w.heap.size w W) ⟨oR, hB⟩ ?_
        rintro wz ⟨oz, bz⟩
        obtain ⟨rz, fz⟩ := oz.rules
        clear oz
        refine bodyPost_ret (v := .tuple #[.agg #[.int .i64 0, .int .i64 0, .int .i64 0, .int .i64 0, .int .i64 0, .int .i64 0], .int .i64 18]) (by simp [results, Try.results73, go_sem, rz]) rfl ⟨by rw [HF.out]; rfl, ?_⟩
        exact bz
      have b1 : (wsum l l.length == 0) = false := by simpa using hz
      have HZ := Lib.hid hz
      clear hz
      go_wp2_with fail
      refine (meanof_re_any l _ _ (S0.out.below hB) V0.out hl).mono ?_
      rintro e y1 ⟨rfl, hq⟩
      replace oR := oR.below hq
      replace hB := below_to hB hq
      clear hq
      by_cases he1 : (fmean Vs.re l).e = 0
      case neg =>
        have b2 : ((fmean Vs.re l).e != 0) = true := by simpa using he1
        have HF := Lib.hid (vmean_re HZ.out he1)
        clear he1
        generalize fmean Vs.re l = r at *
        replace oR := oR.alloc (.cells #[.int .i64 r.n, .int .i64 r.d] 24)
        replace hB := below_to hB (ba1 y1 (.cells #[.int .i64 r.n, .int .i64 r.d] 24))
        obtain ⟨rR, fR⟩ := oR.rules
        have zR := oR.lt
        go_wp2
        clear rR fR zR
        replace oR := ((((((oR.set 0 (.int .i64 0)).set 1 (.int .i64 0)).set 2 (.int .i64 0)).set 3 (.int .i64 0)).set 4 (.int .i64 0)).set 5 (.int .i64 0))
        replace hB := ((((((hB.setCell (p := ⟨w.heap.size, 0, none⟩) (by simp) (.int .i64 0)).setCell (p := ⟨w.heap.size, 1, none⟩) (by simp) (.int .i64 0)).setCell (p := ⟨w.heap.size, 2, none⟩) (by simp) (.int .i64 0)).setCell (p := ⟨w.heap.size, 3, none⟩) (by simp) (.int .i64 0)).setCell (p := ⟨w.heap.size, 4, none⟩) (by simp) (.int .i64 0)).setCell (p := ⟨w.heap.size, 5, none⟩) (by simp) (.int .i64 0))
        refine bp_gen' (fun W => Own W _ _ _ ∧ Below w.heap.size w W) ⟨oR, hB⟩ ?_
        rintro wz ⟨oz, bz⟩
        obtain ⟨rz, fz⟩ := oz.rules
        clear oz
        refine bodyPost_ret (v := .tuple #[.agg #[.int .i64 0, .int .i64 0, .int .i64 0, .int .i64 0, .int .i64 0, .int .i64 0], .int .i64 r.e]) (by simp [results, Try.results73, go_sem, rz]) rfl ⟨by rw [HF.out]; rfl, ?_⟩
        exact bz
      have b2 : ((fmean Vs.re l).e != 0) = false := by simpa using he1
      have E1 := Lib.hid he1
      have C1 := Lib.hid (fmean_chk he1)
      clear he1
      have F16 := Lib.hid (fun h2 h3 => vmean_16 (l := l) HZ.out E1.out h2 h3)
      have FIM := Lib.hid (fun h2 => vmean_im (l := l) HZ.out E1.out h2)
      have F0 := Lib.hid (fun h2 h3 h4 => vmean_0 h0 HZ.out E1.out h2 h3 h4)
      generalize fmean Vs.re l = r at *
      have oX := Own.new y1 24 [.int .i64 r.n, .int .i64 r.d]
      have hq := ba1 y1 (.cells #[.int .i64 r.n, .int .i64 r.d] 24)
      have zX0 := hB.size
      go_upto_region 12 with fail
      replace oR := oR.below hq
      replace hB := below_to hB hq
      clear hq
      obtain ⟨bX, hX⟩ : ∃ B, B = y1.heap.size := ⟨_, rfl⟩
      rw [← hX] at oX zX0 ⊢
      clear hX
      generalize y1.alloc (.cells #[.int .i64 r.n, .int .i64 r.d] 24) = y2 at *
      go_wp2_with fail
      refine (meanof_im_any l _ _ (S0.out.below hB) V0.out hl).mono ?_
      rintro e y3 ⟨rfl, hq⟩
      replace oR := oR.below hq
      replace oX := oX.below hq
      replace hB := below_to hB hq
      clear hq
      by_cases he2 : (fmean Vs.im l).e = 0
      case neg =>
        have b3 : ((fmean Vs.im l).e != 0) = true := by simpa using he2
        have HF := Lib.hid (FIM.out he2)
        clear he2
        generalize fmean Vs.im l = m at *
        replace oR := oR.alloc (.cells #[.int .i64 m.n, .int .i64 m.d] 24)
        replace hB := below_to hB (ba1 y3 (.cells #[.int .i64 m.n, .int .i64 m.d] 24))
        obtain ⟨rR, fR⟩ := oR.rules
        have zR := oR.lt
        go_wp2
        clear rR fR zR
        replace oR := ((((((oR.set 0 (.int .i64 0)).set 1 (.int .i64 0)).set 2 (.int .i64 0)).set 3 (.int .i64 0)).set 4 (.int .i64 0)).set 5 (.int .i64 0))
        replace hB := ((((((hB.setCell (p := ⟨w.heap.size, 0, none⟩) (by simp) (.int .i64 0)).setCell (p := ⟨w.heap.size, 1, none⟩) (by simp) (.int .i64 0)).setCell (p := ⟨w.heap.size, 2, none⟩) (by simp) (.int .i64 0)).setCell (p := ⟨w.heap.size, 3, none⟩) (by simp) (.int .i64 0)).setCell (p := ⟨w.heap.size, 4, none⟩) (by simp) (.int .i64 0)).setCell (p := ⟨w.heap.size, 5, none⟩) (by simp) (.int .i64 0))
        refine bp_gen' (fun W => Own W _ _ _ ∧ Below w.heap.size w W) ⟨oR, hB⟩ ?_
        rintro wz ⟨oz, bz⟩
        obtain ⟨rz, fz⟩ := oz.rules
        clear oz
        refine bodyPost_ret (v := .tuple #[.agg #[.int .i64 0, .int .i64 0, .int .i64 0, .int .i64 0, .int .i64 0, .int .i64 0], .int .i64 m.e]) (by simp [results, Try.results73, go_sem, rz]) rfl ⟨by rw [HF.out]; rfl, ?_⟩
        exact bz
      have b3 : ((fmean Vs.im l).e != 0) = false := by simpa using he2
      replace F16 := Lib.hid (F16.out he2)
      replace F0 := Lib.hid (F0.out he2)
      have C2 := Lib.hid (fmean_chk he2)
      clear he2 FIM
      generalize fmean Vs.im l = m at *
      have oY := Own.new y3 24 [.int .i64 m.n, .int .i64 m.d]
      have hq := ba1 y3 (.cells #[.int .i64 m.n, .int .i64 m.d] 24)
      go_upto_region 15 with fail
      replace oR := oR.below hq
      replace oX := oX.below hq
      replace hB := below_to hB hq
      clear hq
      obtain ⟨bY, hY⟩ : ∃ B, B = y3.heap.size := ⟨_, rfl⟩
      rw [← hY] at oY ⊢
      clear hY
      generalize y3.alloc (.cells #[.int .i64 m.n, .int .i64 m.d] 24) = y4 at *
      by_cases hw : wok r.n r.d m.n m.d = false
      · have HF := Lib.hid (F16.out (.inl hw))
        have HW := Lib.hid hw
        clear hw
        obtain ⟨rX, fX⟩ := oX.rules
        have zX := oX.lt
        obtain ⟨rY, fY⟩ := oY.rules
        have zY := oY.lt
        go_wp2_with fail
        refine (valueOf_0 r.n r.d m.n m.d _ C1.out C2.out HW.out).mono ?_
        rintro e y5 ⟨⟨x, y, z, rfl⟩, hq⟩
        clear rX fX zX rY fY zY oX oY
        replace oR := oR.below hq
        replace hB := below_to hB hq
        clear hq
        replace oR := oR.alloc (.cells #[.int .i64 x, .int .i64 y, .int .i64 z] 58)
        replace hB := below_to hB (ba1 y5 (.cells #[.int .i64 x, .int .i64 y, .int .i64 z] 58))
        obtain ⟨rR, fR⟩ := oR.rules
        have zR := oR.lt
        go_wp2
        clear rR fR zR
        replace oR := ((((((oR.set 0 (.int .i64 0)).set 1 (.int .i64 0)).set 2 (.int .i64 0)).set 3 (.int .i64 0)).set 4 (.int .i64 0)).set 5 (.int .i64 0))
        replace hB := ((((((hB.setCell (p := ⟨w.heap.size, 0, none⟩) (by simp) (.int .i64 0)).setCell (p := ⟨w.heap.size, 1, none⟩) (by simp) (.int .i64 0)).setCell (p := ⟨w.heap.size, 2, none⟩) (by simp) (.int .i64 0)).setCell (p := ⟨w.heap.size, 3, none⟩) (by simp) (.int .i64 0)).setCell (p := ⟨w.heap.size, 4, none⟩) (by simp) (.int .i64 0)).setCell (p := ⟨w.heap.size, 5, none⟩) (by simp) (.int .i64 0))
        refine bp_gen' (fun W => Own W _ _ _ ∧ Below w.heap.size w W) ⟨oR, hB⟩ ?_
        rintro wz ⟨oz, bz⟩
        obtain ⟨rz, fz⟩ := oz.rules
        clear oz
        refine bodyPost_ret (v := .tuple #[.agg #[.int .i64 0, .int .i64 0, .int .i64 0, .int .i64 0, .int .i64 0, .int .i64 0], .int .i64 16]) (by simp [results, Try.results73, go_sem, rz]) rfl ⟨by rw [HF.out]; rfl, ?_⟩
        exact bz
      have HW : Hid (wok r.n r.d m.n m.d = true) := by show _ = _; simpa using hw
      clear hw
      obtain ⟨rX, fX⟩ := oX.rules
      have zX := oX.lt
      obtain ⟨rY, fY⟩ := oY.rules
      have zY := oY.lt
      go_wp2_with fail
      refine (valueOf_1 r.n r.d m.n m.d _ C1.out C2.out HW.out).mono ?_
      rintro e y5 ⟨rfl, hq⟩
      clear rX fX zX rY fY zY oX oY
      replace oR := oR.below hq
      replace hB := below_to hB hq
      clear hq
      have bw := wsum_bd V0.out l.length (Nat.le_refl _)
      by_cases hn : wsum l l.length ≤ 1000000
      case neg =>
        have HF := Lib.hid (F16.out (.inr (by omega)))
        have b4 : cntB (wsum l l.length) = false := by unfold cntB; simp; omega
        have B4 := Lib.hid b4
        clear hn b4 bw
        generalize wval r.n r.d m.n m.d = c at *
        replace oR := oR.alloc (.cells #[.int .i64 c.re, .int .i64 c.im, .int .i64 c.den] 58)
        replace hB := below_to hB (ba1 y5 (.cells #[.int .i64 c.re, .int .i64 c.im, .int .i64 c.den] 58))
        go_wp2_with fail
        refine (isWeight_of _ false _ B4.out).mono ?_
        rintro e _ ⟨rfl, rfl⟩
        obtain ⟨rR, fR⟩ := oR.rules
        have zR := oR.lt
        go_wp2
        clear rR fR zR
        replace oR := ((((((oR.set 0 (.int .i64 0)).set 1 (.int .i64 0)).set 2 (.int .i64 0)).set 3 (.int .i64 0)).set 4 (.int .i64 0)).set 5 (.int .i64 0))
        replace hB := ((((((hB.setCell (p := ⟨w.heap.size, 0, none⟩) (by simp) (.int .i64 0)).setCell (p := ⟨w.heap.size, 1, none⟩) (by simp) (.int .i64 0)).setCell (p := ⟨w.heap.size, 2, none⟩) (by simp) (.int .i64 0)).setCell (p := ⟨w.heap.size, 3, none⟩) (by simp) (.int .i64 0)).setCell (p := ⟨w.heap.size, 4, none⟩) (by simp) (.int .i64 0)).setCell (p := ⟨w.heap.size, 5, none⟩) (by simp) (.int .i64 0))
        refine bp_gen' (fun W => Own W _ _ _ ∧ Below w.heap.size w W) ⟨oR, hB⟩ ?_
        rintro wz ⟨oz, bz⟩
        obtain ⟨rz, fz⟩ := oz.rules
        clear oz
        refine bodyPost_ret (v := .tuple #[.agg #[.int .i64 0, .int .i64 0, .int .i64 0, .int .i64 0, .int .i64 0, .int .i64 0], .int .i64 16]) (by simp [results, Try.results73, go_sem, rz]) rfl ⟨by rw [HF.out]; rfl, ?_⟩
        exact bz
      have HF := Lib.hid (F0.out HW.out hn)
      have b4 : cntB (wsum l l.length) = true := by unfold cntB; simp; omega
      have B4 := Lib.hid b4
      clear hn b4 bw F0 F16
      generalize wval r.n r.d m.n m.d = c at *
      obtain ⟨_, _, e, _, _, H⟩ := (S0.out.below hB).open
      cases e
      obtain ⟨b, off, rfl, c0, c1, c2, c3, c4, c5⟩ := H.out 0 h0
      clear H c2 c3 c4 c5
      simp only [Nat.zero_mul, Nat.add_zero] at c0 c1
      generalize l[0].i = i at *
      generalize l[0].j = j at *
      have oC := Own.new y5 58 [.int .i64 c.re, .int .i64 c.im, .int .i64 c.den]
      have hq := ba1 y5 (.cells #[.int .i64 c.re, .int .i64 c.im, .int .i64 c.den] 58)
      go_upto_region 16 with fail
      replace oR := oR.below hq
      replace c0 := below_cell hq c0
      replace c1 := below_cell hq c1
      replace hB := below_to hB hq
      clear hq
      obtain ⟨bC, hC⟩ : ∃ B, B = y5.heap.size := ⟨_, rfl⟩
      rw [← hC] at oC ⊢
      clear hC
      generalize y5.alloc (.cells #[.int .i64 c.re, .int .i64 c.im, .int .i64 c.den] 58) = y6 at *
      go_wp2_with fail
      refine (isWeight_of _ true _ B4.out).mono ?_
      rintro e _ ⟨rfl, rfl⟩
      obtain ⟨rR, fR⟩ := oR.rules
      have zR := oR.lt
      obtain ⟨rC, fC⟩ := oC.rules
      have zC := oC.lt
      have zb := World.block_lt_of_cell? _ _ c0
      simp only at zb
      have gl := @grow_lt
      go_wp2_with fail
      refine wp_region_st [.t [0, 1, 2, 3, 4, 5, 6, 7, 8, 9, 10]] [11, 12] (by kernel_rfl) (by kernel_rfl) (fun _ _ _ _ _ h => h) ?_
      refine wpX_t ?_
      try simp only [opsAt, List.getElem?_toArray, List.getElem?_cons_zero, List.getElem?_cons_succ, Option.getD_some]
      repeat (go_big_quiet_step (fail))
      refine wpQuiet_nil ?_
      refine wpX_nil ?_
      try simp only [opsAt, List.getElem?_toArray, List.getElem?_cons_zero, List.getElem?_cons_succ, Option.getD_some]
      clear gl
      go_wp2
      clear rR fR zR rC fC zC
      replace oR := (((((((oR.set 0 (.int .i64 i)).set 1 (.int .i64 j)).set 2 (.int .i64 c.re)).set 3 (.int .i64 c.im)).set 4 (.int .i64 c.den)).set 5 (.int .i64 (wsum l l.length)))).drew
      replace hB := (((((((hB.setCell (p := ⟨w.heap.size, 0, none⟩) (by simp) (.int .i64 i)).setCell (p := ⟨w.heap.size, 1, none⟩) (by simp) (.int .i64 j)).setCell (p := ⟨w.heap.size, 2, none⟩) (by simp) (.int .i64 c.re)).setCell (p := ⟨w.heap.size, 3, none⟩) (by simp) (.int .i64 c.im)).setCell (p := ⟨w.heap.size, 4, none⟩) (by simp) (.int .i64 c.den)).setCell (p := ⟨w.heap.size, 5, none⟩) (by simp) (.int .i64 (wsum l l.length)))).drew
      refine bp_gen' (fun W => Own W _ _ _ ∧ Below w.heap.size w W) ⟨oR, hB⟩ ?_
      rintro wz ⟨oz, bz⟩
      obtain ⟨rz, fz⟩ := oz.rules
      clear oz
      refine bodyPost_ret (v := .tuple #[.agg #[.int .i64 i, .int .i64 j, .int .i64 c.re, .int .i64 c.im, .int .i64 c.den, .int .i64 (wsum l l.length)], .int .i64 0]) (by simp [results, Try.results73, go_sem, rz]) rfl ⟨by rw [HF.out]; rfl, ?_⟩
      exact bz
end Go.Proofs.Ytpjhiojdnebgoaa
