/- What is proved here: the law WeightBounds returns true. Condition: a slice of visibilities. -/
import Derived.Test.YtpjhiojdnebgoaaC47
import Derived.Test.YtpjhiojdnebgoaaC49
import Derived.Test.YtpjhiojdnebgoaaC01
import Derived.BigQuiet
import Derived.Deep.DeepCutAuto
namespace Go.Proofs.Ytpjhiojdnebgoaa
open Go.RowKit

theorem make_uf {v : Vs} (h : v.chk = 0) : wmk v.i v.j (prt Vs.re v).num (prt Vs.re v).den (prt Vs.im v).num (prt Vs.im v).den v.n = ⟨v.i, v.j, v.re, v.im, v.den, v.n, 0⟩ := by
  have := make_parts h
  rw [(part_uf re_r h).1, (part_uf im_r h).1] at this; exact this
theorem turn_uf {v : Vs} (h : v.chk = 0) : wmk v.j v.i (prt Vs.re v).num (prt Vs.re v).den (prt Vs.im v).num (prt Vs.im v).den v.n = ⟨v.i, v.j, v.re, -v.im, v.den, v.n, 0⟩ := by
  have := make_turned h
  rw [(part_uf re_r h).1, (part_uf im_r h).1] at this; exact this
/-- What is known of a mean without an error. -/
theorem mean_facts {l : List Vs} (he : (vMean l).e = 0) (h0 : 0 < l.length) : (vMean l).vs.chk = 0 ∧ (∃ v ∈ l, prt Vs.re v ≤ prt Vs.re (vMean l).vs) ∧ (∃ v ∈ l, prt Vs.re (vMean l).vs ≤ prt Vs.re v) ∧ (∃ v ∈ l, prt Vs.im v ≤ prt Vs.im (vMean l).vs) ∧ (∃ v ∈ l, prt Vs.im (vMean l).vs ≤ prt Vs.im v) := by
  obtain ⟨h1, h2, h3, w0, w1, hk, hv⟩ := vMean_is he h0
  have c := Vs.chk_ok (vall_get h1 h0)
  obtain ⟨p1, p2, p3⟩ := vmk_chk (n := ws l) c.1 c.2.1 c.2.2.1 (by omega) w1 hk
  rw [← hv] at p1 p2 p3
  rw [p2, p3]
  exact ⟨p1, mean_low h1 w0, mean_high h1 w0, mean_low h1 w0, mean_high h1 w0⟩
/-- What is known of one valid visibility. -/
structure OneV (u : Vs) (x y : Rat) : Prop where
  chk : vchk u.i u.j u.re u.im u.den u.n = 0
  re : wpt u.i u.j u.re u.im u.den u.n u.re = uf x
  im : wpt u.i u.j u.re u.im u.den u.n u.im = uf y
  mkv : wmk u.i u.j x.num x.den y.num y.den u.n = ⟨u.i, u.j, u.re, u.im, u.den, u.n, 0⟩
  tn : wmk u.j u.i x.num x.den y.num y.den u.n = ⟨u.i, u.j, u.re, -u.im, u.den, u.n, 0⟩
  x64 : i64 x.num ∧ i64 x.den
  y64 : i64 y.num ∧ i64 y.den
  neg : wrap64 (-u.im) = -u.im
  one : 0 < u.n → vMean [u] = ⟨u.i, u.j, u.re, u.im, u.den, u.n, 0⟩
theorem onev {u : Vs} (h : u.chk = 0) : OneV u (prt Vs.re u) (prt Vs.im u) where
  chk := h
  re := by rw [wpt_0 h]; exact (part_uf re_r h).1
  im := by rw [wpt_0 h]; exact (part_uf im_r h).1
  mkv := make_uf h
  tn := turn_uf h
  x64 := fr_i64 (fchk_inr (part_uf re_r h).2)
  y64 := fr_i64 (fchk_inr (part_uf im_r h).2)
  neg := by have := Vs.small h; unfold wrap64; omega
  one := mean_one h
set_option maxRecDepth 100000 in
set_option maxHeartbeats 32000000 in
theorem weightBounds_any (l : List Vs) (v : Value) (w : World) (hs : SV w v l) :
    Calls Try.prog 11 #[v] w fun e w' => e = .returned (.bool true) ∧ Below w.heap.size w w' := by
  obtain ⟨ad, cap, rfl, h1, h2, _⟩ := hs.open
  go_enter Try.func11, Try.ntmps11
  go_wp2_with fail
  refine (alive22_any _).mono ?_
  rintro e y1 ⟨rfl, hB⟩
  have S0 := Lib.hid (hs.below hB)
  clear hs
  go_wp2_with fail
  refine (fit22_any l _ _ S0.out).mono ?_
  rintro e y2 ⟨rfl, hq⟩
  replace S0 := Lib.hid (S0.out.below hq)
  replace hB := below_to hB hq
  clear hq
  by_cases hf : (decide (l.length ≤ 250) && decide (vlist l = 0)) = true
  case neg =>
    rw [Bool.not_eq_true] at hf
    rw [hf]
    go_wp2
    go_ret
    exact ⟨rfl, hB⟩
  have hv : vlist l = 0 := by simp only [Bool.and_eq_true, decide_eq_true_eq] at hf; exact hf.2
  rw [hf]
  have HV := Lib.hid (vlist_0 hv)
  clear hf hv
  by_cases g0 : l.length = 0
  · have q0 : ((l.length : Int) == 0) = true := by simpa using g0
    clear g0
    go_wp2
    go_ret
    exact ⟨rfl, hB⟩
  have q0 : ((l.length : Int) == 0) = false := by simpa using g0
  have hl0 : 0 < l.length := by omega
  have hz0 : (0 : Int) < (l.length : Int) := by omega
  clear g0
  obtain ⟨_, _, e, _, _, H⟩ := S0.out.open
  cases e
  obtain ⟨b, off, rfl, c0, c1, c2, c3, c4, c5⟩ := H.out 0 hl0
  clear H
  simp only [Nat.zero_mul, Nat.add_zero] at c0 c1 c2 c3 c4 c5
  have OV := Lib.hid (onev (vall_get HV.out.2 hl0))
  have T1 : Hid (l.take 1 = [l[0]]) := by show _ = _; rw [List.take_succ_eq_append_getElem hl0]; rfl
  have MF := Lib.hid (fun h => mean_facts (l := l) h hl0)
  have ST := Lib.hid (S0.out.take (show 1 ≤ l.length by omega))
  rw [T1.out] at ST
  clear T1
  generalize prt Vs.re l[0] = x at *
  generalize prt Vs.im l[0] = y at *
  generalize l[0] = u at *
  have hC := Below.refl y2.heap.size y2
  have hkc : 1 ≤ cap := by omega
  have d0 := below_cell hC c0
  have d1 := below_cell hC c1
  have d2 := below_cell hC c2
  have d3 := below_cell hC c3
  have d4 := below_cell hC c4
  have d5 := below_cell hC c5
  go_wp2_with fail
  refine (vparts_any u.i u.j u.re u.im u.den u.n _).mono ?_
  rintro e y3 ⟨rfl, hq⟩
  clear d0 d1 d2 d3 d4 d5
  replace hC := below_to hC hq
  clear hq
  rw [OV.out.chk, OV.out.re, OV.out.im]
  unfold uf
  have oP := (own_first y3 24 [.int .i64 x.num, .int .i64 (x.den : Int)] (.cells #[.int .i64 y.num, .int .i64 (y.den : Int)] 24))
  have oQ := (own_second y3 24 [.int .i64 y.num, .int .i64 (y.den : Int)] (.cells #[.int .i64 x.num, .int .i64 (x.den : Int)] 24))
  have hq := ba2 y3 (.cells #[.int .i64 x.num, .int .i64 (x.den : Int)] 24) (.cells #[.int .i64 y.num, .int .i64 (y.den : Int)] 24)
  go_upto_region 5 with fail
  replace hC := below_to hC hq
  clear hq
  obtain ⟨bP, hP⟩ : ∃ B, B = y3.heap.size := ⟨_, rfl⟩
  rw [← hP] at oP oQ ⊢
  obtain ⟨bQ, hQ⟩ : ∃ B, B = bP + 1 := ⟨_, rfl⟩
  rw [← hQ] at oQ ⊢
  clear hP hQ
  generalize (y3.alloc (.cells #[.int .i64 x.num, .int .i64 (x.den : Int)] 24)).alloc (.cells #[.int .i64 y.num, .int .i64 (y.den : Int)] 24) = y4 at *
  have d0 := below_cell hC c0
  have d1 := below_cell hC c1
  have d2 := below_cell hC c2
  have d3 := below_cell hC c3
  have d4 := below_cell hC c4
  have d5 := below_cell hC c5
  obtain ⟨rP, fP⟩ := oP.rules
  have zP := oP.lt
  obtain ⟨rQ, fQ⟩ := oQ.rules
  have zQ := oQ.lt
  have zb := World.block_lt_of_cell? _ _ d0
  simp only at zb
  go_wp2_with fail
  have gl := @grow_lt
  refine wp_region_fs [(18, ⟨60, [.int .i64 0, .int .i64 0, .int .i64 0, .int .i64 0, .int .i64 0, .int .i64 0], fun b => .pointer (some ⟨b, 0, none⟩)⟩)] [0, 1, 2, 3, 4, 5, 6, 7, 8, 9, 10, 11, 12, 13] [.op 14, .tk 15, .tk 16, .tk 17, .fl 18, .op 19] [20] (by kernel_rfl) (by kernel_rfl) ⟨fun ρ W => by kernel_rfl, trivial⟩ (fun _ _ _ _ _ h => h) (fun _ _ _ _ _ h => h) ?_
  try simp only [opsAt, List.getElem?_toArray, List.getElem?_cons_zero, List.getElem?_cons_succ, Option.getD_some]
  repeat (go_big_quiet_step (fail))
  refine wpQuiet_nil ?_
  clear gl
  refine wpFl_op rfl ?_
  intro w3 hb3 K' hK'
  go_simp
  refine (vmake_any u.i u.j x.num x.den y.num y.den u.n _ OV.out.x64.1 OV.out.x64.2 OV.out.y64.1 OV.out.y64.2).mono ?_
  rintro e w5 ⟨rfl, hq⟩
  refine hK' _ _ (Mod.of_below hq) ?_
  clear hK' K'
  have hF := below_to hb3 hq
  clear hb3 hq
  rw [OV.out.mkv]
  refine wpFl_tk ?_
  try simp only [opsAt, List.getElem?_toArray, List.getElem?_cons_zero, List.getElem?_cons_succ, Option.getD_some]
  repeat (go_big_quiet_step (fail))
  refine wpQuiet_nil ?_
  refine wpFl_tk ?_
  try simp only [opsAt, List.getElem?_toArray, List.getElem?_cons_zero, List.getElem?_cons_succ, Option.getD_some]
  repeat (go_big_quiet_step (fail))
  refine wpQuiet_nil ?_
  refine wpFl_tk ?_
  try simp only [opsAt, List.getElem?_toArray, List.getElem?_cons_zero, List.getElem?_cons_succ, Option.getD_some]
  repeat (go_big_quiet_step (fail))
  refine wpQuiet_nil ?_
  refine wpFl_fl rfl ?_
  intro bA w6 hb6 oA zA0 _
  go_simp
  replace hF := below_to hF hb6
  refine wpFl_op rfl ?_
  intro w7 hb7 K' hK'
  replace oA := oA.below hb7
  replace hF := below_to hF hb7
  clear hb6 hb7
  obtain ⟨rA, fA⟩ := oA.rules
  have zA := oA.lt
  go_wp2_with fail
  refine hK' _ _ (((((((Mod.refl _ _).set (by simp) _).set (by simp) _).set (by simp) _).set (by simp) _).set (by simp) _).set (by simp) _) ?_
  clear hK' K' rA fA zA
  replace oA := ((((((oA.set 0 (.int .i64 u.i)).set 1 (.int .i64 u.j)).set 2 (.int .i64 u.re)).set 3 (.int .i64 u.im)).set 4 (.int .i64 u.den)).set 5 (.int .i64 u.n))
  replace hF := ((((((hF.setCell (p := ⟨bA, 0, none⟩) zA0 (.int .i64 u.i)).setCell (p := ⟨bA, 1, none⟩) zA0 (.int .i64 u.j)).setCell (p := ⟨bA, 2, none⟩) zA0 (.int .i64 u.re)).setCell (p := ⟨bA, 3, none⟩) zA0 (.int .i64 u.im)).setCell (p := ⟨bA, 4, none⟩) zA0 (.int .i64 u.den)).setCell (p := ⟨bA, 5, none⟩) zA0 (.int .i64 u.n))
  refine wpFl_nil (fun w8 hb8 => ?_)
  replace oA := oA.below hb8
  replace hF := below_to hF hb8
  clear hb8
  try simp only [opsAt, List.getElem?_toArray, List.getElem?_cons_zero, List.getElem?_cons_succ, Option.getD_some]
  clear d0 d1 d2 d3 d4 d5
  clear rP fP zP rQ fQ zQ
  clear zb
  replace oP := oP.below hF
  replace oQ := oQ.below hF
  replace hC := below_to hC hF
  clear hF
  rename World => y5
  have d0 := below_cell hC c0
  have d1 := below_cell hC c1
  have d2 := below_cell hC c2
  have d3 := below_cell hC c3
  have d4 := below_cell hC c4
  have d5 := below_cell hC c5
  obtain ⟨rP, fP⟩ := oP.rules
  have zP := oP.lt
  obtain ⟨rQ, fQ⟩ := oQ.rules
  have zQ := oQ.lt
  obtain ⟨rA, fA⟩ := oA.rules
  have zA := oA.lt
  have zb := World.block_lt_of_cell? _ _ d0
  simp only at zb
  go_wp2_with fail
  have gl := @grow_lt
  refine wp_region_fs [(18, ⟨60, [.int .i64 0, .int .i64 0, .int .i64 0, .int .i64 0, .int .i64 0, .int .i64 0], fun b => .pointer (some ⟨b, 0, none⟩)⟩)] [0, 1, 2, 3, 4, 5, 6, 7, 8, 9, 10, 11, 12, 13] [.op 14, .tk 15, .tk 16, .tk 17, .fl 18, .op 19] [20] (by kernel_rfl) (by kernel_rfl) ⟨fun ρ W => by kernel_rfl, trivial⟩ (fun _ _ _ _ _ h => h) (fun _ _ _ _ _ h => h) ?_
  try simp only [opsAt, List.getElem?_toArray, List.getElem?_cons_zero, List.getElem?_cons_succ, Option.getD_some]
  repeat (go_big_quiet_step (fail))
  refine wpQuiet_nil ?_
  clear gl
  refine wpFl_op rfl ?_
  intro w3 hb3 K' hK'
  go_simp
  refine (vmake_any u.j u.i x.num x.den y.num y.den u.n _ OV.out.x64.1 OV.out.x64.2 OV.out.y64.1 OV.out.y64.2).mono ?_
  rintro e w5 ⟨rfl, hq⟩
  refine hK' _ _ (Mod.of_below hq) ?_
  clear hK' K'
  have hF := below_to hb3 hq
  clear hb3 hq
  rw [OV.out.tn]
  refine wpFl_tk ?_
  try simp only [opsAt, List.getElem?_toArray, List.getElem?_cons_zero, List.getElem?_cons_succ, Option.getD_some]
  repeat (go_big_quiet_step (fail))
  refine wpQuiet_nil ?_
  refine wpFl_tk ?_
  try simp only [opsAt, List.getElem?_toArray, List.getElem?_cons_zero, List.getElem?_cons_succ, Option.getD_some]
  repeat (go_big_quiet_step (fail))
  refine wpQuiet_nil ?_
  refine wpFl_tk ?_
  try simp only [opsAt, List.getElem?_toArray, List.getElem?_cons_zero, List.getElem?_cons_succ, Option.getD_some]
  repeat (go_big_quiet_step (fail))
  refine wpQuiet_nil ?_
  refine wpFl_fl rfl ?_
  intro bT w6 hb6 oT zT0 _
  go_simp
  replace hF := below_to hF hb6
  refine wpFl_op rfl ?_
  intro w7 hb7 K' hK'
  replace oT := oT.below hb7
  replace hF := below_to hF hb7
  clear hb6 hb7
  obtain ⟨rT, fT⟩ := oT.rules
  have zT := oT.lt
  go_wp2_with fail
  refine hK' _ _ (((((((Mod.refl _ _).set (by simp) _).set (by simp) _).set (by simp) _).set (by simp) _).set (by simp) _).set (by simp) _) ?_
  clear hK' K' rT fT zT
  replace oT := ((((((oT.set 0 (.int .i64 u.i)).set 1 (.int .i64 u.j)).set 2 (.int .i64 u.re)).set 3 (.int .i64 (-u.im))).set 4 (.int .i64 u.den)).set 5 (.int .i64 u.n))
  replace hF := ((((((hF.setCell (p := ⟨bT, 0, none⟩) zT0 (.int .i64 u.i)).setCell (p := ⟨bT, 1, none⟩) zT0 (.int .i64 u.j)).setCell (p := ⟨bT, 2, none⟩) zT0 (.int .i64 u.re)).setCell (p := ⟨bT, 3, none⟩) zT0 (.int .i64 (-u.im))).setCell (p := ⟨bT, 4, none⟩) zT0 (.int .i64 u.den)).setCell (p := ⟨bT, 5, none⟩) zT0 (.int .i64 u.n))
  refine wpFl_nil (fun w8 hb8 => ?_)
  replace oT := oT.below hb8
  replace hF := below_to hF hb8
  clear hb8
  try simp only [opsAt, List.getElem?_toArray, List.getElem?_cons_zero, List.getElem?_cons_succ, Option.getD_some]
  clear d0 d1 d2 d3 d4 d5
  clear rP fP zP rQ fQ zQ rA fA zA
  clear zb
  replace oP := oP.below hF
  replace oQ := oQ.below hF
  replace oA := oA.below hF
  replace hC := below_to hC hF
  clear hF
  rename World => y6
  have d0 := below_cell hC c0
  have d1 := below_cell hC c1
  have d2 := below_cell hC c2
  have d3 := below_cell hC c3
  have d4 := below_cell hC c4
  have d5 := below_cell hC c5
  have ZC := hC.size
  have ZA := Nat.ne_of_lt oA.lt
  have ZT := Nat.ne_of_lt oT.lt
  have oL := Own.new y6 60 [.int .i64 u.i, .int .i64 u.j, .int .i64 u.re, .int .i64 u.im, .int .i64 u.den, .int .i64 u.n]
  have hq := ba1 y6 (.cells #[.int .i64 u.i, .int .i64 u.j, .int .i64 u.re, .int .i64 u.im, .int .i64 u.den, .int .i64 u.n] 60)
  go_upto_region 8 with fail
  clear d0 d1 d2 d3 d4 d5
  replace oP := oP.below hq
  replace oQ := oQ.below hq
  replace oA := oA.below hq
  replace oT := oT.below hq
  replace hC := below_to hC hq
  clear hq
  obtain ⟨bL, hL⟩ : ∃ B, B = y6.heap.size := ⟨_, rfl⟩
  have zL1 : y2.heap.size ≤ bL := by rw [hL]; exact ZC
  have zA1 : bA ≠ bL := by rw [hL]; exact ZA
  have zT1 : bT ≠ bL := by rw [hL]; exact ZT
  rw [← hL] at oL ⊢
  clear hL ZC ZA ZT
  generalize y6.alloc (.cells #[.int .i64 u.i, .int .i64 u.j, .int .i64 u.re, .int .i64 u.im, .int .i64 u.den, .int .i64 u.n] 60) = y7 at *
  obtain ⟨rL, fL⟩ := oL.rules
  have zL := oL.lt
  go_upto_region 9 with fail
  clear rL fL zL oP oQ
  rw [OV.out.neg]
  replace oL := oL.set 3 (.int .i64 (-u.im))
  replace oA := oA.other (g' := bL) zA1 3 (.int .i64 (-u.im))
  replace oT := oT.other (g' := bL) zT1 3 (.int .i64 (-u.im))
  replace hC := hC.setCell (p := ⟨bL, 3, none⟩) zL1 (.int .i64 (-u.im))
  generalize y7.setCell ⟨bL, 3, none⟩ (.int .i64 (-u.im)) = y8 at *
  have d0 := below_cell hC c0
  have d1 := below_cell hC c1
  have d2 := below_cell hC c2
  have d3 := below_cell hC c3
  have d4 := below_cell hC c4
  have d5 := below_cell hC c5
  obtain ⟨rA, fA⟩ := oA.rules
  have zA := oA.lt
  obtain ⟨rT, fT⟩ := oT.rules
  have zT := oT.lt
  obtain ⟨rL, fL⟩ := oL.rules
  have zL := oL.lt
  go_quiet (fail)
  clear d0 d1 d2 d3 d4 d5
  clear rA fA zA rT fT zT rL fL zL
  clear oA oT oL zL1 zA1 zT1
  replace hC := bd hC nq
  generalize y8.drewN nq = y9 at *
  replace ST := Lib.hid (ST.out.below hC)
  go_wp2_with fail
  refine (vMean_any [u] _ _ ST.out).mono ?_
  rintro e z1 ⟨rfl, hq⟩
  replace hC := below_to hC hq
  clear hq ST
  have MO := Lib.hid OV.out.one
  generalize vMean [u] = r1 at *
  unfold VR.res
  have oN := Own.new z1 60 [.int .i64 r1.i, .int .i64 r1.j, .int .i64 r1.re, .int .i64 r1.im, .int .i64 r1.den, .int .i64 r1.n]
  have hq := ba1 z1 (.cells #[.int .i64 r1.i, .int .i64 r1.j, .int .i64 r1.re, .int .i64 r1.im, .int .i64 r1.den, .int .i64 r1.n] 60)
  go_upto_region 12 with fail
  replace hC := below_to hC hq
  clear hq
  obtain ⟨bN, hN⟩ : ∃ B, B = z1.heap.size := ⟨_, rfl⟩
  rw [← hN] at oN ⊢
  clear hN
  generalize z1.alloc (.cells #[.int .i64 r1.i, .int .i64 r1.j, .int .i64 r1.re, .int .i64 r1.im, .int .i64 r1.den, .int .i64 r1.n] 60) = z2 at *
  by_cases gn : 0 < u.n
  · have h := MO.out gn
    subst h
    have b1 : decide (u.n > 0) = true := by simpa using gn
    clear MO
    have d0 := below_cell hC c0
    have d1 := below_cell hC c1
    have d2 := below_cell hC c2
    have d3 := below_cell hC c3
    have d4 := below_cell hC c4
    have d5 := below_cell hC c5
    obtain ⟨rN, fN⟩ := oN.rules
    have zN := oN.lt
    go_quiet (fail)
    clear d0 d1 d2 d3 d4 d5 rN fN zN oN
    replace hC := bd hC nq
    generalize z2.drewN nq = z3 at *
    clear c0 c1 c2 c3 c4 c5 b1 gn
    have S3 := Lib.hid (S0.out.below hC)
    clear S0
    go_wp2_with fail
    refine (vMean_any l _ _ S3.out).mono ?_
    rintro e z4 ⟨rfl, hq⟩
    replace hC := below_to hC hq
    replace S3 := Lib.hid (S3.out.below hq)
    clear hq
    generalize hm : vMean l = rm at *
    clear hm
    unfold VR.res
    have oM := Own.new z4 60 [.int .i64 rm.i, .int .i64 rm.j, .int .i64 rm.re, .int .i64 rm.im, .int .i64 rm.den, .int .i64 rm.n]
    have hq := ba1 z4 (.cells #[.int .i64 rm.i, .int .i64 rm.j, .int .i64 rm.re, .int .i64 rm.im, .int .i64 rm.den, .int .i64 rm.n] 60)
    go_upto_region 15 with fail
    replace hC := below_to hC hq
    replace S3 := Lib.hid (S3.out.below hq)
    clear hq
    obtain ⟨bM, hM⟩ : ∃ B, B = z4.heap.size := ⟨_, rfl⟩
    rw [← hM] at oM ⊢
    clear hM
    generalize z4.alloc (.cells #[.int .i64 rm.i, .int .i64 rm.j, .int .i64 rm.re, .int .i64 rm.im, .int .i64 rm.den, .int .i64 rm.n] 60) = z5 at *
    by_cases ge : rm.e = 0
    case neg =>
      have q3 : (rm.e != 0) = true := by simpa using ge
      go_wp2
      go_ret
      exact ⟨rfl, below_to hB hC⟩
    have q3 : (rm.e != 0) = false := by simp [ge]
    have FM := Lib.hid (MF.out ge)
    clear MF ge
    obtain ⟨rM, fM⟩ := oM.rules
    have zM := oM.lt
    go_wp2_with fail
    refine (rvcheck_of rm.i rm.j rm.re rm.im rm.den rm.n 0 _ FM.out.1).mono ?_
    rintro e z6 ⟨rfl, hq⟩
    clear rM fM zM
    replace oM := oM.below hq
    replace hC := below_to hC hq
    replace S3 := Lib.hid (S3.out.below hq)
    clear hq
    obtain ⟨rM, fM⟩ := oM.rules
    have zM := oM.lt
    go_wp2_with fail
    refine (between_re_any l rm.vs _ _ S3.out HV.out.2 HV.out.1 FM.out.1 FM.out.2.1 FM.out.2.2.1).mono ?_
    rintro e z7 ⟨rfl, hq⟩
    clear rM fM zM
    replace oM := oM.below hq
    replace hC := below_to hC hq
    replace S3 := Lib.hid (S3.out.below hq)
    clear hq
    obtain ⟨rM, fM⟩ := oM.rules
    have zM := oM.lt
    go_wp2_with fail
    refine (between_im_any l rm.vs _ _ S3.out HV.out.2 HV.out.1 FM.out.1 FM.out.2.2.2.1 FM.out.2.2.2.2).mono ?_
    rintro e z8 ⟨rfl, hq⟩
    clear rM fM zM
    replace hC := below_to hC hq
    clear hq
    go_wp2
    go_ret
    exact ⟨rfl, below_to hB hC⟩
  · have b1 : decide (u.n > 0) = false := by simpa using gn
    clear MO
    have d0 := below_cell hC c0
    have d1 := below_cell hC c1
    have d2 := below_cell hC c2
    have d3 := below_cell hC c3
    have d4 := below_cell hC c4
    have d5 := below_cell hC c5
    obtain ⟨rN, fN⟩ := oN.rules
    have zN := oN.lt
    go_quiet (fail)
    clear d0 d1 d2 d3 d4 d5 rN fN zN oN
    replace hC := bd hC nq
    generalize z2.drewN nq = z3 at *
    clear c0 c1 c2 c3 c4 c5 b1 gn
    have S3 := Lib.hid (S0.out.below hC)
    clear S0
    go_wp2_with fail
    refine (vMean_any l _ _ S3.out).mono ?_
    rintro e z4 ⟨rfl, hq⟩
    replace hC := below_to hC hq
    replace S3 := Lib.hid (S3.out.below hq)
    clear hq
    generalize hm : vMean l = rm at *
    clear hm
    unfold VR.res
    have oM := Own.new z4 60 [.int .i64 rm.i, .int .i64 rm.j, .int .i64 rm.re, .int .i64 rm.im, .int .i64 rm.den, .int .i64 rm.n]
    have hq := ba1 z4 (.cells #[.int .i64 rm.i, .int .i64 rm.j, .int .i64 rm.re, .int .i64 rm.im, .int .i64 rm.den, .int .i64 rm.n] 60)
    go_upto_region 15 with fail
    replace hC := below_to hC hq
    replace S3 := Lib.hid (S3.out.below hq)
    clear hq
    obtain ⟨bM, hM⟩ : ∃ B, B = z4.heap.size := ⟨_, rfl⟩
    rw [← hM] at oM ⊢
    clear hM
    generalize z4.alloc (.cells #[.int .i64 rm.i, .int .i64 rm.j, .int .i64 rm.re, .int .i64 rm.im, .int .i64 rm.den, .int .i64 rm.n] 60) = z5 at *
    by_cases ge : rm.e = 0
    case neg =>
      have q3 : (rm.e != 0) = true := by simpa using ge
      go_wp2
      go_ret
      exact ⟨rfl, below_to hB hC⟩
    have q3 : (rm.e != 0) = false := by simp [ge]
    have FM := Lib.hid (MF.out ge)
    clear MF ge
    obtain ⟨rM, fM⟩ := oM.rules
    have zM := oM.lt
    go_wp2_with fail
    refine (rvcheck_of rm.i rm.j rm.re rm.im rm.den rm.n 0 _ FM.out.1).mono ?_
    rintro e z6 ⟨rfl, hq⟩
    clear rM fM zM
    replace oM := oM.below hq
    replace hC := below_to hC hq
    replace S3 := Lib.hid (S3.out.below hq)
    clear hq
    obtain ⟨rM, fM⟩ := oM.rules
    have zM := oM.lt
    go_wp2_with fail
    refine (between_re_any l rm.vs _ _ S3.out HV.out.2 HV.out.1 FM.out.1 FM.out.2.1 FM.out.2.2.1).mono ?_
    rintro e z7 ⟨rfl, hq⟩
    clear rM fM zM
    replace oM := oM.below hq
    replace hC := below_to hC hq
    replace S3 := Lib.hid (S3.out.below hq)
    clear hq
    obtain ⟨rM, fM⟩ := oM.rules
    have zM := oM.lt
    go_wp2_with fail
    refine (between_im_any l rm.vs _ _ S3.out HV.out.2 HV.out.1 FM.out.1 FM.out.2.2.2.1 FM.out.2.2.2.2).mono ?_
    rintro e z8 ⟨rfl, hq⟩
    clear rM fM zM
    replace hC := below_to hC hq
    clear hq
    go_wp2
    go_ret
    exact ⟨rfl, below_to hB hC⟩
end Go.Proofs.Ytpjhiojdnebgoaa
