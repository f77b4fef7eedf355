/- What is proved here: contracts of functions and plain facts, several texts in one; each one says ahead what it proves, and its conditions. -/
import Derived.Test.YthlcmlngmcoknaaC38
/- What is proved here: the contract of the reference's Add of two valid fractions, case 'more'. Condition: two valid fractions. -/
namespace Go.Proofs.Ythlcmlngmcoknaa
open Go.RowKit

set_option maxRecDepth 100000 in
set_option maxHeartbeats 16000000 in
theorem radd_more (an bn : Int) (A B : Nat) (w : World) (h1 : i64 an) (h3 : i64 bn) (hb : fboth an A bn B = 0) (s : Bool) (sa : decide (an < 0) = s) (sb : decide (bn < 0) = !s) (hl : bn.natAbs * (A / Nat.gcd A B) ≤ an.natAbs * (B / Nat.gcd A B)) :
    Calls Try.prog 48 #[.agg #[.int .i64 an, .int .i64 A], .agg #[.int .i64 bn, .int .i64 B]] w fun e w' => e = .returned (.tuple #[.agg #[.int .i64 (pack (Rat.divInt an A + Rat.divInt bn B)).n, .int .i64 (pack (Rat.divInt an A + Rat.divInt bn B)).d], .int .i64 (pack (Rat.divInt an A + Rat.divInt bn B)).e]) ∧ Below w.heap.size w w' := by
  obtain ⟨c1, c2⟩ := fboth_ok hb
  obtain ⟨k1, k2, k3, k4, _⟩ := fok_of c1
  obtain ⟨l1, l2, l3, l4, _⟩ := fok_of c2
  obtain ⟨r, g, num, bg, ag, H⟩ := rsteps c1 c2 ((an.natAbs * (B / Nat.gcd A B)) - (bn.natAbs * (A / Nat.gcd A B))) s (sgn_more rfl rfl sa sb _ _ hl)
  have HH := Lib.hid H
  have hb' : (fboth an A bn B != 0) = false := by simp [hb]
  clear H c1 c2 hb
  obtain ⟨d, hd⟩ : ∃ d, d = Nat.gcd A B := ⟨_, rfl⟩
  rw [← hd] at HH hl
  obtain ⟨a, ha⟩ : ∃ a, a = A / d := ⟨_, rfl⟩
  obtain ⟨b, hb⟩ : ∃ b, b = B / d := ⟨_, rfl⟩
  rw [← ha, ← hb] at HH hl
  obtain ⟨x, hx⟩ : ∃ x, x = an.natAbs * b := ⟨_, rfl⟩
  obtain ⟨y, hy⟩ : ∃ y, y = bn.natAbs * a := ⟨_, rfl⟩
  rw [← hx, ← hy] at HH hl
  obtain ⟨S, hS⟩ : ∃ S, S = x - y := ⟨_, rfl⟩
  rw [← hS] at HH
  obtain ⟨qd, hqd⟩ : ∃ q, q = S / d := ⟨_, rfl⟩
  rw [← hqd] at HH
  have HS := Lib.hid hS.symm
  have SL : Hid (S < 340282366920938463463374607431768211456) := by show _ < _; have := HH.out.xl; have := HH.out.yl; omega
  have XL : Hid (x < 340282366920938463463374607431768211456) := by show _ < _; have := HH.out.xl; omega
  have YL : Hid (y < 340282366920938463463374607431768211456) := by show _ < _; have := HH.out.yl; omega
  have XY : Hid (x + y < 340282366920938463463374607431768211456) := by show _ < _; have := HH.out.xl; have := HH.out.yl; omega
  have HL := Lib.hid hl
  clear hd ha hb hx hy hS hqd hl
  have qa := HH.out.qa
  have qb := HH.out.qb
  have qg := HH.out.qg
  have qag := HH.out.qag
  have d0 := HH.out.dp
  have g0 := HH.out.gp
  have d1 : ((d : Int) == 0) = false := by simp; omega
  have d2 : ¬ ((d : Int) = 0) := by omega
  have g1 : ((g : Int) == 0) = false := by simp; omega
  have g2 : ¬ ((g : Int) = 0) := by omega
  have al : (a : Int) ≤ 1000000000000000000 := by have := HH.out.al; omega
  have bl : (b : Int) ≤ 1000000000000000000 := by have := HH.out.bl; omega
  have bgl : (bg : Int) ≤ 1000000000000000000 := by have := HH.out.bgl; omega
  have agl : (ag : Int) ≤ 1000000000000000000 := by have := HH.out.agl; omega
  have dl : (d : Int) ≤ 1000000000000000000 := by have := HH.out.dle; omega
  have gl' : (g : Int) ≤ 1000000000000000000 := by have := HH.out.gle; omega
  have wa : IntKind.u64.wrap ((A : Int) / (d : Int)) = (A : Int) / (d : Int) := wrap_quo A d (by omega)
  have wb : IntKind.u64.wrap ((B : Int) / (d : Int)) = (B : Int) / (d : Int) := wrap_quo B d (by omega)
  have wg : IntKind.u64.wrap ((B : Int) / (g : Int)) = (B : Int) / (g : Int) := wrap_quo B g (by omega)
  have wag : IntKind.u64.wrap ((A : Int) / (g : Int)) = (A : Int) / (g : Int) := wrap_quo A g (by omega)
  have rl : Hid (r ≤ 18446744073709551615) := by show _ ≤ _; have h1 := HH.out.rd; have h2 := Nat.mod_lt S d0; omega
  go_enter Try.func48, Try.ntmps48
  have oA := (own_first w 78 [.int .i64 an, .int .i64 A] (.cells #[.int .i64 bn, .int .i64 B] 78)).alloc (.cells #[.int .i64 0, .int .i64 0] 78)
  have oB := (own_second w 78 [.int .i64 bn, .int .i64 B] (.cells #[.int .i64 an, .int .i64 A] 78)).alloc (.cells #[.int .i64 0, .int .i64 0] 78)
  have oR := own_third w 78 [.int .i64 0, .int .i64 0] (.cells #[.int .i64 an, .int .i64 A] 78) (.cells #[.int .i64 bn, .int .i64 B] 78)
  have hB := ba3 w (.cells #[.int .i64 an, .int .i64 A] 78) (.cells #[.int .i64 bn, .int .i64 B] 78) (.cells #[.int .i64 0, .int .i64 0] 78)
  go_wp2_with fail
  generalize ((w.alloc (.cells #[.int .i64 an, .int .i64 A] 78)).alloc (.cells #[.int .i64 bn, .int .i64 B] 78)).alloc (.cells #[.int .i64 0, .int .i64 0] 78) = y0 at *
  obtain ⟨rA, fA⟩ := oA.rules
  have zA := oA.lt
  obtain ⟨rB, fB⟩ := oB.rules
  have zB := oB.lt
  obtain ⟨rR, fR⟩ := oR.rules
  have zR := oR.lt
  refine (rfrboth_any _ _ _ _ _ h1 ⟨by omega, by omega⟩ h3 ⟨by omega, by omega⟩).mono ?_
  rintro e y1 ⟨rfl, hq⟩
  clear rA fA zA rB fB zB rR fR zR
  replace oA := oA.below hq
  replace oB := oB.below hq
  replace oR := oR.below hq
  replace hB := below_to hB hq
  clear hq
  obtain ⟨rA, fA⟩ := oA.rules
  have zA := oA.lt
  obtain ⟨rB, fB⟩ := oB.rules
  have zB := oB.lt
  obtain ⟨rR, fR⟩ := oR.rules
  have zR := oR.lt
  go_wp2_with fail
  refine (rgcd_as _ _ d _ (by omega) (by omega) HH.out.gd).mono ?_
  rintro e _ ⟨rfl, nr, rfl⟩
  clear rA fA zA rB fB zB rR fR zR
  replace oA := oA.drewN nr
  replace oB := oB.drewN nr
  replace oR := oR.drewN nr
  replace hB := bd hB nr
  generalize World.drewN y1 nr = y2 at *
  obtain ⟨rA, fA⟩ := oA.rules
  have zA := oA.lt
  obtain ⟨rB, fB⟩ := oB.rules
  have zB := oB.lt
  obtain ⟨rR, fR⟩ := oR.rules
  have zR := oR.lt
  go_wp2_with fail
  refine wp_region_fl 151 [.int .u64 0, .int .u64 0, .int .u64 0, .int .u64 0] [.t [0, 1, 3, 4, 5, 6, 7, 9, 10, 12, 13, 14, 15, 16], .f 2, .f 8, .f 11, .f 17] [18, 19] [20, 21] (by kernel_rfl) (by kernel_rfl) (fun _ => by kernel_rfl) (fun _ _ _ _ _ h => h) ?_
  have gl := @grow_lt
  refine wpGS_t ?_
  try simp only [opsAt, List.getElem?_toArray, List.getElem?_cons_zero, List.getElem?_cons_succ, Option.getD_some]
  repeat (go_big_quiet_step (fail))
  refine wpQuiet_nil ?_
  refine wpGS_f (.int .u64 an.natAbs) rfl rfl (fun wg hwg => ?_) ?_
  · unfold gqAt
    go_simp
    exact ⟨rfl, abs_grow _ _ (by omega) (by omega)⟩
  refine wpGS_f (.agg #[.int .u64 (dg x 0), .int .u64 (dg x 1), .int .u64 (dg x 2), .int .u64 (dg x 3)]) rfl rfl (fun wg hwg => ?_) ?_
  · unfold gqAt
    go_simp
    exact ⟨rfl, product_as _ _ x _ (by omega) (by omega) HH.out.mx⟩
  refine wpGS_f (.int .u64 bn.natAbs) rfl rfl (fun wg hwg => ?_) ?_
  · unfold gqAt
    go_simp
    exact ⟨rfl, abs_grow _ _ (by omega) (by omega)⟩
  refine wpGS_f (.agg #[.int .u64 (dg y 0), .int .u64 (dg y 1), .int .u64 (dg y 2), .int .u64 (dg y 3)]) rfl rfl (fun wg hwg => ?_) ?_
  · unfold gqAt
    go_simp
    exact ⟨rfl, product_as _ _ y _ (by omega) (by omega) HH.out.my⟩
  refine wpGS_nil ?_
  clear gl
  intro bX hbX hnX bY hbY hnY y3 ⟨⟨hbw, oX⟩, oY⟩
  have hne : ¬ bX = bY := fun h => hnY (by simp [h])
  have hne' : ¬ bY = bX := fun h => hnY (by simp [h])
  have gX : w.heap.size + 1 + 1 < bX := by omega
  have gY : w.heap.size + 1 + 1 < bY := by omega
  clear hnX hnY hbX hbY
  clear rA fA zA rB fB zB rR fR zR
  replace oA := oA.below hbw
  replace oB := oB.below hbw
  replace oR := oR.below hbw
  replace hB := below_to hB hbw
  clear hbw
  obtain ⟨rA, fA⟩ := oA.rules
  have zA := oA.lt
  obtain ⟨rB, fB⟩ := oB.rules
  have zB := oB.lt
  obtain ⟨rR, fR⟩ := oR.rules
  have zR := oR.lt
  obtain ⟨rX, fX⟩ := oX.rules
  have zX := oX.lt
  obtain ⟨rY, fY⟩ := oY.rules
  have zY := oY.lt
  try simp only [opsAt, List.getElem?_toArray, List.getElem?_cons_zero, List.getElem?_cons_succ, Option.getD_some]
  go_wp2_with fail
  refine calls_gen (fun W => Own W w.heap.size 78 [.int .i64 an, .int .i64 A] ∧ Own W (w.heap.size + 1) 78 [.int .i64 bn, .int .i64 B] ∧ Own W (w.heap.size + 1 + 1) 78 [.int .i64 0, .int .i64 0] ∧ Own W bX 151 [.int .u64 (dg x 0), .int .u64 (dg x 1), .int .u64 (dg x 2), .int .u64 (dg x 3)] ∧ Own W bY 151 [.int .u64 (dg y 0), .int .u64 (dg y 1), .int .u64 (dg y 2), .int .u64 (dg y 3)] ∧ Below w.heap.size w W) ⟨?_, ?_, ?_, ?_, ?_, ?_⟩ ?_
  · (repeat (first | (with_reducible refine Own.drewN ?_ _) | (with_reducible refine Own.alloc ?_ _) | (with_reducible refine Own.other ?_ (by omega) _ _))); exact oA
  · (repeat (first | (with_reducible refine Own.drewN ?_ _) | (with_reducible refine Own.alloc ?_ _) | (with_reducible refine Own.other ?_ (by omega) _ _))); exact oB
  · (repeat (first | (with_reducible refine Own.drewN ?_ _) | (with_reducible refine Own.alloc ?_ _) | (with_reducible refine Own.other ?_ (by omega) _ _))); exact oR
  · exact ((((((((oX.set 0 (.int .u64 (dg x 0))).set 1 (.int .u64 (dg x 1))).set 2 (.int .u64 (dg x 2))).set 3 (.int .u64 (dg x 3))).other hne 0 _).other hne 1 _).other hne 2 _).other hne 3 _)
  · exact ((((((((oY.other hne' 0 _).other hne' 1 _).other hne' 2 _).other hne' 3 _).set 0 (.int .u64 (dg y 0))).set 1 (.int .u64 (dg y 1))).set 2 (.int .u64 (dg y 2))).set 3 (.int .u64 (dg y 3)))
  · repeat (first | (with_reducible refine bd ?_ _) | (with_reducible refine Below.alloc ?_ (by first | omega | (simp; omega)) _) | (with_reducible refine Below.setCell ?_ (by first | omega | (simp; done) | (simp; omega)) _))
    exact hB
  clear rA fA zA rB fB zB rR fR zR rX fX zX rY fY zY oA oB oR oX oY hB
  rintro y4 ⟨oA, oB, oR, oX, oY, hB⟩
  obtain ⟨rA, fA⟩ := oA.rules
  have zA := oA.lt
  obtain ⟨rB, fB⟩ := oB.rules
  have zB := oB.lt
  obtain ⟨rR, fR⟩ := oR.rules
  have zR := oR.lt
  obtain ⟨rX, fX⟩ := oX.rules
  have zX := oX.lt
  obtain ⟨rY, fY⟩ := oY.rules
  have zY := oY.lt
  refine (bbelow_as x y false _ XL.out YL.out (decide_eq_false (by have := HL.out; omega))).mono ?_
  rintro e y5 ⟨rfl, hq⟩
  clear rA fA zA rB fB zB rR fR zR rX fX zX rY fY zY
  replace oA := oA.below hq
  replace oB := oB.below hq
  replace oR := oR.below hq
  replace oX := oX.below hq
  replace oY := oY.below hq
  replace hB := below_to hB hq
  clear hq
  obtain ⟨rA, fA⟩ := oA.rules
  have zA := oA.lt
  obtain ⟨rB, fB⟩ := oB.rules
  have zB := oB.lt
  obtain ⟨rR, fR⟩ := oR.rules
  have zR := oR.lt
  obtain ⟨rX, fX⟩ := oX.rules
  have zX := oX.lt
  obtain ⟨rY, fY⟩ := oY.rules
  have zY := oY.lt
  go_wp2_with fail
  refine (rrest_as x y S _ XL.out YL.out HL.out HS.out).mono ?_
  rintro e y6 ⟨rfl, hq⟩
  clear rA fA zA rB fB zB rR fR zR rX fX zX rY fY zY
  replace oA := oA.below hq
  replace oB := oB.below hq
  replace oR := oR.below hq
  replace oX := oX.below hq
  replace oY := oY.below hq
  replace hB := below_to hB hq
  clear hq
  obtain ⟨rA, fA⟩ := oA.rules
  have zA := oA.lt
  obtain ⟨rB, fB⟩ := oB.rules
  have zB := oB.lt
  obtain ⟨rR, fR⟩ := oR.rules
  have zR := oR.lt
  obtain ⟨rX, fX⟩ := oX.rules
  have zX := oX.lt
  obtain ⟨rY, fY⟩ := oY.rules
  have zY := oY.lt
  go_wp2_with fail
  refine calls_gen (fun W => Own W w.heap.size 78 [.int .i64 an, .int .i64 A] ∧ Own W (w.heap.size + 1) 78 [.int .i64 bn, .int .i64 B] ∧ Own W (w.heap.size + 1 + 1) 78 [.int .i64 0, .int .i64 0] ∧ Own W bX 151 [.int .u64 (dg S 0), .int .u64 (dg S 1), .int .u64 (dg S 2), .int .u64 (dg S 3)] ∧ Own W bY 151 [.int .u64 (dg y 0), .int .u64 (dg y 1), .int .u64 (dg y 2), .int .u64 (dg y 3)] ∧ Below w.heap.size w W) ⟨?_, ?_, ?_, ?_, ?_, ?_⟩ ?_
  · (repeat (first | (with_reducible refine Own.drewN ?_ _) | (with_reducible refine Own.alloc ?_ _) | (with_reducible refine Own.other ?_ (by omega) _ _))); exact oA
  · (repeat (first | (with_reducible refine Own.drewN ?_ _) | (with_reducible refine Own.alloc ?_ _) | (with_reducible refine Own.other ?_ (by omega) _ _))); exact oB
  · (repeat (first | (with_reducible refine Own.drewN ?_ _) | (with_reducible refine Own.alloc ?_ _) | (with_reducible refine Own.other ?_ (by omega) _ _))); exact oR
  · exact ((((oX.set 0 (.int .u64 (dg S 0))).set 1 (.int .u64 (dg S 1))).set 2 (.int .u64 (dg S 2))).set 3 (.int .u64 (dg S 3)))
  · (repeat (first | (with_reducible refine Own.drewN ?_ _) | (with_reducible refine Own.alloc ?_ _) | (with_reducible refine Own.other ?_ (by omega) _ _))); exact oY
  · repeat (first | (with_reducible refine bd ?_ _) | (with_reducible refine Below.alloc ?_ (by first | omega | (simp; omega)) _) | (with_reducible refine Below.setCell ?_ (by first | omega | (simp; done) | (simp; omega)) _))
    exact hB
  clear rA fA zA rB fB zB rR fR zR rX fX zX rY fY zY oA oB oR oX oY hB
  rintro y7 ⟨oA, oB, oR, oX, oY, hB⟩
  obtain ⟨rA, fA⟩ := oA.rules
  have zA := oA.lt
  obtain ⟨rB, fB⟩ := oB.rules
  have zB := oB.lt
  obtain ⟨rR, fR⟩ := oR.rules
  have zR := oR.lt
  obtain ⟨rX, fX⟩ := oX.rules
  have zX := oX.lt
  obtain ⟨rY, fY⟩ := oY.rules
  have zY := oY.lt
  refine (rover_as S d qd r _ SL.out d0 (by omega) HH.out.qd' HH.out.rd).mono ?_
  rintro e y8 ⟨rfl, hq⟩
  clear rA fA zA rB fB zB rR fR zR rX fX zX rY fY zY
  replace oA := oA.below hq
  replace oB := oB.below hq
  replace oR := oR.below hq
  replace oX := oX.below hq
  replace oY := oY.below hq
  replace hB := below_to hB hq
  clear hq
  obtain ⟨rA, fA⟩ := oA.rules
  have zA := oA.lt
  obtain ⟨rB, fB⟩ := oB.rules
  have zB := oB.lt
  obtain ⟨rR, fR⟩ := oR.rules
  have zR := oR.lt
  obtain ⟨rX, fX⟩ := oX.rules
  have zX := oX.lt
  obtain ⟨rY, fY⟩ := oY.rules
  have zY := oY.lt
  go_wp2_with fail
  refine (rgcd_as r d g _ rl.out (by omega) HH.out.gg).mono ?_
  rintro e _ ⟨rfl, nr, rfl⟩
  go_wp2_with fail
  refine calls_gen (fun W => Own W w.heap.size 78 [.int .i64 an, .int .i64 A] ∧ Own W (w.heap.size + 1) 78 [.int .i64 bn, .int .i64 B] ∧ Own W (w.heap.size + 1 + 1) 78 [.int .i64 0, .int .i64 0] ∧ Own W bX 151 [.int .u64 (dg S 0), .int .u64 (dg S 1), .int .u64 (dg S 2), .int .u64 (dg S 3)] ∧ Own W bY 151 [.int .u64 (dg y 0), .int .u64 (dg y 1), .int .u64 (dg y 2), .int .u64 (dg y 3)] ∧ Below w.heap.size w W) ⟨?_, ?_, ?_, ?_, ?_, ?_⟩ ?_
  · (repeat (first | (with_reducible refine Own.drewN ?_ _) | (with_reducible refine Own.alloc ?_ _) | (with_reducible refine Own.other ?_ (by omega) _ _))); exact oA
  · (repeat (first | (with_reducible refine Own.drewN ?_ _) | (with_reducible refine Own.alloc ?_ _) | (with_reducible refine Own.other ?_ (by omega) _ _))); exact oB
  · (repeat (first | (with_reducible refine Own.drewN ?_ _) | (with_reducible refine Own.alloc ?_ _) | (with_reducible refine Own.other ?_ (by omega) _ _))); exact oR
  · (repeat (first | (with_reducible refine Own.drewN ?_ _) | (with_reducible refine Own.alloc ?_ _) | (with_reducible refine Own.other ?_ (by omega) _ _))); exact oX
  · (repeat (first | (with_reducible refine Own.drewN ?_ _) | (with_reducible refine Own.alloc ?_ _) | (with_reducible refine Own.other ?_ (by omega) _ _))); exact oY
  · repeat (first | (with_reducible refine bd ?_ _) | (with_reducible refine Below.alloc ?_ (by first | omega | (simp; omega)) _) | (with_reducible refine Below.setCell ?_ (by first | omega | (simp; done) | (simp; omega)) _))
    exact hB
  clear rA fA zA rB fB zB rR fR zR rX fX zX rY fY zY oA oB oR oX oY hB
  rintro y9 ⟨oA, oB, oR, oX, oY, hB⟩
  obtain ⟨rA, fA⟩ := oA.rules
  have zA := oA.lt
  obtain ⟨rB, fB⟩ := oB.rules
  have zB := oB.lt
  obtain ⟨rR, fR⟩ := oR.rules
  have zR := oR.lt
  obtain ⟨rX, fX⟩ := oX.rules
  have zX := oX.lt
  obtain ⟨rY, fY⟩ := oY.rules
  have zY := oY.lt
  obtain ⟨r2, hr2⟩ : ∃ r, S % g = r := ⟨_, rfl⟩
  have HR2 := Lib.hid hr2
  clear hr2
  refine (rover_as S g num r2 _ SL.out g0 (by omega) HH.out.nd HR2.out).mono ?_
  rintro e y10 ⟨rfl, hq⟩
  clear rA fA zA rB fB zB rR fR zR rX fX zX rY fY zY
  replace oA := oA.below hq
  replace oB := oB.below hq
  replace oR := oR.below hq
  replace oX := oX.below hq
  replace oY := oY.below hq
  replace hB := below_to hB hq
  clear hq
  obtain ⟨rA, fA⟩ := oA.rules
  have zA := oA.lt
  obtain ⟨rB, fB⟩ := oB.rules
  have zB := oB.lt
  obtain ⟨rR, fR⟩ := oR.rules
  have zR := oR.lt
  obtain ⟨rX, fX⟩ := oX.rules
  have zX := oX.lt
  obtain ⟨rY, fY⟩ := oY.rules
  have zY := oY.lt
  have NL : Hid (num < 340282366920938463463374607431768211456) := by show _ < _; have h1 := HH.out.nd; have h2 := Nat.div_le_self S g; have h3 := SL.out; omega
  by_cases hz : num = 0
  · have HZ := Lib.hid (HH.out.zero hz)
    have EQ : ∀ W, (Op.equalIn 9999 149 (.agg #[.int .u64 (dg num 0), .int .u64 (dg num 1), .int .u64 (dg num 2), .int .u64 (dg num 3)]) (.agg #[.int .u64 0, .int .u64 0, .int .u64 0, .int .u64 0])).run Try.prog W = .ok true W := fun W => by rw [run_eq4 9997, dgs_zero NL.out, decide_eq_true hz]
    clear hz
    go_wp2
    refine bp_gen' (fun W => Own W (w.heap.size + 1 + 1) 78 [.int .i64 0, .int .i64 1] ∧ Below w.heap.size w W) ⟨((((((oR.other (by omega) 0 _).other (by omega) 1 _).other (by omega) 2 _).other (by omega) 3 _)).set 0 (.int .i64 0)).set 1 (.int .i64 1), ?_⟩ ?_
    · repeat (refine Below.setCell ?_ (by first | omega | (simp; done) | (simp; omega)) _)
      exact hB
    rintro wz ⟨oz, bz⟩
    obtain ⟨rz, fz⟩ := oz.rules
    clear oz
    refine bodyPost_ret (v := .tuple #[.agg #[.int .i64 0, .int .i64 1], .int .i64 0]) (by simp [results, Try.results48, go_sem, rz]) rfl ⟨by rw [HZ.out], ?_⟩
    repeat (refine Below.setCell ?_ (by first | omega | (simp; done) | (simp; omega)) _)
    exact bz
  have EQ : ∀ W, (Op.equalIn 9999 149 (.agg #[.int .u64 (dg num 0), .int .u64 (dg num 1), .int .u64 (dg num 2), .int .u64 (dg num 3)]) (.agg #[.int .u64 0, .int .u64 0, .int .u64 0, .int .u64 0])).run Try.prog W = .ok false W := fun W => by rw [run_eq4 9997, dgs_zero NL.out, decide_eq_false hz]
  have HV := Lib.hid HH.out.out
  have DL : Hid (a * bg < 340282366920938463463374607431768211456) := by show _ < _; have := mul36 (a := a) (b := bg) (by omega) (by omega); omega
  obtain ⟨dn, hdn⟩ : ∃ x, a * bg = x := ⟨_, rfl⟩
  have HDN := Lib.hid hdn
  rw [hdn] at HV DL
  clear hdn hz
  go_wp2
  refine wp_gen (fun W => Own W w.heap.size 78 [.int .i64 an, .int .i64 A] ∧ Own W (w.heap.size + 1) 78 [.int .i64 bn, .int .i64 B] ∧ Own W (w.heap.size + 1 + 1) 78 [.int .i64 0, .int .i64 0] ∧ Own W bX 151 [.int .u64 (dg num 0), .int .u64 (dg num 1), .int .u64 (dg num 2), .int .u64 (dg num 3)] ∧ Own W bY 151 [.int .u64 (dg y 0), .int .u64 (dg y 1), .int .u64 (dg y 2), .int .u64 (dg y 3)] ∧ Below w.heap.size w W) ⟨?_, ?_, ?_, ?_, ?_, ?_⟩ ?_
  · (repeat (first | (with_reducible refine Own.drewN ?_ _) | (with_reducible refine Own.alloc ?_ _) | (with_reducible refine Own.other ?_ (by omega) _ _))); exact oA
  · (repeat (first | (with_reducible refine Own.drewN ?_ _) | (with_reducible refine Own.alloc ?_ _) | (with_reducible refine Own.other ?_ (by omega) _ _))); exact oB
  · (repeat (first | (with_reducible refine Own.drewN ?_ _) | (with_reducible refine Own.alloc ?_ _) | (with_reducible refine Own.other ?_ (by omega) _ _))); exact oR
  · exact ((((oX.set 0 (.int .u64 (dg num 0))).set 1 (.int .u64 (dg num 1))).set 2 (.int .u64 (dg num 2))).set 3 (.int .u64 (dg num 3)))
  · (repeat (first | (with_reducible refine Own.drewN ?_ _) | (with_reducible refine Own.alloc ?_ _) | (with_reducible refine Own.other ?_ (by omega) _ _))); exact oY
  · repeat (first | (with_reducible refine bd ?_ _) | (with_reducible refine Below.alloc ?_ (by first | omega | (simp; omega)) _) | (with_reducible refine Below.setCell ?_ (by first | omega | (simp; done) | (simp; omega)) _))
    exact hB
  clear rA fA zA rB fB zB rR fR zR rX fX zX rY fY zY oA oB oR oX oY hB
  rintro y11 ⟨oA, oB, oR, oX, oY, hB⟩
  obtain ⟨rA, fA⟩ := oA.rules
  have zA := oA.lt
  obtain ⟨rB, fB⟩ := oB.rules
  have zB := oB.lt
  obtain ⟨rR, fR⟩ := oR.rules
  have zR := oR.lt
  obtain ⟨rX, fX⟩ := oX.rules
  have zX := oX.lt
  obtain ⟨rY, fY⟩ := oY.rules
  have zY := oY.lt
  clear EQ
  have gl := @grow_lt
  go_wp2_with fail
  refine wp_region_st [.t [0, 1, 2, 3, 4, 5, 6, 7, 8, 9, 10, 11, 12, 13], .f 14, .f 15, .t [16, 17]] [18, 19] (by kernel_rfl) (by kernel_rfl) (fun _ _ _ _ _ h => h) ?_
  refine wpX_t ?_
  try simp only [opsAt, List.getElem?_toArray, List.getElem?_cons_zero, List.getElem?_cons_succ, Option.getD_some]
  repeat (go_big_quiet_step (fail))
  refine wpQuiet_nil ?_
  refine wpX_f rfl rfl (fun K' hK' => ?_)
  go_simp
  refine (product_as a bg dn _ (by omega) (by omega) HDN.out).mono ?_
  rintro e y12 ⟨rfl, hq1⟩
  refine hK' _ _ (grow_of (below_to ((Below.refl _ _).drew) hq1)) ?_
  clear hK' K'
  refine wpX_f rfl rfl (fun K' hK' => ?_)
  go_simp
  refine (lowest_any _ num dn _ NL.out DL.out).mono ?_
  rintro e y13 ⟨rfl, hq2⟩
  refine hK' _ _ (grow_of (below_to (below_to ((Below.refl _ _).drew) hq1) hq2)) ?_
  clear hK' K'
  refine wpX_t ?_
  try simp only [opsAt, List.getElem?_toArray, List.getElem?_cons_zero, List.getElem?_cons_succ, Option.getD_some]
  repeat (go_big_quiet_step (fail))
  refine wpQuiet_nil ?_
  refine wpX_nil ?_
  try simp only [opsAt, List.getElem?_toArray, List.getElem?_cons_zero, List.getElem?_cons_succ, Option.getD_some]
  clear gl
  clear rA fA zA rB fB zB rR fR zR rX fX zX rY fY zY oA oB oX oY
  replace oR := ((oR.drew).below hq1).below hq2
  replace hB := below_to (below_to (hB.drew) hq1) hq2
  clear hq1 hq2
  obtain ⟨rR, fR⟩ := oR.rules
  have zR := oR.lt
  generalize bld s (num : Int) (dn : Int) = rs at *
  go_wp2
  refine bp_gen' (fun W => Own W (w.heap.size + 1 + 1) 78 [.int .i64 rs.n, .int .i64 rs.d] ∧ Below w.heap.size w W) ⟨((oR).set 0 (.int .i64 rs.n)).set 1 (.int .i64 rs.d), ?_⟩ ?_
  · repeat (refine Below.setCell ?_ (by first | omega | (simp; done) | (simp; omega)) _)
    exact hB
  rintro wz ⟨oz, bz⟩
  obtain ⟨rz, fz⟩ := oz.rules
  clear oz
  refine bodyPost_ret (v := .tuple #[.agg #[.int .i64 rs.n, .int .i64 rs.d], .int .i64 rs.e]) (by simp [results, Try.results48, go_sem, rz]) rfl ⟨by rw [HV.out], ?_⟩
  repeat (refine Below.setCell ?_ (by first | omega | (simp; done) | (simp; omega)) _)
  exact bz
end Go.Proofs.Ythlcmlngmcoknaa
