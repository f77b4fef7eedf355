/- What is proved here: contracts of functions and plain facts, several texts in one; each one says ahead what it proves, and its conditions. -/
import Derived.Test.YtfoemacgmehpiaaM13
import Derived.Test.YtfoemacgmehpiaaM17
import Derived.Test.YtfoemacgmehpiaaM05
/- What is proved here: the contract of the reference's Less of fractions. Condition: 64-bit numbers, denominators greater than 0. -/
namespace Go.Proofs.Ytfoemacgmehpiaa
open Go.RowKit

set_option maxRecDepth 100000 in
set_option maxHeartbeats 4000000 in
theorem less_same (an ad bn bd : Int) (w : World) (h1 : i64 an) (h2 : 1 ≤ ad) (h3 : ad ≤ 9223372036854775807) (h4 : i64 bn) (h5 : 1 ≤ bd) (h6 : bd ≤ 9223372036854775807) (hs : decide (an < 0) = decide (bn < 0)) :
    Calls Try.prog 105 #[.agg #[.int .i64 an, .int .i64 ad], .agg #[.int .i64 bn, .int .i64 bd]] w fun e w' => e = .returned (.bool (decide (fcmp an ad bn bd = -1))) ∧ Below w.heap.size w w' := by
  obtain ⟨a1, a2⟩ := h1
  obtain ⟨b1, b2⟩ := h4
  have t1 : (decide (an < 0) != decide (bn < 0)) = false := by simp [hs]
  have t2 : (!decide (an < 0) == decide (bn < 0)) = false := by simp [hs]
  have hX : an.natAbs * bd.natAbs < 340282366920938463463374607431768211456 := by have := Nat.mul_le_mul (show an.natAbs ≤ 9223372036854775808 by omega) (show bd.natAbs ≤ 9223372036854775808 by omega); omega
  have hY : bn.natAbs * ad.natAbs < 340282366920938463463374607431768211456 := by have := Nat.mul_le_mul (show bn.natAbs ≤ 9223372036854775808 by omega) (show ad.natAbs ≤ 9223372036854775808 by omega); omega
  have H : Hid (decide (fcmp an ad bn bd = -1) = if an < 0 then decide (bn.natAbs * ad.natAbs < an.natAbs * bd.natAbs) else decide (an.natAbs * bd.natAbs < bn.natAbs * ad.natAbs)) := by
    show _ = _
    by_cases p : an < 0
    · have q : bn < 0 := by rw [decide_eq_decide] at hs; omega
      rw [if_pos p, fcmp_neg p q h2 h5]
      generalize an.natAbs * bd.natAbs = x
      generalize bn.natAbs * ad.natAbs = y
      unfold cmpN
      refine decide_eq_decide.2 ?_
      split
      · omega
      · split <;> omega
    · have q : ¬ bn < 0 := by rw [decide_eq_decide] at hs; omega
      rw [if_neg p, fcmp_nn (by omega) (by omega) h2 h5]
      generalize an.natAbs * bd.natAbs = x
      generalize bn.natAbs * ad.natAbs = y
      unfold cmpN
      refine decide_eq_decide.2 ?_
      split
      · omega
      · split <;> omega
  have hsb : an < 0 ↔ bn < 0 := decide_eq_decide.1 hs
  clear hs
  by_cases pa : an < 0
  · have HH : Hid (decide (fcmp an ad bn bd = -1) = decide (bn.natAbs * ad.natAbs < an.natAbs * bd.natAbs)) := by show _ = _; rw [H.out, if_pos pa]
    have pb : bn < 0 := hsb.1 pa
    clear H hsb
    go_enter Try.func105, Try.ntmps105
    go_wp2_with fail
    refine wp_region_fl 131 [.int .u64 0, .int .u64 0, .int .u64 0, .int .u64 0] [.t [0, 1, 3, 4, 5, 7, 8, 10, 11, 12], .f 2, .f 6, .f 9, .f 13] [14, 15] [16, 17] (by kernel_rfl) (by kernel_rfl) (fun _ => by kernel_rfl) (fun _ _ _ _ _ h => h) ?_
    have gl := @grow_lt
    refine wpGS_t ?_
    try simp only [opsAt, List.getElem?_toArray, List.getElem?_cons_zero, List.getElem?_cons_succ, Option.getD_some]
    repeat (go_big_quiet_step (fail))
    refine wpQuiet_nil ?_
    refine wpGS_f (.int .u64 an.natAbs) rfl rfl (fun wg hwg => ?_) ?_
    · unfold gqAt
      go_simp
      exact ⟨rfl, abs_grow _ _ (by omega) (by omega)⟩
    refine wpGS_f (.agg #[.int .u64 (dg (an.natAbs * bd.natAbs) 0), .int .u64 (dg (an.natAbs * bd.natAbs) 1), .int .u64 (dg (an.natAbs * bd.natAbs) 2), .int .u64 (dg (an.natAbs * bd.natAbs) 3)]) rfl rfl (fun wg hwg => ?_) ?_
    · unfold gqAt
      go_simp
      exact ⟨rfl, product_of _ _ _ _ _ rfl (by omega) (by omega) (by omega)⟩
    refine wpGS_f (.int .u64 bn.natAbs) rfl rfl (fun wg hwg => ?_) ?_
    · unfold gqAt
      go_simp
      exact ⟨rfl, abs_grow _ _ (by omega) (by omega)⟩
    refine wpGS_f (.agg #[.int .u64 (dg (bn.natAbs * ad.natAbs) 0), .int .u64 (dg (bn.natAbs * ad.natAbs) 1), .int .u64 (dg (bn.natAbs * ad.natAbs) 2), .int .u64 (dg (bn.natAbs * ad.natAbs) 3)]) rfl rfl (fun wg hwg => ?_) ?_
    · unfold gqAt
      go_simp
      exact ⟨rfl, product_of _ _ _ _ _ rfl (by omega) (by omega) (by omega)⟩
    refine wpGS_nil ?_
    clear gl
    intro b5 hb5 hn5 b6 hb6 hn6 w' ⟨⟨hbw, o5⟩, o6⟩
    have hne : ¬ b5 = b6 := fun h => hn6 (by simp [h])
    have hne' : ¬ b6 = b5 := fun h => hn6 (by simp [h])
    simp at hb5 hb6
    clear hn5 hn6
    obtain ⟨c1, f1⟩ := bcell hbw
    have z1 := (hbw).size
    try simp at z1
    try simp at c1
    try simp at f1
    have z1a : w.heap.size < w'.heap.size := by omega
    have z1b : w.heap.size + 1 < w'.heap.size := by omega
    obtain ⟨r5, q5⟩ := o5.rules
    obtain ⟨r6, q6⟩ := o6.rules
    try simp only [opsAt, List.getElem?_toArray, List.getElem?_cons_zero, List.getElem?_cons_succ, Option.getD_some]
    generalize an.natAbs * bd.natAbs = X at *
    generalize bn.natAbs * ad.natAbs = Y at *
    go_wp2_with fail
    refine (bbelow_any Y X _ hY hX).mono ?_
    rintro e w2 ⟨rfl, hb2⟩
    go_wp2
    go_ret
    refine ⟨by rw [HH.out]; try rfl, below_to ?_ hb2⟩
    repeat (refine Below.setCell ?_ (by first | omega | (simp; omega)) _)
    exact below_to (ba2 _ _ _) hbw
  · have HH : Hid (decide (fcmp an ad bn bd = -1) = decide (an.natAbs * bd.natAbs < bn.natAbs * ad.natAbs)) := by show _ = _; rw [H.out, if_neg pa]
    have pb : ¬ bn < 0 := fun h => pa (hsb.2 h)
    clear H hsb
    go_enter Try.func105, Try.ntmps105
    go_wp2_with fail
    refine wp_region_fl 131 [.int .u64 0, .int .u64 0, .int .u64 0, .int .u64 0] [.t [0, 1, 3, 4, 5, 7, 8, 10, 11, 12], .f 2, .f 6, .f 9, .f 13] [14, 15] [16, 17] (by kernel_rfl) (by kernel_rfl) (fun _ => by kernel_rfl) (fun _ _ _ _ _ h => h) ?_
    have gl := @grow_lt
    refine wpGS_t ?_
    try simp only [opsAt, List.getElem?_toArray, List.getElem?_cons_zero, List.getElem?_cons_succ, Option.getD_some]
    repeat (go_big_quiet_step (fail))
    refine wpQuiet_nil ?_
    refine wpGS_f (.int .u64 an.natAbs) rfl rfl (fun wg hwg => ?_) ?_
    · unfold gqAt
      go_simp
      exact ⟨rfl, abs_grow _ _ (by omega) (by omega)⟩
    refine wpGS_f (.agg #[.int .u64 (dg (an.natAbs * bd.natAbs) 0), .int .u64 (dg (an.natAbs * bd.natAbs) 1), .int .u64 (dg (an.natAbs * bd.natAbs) 2), .int .u64 (dg (an.natAbs * bd.natAbs) 3)]) rfl rfl (fun wg hwg => ?_) ?_
    · unfold gqAt
      go_simp
      exact ⟨rfl, product_of _ _ _ _ _ rfl (by omega) (by omega) (by omega)⟩
    refine wpGS_f (.int .u64 bn.natAbs) rfl rfl (fun wg hwg => ?_) ?_
    · unfold gqAt
      go_simp
      exact ⟨rfl, abs_grow _ _ (by omega) (by omega)⟩
    refine wpGS_f (.agg #[.int .u64 (dg (bn.natAbs * ad.natAbs) 0), .int .u64 (dg (bn.natAbs * ad.natAbs) 1), .int .u64 (dg (bn.natAbs * ad.natAbs) 2), .int .u64 (dg (bn.natAbs * ad.natAbs) 3)]) rfl rfl (fun wg hwg => ?_) ?_
    · unfold gqAt
      go_simp
      exact ⟨rfl, product_of _ _ _ _ _ rfl (by omega) (by omega) (by omega)⟩
    refine wpGS_nil ?_
    clear gl
    intro b5 hb5 hn5 b6 hb6 hn6 w' ⟨⟨hbw, o5⟩, o6⟩
    have hne : ¬ b5 = b6 := fun h => hn6 (by simp [h])
    have hne' : ¬ b6 = b5 := fun h => hn6 (by simp [h])
    simp at hb5 hb6
    clear hn5 hn6
    obtain ⟨c1, f1⟩ := bcell hbw
    have z1 := (hbw).size
    try simp at z1
    try simp at c1
    try simp at f1
    have z1a : w.heap.size < w'.heap.size := by omega
    have z1b : w.heap.size + 1 < w'.heap.size := by omega
    obtain ⟨r5, q5⟩ := o5.rules
    obtain ⟨r6, q6⟩ := o6.rules
    try simp only [opsAt, List.getElem?_toArray, List.getElem?_cons_zero, List.getElem?_cons_succ, Option.getD_some]
    generalize an.natAbs * bd.natAbs = X at *
    generalize bn.natAbs * ad.natAbs = Y at *
    go_wp2_with fail
    refine (bbelow_any X Y _ hX hY).mono ?_
    rintro e w2 ⟨rfl, hb2⟩
    go_wp2
    go_ret
    refine ⟨by rw [HH.out]; try rfl, below_to ?_ hb2⟩
    repeat (refine Below.setCell ?_ (by first | omega | (simp; omega)) _)
    exact below_to (ba2 _ _ _) hbw

theorem less_any (an ad bn bd : Int) (w : World) (h1 : i64 an) (h2 : 1 ≤ ad) (h3 : ad ≤ 9223372036854775807) (h4 : i64 bn) (h5 : 1 ≤ bd) (h6 : bd ≤ 9223372036854775807) :
    Calls Try.prog 105 #[.agg #[.int .i64 an, .int .i64 ad], .agg #[.int .i64 bn, .int .i64 bd]] w fun e w' => e = .returned (.bool (decide (fcmp an ad bn bd = -1))) ∧ Below w.heap.size w w' := by
  by_cases hs : decide (an < 0) = decide (bn < 0)
  · exact less_same an ad bn bd w h1 h2 h3 h4 h5 h6 hs
  · obtain ⟨a1, a2⟩ := h1
    obtain ⟨b1, b2⟩ := h4
    have t1 : (decide (an < 0) != decide (bn < 0)) = true := by simpa using hs
    have t2 : (!decide (an < 0) == decide (bn < 0)) = true := by simpa using hs
    have H : Hid (decide (fcmp an ad bn bd = -1) = decide (an < 0)) := by
      show _ = _
      rw [decide_eq_decide] at hs
      by_cases p : an < 0
      · rw [fcmp_lt p (by omega) h2 h5]; simp [p]
      · rw [fcmp_gt (by omega) (by omega) h2 h5]; simp [p]
    clear hs
    go_enter Try.func105, Try.ntmps105
    go_wp2
    go_ret
    exact ⟨by rw [H.out]; try rfl, ba2 _ _ _⟩

end Go.Proofs.Ytfoemacgmehpiaa

/- What is proved here: the contract of the reference's Make. Condition: the numbers are 64-bit integers. -/
namespace Go.Proofs.Ytfoemacgmehpiaa
open Go.RowKit

set_option maxHeartbeats 800000 in
theorem rmake_any (num den : Int) (w : World) (h1 : i64 num) (h2 : i64 den) :
    Calls Try.prog 104 #[.int .i64 num, .int .i64 den] w fun e w' => e = .returned (.tuple #[.agg #[.int .i64 (fmk num den).n, .int .i64 (fmk num den).d], .int .i64 (fmk num den).e]) ∧ Below w.heap.size w w' := by
  by_cases h : den = 0
  · subst h
    rw [fmk_0]
    go_enter Try.func104, Try.ntmps104
    go_wp2
    refine bodyPost_ret (v := .tuple #[.agg #[.int .i64 0, .int .i64 0], .int .i64 18]) (by simp [results, Try.results104, go_sem]) rfl ⟨rfl, ?_⟩
    repeat (refine Below.setCell ?_ (by first | omega | (simp; done) | (simp; omega)) _)
    exact ba1 _ _
  · have H := Lib.hid (fmk_ne (num := num) h)
    obtain ⟨n1, n2⟩ := h1
    obtain ⟨d1, d2⟩ := h2
    have b1 : (den == 0) = false := by simpa using h
    have hg : 0 < Nat.gcd num.natAbs den.natAbs := Nat.gcd_pos_of_pos_right _ (by omega)
    have hgl : Nat.gcd num.natAbs den.natAbs ≤ den.natAbs := Nat.gcd_le_right _ (by omega)
    have na : num.natAbs ≤ 9223372036854775808 := by omega
    have da : den.natAbs ≤ 9223372036854775808 := by omega
    have q1 := Nat.div_le_self num.natAbs (Nat.gcd num.natAbs den.natAbs)
    have q2 := Nat.div_le_self den.natAbs (Nat.gcd num.natAbs den.natAbs)
    have e1 := wrap_quo num.natAbs (Nat.gcd num.natAbs den.natAbs) na
    have e2 := wrap_quo den.natAbs (Nat.gcd num.natAbs den.natAbs) da
    have k1 : (num.natAbs : Int) / ((Nat.gcd num.natAbs den.natAbs : Nat) : Int) = ((num.natAbs / Nat.gcd num.natAbs den.natAbs : Nat) : Int) := (Int.natCast_ediv _ _).symm
    have k2 : (den.natAbs : Int) / ((Nat.gcd num.natAbs den.natAbs : Nat) : Int) = ((den.natAbs / Nat.gcd num.natAbs den.natAbs : Nat) : Int) := (Int.natCast_ediv _ _).symm
    have H' : Hid (fmk num den = bld (decide (num < 0) != decide (den < 0)) (num.natAbs / Nat.gcd num.natAbs den.natAbs : Nat) (den.natAbs / Nat.gcd num.natAbs den.natAbs : Nat)) := by show _ = _; rw [H.out, k1, k2]
    clear H
    generalize hgg : Nat.gcd num.natAbs den.natAbs = g at *
    have HG := Lib.hid hgg
    have g0 : ((g : Int) == 0) = false := by simp; omega
    have g1 : ¬ ((g : Int) = 0) := by omega
    clear hgg h
    generalize num.natAbs / g = u at *
    generalize den.natAbs / g = v at *
    go_enter Try.func104, Try.ntmps104
    go_wp2_with fail
    refine (abs_any _ _ (by omega) (by omega)).mono ?_
    rintro e _ ⟨rfl, rfl⟩
    go_wp2_with fail
    refine (abs_any _ _ (by omega) (by omega)).mono ?_
    rintro e _ ⟨rfl, rfl⟩
    go_wp2_with fail
    refine (rgcd_any _ _ _ (by omega) (by omega)).mono ?_
    rintro e w1 ⟨rfl, nd, rfl⟩
    rw [HG.out]
    go_wp2_with fail
    refine (abs_any _ _ (by omega) (by omega)).mono ?_
    rintro e _ ⟨rfl, rfl⟩
    go_wp2_with fail
    refine (big_any u _ (by omega)).mono ?_
    rintro e w1 ⟨rfl, hb1⟩
    obtain ⟨c1, f1⟩ := bcell hb1
    have z1 := (hb1).size
    try simp at z1
    try simp at c1
    try simp at f1
    have z1a : w.heap.size < w1.heap.size := by omega
    go_wp2_with fail
    refine (abs_any _ _ (by omega) (by omega)).mono ?_
    rintro e _ ⟨rfl, rfl⟩
    go_wp2_with fail
    refine (big_any v _ (by omega)).mono ?_
    rintro e w2 ⟨rfl, hb2⟩
    obtain ⟨c2, f2⟩ := bcell hb2
    have z2 := (hb2).size
    try simp at z2
    try simp at c2
    try simp at f2
    have z2a : w.heap.size < w2.heap.size := by omega
    go_wp2_with fail
    refine (lowest_any _ u v _ (by omega) (by omega)).mono ?_
    rintro e w3 ⟨rfl, hb3⟩
    obtain ⟨c3, f3⟩ := bcell hb3
    have z3 := (hb3).size
    try simp at z3
    try simp at c3
    try simp at f3
    have z3a : w.heap.size < w3.heap.size := by omega
    generalize hr : bld (!decide (num < 0) == decide (den < 0)) ↑u ↑v = r at *
    have HR : Hid (fmk num den = r) := by show _ = _; rw [H'.out, ← hr]; try rfl
    clear hr H'
    go_wp2
    refine bodyPost_ret (v := .tuple #[.agg #[.int .i64 r.n, .int .i64 r.d], .int .i64 r.e]) (by simp [results, Try.results104, go_sem, c1, c2, c3, z1a, z2a]) rfl ⟨by rw [HR.out], ?_⟩
    repeat (refine Below.setCell ?_ (by first | omega | (simp; done) | (simp; omega)) _)
    exact below_to (below_to (below_to (below_to (ba1 _ _) (below_drewN _ _)) hb1) hb2) hb3

end Go.Proofs.Ytfoemacgmehpiaa

/- What is proved here: the contract of fringeref37.Point. Condition: a system and a slice of fractions that can be read; Point: a system that has a row. -/
namespace Go.Proofs.Ytfoemacgmehpiaa
open Go.RowKit

set_option maxRecDepth 100000 in
set_option maxHeartbeats 4000000 in
theorem rnpt_any (A : List (List Int)) (x : List (Int × Int)) (va vb vx : Value) (w : World) (hA : SS w va A) (hx : SF w vx x) (ix : FI x) (l1 : 0 < A.length) :
    Calls Try.prog 19 #[.agg #[va, vb], vx] w fun e w' => e = .returned (.bool (pointB (A.getD 0 []).length x)) ∧ Below w.heap.size w w' := by
  have IX := Lib.hid ix
  obtain ⟨ada, capa, rfl, ha1, ha2, _⟩ := hA.open
  obtain ⟨adx, capx, rfl, hx1, hx2, _⟩ := hx.open
  clear ix
  have G0 : Hid ((A.getD 0 []).length = A[0].length) := by show _ = _; rw [getD_get l1]
  go_enter Try.func19, Try.ntmps19
  have oS := Own.new w 25 [.slice ada A.length capa, vb]
  have hy := ba1 w (.cells #[.slice ada A.length capa, vb] 25)
  have SA := Lib.hid (hA.below hy)
  have SX := Lib.hid (hx.below hy)
  clear hA hx
  go_wp2_with fail
  generalize w.alloc (.cells #[.slice ada A.length capa, vb] 25) = y1 at *
  go_loopw [5] (fun i wr => ∃ k : Nat, k ≤ x.length ∧ i = .int .i64 k ∧ Hid ((x.take k).all ptB = true) ∧ Below y1.heap.size y1 wr) (fun i _ => x.length - (intOf i).toNat)
  case atStart => exact ⟨0, Nat.zero_le _, rfl, rfl, Below.refl _ _⟩
  case round =>
    obtain ⟨k, hk, rfl, hv, hW⟩ := hrel
    rename World => W
    by_cases hlt : k < x.length
    · obtain ⟨_, _, e, _, _, H⟩ := (SX.out.below hW).open
      cases e
      obtain ⟨b', off', rfl, c1, c2⟩ := H.out k hlt
      obtain ⟨i1, i2⟩ := IX.out.get k hlt
      clear H
      have XN := Lib.hid (fun h => pointB_all (n := (A.getD 0 []).length) (all_not (p := ptB) hlt h))
      have XT := Lib.hid (fun h => all_take (p := ptB) hlt hv.out h)
      have K1 := Lib.hid (ptB_chk (p := x[k]))
      have K2 := Lib.hid (ptB_neg (p := x[k]))
      have K3 := Lib.hid (ptB_ok (p := x[k]))
      generalize x[k].1 = n1 at *
      generalize x[k].2 = d1 at *
      go_wp2_with fail
      refine (rcheck_any n1 d1 _ i1 i2).mono ?_
      rintro e y2 ⟨rfl, hq⟩
      replace c1 := below_cell hq c1
      replace c2 := below_cell hq c2
      replace hW := below_to hW hq
      clear hq
      by_cases h1 : fchk n1 d1 = 0
      case neg =>
        have HV := Lib.hid (XN.out (K1.out h1))
        have b3 : (fchk n1 d1 != 0) = true := by simpa using h1
        clear h1 XN XT K1 K2 K3
        go_wp2
        go_ret
        exact ⟨by rw [HV.out]; try rfl, below_to hy hW⟩
      have b3 : (fchk n1 d1 != 0) = false := by simp [h1]
      by_cases h2 : n1 < 0
      · have HV := Lib.hid (XN.out (K2.out h2))
        have b4 : decide (n1 < 0) = true := by simpa using h2
        clear h1 XN XT K1 K2 K3
        go_wp2
        go_ret
        exact ⟨by rw [HV.out]; try rfl, below_to hy hW⟩
      have b4 : decide (n1 < 0) = false := by simpa using h2
      have HV := Lib.hid (XT.out (K3.out h1 (by omega)))
      clear h1 XN XT K1 K2 K3
      go_wp2
      go_roundw
      case rel => exact ⟨k + 1, by omega, by go_num, HV, hW⟩
      case measure => simp [intOf]; try omega
    · have HV := Lib.hid (pointB_ok (n := (A.getD 0 []).length) (all_end hlt hv.out))
      obtain ⟨_, _, e, _, _, H⟩ := (SA.out.below hW).open
      cases e
      obtain ⟨b, off, ad0, cap0, rfl, d1, d2, d3, _⟩ := H.out 0 l1
      rw [Nat.add_zero] at d1
      clear H
      generalize A[0].length = n at *
      replace oS := oS.below hW
      obtain ⟨rS, fS⟩ := oS.rules
      have zS := oS.lt
      by_cases hl : x.length = n
      · have b5 : ((x.length : Int) == (n : Int)) = true := by simp [hl]
        have HL : Hid (decide (x.length = n) = true) := by show _ = _; simp [hl]
        clear hl
        go_wp2
        go_ret
        exact ⟨by rw [HV.out, G0.out, HL.out]; try rfl, below_to hy hW⟩
      · have b5 : ((x.length : Int) == (n : Int)) = false := by simp; omega
        have HL : Hid (decide (x.length = n) = false) := by show _ = _; simp [hl]
        clear hl
        go_wp2
        go_ret
        exact ⟨by rw [HV.out, G0.out, HL.out]; try rfl, below_to hy hW⟩
end Go.Proofs.Ytfoemacgmehpiaa
