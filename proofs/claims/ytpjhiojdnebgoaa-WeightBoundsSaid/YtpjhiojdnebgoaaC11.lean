/- What is proved here: contracts of functions and plain facts, several texts in one; each one says ahead what it proves, and its conditions. -/
import Derived.Test.YtpjhiojdnebgoaaC10
import Derived.Test.YtpjhiojdnebgoaaC07
/- What is proved here: the contract of weight.valueOf. Condition: both fractions are valid. -/
namespace Go.Proofs.Ytpjhiojdnebgoaa
open Go.RowKit

theorem wok_yes {rn rd n d : Int} (h : wok rn rd n d = true) : (-1000000000 ≤ rn ∧ rn ≤ 1000000000 ∧ rd ≤ 1000000000 ∧ -1000000000 ≤ n ∧ n ≤ 1000000000 ∧ d ≤ 1000000000) ∧ wden rd d ≤ 1000000000 ∧ cokB (rn * (wden rd d / rd)) (n * (wden rd d / d)) (wden rd d) = true := by
  unfold wok at h
  simp only [Bool.and_eq_true, decide_eq_true_eq] at h
  exact ⟨⟨h.1.1.1.1.1.1.1, h.1.1.1.1.1.1.2, h.1.1.1.1.1.2, h.1.1.1.1.2, h.1.1.1.2, h.1.1.2⟩, h.1.2, h.2⟩

set_option maxRecDepth 100000 in
set_option maxHeartbeats 8000000 in
theorem valueOf_0 (rn rd n d : Int) (w : World) (h1 : fchk rn rd = 0) (h2 : fchk n d = 0) (hw : wok rn rd n d = false) : Calls Try.prog 83 #[.agg #[.int .i64 rn, .int .i64 rd], .agg #[.int .i64 n, .int .i64 d]] w fun e w' => (∃ x y z : Int, e = .returned (.tuple #[.agg #[.int .i64 x, .int .i64 y, .int .i64 z], .bool false])) ∧ Below w.heap.size w w' := by
  obtain ⟨r1, r2, r3, r4, _⟩ := fok_of h1
  obtain ⟨n1, n2, n3, n4, _⟩ := fok_of h2
  have HW := Lib.hid hw
  clear hw h1 h2
  cases t0 : fit9 rn with
  | false =>
    go_enter Try.func83, Try.ntmps83
    go_wp2_with fail
    refine (fits_of _ _ _ t0).mono ?_
    rintro e _ ⟨rfl, rfl⟩
    go_wp2
    refine bodyPost_ret (v := .tuple #[.agg #[.int .i64 0, .int .i64 0, .int .i64 0], .bool false]) (by simp [results, Try.results83, go_sem]) rfl ⟨⟨_, _, _, rfl⟩, ?_⟩
    repeat (refine Below.setCell ?_ (by first | omega | (simp; done) | (simp; omega)) _)
    exact ba3 _ _ _ _
  | true =>
    have f0 := fit9_1 t0
    cases t1 : fit9 rd with
    | false =>
      go_enter Try.func83, Try.ntmps83
      go_wp2_with fail
      refine (fits_of _ _ _ t0).mono ?_
      rintro e _ ⟨rfl, rfl⟩
      go_wp2_with fail
      refine (fits_of _ _ _ t1).mono ?_
      rintro e _ ⟨rfl, rfl⟩
      go_wp2
      refine bodyPost_ret (v := .tuple #[.agg #[.int .i64 0, .int .i64 0, .int .i64 0], .bool false]) (by simp [results, Try.results83, go_sem]) rfl ⟨⟨_, _, _, rfl⟩, ?_⟩
      repeat (refine Below.setCell ?_ (by first | omega | (simp; done) | (simp; omega)) _)
      exact ba3 _ _ _ _
    | true =>
      have f1 := fit9_1 t1
      cases t2 : fit9 n with
      | false =>
        go_enter Try.func83, Try.ntmps83
        go_wp2_with fail
        refine (fits_of _ _ _ t0).mono ?_
        rintro e _ ⟨rfl, rfl⟩
        go_wp2_with fail
        refine (fits_of _ _ _ t1).mono ?_
        rintro e _ ⟨rfl, rfl⟩
        go_wp2_with fail
        refine (fits_of _ _ _ t2).mono ?_
        rintro e _ ⟨rfl, rfl⟩
        go_wp2
        refine bodyPost_ret (v := .tuple #[.agg #[.int .i64 0, .int .i64 0, .int .i64 0], .bool false]) (by simp [results, Try.results83, go_sem]) rfl ⟨⟨_, _, _, rfl⟩, ?_⟩
        repeat (refine Below.setCell ?_ (by first | omega | (simp; done) | (simp; omega)) _)
        exact ba3 _ _ _ _
      | true =>
        have f2 := fit9_1 t2
        cases t3 : fit9 d with
        | false =>
          go_enter Try.func83, Try.ntmps83
          go_wp2_with fail
          refine (fits_of _ _ _ t0).mono ?_
          rintro e _ ⟨rfl, rfl⟩
          go_wp2_with fail
          refine (fits_of _ _ _ t1).mono ?_
          rintro e _ ⟨rfl, rfl⟩
          go_wp2_with fail
          refine (fits_of _ _ _ t2).mono ?_
          rintro e _ ⟨rfl, rfl⟩
          go_wp2_with fail
          refine (fits_of _ _ _ t3).mono ?_
          rintro e _ ⟨rfl, rfl⟩
          go_wp2
          refine bodyPost_ret (v := .tuple #[.agg #[.int .i64 0, .int .i64 0, .int .i64 0], .bool false]) (by simp [results, Try.results83, go_sem]) rfl ⟨⟨_, _, _, rfl⟩, ?_⟩
          repeat (refine Below.setCell ?_ (by first | omega | (simp; done) | (simp; omega)) _)
          exact ba3 _ _ _ _
        | true =>
          have f3 := fit9_1 t3
          obtain ⟨D1, D2, D3, D4, D5⟩ := wden_facts r1 n1
          have s1 : s63 rd := ⟨by omega, by omega⟩
          have s2 : s63 d := ⟨by omega, by omega⟩
          have Hq := Lib.hid (wden_prog r1 n1)
          obtain ⟨q1, q2⟩ := quo_le (d := d) r1
          have gp : 0 < Nat.gcd rd.natAbs d.natAbs := Nat.gcd_pos_of_pos_left _ (by omega)
          have gb : ((((Nat.gcd rd.natAbs d.natAbs : Nat) : Int)) == 0) = false := by simp; omega
          have m1 := mul_bd9 (n := d) (k := rd.tdiv ((Nat.gcd rd.natAbs d.natAbs : Nat) : Int)) (by omega) (by omega) (by omega) (by omega)
          generalize hgq : rd.tdiv ((Nat.gcd rd.natAbs d.natAbs : Nat) : Int) = q at *
          have hqd : q * d = wden rd d := Hq.out
          have DB : wden rd d ≤ 1000000000000000000 := by rw [← hqd, Int.mul_comm]; exact m1.2
          clear Hq m1
          by_cases hD : wden rd d ≤ 1000000000
          case neg =>
            generalize hDD : wden rd d = D at *
            clear hDD D2 D3 D4 D5
            go_enter Try.func83, Try.ntmps83
            go_wp2_with fail
            refine (fits_of _ _ _ t0).mono ?_
            rintro e _ ⟨rfl, rfl⟩
            go_wp2_with fail
            refine (fits_of _ _ _ t1).mono ?_
            rintro e _ ⟨rfl, rfl⟩
            go_wp2_with fail
            refine (fits_of _ _ _ t2).mono ?_
            rintro e _ ⟨rfl, rfl⟩
            go_wp2_with fail
            refine (fits_of _ _ _ t3).mono ?_
            rintro e _ ⟨rfl, rfl⟩
            go_wp2
            go_quiet (first | (go_at_call 111; refine Calls.quiet_of (wgcd_any _ _ _ ?_ ?_) <;> assumption))
            go_wp2
            refine bodyPost_ret (v := .tuple #[.agg #[.int .i64 0, .int .i64 0, .int .i64 0], .bool false]) (by simp [results, Try.results83, go_sem]) rfl ⟨⟨_, _, _, rfl⟩, ?_⟩
            repeat (refine Below.setCell ?_ (by first | omega | (simp; done) | (simp; omega)) _)
            exact bd (ba3 _ _ _ _) _
          have Hc := Lib.hid (wok_ref (rn := rn) (n := n) r1 n1 (by omega) (by omega) hD)
          generalize hDD : wden rd d = D at *
          have HD := Lib.hid hDD
          clear hDD
          have T1 : D.tdiv rd = D / rd := Int.tdiv_eq_ediv_of_nonneg (by omega)
          have T2 : D.tdiv d = D / d := Int.tdiv_eq_ediv_of_nonneg (by omega)
          obtain ⟨a1, a2⟩ := quo_bd9 (m := D) r1 D1 hD
          obtain ⟨b1, b2⟩ := quo_bd9 (m := D) n1 D1 hD
          generalize hk1 : D / rd = k1 at *
          generalize hk2 : D / d = k2 at *
          have HK1 := Lib.hid hk1
          have HK2 := Lib.hid hk2
          clear hk1 hk2 D2 D3
          obtain ⟨u1, u2⟩ := mul_bd9 (n := rn) (k := k1) (by omega) (by omega) a1 a2
          obtain ⟨v1, v2⟩ := mul_bd9 (n := n) (k := k2) (by omega) (by omega) b1 b2
          have y1 : (rd == 0) = false := by simp; omega
          have y2 : (d == 0) = false := by simp; omega
          have hc : cokB (rn * k1) (n * k2) D = false := by rw [← Hc.out]; exact HW.out
          clear HW Hc
          go_enter Try.func83, Try.ntmps83
          go_wp2_with fail
          refine (fits_of _ _ _ t0).mono ?_
          rintro e _ ⟨rfl, rfl⟩
          go_wp2_with fail
          refine (fits_of _ _ _ t1).mono ?_
          rintro e _ ⟨rfl, rfl⟩
          go_wp2_with fail
          refine (fits_of _ _ _ t2).mono ?_
          rintro e _ ⟨rfl, rfl⟩
          go_wp2_with fail
          refine (fits_of _ _ _ t3).mono ?_
          rintro e _ ⟨rfl, rfl⟩
          go_wp2
          go_quiet (first | (go_at_call 111; refine Calls.quiet_of (wgcd_any _ _ _ ?_ ?_) <;> assumption))
          go_wp2
          have gl := @grow_lt
          go_wp2_with fail
          refine wp_region_st [.t [0, 1, 2, 3, 4, 5, 6, 7, 8, 9, 10, 11, 12, 13, 14, 15], .f 16] [17] (by kernel_rfl) (by kernel_rfl) (fun _ _ _ _ _ h => h) ?_
          refine wpX_t ?_
          try simp only [opsAt, List.getElem?_toArray, List.getElem?_cons_zero, List.getElem?_cons_succ, Option.getD_some]
          repeat (go_big_quiet_step (fail))
          refine wpQuiet_nil ?_
          refine wpX_f rfl rfl (fun K' hK' => ?_)
          go_simp
          refine hK' _ _ (grow_of (below_to ((Below.refl _ _).drew) (ba1 _ _))) ?_
          clear hK' K'
          refine wpX_nil ?_
          try simp only [opsAt, List.getElem?_toArray, List.getElem?_cons_zero, List.getElem?_cons_succ, Option.getD_some]
          clear gl
          go_wp2
          have gl := @grow_lt
          go_wp2_with fail
          refine wp_region_st [.t [0, 1], .f 2] [3, 4] (by kernel_rfl) (by kernel_rfl) (fun _ _ _ _ _ h => h) ?_
          refine wpX_t ?_
          try simp only [opsAt, List.getElem?_toArray, List.getElem?_cons_zero, List.getElem?_cons_succ, Option.getD_some]
          repeat (go_big_quiet_step (fail))
          refine wpQuiet_nil ?_
          refine wpX_f rfl rfl (fun K' hK' => ?_)
          go_simp
          refine (isValue_of _ _ _ _ _ hc).mono ?_
          rintro e w1 ⟨rfl, hb1⟩
          refine hK' _ _ (grow_of (below_to ((Below.refl _ _).drew) hb1)) ?_
          clear hK' K'
          obtain ⟨c1, f1⟩ := bcell hb1
          have z1 := (hb1).size
          try simp at z1
          try simp at c1
          try simp at f1
          have z1a : w.heap.size < w1.heap.size := by omega
          have z1b : w.heap.size + 1 < w1.heap.size := by omega
          have z1c : w.heap.size + 1 + 1 < w1.heap.size := by omega
          refine wpX_nil ?_
          try simp only [opsAt, List.getElem?_toArray, List.getElem?_cons_zero, List.getElem?_cons_succ, Option.getD_some]
          clear gl
          go_wp2
          refine bodyPost_ret (v := .tuple #[.agg #[.int .i64 (rn * k1), .int .i64 (n * k2), .int .i64 D], .bool false]) (by simp [results, Try.results83, go_sem, c1]) rfl ⟨⟨_, _, _, rfl⟩, ?_⟩
          repeat (refine Below.setCell ?_ (by first | omega | (simp; done) | (simp; omega)) _)
          exact below_to (Below.drew (below_to (bd (ba3 _ _ _ _) _) (ba1 _ _))) hb1

set_option maxRecDepth 100000 in
set_option maxHeartbeats 8000000 in
theorem valueOf_1 (rn rd n d : Int) (w : World) (h1 : fchk rn rd = 0) (h2 : fchk n d = 0) (hw : wok rn rd n d = true) : Calls Try.prog 83 #[.agg #[.int .i64 rn, .int .i64 rd], .agg #[.int .i64 n, .int .i64 d]] w fun e w' => e = .returned (.tuple #[.agg #[.int .i64 (wval rn rd n d).re, .int .i64 (wval rn rd n d).im, .int .i64 (wval rn rd n d).den], .bool true]) ∧ Below w.heap.size w w' := by
  obtain ⟨r1, r2, r3, r4, _⟩ := fok_of h1
  obtain ⟨n1, n2, n3, n4, _⟩ := fok_of h2
  obtain ⟨hfit, hD, _⟩ := wok_yes hw
  obtain ⟨g0, g1, g2, g3, g4, g5⟩ := hfit
  have t0 : fit9 rn = true := by unfold fit9; rw [decide_eq_true g0, decide_eq_true g1]; rfl
  have t1 : fit9 rd = true := by unfold fit9; rw [decide_eq_true (show -1000000000 ≤ rd by omega), decide_eq_true g2]; rfl
  have t2 : fit9 n = true := by unfold fit9; rw [decide_eq_true g3, decide_eq_true g4]; rfl
  have t3 : fit9 d = true := by unfold fit9; rw [decide_eq_true (show -1000000000 ≤ d by omega), decide_eq_true g5]; rfl
  have f0 := fit9_1 t0
  have f1 := fit9_1 t1
  have f2 := fit9_1 t2
  have f3 := fit9_1 t3
  have HW := Lib.hid hw
  have HVAL := Lib.hid (wval_1 hw)
  clear hw h1 h2
  obtain ⟨D1, D2, D3, D4, D5⟩ := wden_facts r1 n1
  have s1 : s63 rd := ⟨by omega, by omega⟩
  have s2 : s63 d := ⟨by omega, by omega⟩
  have Hq := Lib.hid (wden_prog r1 n1)
  obtain ⟨q1, q2⟩ := quo_le (d := d) r1
  have gp : 0 < Nat.gcd rd.natAbs d.natAbs := Nat.gcd_pos_of_pos_left _ (by omega)
  have gb : ((((Nat.gcd rd.natAbs d.natAbs : Nat) : Int)) == 0) = false := by simp; omega
  have m1 := mul_bd9 (n := d) (k := rd.tdiv ((Nat.gcd rd.natAbs d.natAbs : Nat) : Int)) (by omega) (by omega) (by omega) (by omega)
  generalize hgq : rd.tdiv ((Nat.gcd rd.natAbs d.natAbs : Nat) : Int) = q at *
  have hqd : q * d = wden rd d := Hq.out
  have DB : wden rd d ≤ 1000000000000000000 := by rw [← hqd, Int.mul_comm]; exact m1.2
  clear Hq m1
  have Hc := Lib.hid (wok_ref (rn := rn) (n := n) r1 n1 (by omega) (by omega) hD)
  generalize hDD : wden rd d = D at *
  have HD := Lib.hid hDD
  clear hDD
  have T1 : D.tdiv rd = D / rd := Int.tdiv_eq_ediv_of_nonneg (by omega)
  have T2 : D.tdiv d = D / d := Int.tdiv_eq_ediv_of_nonneg (by omega)
  obtain ⟨a1, a2⟩ := quo_bd9 (m := D) r1 D1 hD
  obtain ⟨b1, b2⟩ := quo_bd9 (m := D) n1 D1 hD
  generalize hk1 : D / rd = k1 at *
  generalize hk2 : D / d = k2 at *
  have HK1 := Lib.hid hk1
  have HK2 := Lib.hid hk2
  clear hk1 hk2 D2 D3
  obtain ⟨u1, u2⟩ := mul_bd9 (n := rn) (k := k1) (by omega) (by omega) a1 a2
  obtain ⟨v1, v2⟩ := mul_bd9 (n := n) (k := k2) (by omega) (by omega) b1 b2
  have y1 : (rd == 0) = false := by simp; omega
  have y2 : (d == 0) = false := by simp; omega
  have hc : cokB (rn * k1) (n * k2) D = true := by rw [← Hc.out]; exact HW.out
  clear HW Hc
  have HV : Hid (wval rn rd n d = ⟨rn * k1, n * k2, D, 0⟩) := HVAL
  clear HVAL
  go_enter Try.func83, Try.ntmps83
  go_wp2_with fail
  refine (fits_of _ _ _ t0).mono ?_
  rintro e _ ⟨rfl, rfl⟩
  go_wp2_with fail
  refine (fits_of _ _ _ t1).mono ?_
  rintro e _ ⟨rfl, rfl⟩
  go_wp2_with fail
  refine (fits_of _ _ _ t2).mono ?_
  rintro e _ ⟨rfl, rfl⟩
  go_wp2_with fail
  refine (fits_of _ _ _ t3).mono ?_
  rintro e _ ⟨rfl, rfl⟩
  go_wp2
  go_quiet (first | (go_at_call 111; refine Calls.quiet_of (wgcd_any _ _ _ ?_ ?_) <;> assumption))
  go_wp2
  have gl := @grow_lt
  go_wp2_with fail
  refine wp_region_st [.t [0, 1, 2, 3, 4, 5, 6, 7, 8, 9, 10, 11, 12, 13, 14, 15], .f 16] [17] (by kernel_rfl) (by kernel_rfl) (fun _ _ _ _ _ h => h) ?_
  refine wpX_t ?_
  try simp only [opsAt, List.getElem?_toArray, List.getElem?_cons_zero, List.getElem?_cons_succ, Option.getD_some]
  repeat (go_big_quiet_step (fail))
  refine wpQuiet_nil ?_
  refine wpX_f rfl rfl (fun K' hK' => ?_)
  go_simp
  refine hK' _ _ (grow_of (below_to ((Below.refl _ _).drew) (ba1 _ _))) ?_
  clear hK' K'
  refine wpX_nil ?_
  try simp only [opsAt, List.getElem?_toArray, List.getElem?_cons_zero, List.getElem?_cons_succ, Option.getD_some]
  clear gl
  go_wp2
  have gl := @grow_lt
  go_wp2_with fail
  refine wp_region_st [.t [0, 1], .f 2] [3, 4] (by kernel_rfl) (by kernel_rfl) (fun _ _ _ _ _ h => h) ?_
  refine wpX_t ?_
  try simp only [opsAt, List.getElem?_toArray, List.getElem?_cons_zero, List.getElem?_cons_succ, Option.getD_some]
  repeat (go_big_quiet_step (fail))
  refine wpQuiet_nil ?_
  refine wpX_f rfl rfl (fun K' hK' => ?_)
  go_simp
  refine (isValue_of _ _ _ _ _ hc).mono ?_
  rintro e w1 ⟨rfl, hb1⟩
  refine hK' _ _ (grow_of (below_to ((Below.refl _ _).drew) hb1)) ?_
  clear hK' K'
  obtain ⟨c1, f1⟩ := bcell hb1
  have z1 := (hb1).size
  try simp at z1
  try simp at c1
  try simp at f1
  have z1a : w.heap.size < w1.heap.size := by omega
  have z1b : w.heap.size + 1 < w1.heap.size := by omega
  have z1c : w.heap.size + 1 + 1 < w1.heap.size := by omega
  refine wpX_nil ?_
  try simp only [opsAt, List.getElem?_toArray, List.getElem?_cons_zero, List.getElem?_cons_succ, Option.getD_some]
  clear gl
  go_wp2
  refine bodyPost_ret (v := .tuple #[.agg #[.int .i64 (rn * k1), .int .i64 (n * k2), .int .i64 D], .bool true]) (by simp [results, Try.results83, go_sem, c1]) rfl ⟨by rw [HV.out], ?_⟩
  repeat (refine Below.setCell ?_ (by first | omega | (simp; done) | (simp; omega)) _)
  exact below_to (Below.drew (below_to (bd (ba3 _ _ _ _) _) (ba1 _ _))) hb1
end Go.Proofs.Ytpjhiojdnebgoaa

/- What is proved here: groups of visibilities, step by step, in plain Lean. No program in sight. -/
namespace Go.Proofs.Ytpjhiojdnebgoaa
open Go.RowKit

section
variable {l : List Vs}
/-- The visibilities of a baseline by its number. -/
def vgr (l : List Vs) (m : Nat) : List Vs := vof l ((m / 8 : Nat) : Int) ((m % 8 : Nat) : Int)
def VR.vs (r : VR) : Vs := ⟨r.i, r.j, r.re, r.im, r.den, r.n⟩
theorem vgrp_0 : vgrp l 0 = ([], 0) := rfl
theorem vgrp_skip {m : Nat} (h : (vgrp l m).2 = 0) (hz : wsum (vgr l m) (vgr l m).length = 0) : vgrp l (m + 1) = vgrp l m := by
  unfold vgr at hz
  rw [vgrp, if_neg (by simp [h]), if_pos hz]
theorem vgrp_err {m : Nat} (h : (vgrp l m).2 = 0) (hz : ¬ wsum (vgr l m) (vgr l m).length = 0) (he : ¬ (vmean (vgr l m)).e = 0) : vgrp l (m + 1) = ([], (vmean (vgr l m)).e) := by
  unfold vgr at hz he ⊢
  rw [vgrp, if_neg (by simp [h]), if_neg hz, if_pos he]
theorem vgrp_ok {m : Nat} (h : (vgrp l m).2 = 0) (hz : ¬ wsum (vgr l m) (vgr l m).length = 0) (he : (vmean (vgr l m)).e = 0) : vgrp l (m + 1) = ((vgrp l m).1 ++ [(vmean (vgr l m)).vs], 0) := by
  unfold vgr at hz he ⊢
  rw [vgrp, if_neg (by simp [h]), if_neg hz, if_neg (fun h' => h' he)]; rfl
theorem vGroup_l (h : ¬ vlist l = 0) : vGroup l = ([], vlist l) := if_pos h
theorem vGroup_0 (h : vlist l = 0) : vGroup l = vgrp l 64 := if_neg (by simp [h])
theorem vGroup_err {m : Nat} (h : vlist l = 0) (hm : m < 64) (he : ¬ (vgrp l (m + 1)).2 = 0) : vGroup l = vgrp l (m + 1) := by
  have := vgrp_stop he (64 - (m + 1))
  rw [show m + 1 + (64 - (m + 1)) = 64 by omega] at this
  rw [vGroup_0 h, this]
theorem vof_all {a b : Int} (h : vall l = true) : vall (vof l a b) = true := by
  unfold vall vof at *
  rw [List.all_eq_true] at *
  intro x hx
  exact h x (List.mem_filter.1 hx).1
theorem vof_len (l : List Vs) (a b : Int) : (vof l a b).length ≤ l.length := List.length_filter_le _ _
theorem vof_at {a b : Int} {k : Nat} (hk : k < (vof l a b).length) : (vof l a b)[k].i = a ∧ (vof l a b)[k].j = b := by
  have : (vof l a b)[k] ∈ vof l a b := List.getElem_mem hk
  have := (List.mem_filter.1 this).2
  simpa using this
theorem wsum_nz (h : vall l = true) {k : Nat} (hk : k < l.length) (hn : ¬ l[k].n = 0) : ¬ wsum l l.length = 0 := by
  have key : ∀ d, k + 1 + d ≤ l.length → 0 < wsum l (k + 1 + d) := fun d => by
    induction d with
    | zero =>
      intro _
      have b := wsum_bd h k (by omega)
      have := Vs.chk_ok (vall_get h hk)
      rw [Nat.add_zero, wsum_succ hk]; omega
    | succ d ih =>
      intro hd
      have := ih (by omega)
      have hk2 : k + 1 + d < l.length := by omega
      have := Vs.chk_ok (vall_get h hk2)
      rw [show k + 1 + (d + 1) = (k + 1 + d) + 1 by omega, wsum_succ hk2]; omega
  have := key (l.length - (k + 1)) (by omega)
  rw [show k + 1 + (l.length - (k + 1)) = l.length by omega] at this
  omega
theorem vgrp_len (l : List Vs) : ∀ m, (vgrp l m).1.length ≤ m
  | 0 => Nat.zero_le _
  | m + 1 => by
    have ih := vgrp_len l m
    rw [vgrp]
    split
    · omega
    · split
      · omega
      · split
        · exact Nat.zero_le _
        · rw [List.length_append]; simp; omega
theorem vgr_at {l : List Vs} {i j : Nat} (h : j < 8) : vgr l (8 * i + j) = vof l (i : Int) (j : Int) := by
  unfold vgr
  rw [show (8 * i + j) / 8 = i by omega, show (8 * i + j) % 8 = j by omega]
theorem vof_none {l : List Vs} (h : vall l = true) {a b : Int} (hab : ¬ a < b) : vof l a b = [] := by
  unfold vof
  rw [List.filter_eq_nil_iff]
  intro v hv
  have := Vs.chk_ok (vall_mem h hv)
  simp only [Bool.and_eq_true, beq_iff_eq]
  omega
theorem vgrp_low {l : List Vs} (h : vall l = true) {i : Nat} (hi : i < 8) (h0 : (vgrp l (8 * i)).2 = 0) : ∀ d, d ≤ i + 1 → vgrp l (8 * i + d) = vgrp l (8 * i)
  | 0, _ => rfl
  | d + 1, hd => by
    have ih := vgrp_low h hi h0 d (by omega)
    rw [show 8 * i + (d + 1) = (8 * i + d) + 1 from rfl]
    rw [vgrp_skip (by rw [ih]; exact h0) (by rw [vgr_at (by omega), vof_none h (by omega)]; rfl), ih]
theorem vMean_of {G : List Vs} {a b : Int} (h : vall G = true) (hl : G.length ≤ 200) (h0 : 0 < G.length) (hs : ∀ v ∈ G, v.i = a ∧ v.j = b) : vMean G = vmean G := by
  refine vMean_0 ?_ h0 ?_
  · unfold vlist; rw [if_neg (by omega), if_neg (by rw [h]; decide)]
  · unfold vsame
    rw [List.all_eq_true]
    intro v hv
    have e1 := hs v hv
    have e2 := hs G[0] (List.getElem_mem h0)
    simp only [Bool.and_eq_true, beq_iff_eq]
    exact ⟨by rw [e1.1, e2.1], by rw [e1.2, e2.2]⟩
theorem vof_mem {l : List Vs} {a b : Int} {v : Vs} (h : v ∈ vof l a b) : v.i = a ∧ v.j = b := by
  have := (List.mem_filter.1 h).2
  simpa using this
theorem wsum_pos {G : List Vs} (h : ¬ wsum G G.length = 0) : 0 < G.length := by
  cases G with
  | nil => exact absurd rfl h
  | cons v G => simp
theorem vof_end {a b : Int} {k : Nat} (hk : ¬ k < l.length) : vof (l.take k) a b = vof l a b := by rw [List.take_of_length_le (by omega)]
end
end Go.Proofs.Ytpjhiojdnebgoaa
