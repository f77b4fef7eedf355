/- What is proved here: contracts of functions and plain facts, several texts in one; each one says ahead what it proves, and its conditions. -/
import Derived.Test.YtfbigmjlppdlhaaC38
import Derived.Test.YtfbigmjlppdlhaaC31
import Derived.Test.YtfbigmjlppdlhaaC04
import Derived.Test.YtfbigmjlppdlhaaC17
/- What is proved here: plain facts on rows that are written over. No program in sight. -/
namespace Go.Proofs.Ytfbigmjlppdlhaa
open Go.RowKit

theorem fr_neg {n d : Int} (h : fchk n d = 0) : -9223372036854775807 ≤ n ∧ n ≤ 9223372036854775807 := by
  have h2 := (Q_ok h).2.2.1
  have h3 := (Q_ok h).1
  rw [h3] at h2
  omega
/-- A row that is written over from the left by another one. -/
theorem neg_set {r : List (Int × Int)} {m : Nat} (hm : m < r.length) : ((negs r).take m ++ r.drop m).set m (-r[m].1, r[m].2) = (negs r).take (m + 1) ++ r.drop (m + 1) := by
  have h1 : ((negs r).take m).length = m := by simp [negs]; omega
  rw [over_set _ h1 hm]
  congr 1
  rw [List.take_add_one, negs_get hm]
  rfl
theorem neg_get {r : List (Int × Int)} {m : Nat} (hm : m < r.length) : ((negs r).take m ++ r.drop m)[m]'(by simp [negs]; omega) = r[m] := by
  have h1 : ((negs r).take m).length = m := by simp [negs]; omega
  exact over_get h1 hm
theorem neg_len {r : List (Int × Int)} {m : Nat} (hm : m ≤ r.length) : ((negs r).take m ++ r.drop m).length = r.length := by simp [negs]; omega
/-- The first number of a fraction of a row is stored. -/
theorem fcs_put1 {xs : List (Int × Int)} {k : Nat} (rest : List Value) (h : k < xs.length) (v : Int) : (fcs xs ++ rest).set (k * 2) (.int .i64 v) = fcs (xs.set k (v, xs[k].2)) ++ rest := by
  rw [← fcs_put rest h (v, xs[k].2)]
  have hl := fcs_len xs
  have h2 := (fcs_at rest h).2
  have h3 : ((fcs xs ++ rest).set (k * 2) (.int .i64 v))[k * 2 + 1]? = some (.int .i64 xs[k].2) := by
    rw [List.getElem?_set_ne (by omega)]; exact h2
  obtain ⟨h4, h5⟩ := List.getElem?_eq_some_iff.1 h3
  rw [← h5, List.set_getElem_self]
end Go.Proofs.Ytfbigmjlppdlhaa

/- What is proved here: the contracts of frac.compare, order and Cmp. Condition: the numbers are 64-bit integers. -/
namespace Go.Proofs.Ytfbigmjlppdlhaa
open Go.RowKit

theorem compare_any (a b c d : Nat) (w : World) (ha : a ≤ 18446744073709551615) (hb : b ≤ 18446744073709551615) (hc : c ≤ 18446744073709551615) (hd : d ≤ 18446744073709551615) :
    Calls Try.prog 124 #[.int .u64 a, .int .u64 b, .int .u64 c, .int .u64 d] w fun e w' => e = .returned (.int .i64 (cmpN (a * b) (c * d))) ∧ w = w' := by
  have H := Lib.hid (wid_cmp (a * b) (c * d))
  go_enter Try.func124, Try.ntmps124
  go_wp2_with fail
  refine (mul64_any _ _ ha hb _).mono ?_
  rintro e _ ⟨rfl, rfl⟩
  generalize a * b / 18446744073709551616 = p at *
  generalize a * b % 18446744073709551616 = q at *
  go_wp2_with fail
  refine (mul64_any _ _ hc hd _).mono ?_
  rintro e _ ⟨rfl, rfl⟩
  generalize c * d / 18446744073709551616 = r at *
  generalize c * d % 18446744073709551616 = s at *
  go_wp2_with fail
  refine (wider_any _ _ _ _ _).mono ?_
  rintro e _ ⟨rfl, rfl⟩
  go_wp2
  go_ret
  exact ⟨by rw [H.out]; try rfl, rfl⟩

set_option maxHeartbeats 1600000 in
theorem order_any (an ad bn bd : Int) (w : World) (h1 : i64 an) (h2 : 1 ≤ ad) (h3 : ad ≤ 9223372036854775807) (h4 : i64 bn) (h5 : 1 ≤ bd) (h6 : bd ≤ 9223372036854775807) :
    Calls Try.prog 106 #[.agg #[.int .i64 an, .int .i64 ad], .agg #[.int .i64 bn, .int .i64 bd]] w fun e w' => e = .returned (.int .i64 (fcmp an ad bn bd)) ∧ Below w.heap.size w w' := by
  obtain ⟨a1, a2⟩ := h1
  obtain ⟨b1, b2⟩ := h4
  by_cases p : an < 0
  · by_cases q : bn < 0
    · have H := Lib.hid (fcmp_neg p q h2 h5)
      have hc := cmpN_bd (an.natAbs * bd.natAbs) (bn.natAbs * ad.natAbs)
      go_enter Try.func106, Try.ntmps106
      go_wp2
      go_quiet (first | (go_at_call 117; exact Calls.quiet_same (size_any _ _ (by omega) (by omega))) | (go_at_call 124; exact Calls.quiet_same (compare_any _ _ _ _ _ (by omega) (by omega) (by omega) (by omega))))
      go_wp2
      go_ret
      exact ⟨by rw [H.out]; try rfl, below_to (ba2 _ _ _) (below_drewN _ _)⟩
    · have H := Lib.hid (fcmp_lt (bn := bn) p (by omega) h2 h5)
      go_enter Try.func106, Try.ntmps106
      go_wp2
      go_ret
      exact ⟨by rw [H.out]; try rfl, ba2 _ _ _⟩
  · by_cases q : bn < 0
    · have H := Lib.hid (fcmp_gt (an := an) (by omega) q h2 h5)
      go_enter Try.func106, Try.ntmps106
      go_wp2
      go_ret
      exact ⟨by rw [H.out]; try rfl, ba2 _ _ _⟩
    · have H := Lib.hid (fcmp_nn (an := an) (bn := bn) (by omega) (by omega) h2 h5)
      go_enter Try.func106, Try.ntmps106
      go_wp2
      go_quiet (first | (go_at_call 117; exact Calls.quiet_same (size_any _ _ (by omega) (by omega))) | (go_at_call 124; exact Calls.quiet_same (compare_any _ _ _ _ _ (by omega) (by omega) (by omega) (by omega))))
      go_wp2
      go_ret
      exact ⟨by rw [H.out]; try rfl, below_to (ba2 _ _ _) (below_drewN _ _)⟩

theorem cmp_any (an ad bn bd : Int) (w : World) (h1 : i64 an) (h2 : i64 ad) (h3 : i64 bn) (h4 : i64 bd) :
    Calls Try.prog 62 #[.agg #[.int .i64 an, .int .i64 ad], .agg #[.int .i64 bn, .int .i64 bd]] w fun e w' => e = .returned (.tuple #[.int .i64 (fcmpZ an ad bn bd), .int .i64 (fboth an ad bn bd)]) ∧ Below w.heap.size w w' := by
  by_cases p : fboth an ad bn bd = 0
  · have H : Hid (fcmpZ an ad bn bd = fcmp an ad bn bd) := if_pos p
    have b1 : (fboth an ad bn bd != 0) = false := by simp [p]
    obtain ⟨p1, p2⟩ := fboth_ok p
    obtain ⟨u1, u2, u3, u4, _⟩ := fok_of p1
    obtain ⟨v1, v2, v3, v4, _⟩ := fok_of p2
    have P := Lib.hid p
    clear p p1 p2
    go_enter Try.func62, Try.ntmps62
    go_wp2_with fail
    refine (frboth_any _ _ _ _ _ h1 h2 h3 h4).mono ?_
    rintro e w1 ⟨rfl, hb1⟩
    obtain ⟨c1, f1⟩ := bcell hb1
    have z1 := (hb1).size
    try simp at z1
    try simp at c1
    try simp at f1
    go_wp2_with fail
    refine (order_any _ _ _ _ _ h1 (by omega) (by omega) h3 (by omega) (by omega)).mono ?_
    rintro e w2 ⟨rfl, hb2⟩
    go_wp2
    go_ret2
    exact ⟨by rw [H.out, P.out]; try rfl, below_to (below_to (ba2 _ _ _) hb1) hb2⟩
  · have H : Hid (fcmpZ an ad bn bd = 0) := if_neg p
    have b1 : (fboth an ad bn bd != 0) = true := by simp [p]
    clear p
    go_enter Try.func62, Try.ntmps62
    go_wp2_with fail
    refine (frboth_any _ _ _ _ _ h1 h2 h3 h4).mono ?_
    rintro e w1 ⟨rfl, hb1⟩
    go_wp2
    go_ret2
    exact ⟨by rw [H.out]; try rfl, below_to (ba2 _ _ _) hb1⟩

end Go.Proofs.Ytfbigmjlppdlhaa

/- What is proved here: the contract of the reference's Less of fractions. Condition: 64-bit numbers, denominators greater than 0. -/
namespace Go.Proofs.Ytfbigmjlppdlhaa
open Go.RowKit

set_option maxRecDepth 100000 in
set_option maxHeartbeats 4000000 in
theorem less_same (an ad bn bd : Int) (w : World) (h1 : i64 an) (h2 : 1 ≤ ad) (h3 : ad ≤ 9223372036854775807) (h4 : i64 bn) (h5 : 1 ≤ bd) (h6 : bd ≤ 9223372036854775807) (hs : decide (an < 0) = decide (bn < 0)) :
    Calls Try.prog 87 #[.agg #[.int .i64 an, .int .i64 ad], .agg #[.int .i64 bn, .int .i64 bd]] w fun e w' => e = .returned (.bool (decide (fcmp an ad bn bd = -1))) ∧ Below w.heap.size w w' := by
  obtain ⟨a1, a2⟩ := h1
  obtain ⟨b1, b2⟩ := h4
  have t1 : (decide (an < 0) != decide (bn < 0)) = false := by simp [hs]
  have t2 : (!decide (an < 0) == decide (bn < 0)) = false := by simp [hs]
  have hX : an.natAbs * bd.natAbs < 340282366920938463463374607431768211456 := by have := Nat.mul_le_mul (show an.natAbs ≤ 9223372036854775808 by omega) (show bd.natAbs ≤ 9223372036854775808 by omega); omega
  have hY : bn.natAbs * ad.natAbs < 340282366920938463463374607431768211456 := by have := Nat.mul_le_mul (show bn.natAbs ≤ 9223372036854775808 by omega) (show ad.natAbs ≤ 9223372036854775808 by omega); omega
  have H : Hid (decide (fcmp an ad bn bd = -1) = if an < 0 then decide (bn.natAbs * ad.natAbs < an.natAbs * bd.natAbs) else decide (an.natAbs * bd.natAbs < bn.natAbs * ad.natAbs)) := by
    show _ = _
    by_cases p : an < 0
    · have q : bn < 0 := by rw [decide_eq_decide] at hs; omega
      rw [if_pos p, fcmp_neg p q h2 h5]
      generalize an.natAbs * bd.natAbs = x
      generalize bn.natAbs * ad.natAbs = y
      unfold cmpN
      refine decide_eq_decide.2 ?_
      split
      · omega
      · split <;> omega
    · have q : ¬ bn < 0 := by rw [decide_eq_decide] at hs; omega
      rw [if_neg p, fcmp_nn (by omega) (by omega) h2 h5]
      generalize an.natAbs * bd.natAbs = x
      generalize bn.natAbs * ad.natAbs = y
      unfold cmpN
      refine decide_eq_decide.2 ?_
      split
      · omega
      · split <;> omega
  have hsb : an < 0 ↔ bn < 0 := decide_eq_decide.1 hs
  clear hs
  by_cases pa : an < 0
  · have HH : Hid (decide (fcmp an ad bn bd = -1) = decide (bn.natAbs * ad.natAbs < an.natAbs * bd.natAbs)) := by show _ = _; rw [H.out, if_pos pa]
    have pb : bn < 0 := hsb.1 pa
    clear H hsb
    go_enter Try.func87, Try.ntmps87
    go_wp2_with fail
    refine wp_region_fl 123 [.int .u64 0, .int .u64 0, .int .u64 0, .int .u64 0] [.t [0, 1, 3, 4, 5, 7, 8, 10, 11, 12], .f 2, .f 6, .f 9, .f 13] [14, 15] [16, 17] (by kernel_rfl) (by kernel_rfl) (fun _ => by kernel_rfl) (fun _ _ _ _ _ h => h) ?_
    have gl := @grow_lt
    refine wpGS_t ?_
    try simp only [opsAt, List.getElem?_toArray, List.getElem?_cons_zero, List.getElem?_cons_succ, Option.getD_some]
    repeat (go_big_quiet_step (fail))
    refine wpQuiet_nil ?_
    refine wpGS_f (.int .u64 an.natAbs) rfl rfl (fun wg hwg => ?_) ?_
    · unfold gqAt
      go_simp
      exact ⟨rfl, abs_grow _ _ (by omega) (by omega)⟩
    refine wpGS_f (.agg #[.int .u64 (dg (an.natAbs * bd.natAbs) 0), .int .u64 (dg (an.natAbs * bd.natAbs) 1), .int .u64 (dg (an.natAbs * bd.natAbs) 2), .int .u64 (dg (an.natAbs * bd.natAbs) 3)]) rfl rfl (fun wg hwg => ?_) ?_
    · unfold gqAt
      go_simp
      exact ⟨rfl, product_of _ _ _ _ _ rfl (by omega) (by omega) (by omega)⟩
    refine wpGS_f (.int .u64 bn.natAbs) rfl rfl (fun wg hwg => ?_) ?_
    · unfold gqAt
      go_simp
      exact ⟨rfl, abs_grow _ _ (by omega) (by omega)⟩
    refine wpGS_f (.agg #[.int .u64 (dg (bn.natAbs * ad.natAbs) 0), .int .u64 (dg (bn.natAbs * ad.natAbs) 1), .int .u64 (dg (bn.natAbs * ad.natAbs) 2), .int .u64 (dg (bn.natAbs * ad.natAbs) 3)]) rfl rfl (fun wg hwg => ?_) ?_
    · unfold gqAt
      go_simp
      exact ⟨rfl, product_of _ _ _ _ _ rfl (by omega) (by omega) (by omega)⟩
    refine wpGS_nil ?_
    clear gl
    intro b5 hb5 hn5 b6 hb6 hn6 w' ⟨⟨hbw, o5⟩, o6⟩
    have hne : ¬ b5 = b6 := fun h => hn6 (by simp [h])
    have hne' : ¬ b6 = b5 := fun h => hn6 (by simp [h])
    simp at hb5 hb6
    clear hn5 hn6
    obtain ⟨c1, f1⟩ := bcell hbw
    have z1 := (hbw).size
    try simp at z1
    try simp at c1
    try simp at f1
    have z1a : w.heap.size < w'.heap.size := by omega
    have z1b : w.heap.size + 1 < w'.heap.size := by omega
    obtain ⟨r5, q5⟩ := o5.rules
    obtain ⟨r6, q6⟩ := o6.rules
    try simp only [opsAt, List.getElem?_toArray, List.getElem?_cons_zero, List.getElem?_cons_succ, Option.getD_some]
    generalize an.natAbs * bd.natAbs = X at *
    generalize bn.natAbs * ad.natAbs = Y at *
    go_wp2_with fail
    refine (bbelow_any Y X _ hY hX).mono ?_
    rintro e w2 ⟨rfl, hb2⟩
    go_wp2
    go_ret
    refine ⟨by rw [HH.out]; try rfl, below_to ?_ hb2⟩
    repeat (refine Below.setCell ?_ (by first | omega | (simp; omega)) _)
    exact below_to (ba2 _ _ _) hbw
  · have HH : Hid (decide (fcmp an ad bn bd = -1) = decide (an.natAbs * bd.natAbs < bn.natAbs * ad.natAbs)) := by show _ = _; rw [H.out, if_neg pa]
    have pb : ¬ bn < 0 := fun h => pa (hsb.2 h)
    clear H hsb
    go_enter Try.func87, Try.ntmps87
    go_wp2_with fail
    refine wp_region_fl 123 [.int .u64 0, .int .u64 0, .int .u64 0, .int .u64 0] [.t [0, 1, 3, 4, 5, 7, 8, 10, 11, 12], .f 2, .f 6, .f 9, .f 13] [14, 15] [16, 17] (by kernel_rfl) (by kernel_rfl) (fun _ => by kernel_rfl) (fun _ _ _ _ _ h => h) ?_
    have gl := @grow_lt
    refine wpGS_t ?_
    try simp only [opsAt, List.getElem?_toArray, List.getElem?_cons_zero, List.getElem?_cons_succ, Option.getD_some]
    repeat (go_big_quiet_step (fail))
    refine wpQuiet_nil ?_
    refine wpGS_f (.int .u64 an.natAbs) rfl rfl (fun wg hwg => ?_) ?_
    · unfold gqAt
      go_simp
      exact ⟨rfl, abs_grow _ _ (by omega) (by omega)⟩
    refine wpGS_f (.agg #[.int .u64 (dg (an.natAbs * bd.natAbs) 0), .int .u64 (dg (an.natAbs * bd.natAbs) 1), .int .u64 (dg (an.natAbs * bd.natAbs) 2), .int .u64 (dg (an.natAbs * bd.natAbs) 3)]) rfl rfl (fun wg hwg => ?_) ?_
    · unfold gqAt
      go_simp
      exact ⟨rfl, product_of _ _ _ _ _ rfl (by omega) (by omega) (by omega)⟩
    refine wpGS_f (.int .u64 bn.natAbs) rfl rfl (fun wg hwg => ?_) ?_
    · unfold gqAt
      go_simp
      exact ⟨rfl, abs_grow _ _ (by omega) (by omega)⟩
    refine wpGS_f (.agg #[.int .u64 (dg (bn.natAbs * ad.natAbs) 0), .int .u64 (dg (bn.natAbs * ad.natAbs) 1), .int .u64 (dg (bn.natAbs * ad.natAbs) 2), .int .u64 (dg (bn.natAbs * ad.natAbs) 3)]) rfl rfl (fun wg hwg => ?_) ?_
    · unfold gqAt
      go_simp
      exact ⟨rfl, product_of _ _ _ _ _ rfl (by omega) (by omega) (by omega)⟩
    refine wpGS_nil ?_
    clear gl
    intro b5 hb5 hn5 b6 hb6 hn6 w' ⟨⟨hbw, o5⟩, o6⟩
    have hne : ¬ b5 = b6 := fun h => hn6 (by simp [h])
    have hne' : ¬ b6 = b5 := fun h => hn6 (by simp [h])
    simp at hb5 hb6
    clear hn5 hn6
    obtain ⟨c1, f1⟩ := bcell hbw
    have z1 := (hbw).size
    try simp at z1
    try simp at c1
    try simp at f1
    have z1a : w.heap.size < w'.heap.size := by omega
    have z1b : w.heap.size + 1 < w'.heap.size := by omega
    obtain ⟨r5, q5⟩ := o5.rules
    obtain ⟨r6, q6⟩ := o6.rules
    try simp only [opsAt, List.getElem?_toArray, List.getElem?_cons_zero, List.getElem?_cons_succ, Option.getD_some]
    generalize an.natAbs * bd.natAbs = X at *
    generalize bn.natAbs * ad.natAbs = Y at *
    go_wp2_with fail
    refine (bbelow_any X Y _ hX hY).mono ?_
    rintro e w2 ⟨rfl, hb2⟩
    go_wp2
    go_ret
    refine ⟨by rw [HH.out]; try rfl, below_to ?_ hb2⟩
    repeat (refine Below.setCell ?_ (by first | omega | (simp; omega)) _)
    exact below_to (ba2 _ _ _) hbw

theorem less_any (an ad bn bd : Int) (w : World) (h1 : i64 an) (h2 : 1 ≤ ad) (h3 : ad ≤ 9223372036854775807) (h4 : i64 bn) (h5 : 1 ≤ bd) (h6 : bd ≤ 9223372036854775807) :
    Calls Try.prog 87 #[.agg #[.int .i64 an, .int .i64 ad], .agg #[.int .i64 bn, .int .i64 bd]] w fun e w' => e = .returned (.bool (decide (fcmp an ad bn bd = -1))) ∧ Below w.heap.size w w' := by
  by_cases hs : decide (an < 0) = decide (bn < 0)
  · exact less_same an ad bn bd w h1 h2 h3 h4 h5 h6 hs
  · obtain ⟨a1, a2⟩ := h1
    obtain ⟨b1, b2⟩ := h4
    have t1 : (decide (an < 0) != decide (bn < 0)) = true := by simpa using hs
    have t2 : (!decide (an < 0) == decide (bn < 0)) = true := by simpa using hs
    have H : Hid (decide (fcmp an ad bn bd = -1) = decide (an < 0)) := by
      show _ = _
      rw [decide_eq_decide] at hs
      by_cases p : an < 0
      · rw [fcmp_lt p (by omega) h2 h5]; simp [p]
      · rw [fcmp_gt (by omega) (by omega) h2 h5]; simp [p]
    clear hs
    go_enter Try.func87, Try.ntmps87
    go_wp2
    go_ret
    exact ⟨by rw [H.out]; try rfl, ba2 _ _ _⟩

end Go.Proofs.Ytfbigmjlppdlhaa
