/- What is proved here: the contracts of the reference's Less and Cmp of fractions. Condition: the numbers are 64-bit integers, the denominators are at least 1. -/
import Derived.Test.YtapdkmonfoooiaaFracD
import Derived.Test.YtapdkmonfoooiaaFloatR
namespace Go.Proofs.Ytapdkmonfoooiaa
open Go.RowKit

theorem product_of (m n : Int) (a b : Nat) (w : World) (hm : m = a) (hn : n = b) (ha : a ≤ 18446744073709551615) (hb : b ≤ 18446744073709551615) :
    Calls Try.prog 63 #[.int .u64 m, .int .u64 n] w fun e w' => e = .returned (.agg #[.int .u64 (dg (a * b) 0), .int .u64 (dg (a * b) 1), .int .u64 (dg (a * b) 2), .int .u64 (dg (a * b) 3)]) ∧ Below w.heap.size w w' := by
  subst hm hn; exact product_any a b w ha hb
theorem abs_grow (n : Int) (w : World) (h1 : -9223372036854775808 ≤ n) (h2 : n ≤ 9223372036854775807) :
    Calls Try.prog 49 #[.int .i64 n] w fun e w' => e = .returned (.int .u64 (n.natAbs : Int)) ∧ Below w.heap.size w w' :=
  (abs_any n w h1 h2).mono fun e w' ⟨he, hw⟩ => ⟨he, by subst hw; exact Below.refl _ _⟩

set_option maxRecDepth 100000 in
set_option maxHeartbeats 4000000 in
theorem less_same (an ad bn bd : Int) (w : World) (h1 : i64 an) (h2 : 1 ≤ ad) (h3 : ad ≤ 9223372036854775807) (h4 : i64 bn) (h5 : 1 ≤ bd) (h6 : bd ≤ 9223372036854775807) (hs : decide (an < 0) = decide (bn < 0)) :
    Calls Try.prog 61 #[.agg #[.int .i64 an, .int .i64 ad], .agg #[.int .i64 bn, .int .i64 bd]] w fun e w' => e = .returned (.bool (decide (fcmp an ad bn bd = -1))) ∧ Below w.heap.size w w' := by
  obtain ⟨a1, a2⟩ := h1
  obtain ⟨b1, b2⟩ := h4
  have t1 : (decide (an < 0) != decide (bn < 0)) = false := by simp [hs]
  have t2 : (!decide (an < 0) == decide (bn < 0)) = false := by simp [hs]
  have hX : an.natAbs * bd.natAbs < 340282366920938463463374607431768211456 := by have := Nat.mul_le_mul (show an.natAbs ≤ 9223372036854775808 by omega) (show bd.natAbs ≤ 9223372036854775808 by omega); omega
  have hY : bn.natAbs * ad.natAbs < 340282366920938463463374607431768211456 := by have := Nat.mul_le_mul (show bn.natAbs ≤ 9223372036854775808 by omega) (show ad.natAbs ≤ 9223372036854775808 by omega); omega
  have H : Hid (decide (fcmp an ad bn bd = -1) = if an < 0 then decide (bn.natAbs * ad.natAbs < an.natAbs * bd.natAbs) else decide (an.natAbs * bd.natAbs < bn.natAbs * ad.natAbs)) := by
    show _ = _
    by_cases p : an < 0
    · have q : bn < 0 := by rw [decide_eq_decide] at hs; omega
      rw [if_pos p, fcmp_neg p q h2 h5]
      generalize an.natAbs * bd.natAbs = x
      generalize bn.natAbs * ad.natAbs = y
      unfold cmpN
      refine decide_eq_decide.2 ?_
      split
      · omega
      · split <;> omega
    · have q : ¬ bn < 0 := by rw [decide_eq_decide] at hs; omega
      rw [if_neg p, fcmp_nn (by omega) (by omega) h2 h5]
      generalize an.natAbs * bd.natAbs = x
      generalize bn.natAbs * ad.natAbs = y
      unfold cmpN
      refine decide_eq_decide.2 ?_
      split
      · omega
      · split <;> omega
  have hsb : an < 0 ↔ bn < 0 := decide_eq_decide.1 hs
  clear hs
  by_cases pa : an < 0
  · have HH : Hid (decide (fcmp an ad bn bd = -1) = decide (bn.natAbs * ad.natAbs < an.natAbs * bd.natAbs)) := by show _ = _; rw [H.out, if_pos pa]
    have pb : bn < 0 := hsb.1 pa
    clear H hsb
    go_enter Try.func61, Try.ntmps61
    go_wp2_with fail
    refine wp_region_fl 92 [.int .u64 0, .int .u64 0, .int .u64 0, .int .u64 0] [.t [0, 1, 3, 4, 5, 7, 8, 10, 11, 12], .f 2, .f 6, .f 9, .f 13] [14, 15] [16, 17] (by kernel_rfl) (by kernel_rfl) (fun _ => by kernel_rfl) (fun _ _ _ _ _ h => h) ?_
    have gl := @grow_lt
    refine wpGS_t ?_
    try simp only [opsAt, List.getElem?_toArray, List.getElem?_cons_zero, List.getElem?_cons_succ, Option.getD_some]
    repeat (go_big_quiet_step (fail))
    refine wpQuiet_nil ?_
    refine wpGS_f (.int .u64 an.natAbs) rfl rfl (fun wg hwg => ?_) ?_
    · unfold gqAt
      go_simp
      exact ⟨rfl, abs_grow _ _ (by omega) (by omega)⟩
    refine wpGS_f (.agg #[.int .u64 (dg (an.natAbs * bd.natAbs) 0), .int .u64 (dg (an.natAbs * bd.natAbs) 1), .int .u64 (dg (an.natAbs * bd.natAbs) 2), .int .u64 (dg (an.natAbs * bd.natAbs) 3)]) rfl rfl (fun wg hwg => ?_) ?_
    · unfold gqAt
      go_simp
      exact ⟨rfl, product_of _ _ _ _ _ rfl (by omega) (by omega) (by omega)⟩
    refine wpGS_f (.int .u64 bn.natAbs) rfl rfl (fun wg hwg => ?_) ?_
    · unfold gqAt
      go_simp
      exact ⟨rfl, abs_grow _ _ (by omega) (by omega)⟩
    refine wpGS_f (.agg #[.int .u64 (dg (bn.natAbs * ad.natAbs) 0), .int .u64 (dg (bn.natAbs * ad.natAbs) 1), .int .u64 (dg (bn.natAbs * ad.natAbs) 2), .int .u64 (dg (bn.natAbs * ad.natAbs) 3)]) rfl rfl (fun wg hwg => ?_) ?_
    · unfold gqAt
      go_simp
      exact ⟨rfl, product_of _ _ _ _ _ rfl (by omega) (by omega) (by omega)⟩
    refine wpGS_nil ?_
    clear gl
    intro b5 hb5 hn5 b6 hb6 hn6 w' ⟨⟨hbw, o5⟩, o6⟩
    have hne : ¬ b5 = b6 := fun h => hn6 (by simp [h])
    have hne' : ¬ b6 = b5 := fun h => hn6 (by simp [h])
    simp at hb5 hb6
    clear hn5 hn6
    obtain ⟨c1, f1⟩ := bcell hbw
    have z1 := (hbw).size
    try simp at z1
    try simp at c1
    try simp at f1
    have z1a : w.heap.size < w'.heap.size := by omega
    have z1b : w.heap.size + 1 < w'.heap.size := by omega
    obtain ⟨r5, q5⟩ := o5.rules
    obtain ⟨r6, q6⟩ := o6.rules
    try simp only [opsAt, List.getElem?_toArray, List.getElem?_cons_zero, List.getElem?_cons_succ, Option.getD_some]
    generalize an.natAbs * bd.natAbs = X at *
    generalize bn.natAbs * ad.natAbs = Y at *
    go_wp2_with fail
    refine (bbelow_any Y X _ hY hX).mono ?_
    rintro e w2 ⟨rfl, hb2⟩
    go_wp2
    go_ret
    refine ⟨by rw [HH.out]; try rfl, below_to ?_ hb2⟩
    repeat (refine Below.setCell ?_ (by first | omega | (simp; omega)) _)
    exact below_to (ba2 _ _ _) hbw
  · have HH : Hid (decide (fcmp an ad bn bd = -1) = decide (an.natAbs * bd.natAbs < bn.natAbs * ad.natAbs)) := by show _ = _; rw [H.out, if_neg pa]
    have pb : ¬ bn < 0 := fun h => pa (hsb.2 h)
    clear H hsb
    go_enter Try.func61, Try.ntmps61
    go_wp2_with fail
    refine wp_region_fl 92 [.int .u64 0, .int .u64 0, .int .u64 0, .int .u64 0] [.t [0, 1, 3, 4, 5, 7, 8, 10, 11, 12], .f 2, .f 6, .f 9, .f 13] [14, 15] [16, 17] (by kernel_rfl) (by kernel_rfl) (fun _ => by kernel_rfl) (fun _ _ _ _ _ h => h) ?_
    have gl := @grow_lt
    refine wpGS_t ?_
    try simp only [opsAt, List.getElem?_toArray, List.getElem?_cons_zero, List.getElem?_cons_succ, Option.getD_some]
    repeat (go_big_quiet_step (fail))
    refine wpQuiet_nil ?_
    refine wpGS_f (.int .u64 an.natAbs) rfl rfl (fun wg hwg => ?_) ?_
    · unfold gqAt
      go_simp
      exact ⟨rfl, abs_grow _ _ (by omega) (by omega)⟩
    refine wpGS_f (.agg #[.int .u64 (dg (an.natAbs * bd.natAbs) 0), .int .u64 (dg (an.natAbs * bd.natAbs) 1), .int .u64 (dg (an.natAbs * bd.natAbs) 2), .int .u64 (dg (an.natAbs * bd.natAbs) 3)]) rfl rfl (fun wg hwg => ?_) ?_
    · unfold gqAt
      go_simp
      exact ⟨rfl, product_of _ _ _ _ _ rfl (by omega) (by omega) (by omega)⟩
    refine wpGS_f (.int .u64 bn.natAbs) rfl rfl (fun wg hwg => ?_) ?_
    · unfold gqAt
      go_simp
      exact ⟨rfl, abs_grow _ _ (by omega) (by omega)⟩
    refine wpGS_f (.agg #[.int .u64 (dg (bn.natAbs * ad.natAbs) 0), .int .u64 (dg (bn.natAbs * ad.natAbs) 1), .int .u64 (dg (bn.natAbs * ad.natAbs) 2), .int .u64 (dg (bn.natAbs * ad.natAbs) 3)]) rfl rfl (fun wg hwg => ?_) ?_
    · unfold gqAt
      go_simp
      exact ⟨rfl, product_of _ _ _ _ _ rfl (by omega) (by omega) (by omega)⟩
    refine wpGS_nil ?_
    clear gl
    intro b5 hb5 hn5 b6 hb6 hn6 w' ⟨⟨hbw, o5⟩, o6⟩
    have hne : ¬ b5 = b6 := fun h => hn6 (by simp [h])
    have hne' : ¬ b6 = b5 := fun h => hn6 (by simp [h])
    simp at hb5 hb6
    clear hn5 hn6
    obtain ⟨c1, f1⟩ := bcell hbw
    have z1 := (hbw).size
    try simp at z1
    try simp at c1
    try simp at f1
    have z1a : w.heap.size < w'.heap.size := by omega
    have z1b : w.heap.size + 1 < w'.heap.size := by omega
    obtain ⟨r5, q5⟩ := o5.rules
    obtain ⟨r6, q6⟩ := o6.rules
    try simp only [opsAt, List.getElem?_toArray, List.getElem?_cons_zero, List.getElem?_cons_succ, Option.getD_some]
    generalize an.natAbs * bd.natAbs = X at *
    generalize bn.natAbs * ad.natAbs = Y at *
    go_wp2_with fail
    refine (bbelow_any X Y _ hX hY).mono ?_
    rintro e w2 ⟨rfl, hb2⟩
    go_wp2
    go_ret
    refine ⟨by rw [HH.out]; try rfl, below_to ?_ hb2⟩
    repeat (refine Below.setCell ?_ (by first | omega | (simp; omega)) _)
    exact below_to (ba2 _ _ _) hbw

theorem less_any (an ad bn bd : Int) (w : World) (h1 : i64 an) (h2 : 1 ≤ ad) (h3 : ad ≤ 9223372036854775807) (h4 : i64 bn) (h5 : 1 ≤ bd) (h6 : bd ≤ 9223372036854775807) :
    Calls Try.prog 61 #[.agg #[.int .i64 an, .int .i64 ad], .agg #[.int .i64 bn, .int .i64 bd]] w fun e w' => e = .returned (.bool (decide (fcmp an ad bn bd = -1))) ∧ Below w.heap.size w w' := by
  by_cases hs : decide (an < 0) = decide (bn < 0)
  · exact less_same an ad bn bd w h1 h2 h3 h4 h5 h6 hs
  · obtain ⟨a1, a2⟩ := h1
    obtain ⟨b1, b2⟩ := h4
    have t1 : (decide (an < 0) != decide (bn < 0)) = true := by simpa using hs
    have t2 : (!decide (an < 0) == decide (bn < 0)) = true := by simpa using hs
    have H : Hid (decide (fcmp an ad bn bd = -1) = decide (an < 0)) := by
      show _ = _
      rw [decide_eq_decide] at hs
      by_cases p : an < 0
      · rw [fcmp_lt p (by omega) h2 h5]; simp [p]
      · rw [fcmp_gt (by omega) (by omega) h2 h5]; simp [p]
    clear hs
    go_enter Try.func61, Try.ntmps61
    go_wp2
    go_ret
    exact ⟨by rw [H.out]; try rfl, ba2 _ _ _⟩

theorem fcmp_self (n d : Int) : fcmp n d n d = 0 := by unfold fcmp; rw [if_neg (by omega), if_pos rfl]
theorem fcmp_eq {an ad bn bd : Int} (h1 : fchk an ad = 0) (h2 : fchk bn bd = 0) (h : fcmp an ad bn bd = 0) : an = bn ∧ ad = bd := by
  obtain ⟨u1, u2, u3, u4, u5⟩ := fok_of h1
  obtain ⟨v1, v2, v3, v4, v5⟩ := fok_of h2
  have he : an * bd = bn * ad := by
    unfold fcmp at h; split at h
    · omega
    · split at h
      · assumption
      · omega
  have hn : an.natAbs * bd.natAbs = bn.natAbs * ad.natAbs := by rw [← Int.natAbs_mul, ← Int.natAbs_mul, he]
  have d1 : bd.natAbs ∣ ad.natAbs := by
    have : bd.natAbs ∣ bn.natAbs * ad.natAbs := ⟨an.natAbs, by rw [← hn, Nat.mul_comm]⟩
    exact (Nat.Coprime.dvd_of_dvd_mul_left (Nat.Coprime.symm v5) this)
  have d2 : ad.natAbs ∣ bd.natAbs := by
    have : ad.natAbs ∣ an.natAbs * bd.natAbs := ⟨bn.natAbs, by rw [hn, Nat.mul_comm]⟩
    exact (Nat.Coprime.dvd_of_dvd_mul_left (Nat.Coprime.symm u5) this)
  have e1 := Nat.dvd_antisymm d1 d2
  have e2 : ad = bd := by omega
  subst e2
  exact ⟨Int.eq_of_mul_eq_mul_right (by omega) he, rfl⟩
theorem fcmp_cases (an ad bn bd : Int) : fcmp an ad bn bd = -1 ∨ fcmp an ad bn bd = 0 ∨ fcmp an ad bn bd = 1 := by
  unfold fcmp; split
  · simp
  · split <;> simp

set_option maxHeartbeats 3200000 in
theorem rcmp_ne (an ad bn bd : Int) (w : World) (h1 : i64 an) (h2 : i64 ad) (h3 : i64 bn) (h4 : i64 bd) (p : fboth an ad bn bd = 0) (q : ¬ (an = bn ∧ ad = bd)) :
    Calls Try.prog 43 #[.agg #[.int .i64 an, .int .i64 ad], .agg #[.int .i64 bn, .int .i64 bd]] w fun e w' => e = .returned (.tuple #[.int .i64 (fcmpZ an ad bn bd), .int .i64 (fboth an ad bn bd)]) ∧ Below w.heap.size w w' := by
  have H : Hid (fcmpZ an ad bn bd = fcmp an ad bn bd) := if_pos p
  have b1 : (fboth an ad bn bd != 0) = false := by simp [p]
  obtain ⟨p1, p2⟩ := fboth_ok p
  obtain ⟨u1, u2, u3, u4, _⟩ := fok_of p1
  obtain ⟨v1, v2, v3, v4, _⟩ := fok_of p2
  have P := Lib.hid p
  have q1 : ¬ fcmp an ad bn bd = 0 := fun h => q (fcmp_eq p1 p2 h)
  have HC := Lib.hid (fcmp_cases an ad bn bd)
  have Q1 := Lib.hid q1
  clear p p1 p2 q1
  by_cases q2 : an = bn
  · have q3 : ¬ ad = bd := fun h => q ⟨q2, h⟩
    have q4 : (ad == bd) = false := by simpa using q3
    obtain rfl : an = bn := q2
    clear q
    by_cases r : fcmp an ad an bd = -1
    · have b4 : decide (fcmp an ad an bd = -1) = true := by simpa using r
      have R := Lib.hid r
      clear r
      go_enter Try.func43, Try.ntmps43
      go_wp2_with fail
      refine (rfrboth_any _ _ _ _ _ h1 h2 h3 h4).mono ?_
      rintro e w1 ⟨rfl, hb1⟩
      obtain ⟨c1, f1⟩ := bcell hb1
      have z1 := (hb1).size
      try simp at z1
      try simp at c1
      try simp at f1
      have z1a : w.heap.size < w1.heap.size := by omega
      have z1b : w.heap.size + 1 < w1.heap.size := by omega
      go_wp2_with fail
      refine (less_any _ _ _ _ _ h1 (by omega) (by omega) h3 (by omega) (by omega)).mono ?_
      rintro e w2 ⟨rfl, hb2⟩
      go_wp2
      go_ret2
      exact ⟨by rw [H.out, P.out, R.out]; try rfl, below_to (below_to (ba2 _ _ _) hb1) hb2⟩
    · have b4 : decide (fcmp an ad an bd = -1) = false := by simpa using r
      have R : Hid (fcmp an ad an bd = 1) := by
        have h1 := HC.out
        have h2 := Q1.out
        show _ = _
        omega
      clear r
      go_enter Try.func43, Try.ntmps43
      go_wp2_with fail
      refine (rfrboth_any _ _ _ _ _ h1 h2 h3 h4).mono ?_
      rintro e w1 ⟨rfl, hb1⟩
      obtain ⟨c1, f1⟩ := bcell hb1
      have z1 := (hb1).size
      try simp at z1
      try simp at c1
      try simp at f1
      have z1a : w.heap.size < w1.heap.size := by omega
      have z1b : w.heap.size + 1 < w1.heap.size := by omega
      go_wp2_with fail
      refine (less_any _ _ _ _ _ h1 (by omega) (by omega) h3 (by omega) (by omega)).mono ?_
      rintro e w2 ⟨rfl, hb2⟩
      go_wp2
      go_ret2
      exact ⟨by rw [H.out, P.out, R.out]; try rfl, below_to (below_to (ba2 _ _ _) hb1) hb2⟩
  · have q4 : (an == bn) = false := by simpa using q2
    clear q
    by_cases r : fcmp an ad bn bd = -1
    · have b4 : decide (fcmp an ad bn bd = -1) = true := by simpa using r
      have R := Lib.hid r
      clear r
      go_enter Try.func43, Try.ntmps43
      go_wp2_with fail
      refine (rfrboth_any _ _ _ _ _ h1 h2 h3 h4).mono ?_
      rintro e w1 ⟨rfl, hb1⟩
      obtain ⟨c1, f1⟩ := bcell hb1
      have z1 := (hb1).size
      try simp at z1
      try simp at c1
      try simp at f1
      have z1a : w.heap.size < w1.heap.size := by omega
      have z1b : w.heap.size + 1 < w1.heap.size := by omega
      go_wp2_with fail
      refine (less_any _ _ _ _ _ h1 (by omega) (by omega) h3 (by omega) (by omega)).mono ?_
      rintro e w2 ⟨rfl, hb2⟩
      go_wp2
      go_ret2
      exact ⟨by rw [H.out, P.out, R.out]; try rfl, below_to (below_to (ba2 _ _ _) hb1) hb2⟩
    · have b4 : decide (fcmp an ad bn bd = -1) = false := by simpa using r
      have R : Hid (fcmp an ad bn bd = 1) := by
        have h1 := HC.out
        have h2 := Q1.out
        show _ = _
        omega
      clear r
      go_enter Try.func43, Try.ntmps43
      go_wp2_with fail
      refine (rfrboth_any _ _ _ _ _ h1 h2 h3 h4).mono ?_
      rintro e w1 ⟨rfl, hb1⟩
      obtain ⟨c1, f1⟩ := bcell hb1
      have z1 := (hb1).size
      try simp at z1
      try simp at c1
      try simp at f1
      have z1a : w.heap.size < w1.heap.size := by omega
      have z1b : w.heap.size + 1 < w1.heap.size := by omega
      go_wp2_with fail
      refine (less_any _ _ _ _ _ h1 (by omega) (by omega) h3 (by omega) (by omega)).mono ?_
      rintro e w2 ⟨rfl, hb2⟩
      go_wp2
      go_ret2
      exact ⟨by rw [H.out, P.out, R.out]; try rfl, below_to (below_to (ba2 _ _ _) hb1) hb2⟩

set_option maxHeartbeats 1600000 in
theorem rcmp_any (an ad bn bd : Int) (w : World) (h1 : i64 an) (h2 : i64 ad) (h3 : i64 bn) (h4 : i64 bd) :
    Calls Try.prog 43 #[.agg #[.int .i64 an, .int .i64 ad], .agg #[.int .i64 bn, .int .i64 bd]] w fun e w' => e = .returned (.tuple #[.int .i64 (fcmpZ an ad bn bd), .int .i64 (fboth an ad bn bd)]) ∧ Below w.heap.size w w' := by
  by_cases p : fboth an ad bn bd = 0
  · by_cases q : an = bn ∧ ad = bd
    · obtain ⟨rfl, rfl⟩ := q
      have H : Hid (fcmpZ an ad an ad = fcmp an ad an ad) := if_pos p
      have b1 : (fboth an ad an ad != 0) = false := by simp [p]
      have P := Lib.hid p
      have HZ := Lib.hid (fcmp_self an ad)
      clear p
      go_enter Try.func43, Try.ntmps43
      go_wp2_with fail
      refine (rfrboth_any _ _ _ _ _ h1 h2 h3 h4).mono ?_
      rintro e w1 ⟨rfl, hb1⟩
      obtain ⟨c1, f1⟩ := bcell hb1
      have z1 := (hb1).size
      try simp at z1
      try simp at c1
      try simp at f1
      have z1a : w.heap.size < w1.heap.size := by omega
      have z1b : w.heap.size + 1 < w1.heap.size := by omega
      go_wp2
      go_ret2
      exact ⟨by rw [H.out, P.out, HZ.out]; try rfl, below_to (ba2 _ _ _) hb1⟩
    · exact rcmp_ne an ad bn bd w h1 h2 h3 h4 p q
  · have H : Hid (fcmpZ an ad bn bd = 0) := if_neg p
    have b1 : (fboth an ad bn bd != 0) = true := by simp [p]
    clear p
    go_enter Try.func43, Try.ntmps43
    go_wp2_with fail
    refine (rfrboth_any _ _ _ _ _ h1 h2 h3 h4).mono ?_
    rintro e w1 ⟨rfl, hb1⟩
    obtain ⟨c1, f1⟩ := bcell hb1
    have z1 := (hb1).size
    try simp at z1
    try simp at c1
    try simp at f1
    have z1a : w.heap.size < w1.heap.size := by omega
    have z1b : w.heap.size + 1 < w1.heap.size := by omega
    go_wp2_with fail
    refine (rfrboth_any _ _ _ _ _ h1 h2 h3 h4).mono ?_
    rintro e w2 ⟨rfl, hb2⟩
    go_wp2
    go_ret2
    exact ⟨by rw [H.out]; try rfl, below_to (below_to (ba2 _ _ _) hb1) hb2⟩

end Go.Proofs.Ytapdkmonfoooiaa
