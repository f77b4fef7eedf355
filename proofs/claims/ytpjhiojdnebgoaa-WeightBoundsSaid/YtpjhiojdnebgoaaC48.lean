/- What is proved here: contracts of functions and plain facts, several texts in one; each one says ahead what it proves, and its conditions. -/
import Derived.Test.YtpjhiojdnebgoaaC46
import Derived.Test.YtpjhiojdnebgoaaC09
/- What is proved here: the value of the parts of a visibility is its value; the mean of one is that one; each part of a mean lies between the least and the greatest one; in plain Lean. No program in sight. Condition: valid visibilities. -/
namespace Go.Proofs.Ytpjhiojdnebgoaa
open Go.RowKit

theorem wden_lcm {a b : Nat} (ha : 0 < a) (hb : 0 < b) : wden (a : Int) (b : Int) = ((Nat.lcm a b : Nat) : Int) := by
  rw [← wden_ref (by omega) (by omega)]
  simp only [Int.natAbs_natCast]
  rw [← Int.natCast_mul, Int.tdiv_eq_ediv_of_nonneg (by omega), ← Int.natCast_ediv]
  rfl
/-- The value of two parts over a common denominator in least terms. -/
theorem parts_val {re im den : Int} (h : cokB re im den = true) :
    wok ((re : Rat) / (den : Rat)).num ((re : Rat) / (den : Rat)).den ((im : Rat) / (den : Rat)).num ((im : Rat) / (den : Rat)).den = true ∧
    wval ((re : Rat) / (den : Rat)).num ((re : Rat) / (den : Rat)).den ((im : Rat) / (den : Rat)).num ((im : Rat) / (den : Rat)).den = ⟨re, im, den, 0⟩ := by
  obtain ⟨d1, d2, r1, r2, m1, m2⟩ := cok_fit h
  have hg : Nat.gcd (Nat.gcd re.natAbs im.natAbs) den.natAbs = 1 := by
    unfold cokB at h; simp only [Bool.and_eq_true, beq_iff_eq] at h; exact h.2
  have key : ∀ z : Int, (((z : Rat) / (den : Rat)).den : Int) ∣ den ∧ ((z : Rat) / (den : Rat)).num * den = z * (((z : Rat) / (den : Rat)).den : Int) := fun z => by
    rw [← Rat.divInt_eq_div]
    have e := (Q_mul (num := z) (den := den) (by omega)).symm
    generalize Rat.divInt z den = q at *
    refine ⟨?_, e⟩
    have h1 : q.den ∣ q.num.natAbs * den.natAbs := by
      rw [← Int.natAbs_mul, e, Int.natAbs_mul]
      exact ⟨z.natAbs, by rw [Int.natAbs_natCast, Nat.mul_comm]⟩
    have h2 := (Nat.Coprime.symm q.reduced).dvd_of_dvd_mul_left h1
    exact Int.ofNat_dvd_left.2 h2
  obtain ⟨x1, x2⟩ := key re
  obtain ⟨y1, y2⟩ := key im
  generalize (re : Rat) / (den : Rat) = x at *
  generalize (im : Rat) / (den : Rat) = y at *
  have hx := x.den_pos
  have hy := y.den_pos
  obtain ⟨w1, w2, w3, w4, w5⟩ := wden_facts (rd := x.den) (d := y.den) (by omega) (by omega)
  have hD : wden x.den y.den ∣ den := by
    rw [wden_lcm hx hy]
    obtain ⟨n, rfl⟩ := Int.eq_ofNat_of_zero_le (show 0 ≤ den by omega)
    exact Int.natCast_dvd_natCast.2 (Nat.lcm_dvd (Int.natCast_dvd_natCast.1 x1) (Int.natCast_dvd_natCast.1 y1))
  generalize hDD : wden x.den y.den = D at *
  obtain ⟨k, hk⟩ := hD
  have part : ∀ (z : Int) (r : Rat), 0 < r.den → (r.den : Int) ∣ D → r.num * den = z * (r.den : Int) → r.num * (D / r.den) * k = z := fun z r hr hd e => by
    obtain ⟨c, hc⟩ := hd
    have hr0 : (r.den : Int) ≠ 0 := by omega
    rw [hc, Int.mul_ediv_cancel_left _ hr0]
    rw [hk, hc] at e
    have e' : (r.den : Int) * (r.num * c * k) = (r.den : Int) * z := by
      rw [Int.mul_comm _ z, ← e]; simp only [Int.mul_assoc, Int.mul_comm, Int.mul_left_comm]
    exact Int.eq_of_mul_eq_mul_left hr0 e'
  have p1 := part re x hx w2 x2
  have p2 := part im y hy w3 y2
  have hkp : 0 < k := by
    rcases Int.lt_or_le 0 k with h' | h'
    · exact h'
    · have := Int.mul_nonpos_of_nonneg_of_nonpos (show 0 ≤ D by omega) h'; omega
  have k1 : k.natAbs = 1 := by
    have a1 : k.natAbs ∣ re.natAbs := Int.natAbs_dvd_natAbs.2 ⟨x.num * (D / x.den), by rw [← p1, Int.mul_comm]⟩
    have a2 : k.natAbs ∣ im.natAbs := Int.natAbs_dvd_natAbs.2 ⟨y.num * (D / y.den), by rw [← p2, Int.mul_comm]⟩
    have a3 : k.natAbs ∣ den.natAbs := Int.natAbs_dvd_natAbs.2 ⟨D, by rw [hk, Int.mul_comm]⟩
    have := Nat.dvd_gcd (Nat.dvd_gcd a1 a2) a3
    rw [hg] at this
    exact Nat.eq_one_of_dvd_one this
  obtain rfl : k = 1 := by omega
  rw [Int.mul_one] at p1 p2 hk
  have hle : ∀ r : Rat, (r.den : Int) ∣ den → (r.den : Int) ≤ 1000000000 := fun r hr => by
    have := Int.le_of_dvd (by omega) hr; omega
  have hok : wok x.num x.den y.num y.den = true := by
    rw [wok_ref (by omega) (by omega) (hle x x1) (hle y y1) (by rw [hDD]; omega), hDD, p1, p2, ← hk]; exact h
  refine ⟨hok, ?_⟩
  rw [wval_1 hok, hDD, p1, p2, ← hk]
theorem Vs.parts {v : Vs} (h : v.chk = 0) : wok (prt Vs.re v).num (prt Vs.re v).den (prt Vs.im v).num (prt Vs.im v).den = true ∧
    wval (prt Vs.re v).num (prt Vs.re v).den (prt Vs.im v).num (prt Vs.im v).den = ⟨v.re, v.im, v.den, 0⟩ := parts_val (Vs.chk_ok h).2.2.2.1
theorem vmk_self {v : Vs} (h : v.chk = 0) : vmk v.i v.j (prt Vs.re v) (prt Vs.im v) v.n = ⟨v.i, v.j, v.re, v.im, v.den, v.n, 0⟩ := by
  unfold vmk; rw [(Vs.parts h).2]
theorem wbad_of {v : Vs} (h : v.chk = 0) : wbad v.i v.j v.n = false ∧ wbad v.j v.i v.n = false := by
  obtain ⟨a, b, c, _, d, e⟩ := Vs.chk_ok h
  unfold wbad
  constructor <;> simp <;> omega
/-- Make of the parts. -/
theorem make_parts {v : Vs} (h : v.chk = 0) : wmk v.i v.j (fmk v.re v.den).n (fmk v.re v.den).d (fmk v.im v.den).n (fmk v.im v.den).d v.n = ⟨v.i, v.j, v.re, v.im, v.den, v.n, 0⟩ := by
  obtain ⟨x1, x2⟩ := part_uf re_r h
  obtain ⟨y1, y2⟩ := part_uf im_r h
  obtain ⟨k1, k2⟩ := Vs.parts h
  have c := Vs.chk_ok h
  rw [x1, y1]
  unfold wmk
  rw [if_neg (by rw [(wbad_of h).1]; decide), if_neg (by intro h'; exact h' ⟨fchk_inr x2, fchk_inr y2⟩), if_neg (fun h' => by have e : wok (uf (prt Vs.re v)).n (uf (prt Vs.re v)).d (uf (prt Vs.im v)).n (uf (prt Vs.im v)).d = true := k1; rw [e] at h'; cases h'), if_neg (by omega)]
  show (⟨v.i, v.j, (wval (prt Vs.re v).num (prt Vs.re v).den (prt Vs.im v).num (prt Vs.im v).den).re, _, _, v.n, 0⟩ : VR) = _
  rw [show (wval (uf (prt Vs.re v)).n (uf (prt Vs.re v)).d (uf (prt Vs.im v)).n (uf (prt Vs.im v)).d) = _ from k2, k2]
theorem make_turned {v : Vs} (h : v.chk = 0) : wmk v.j v.i (fmk v.re v.den).n (fmk v.re v.den).d (fmk v.im v.den).n (fmk v.im v.den).d v.n = ⟨v.i, v.j, v.re, -v.im, v.den, v.n, 0⟩ := by
  obtain ⟨x1, x2⟩ := part_uf re_r h
  obtain ⟨y1, y2⟩ := part_uf im_r h
  obtain ⟨k1, k2⟩ := Vs.parts h
  have c := Vs.chk_ok h
  rw [x1, y1]
  unfold wmk
  rw [if_neg (by rw [(wbad_of h).2]; decide), if_neg (by intro h'; exact h' ⟨fchk_inr x2, fchk_inr y2⟩), if_neg (fun h' => by have e : wok (uf (prt Vs.re v)).n (uf (prt Vs.re v)).d (uf (prt Vs.im v)).n (uf (prt Vs.im v)).d = true := k1; rw [e] at h'; cases h'), if_pos (by omega)]
  rw [show (wval (uf (prt Vs.re v)).n (uf (prt Vs.re v)).d (uf (prt Vs.im v)).n (uf (prt Vs.im v)).d) = _ from k2]
/-- The mean of one. -/
theorem mean_one {v : Vs} (h : v.chk = 0) (hn : 0 < v.n) : vMean [v] = ⟨v.i, v.j, v.re, v.im, v.den, v.n, 0⟩ := by
  have hv : vall [v] = true := by rw [vall_cons]; exact ⟨h, rfl⟩
  have c := Vs.chk_ok h
  have hw : ws [v] = v.n := by simp only [ws]; omega
  have hf : ∀ p : Vs → Int, PartR p → fmean p [v] = uf (prt p v) := fun p hp => by
    obtain ⟨b1, b2⟩ := hp v h
    obtain ⟨d1, d2, _⟩ := Vs.small h
    have hq : qs p [v] = ((v.n * p v : Int) : Rat) / ((v.den : Int) : Rat) := by
      simp only [qs]; unfold prt; rw [mul_div']; grind
    have hi : inr (qs p [v]) := by
      have m1 : v.n * p v ≤ 1000000 * 1000000000 := by
        have a1 := Int.mul_le_mul_of_nonneg_left (a := p v) (b := 1000000000) (c := v.n) b2 (by omega)
        have a2 := Int.mul_le_mul_of_nonneg_right (a := v.n) (b := 1000000) (c := 1000000000) c.2.2.2.2.2 (by omega)
        omega
      have m2 : -(1000000 * 1000000000) ≤ v.n * p v := by
        have a1 := Int.mul_le_mul_of_nonneg_left (a := -1000000000) (b := p v) (c := v.n) b1 (by omega)
        have a2 := Int.mul_le_mul_of_nonneg_right (a := v.n) (b := 1000000) (c := 1000000000) c.2.2.2.2.2 (by omega)
        rw [Int.mul_neg] at a1
        omega
      rw [hq]; exact inr_frac (by omega) (by omega) (by omega) (by omega)
    have hs : sm (tq (meanT p [v])) 1 = qs p [v] := mt_sum hp hv 1 (Nat.le_refl _)
    have hg : gsum (meanT p [v]) 1 = uf (qs p [v]) := by
      rw [← hs]
      refine gsum_go 1 (mt_val hp hv) (fun j hj => ?_) fun j hj => ?_
      · obtain rfl : j = 0 := by omega
        have : tq (meanT p [v]) 0 = qs p [v] := by rw [← hs, sm_succ, sm_zero]; grind
        rw [this]; exact hi
      · rcases (show j = 0 ∨ j = 1 by omega) with rfl | rfl
        · exact inr_0
        · rw [hs]; exact hi
    have hN : ((v.n : Int) : Rat) ≠ 0 := by intro h'; rw [Rat.intCast_eq_zero_iff] at h'; omega
    show fmean p [v] = _
    have e1 : (gsum (meanT p [v]) [v].length).e = 0 := by show (gsum (meanT p [v]) 1).e = 0; rw [hg]; rfl
    rw [fmean_0 e1, wsum_all, hw]
    show fdiv (gsum (meanT p [v]) 1).n (gsum (meanT p [v]) 1).d v.n 1 = _
    rw [hg]
    rw [show fdiv (uf (qs p [v])).n (uf (qs p [v])).d v.n 1 = pack (qs p [v] / (v.n : Rat)) from fdiv_uf hi hn (by omega)]
    have : qs p [v] / (v.n : Rat) = prt p v := by simp only [qs]; grind
    rw [this]
    exact pack_ok (part_uf hp h).2
  rw [vMean_0 (vlist_of hv (by simp)) (by simp) (by rw [vsame_iff]; intro u hu; simp at hu; subst hu; exact ⟨rfl, rfl⟩)]
  obtain ⟨k1, k2⟩ := Vs.parts h
  have r := hf _ re_r
  have m := hf _ im_r
  have w0 : wsum [v] [v].length = v.n := by rw [wsum_all, hw]
  rw [vmean_0 (by simp) (by rw [w0]; omega) (by rw [r]; rfl) (by rw [m]; rfl) (by rw [r, m]; exact k1) (by rw [w0]; omega), r, m, w0]
  exact vmk_self h
/-- A mean lies between. -/
theorem qs_above {p : Vs → Int} {x : Rat} : ∀ {l : List Vs}, vall l = true → (∀ v ∈ l, x < prt p v) → x * (ws l : Rat) ≤ qs p l ∧ (0 < ws l → x * (ws l : Rat) < qs p l)
  | [], _, _ => by simp only [ws, qs]; refine ⟨by show x * ((0 : Int) : Rat) ≤ 0; grind, fun h => absurd h (by decide)⟩
  | v :: l, h, hx => by
    obtain ⟨h1, h2⟩ := vall_cons.1 h
    have n1 := (Vs.chk_ok h1).2.2.2.2.1
    have hv := hx v (List.mem_cons_self ..)
    obtain ⟨i1, i2⟩ := qs_above h2 fun u hu => hx u (List.mem_cons_of_mem _ hu)
    have w0 := ws_nn h2
    have n0 : (0 : Rat) ≤ ((v.n : Int) : Rat) := by exact_mod_cast n1
    simp only [ws, qs]
    rw [Rat.intCast_add]
    have a1 : x * (v.n : Rat) ≤ (v.n : Rat) * prt p v := by
      rw [Rat.mul_comm]; exact Rat.mul_le_mul_of_nonneg_left (by grind) n0
    refine ⟨by grind, fun hp => ?_⟩
    rcases Int.lt_or_le 0 (ws l) with h' | h'
    · have := i2 h'; grind
    · have hn : 0 < v.n := by omega
      have hn' : (0 : Rat) < ((v.n : Int) : Rat) := by exact_mod_cast hn
      have : x * (v.n : Rat) < (v.n : Rat) * prt p v := by
        rw [Rat.mul_comm]; exact Rat.mul_lt_mul_of_pos_left hv hn'
      grind
theorem qs_neg (p : Vs → Int) : ∀ l, qs (fun v => - p v) l = - qs p l
  | [] => by simp only [qs]; grind
  | v :: l => by
    simp only [qs]; rw [qs_neg p l]; unfold prt
    rw [Rat.intCast_neg]; grind
theorem mean_low {p : Vs → Int} {l : List Vs} (h : vall l = true) (hw : 0 < ws l) : ∃ v ∈ l, prt p v ≤ qs p l / (ws l : Rat) := by
  apply Classical.byContradiction
  intro hn
  have W : (0 : Rat) < ((ws l : Int) : Rat) := by exact_mod_cast hw
  have hx : ∀ v ∈ l, qs p l / (ws l : Rat) < prt p v := fun v hv => by
    apply Classical.byContradiction
    intro h'
    exact hn ⟨v, hv, Rat.not_lt.1 h'⟩
  have := (qs_above h hx).2 hw
  have e : qs p l / (ws l : Rat) * (ws l : Rat) = qs p l := by grind
  rw [e] at this
  grind
theorem mean_high {p : Vs → Int} {l : List Vs} (h : vall l = true) (hw : 0 < ws l) : ∃ v ∈ l, qs p l / (ws l : Rat) ≤ prt p v := by
  obtain ⟨v, hv, hl⟩ := mean_low (p := fun v => - p v) h hw
  refine ⟨v, hv, ?_⟩
  rw [qs_neg] at hl
  unfold prt at hl ⊢
  rw [Rat.intCast_neg] at hl
  have e1 : -qs p l / (ws l : Rat) = -(qs p l / (ws l : Rat)) := by grind
  have e2 : -(p v : Rat) / (v.den : Rat) = -((p v : Rat) / (v.den : Rat)) := by grind
  rw [e1, e2] at hl
  grind
end Go.Proofs.Ytpjhiojdnebgoaa

/- What is proved here: the contract of the reference's Less of fractions. Condition: 64-bit numbers, denominators greater than 0. -/
namespace Go.Proofs.Ytpjhiojdnebgoaa
open Go.RowKit

set_option maxRecDepth 100000 in
set_option maxHeartbeats 4000000 in
theorem less_same (an ad bn bd : Int) (w : World) (h1 : i64 an) (h2 : 1 ≤ ad) (h3 : ad ≤ 9223372036854775807) (h4 : i64 bn) (h5 : 1 ≤ bd) (h6 : bd ≤ 9223372036854775807) (hs : decide (an < 0) = decide (bn < 0)) :
    Calls Try.prog 112 #[.agg #[.int .i64 an, .int .i64 ad], .agg #[.int .i64 bn, .int .i64 bd]] w fun e w' => e = .returned (.bool (decide (fcmp an ad bn bd = -1))) ∧ Below w.heap.size w w' := by
  obtain ⟨a1, a2⟩ := h1
  obtain ⟨b1, b2⟩ := h4
  have t1 : (decide (an < 0) != decide (bn < 0)) = false := by simp [hs]
  have t2 : (!decide (an < 0) == decide (bn < 0)) = false := by simp [hs]
  have hX : an.natAbs * bd.natAbs < 340282366920938463463374607431768211456 := by have := Nat.mul_le_mul (show an.natAbs ≤ 9223372036854775808 by omega) (show bd.natAbs ≤ 9223372036854775808 by omega); omega
  have hY : bn.natAbs * ad.natAbs < 340282366920938463463374607431768211456 := by have := Nat.mul_le_mul (show bn.natAbs ≤ 9223372036854775808 by omega) (show ad.natAbs ≤ 9223372036854775808 by omega); omega
  have H : Hid (decide (fcmp an ad bn bd = -1) = if an < 0 then decide (bn.natAbs * ad.natAbs < an.natAbs * bd.natAbs) else decide (an.natAbs * bd.natAbs < bn.natAbs * ad.natAbs)) := by
    show _ = _
    by_cases p : an < 0
    · have q : bn < 0 := by rw [decide_eq_decide] at hs; omega
      rw [if_pos p, fcmp_neg p q h2 h5]
      generalize an.natAbs * bd.natAbs = x
      generalize bn.natAbs * ad.natAbs = y
      unfold cmpN
      refine decide_eq_decide.2 ?_
      split
      · omega
      · split <;> omega
    · have q : ¬ bn < 0 := by rw [decide_eq_decide] at hs; omega
      rw [if_neg p, fcmp_nn (by omega) (by omega) h2 h5]
      generalize an.natAbs * bd.natAbs = x
      generalize bn.natAbs * ad.natAbs = y
      unfold cmpN
      refine decide_eq_decide.2 ?_
      split
      · omega
      · split <;> omega
  have hsb : an < 0 ↔ bn < 0 := decide_eq_decide.1 hs
  clear hs
  by_cases pa : an < 0
  · have HH : Hid (decide (fcmp an ad bn bd = -1) = decide (bn.natAbs * ad.natAbs < an.natAbs * bd.natAbs)) := by show _ = _; rw [H.out, if_pos pa]
    have pb : bn < 0 := hsb.1 pa
    clear H hsb
    go_enter Try.func112, Try.ntmps112
    go_wp2_with fail
    refine wp_region_fl 98 [.int .u64 0, .int .u64 0, .int .u64 0, .int .u64 0] [.t [0, 1, 3, 4, 5, 7, 8, 10, 11, 12], .f 2, .f 6, .f 9, .f 13] [14, 15] [16, 17] (by kernel_rfl) (by kernel_rfl) (fun _ => by kernel_rfl) (fun _ _ _ _ _ h => h) ?_
    have gl := @grow_lt
    refine wpGS_t ?_
    try simp only [opsAt, List.getElem?_toArray, List.getElem?_cons_zero, List.getElem?_cons_succ, Option.getD_some]
    repeat (go_big_quiet_step (fail))
    refine wpQuiet_nil ?_
    refine wpGS_f (.int .u64 an.natAbs) rfl rfl (fun wg hwg => ?_) ?_
    · unfold gqAt
      go_simp
      exact ⟨rfl, abs_grow _ _ (by omega) (by omega)⟩
    refine wpGS_f (.agg #[.int .u64 (dg (an.natAbs * bd.natAbs) 0), .int .u64 (dg (an.natAbs * bd.natAbs) 1), .int .u64 (dg (an.natAbs * bd.natAbs) 2), .int .u64 (dg (an.natAbs * bd.natAbs) 3)]) rfl rfl (fun wg hwg => ?_) ?_
    · unfold gqAt
      go_simp
      exact ⟨rfl, product_of _ _ _ _ _ rfl (by omega) (by omega) (by omega)⟩
    refine wpGS_f (.int .u64 bn.natAbs) rfl rfl (fun wg hwg => ?_) ?_
    · unfold gqAt
      go_simp
      exact ⟨rfl, abs_grow _ _ (by omega) (by omega)⟩
    refine wpGS_f (.agg #[.int .u64 (dg (bn.natAbs * ad.natAbs) 0), .int .u64 (dg (bn.natAbs * ad.natAbs) 1), .int .u64 (dg (bn.natAbs * ad.natAbs) 2), .int .u64 (dg (bn.natAbs * ad.natAbs) 3)]) rfl rfl (fun wg hwg => ?_) ?_
    · unfold gqAt
      go_simp
      exact ⟨rfl, product_of _ _ _ _ _ rfl (by omega) (by omega) (by omega)⟩
    refine wpGS_nil ?_
    clear gl
    intro b5 hb5 hn5 b6 hb6 hn6 w' ⟨⟨hbw, o5⟩, o6⟩
    have hne : ¬ b5 = b6 := fun h => hn6 (by simp [h])
    have hne' : ¬ b6 = b5 := fun h => hn6 (by simp [h])
    simp at hb5 hb6
    clear hn5 hn6
    obtain ⟨c1, f1⟩ := bcell hbw
    have z1 := (hbw).size
    try simp at z1
    try simp at c1
    try simp at f1
    have z1a : w.heap.size < w'.heap.size := by omega
    have z1b : w.heap.size + 1 < w'.heap.size := by omega
    obtain ⟨r5, q5⟩ := o5.rules
    obtain ⟨r6, q6⟩ := o6.rules
    try simp only [opsAt, List.getElem?_toArray, List.getElem?_cons_zero, List.getElem?_cons_succ, Option.getD_some]
    generalize an.natAbs * bd.natAbs = X at *
    generalize bn.natAbs * ad.natAbs = Y at *
    go_wp2_with fail
    refine (bbelow_any Y X _ hY hX).mono ?_
    rintro e w2 ⟨rfl, hb2⟩
    go_wp2
    go_ret
    refine ⟨by rw [HH.out]; try rfl, below_to ?_ hb2⟩
    repeat (refine Below.setCell ?_ (by first | omega | (simp; omega)) _)
    exact below_to (ba2 _ _ _) hbw
  · have HH : Hid (decide (fcmp an ad bn bd = -1) = decide (an.natAbs * bd.natAbs < bn.natAbs * ad.natAbs)) := by show _ = _; rw [H.out, if_neg pa]
    have pb : ¬ bn < 0 := fun h => pa (hsb.2 h)
    clear H hsb
    go_enter Try.func112, Try.ntmps112
    go_wp2_with fail
    refine wp_region_fl 98 [.int .u64 0, .int .u64 0, .int .u64 0, .int .u64 0] [.t [0, 1, 3, 4, 5, 7, 8, 10, 11, 12], .f 2, .f 6, .f 9, .f 13] [14, 15] [16, 17] (by kernel_rfl) (by kernel_rfl) (fun _ => by kernel_rfl) (fun _ _ _ _ _ h => h) ?_
    have gl := @grow_lt
    refine wpGS_t ?_
    try simp only [opsAt, List.getElem?_toArray, List.getElem?_cons_zero, List.getElem?_cons_succ, Option.getD_some]
    repeat (go_big_quiet_step (fail))
    refine wpQuiet_nil ?_
    refine wpGS_f (.int .u64 an.natAbs) rfl rfl (fun wg hwg => ?_) ?_
    · unfold gqAt
      go_simp
      exact ⟨rfl, abs_grow _ _ (by omega) (by omega)⟩
    refine wpGS_f (.agg #[.int .u64 (dg (an.natAbs * bd.natAbs) 0), .int .u64 (dg (an.natAbs * bd.natAbs) 1), .int .u64 (dg (an.natAbs * bd.natAbs) 2), .int .u64 (dg (an.natAbs * bd.natAbs) 3)]) rfl rfl (fun wg hwg => ?_) ?_
    · unfold gqAt
      go_simp
      exact ⟨rfl, product_of _ _ _ _ _ rfl (by omega) (by omega) (by omega)⟩
    refine wpGS_f (.int .u64 bn.natAbs) rfl rfl (fun wg hwg => ?_) ?_
    · unfold gqAt
      go_simp
      exact ⟨rfl, abs_grow _ _ (by omega) (by omega)⟩
    refine wpGS_f (.agg #[.int .u64 (dg (bn.natAbs * ad.natAbs) 0), .int .u64 (dg (bn.natAbs * ad.natAbs) 1), .int .u64 (dg (bn.natAbs * ad.natAbs) 2), .int .u64 (dg (bn.natAbs * ad.natAbs) 3)]) rfl rfl (fun wg hwg => ?_) ?_
    · unfold gqAt
      go_simp
      exact ⟨rfl, product_of _ _ _ _ _ rfl (by omega) (by omega) (by omega)⟩
    refine wpGS_nil ?_
    clear gl
    intro b5 hb5 hn5 b6 hb6 hn6 w' ⟨⟨hbw, o5⟩, o6⟩
    have hne : ¬ b5 = b6 := fun h => hn6 (by simp [h])
    have hne' : ¬ b6 = b5 := fun h => hn6 (by simp [h])
    simp at hb5 hb6
    clear hn5 hn6
    obtain ⟨c1, f1⟩ := bcell hbw
    have z1 := (hbw).size
    try simp at z1
    try simp at c1
    try simp at f1
    have z1a : w.heap.size < w'.heap.size := by omega
    have z1b : w.heap.size + 1 < w'.heap.size := by omega
    obtain ⟨r5, q5⟩ := o5.rules
    obtain ⟨r6, q6⟩ := o6.rules
    try simp only [opsAt, List.getElem?_toArray, List.getElem?_cons_zero, List.getElem?_cons_succ, Option.getD_some]
    generalize an.natAbs * bd.natAbs = X at *
    generalize bn.natAbs * ad.natAbs = Y at *
    go_wp2_with fail
    refine (bbelow_any X Y _ hX hY).mono ?_
    rintro e w2 ⟨rfl, hb2⟩
    go_wp2
    go_ret
    refine ⟨by rw [HH.out]; try rfl, below_to ?_ hb2⟩
    repeat (refine Below.setCell ?_ (by first | omega | (simp; omega)) _)
    exact below_to (ba2 _ _ _) hbw

theorem less_any (an ad bn bd : Int) (w : World) (h1 : i64 an) (h2 : 1 ≤ ad) (h3 : ad ≤ 9223372036854775807) (h4 : i64 bn) (h5 : 1 ≤ bd) (h6 : bd ≤ 9223372036854775807) :
    Calls Try.prog 112 #[.agg #[.int .i64 an, .int .i64 ad], .agg #[.int .i64 bn, .int .i64 bd]] w fun e w' => e = .returned (.bool (decide (fcmp an ad bn bd = -1))) ∧ Below w.heap.size w w' := by
  by_cases hs : decide (an < 0) = decide (bn < 0)
  · exact less_same an ad bn bd w h1 h2 h3 h4 h5 h6 hs
  · obtain ⟨a1, a2⟩ := h1
    obtain ⟨b1, b2⟩ := h4
    have t1 : (decide (an < 0) != decide (bn < 0)) = true := by simpa using hs
    have t2 : (!decide (an < 0) == decide (bn < 0)) = true := by simpa using hs
    have H : Hid (decide (fcmp an ad bn bd = -1) = decide (an < 0)) := by
      show _ = _
      rw [decide_eq_decide] at hs
      by_cases p : an < 0
      · rw [fcmp_lt p (by omega) h2 h5]; simp [p]
      · rw [fcmp_gt (by omega) (by omega) h2 h5]; simp [p]
    clear hs
    go_enter Try.func112, Try.ntmps112
    go_wp2
    go_ret
    exact ⟨by rw [H.out]; try rfl, ba2 _ _ _⟩

end Go.Proofs.Ytpjhiojdnebgoaa

/- What is proved here: the contract of the reference's Cmp of fractions. Condition: 64-bit numbers. -/
namespace Go.Proofs.Ytpjhiojdnebgoaa
open Go.RowKit

set_option maxHeartbeats 3200000 in
theorem rcmp_ne (an ad bn bd : Int) (w : World) (h1 : i64 an) (h2 : i64 ad) (h3 : i64 bn) (h4 : i64 bd) (p : fboth an ad bn bd = 0) (q : ¬ (an = bn ∧ ad = bd)) :
    Calls Try.prog 85 #[.agg #[.int .i64 an, .int .i64 ad], .agg #[.int .i64 bn, .int .i64 bd]] w fun e w' => e = .returned (.tuple #[.int .i64 (fcmpZ an ad bn bd), .int .i64 (fboth an ad bn bd)]) ∧ Below w.heap.size w w' := by
  have H : Hid (fcmpZ an ad bn bd = fcmp an ad bn bd) := if_pos p
  have b1 : (fboth an ad bn bd != 0) = false := by simp [p]
  obtain ⟨p1, p2⟩ := fboth_ok p
  obtain ⟨u1, u2, u3, u4, _⟩ := fok_of p1
  obtain ⟨v1, v2, v3, v4, _⟩ := fok_of p2
  have P := Lib.hid p
  have q1 : ¬ fcmp an ad bn bd = 0 := fun h => q (fcmp_eq p1 p2 h)
  have HC := Lib.hid (fcmp_cases an ad bn bd)
  have Q1 := Lib.hid q1
  clear p p1 p2 q1
  by_cases q2 : an = bn
  · have q3 : ¬ ad = bd := fun h => q ⟨q2, h⟩
    have q4 : (ad == bd) = false := by simpa using q3
    obtain rfl : an = bn := q2
    clear q
    by_cases r : fcmp an ad an bd = -1
    · have b4 : decide (fcmp an ad an bd = -1) = true := by simpa using r
      have R := Lib.hid r
      clear r
      go_enter Try.func85, Try.ntmps85
      go_wp2_with fail
      refine (rfrboth_any _ _ _ _ _ h1 h2 h3 h4).mono ?_
      rintro e w1 ⟨rfl, hb1⟩
      obtain ⟨c1, f1⟩ := bcell hb1
      have z1 := (hb1).size
      try simp at z1
      try simp at c1
      try simp at f1
      have z1a : w.heap.size < w1.heap.size := by omega
      have z1b : w.heap.size + 1 < w1.heap.size := by omega
      go_wp2_with fail
      refine (less_any _ _ _ _ _ h1 (by omega) (by omega) h3 (by omega) (by omega)).mono ?_
      rintro e w2 ⟨rfl, hb2⟩
      go_wp2
      go_ret2
      exact ⟨by rw [H.out, P.out, R.out]; try rfl, below_to (below_to (ba2 _ _ _) hb1) hb2⟩
    · have b4 : decide (fcmp an ad an bd = -1) = false := by simpa using r
      have R : Hid (fcmp an ad an bd = 1) := by
        have h1 := HC.out
        have h2 := Q1.out
        show _ = _
        omega
      clear r
      go_enter Try.func85, Try.ntmps85
      go_wp2_with fail
      refine (rfrboth_any _ _ _ _ _ h1 h2 h3 h4).mono ?_
      rintro e w1 ⟨rfl, hb1⟩
      obtain ⟨c1, f1⟩ := bcell hb1
      have z1 := (hb1).size
      try simp at z1
      try simp at c1
      try simp at f1
      have z1a : w.heap.size < w1.heap.size := by omega
      have z1b : w.heap.size + 1 < w1.heap.size := by omega
      go_wp2_with fail
      refine (less_any _ _ _ _ _ h1 (by omega) (by omega) h3 (by omega) (by omega)).mono ?_
      rintro e w2 ⟨rfl, hb2⟩
      go_wp2
      go_ret2
      exact ⟨by rw [H.out, P.out, R.out]; try rfl, below_to (below_to (ba2 _ _ _) hb1) hb2⟩
  · have q4 : (an == bn) = false := by simpa using q2
    clear q
    by_cases r : fcmp an ad bn bd = -1
    · have b4 : decide (fcmp an ad bn bd = -1) = true := by simpa using r
      have R := Lib.hid r
      clear r
      go_enter Try.func85, Try.ntmps85
      go_wp2_with fail
      refine (rfrboth_any _ _ _ _ _ h1 h2 h3 h4).mono ?_
      rintro e w1 ⟨rfl, hb1⟩
      obtain ⟨c1, f1⟩ := bcell hb1
      have z1 := (hb1).size
      try simp at z1
      try simp at c1
      try simp at f1
      have z1a : w.heap.size < w1.heap.size := by omega
      have z1b : w.heap.size + 1 < w1.heap.size := by omega
      go_wp2_with fail
      refine (less_any _ _ _ _ _ h1 (by omega) (by omega) h3 (by omega) (by omega)).mono ?_
      rintro e w2 ⟨rfl, hb2⟩
      go_wp2
      go_ret2
      exact ⟨by rw [H.out, P.out, R.out]; try rfl, below_to (below_to (ba2 _ _ _) hb1) hb2⟩
    · have b4 : decide (fcmp an ad bn bd = -1) = false := by simpa using r
      have R : Hid (fcmp an ad bn bd = 1) := by
        have h1 := HC.out
        have h2 := Q1.out
        show _ = _
        omega
      clear r
      go_enter Try.func85, Try.ntmps85
      go_wp2_with fail
      refine (rfrboth_any _ _ _ _ _ h1 h2 h3 h4).mono ?_
      rintro e w1 ⟨rfl, hb1⟩
      obtain ⟨c1, f1⟩ := bcell hb1
      have z1 := (hb1).size
      try simp at z1
      try simp at c1
      try simp at f1
      have z1a : w.heap.size < w1.heap.size := by omega
      have z1b : w.heap.size + 1 < w1.heap.size := by omega
      go_wp2_with fail
      refine (less_any _ _ _ _ _ h1 (by omega) (by omega) h3 (by omega) (by omega)).mono ?_
      rintro e w2 ⟨rfl, hb2⟩
      go_wp2
      go_ret2
      exact ⟨by rw [H.out, P.out, R.out]; try rfl, below_to (below_to (ba2 _ _ _) hb1) hb2⟩

set_option maxHeartbeats 1600000 in
theorem rcmp_any (an ad bn bd : Int) (w : World) (h1 : i64 an) (h2 : i64 ad) (h3 : i64 bn) (h4 : i64 bd) :
    Calls Try.prog 85 #[.agg #[.int .i64 an, .int .i64 ad], .agg #[.int .i64 bn, .int .i64 bd]] w fun e w' => e = .returned (.tuple #[.int .i64 (fcmpZ an ad bn bd), .int .i64 (fboth an ad bn bd)]) ∧ Below w.heap.size w w' := by
  by_cases p : fboth an ad bn bd = 0
  · by_cases q : an = bn ∧ ad = bd
    · obtain ⟨rfl, rfl⟩ := q
      have H : Hid (fcmpZ an ad an ad = fcmp an ad an ad) := if_pos p
      have b1 : (fboth an ad an ad != 0) = false := by simp [p]
      have P := Lib.hid p
      have HZ := Lib.hid (fcmp_self an ad)
      clear p
      go_enter Try.func85, Try.ntmps85
      go_wp2_with fail
      refine (rfrboth_any _ _ _ _ _ h1 h2 h3 h4).mono ?_
      rintro e w1 ⟨rfl, hb1⟩
      obtain ⟨c1, f1⟩ := bcell hb1
      have z1 := (hb1).size
      try simp at z1
      try simp at c1
      try simp at f1
      have z1a : w.heap.size < w1.heap.size := by omega
      have z1b : w.heap.size + 1 < w1.heap.size := by omega
      go_wp2
      go_ret2
      exact ⟨by rw [H.out, P.out, HZ.out]; try rfl, below_to (ba2 _ _ _) hb1⟩
    · exact rcmp_ne an ad bn bd w h1 h2 h3 h4 p q
  · have H : Hid (fcmpZ an ad bn bd = 0) := if_neg p
    have b1 : (fboth an ad bn bd != 0) = true := by simp [p]
    clear p
    go_enter Try.func85, Try.ntmps85
    go_wp2_with fail
    refine (rfrboth_any _ _ _ _ _ h1 h2 h3 h4).mono ?_
    rintro e w1 ⟨rfl, hb1⟩
    obtain ⟨c1, f1⟩ := bcell hb1
    have z1 := (hb1).size
    try simp at z1
    try simp at c1
    try simp at f1
    have z1a : w.heap.size < w1.heap.size := by omega
    have z1b : w.heap.size + 1 < w1.heap.size := by omega
    go_wp2_with fail
    refine (rfrboth_any _ _ _ _ _ h1 h2 h3 h4).mono ?_
    rintro e w2 ⟨rfl, hb2⟩
    go_wp2
    go_ret2
    exact ⟨by rw [H.out]; try rfl, below_to (below_to (ba2 _ _ _) hb1) hb2⟩

end Go.Proofs.Ytpjhiojdnebgoaa
