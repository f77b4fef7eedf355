/- What is proved here: contracts of functions and plain facts, several texts in one; each one says ahead what it proves, and its conditions. -/
import Derived.Test.YtpjhiojdnebgoaaC48
import Derived.Test.YtpjhiojdnebgoaaC11
import Derived.Test.YtpjhiojdnebgoaaC12
import Derived.Deep.DeepCutAuto
/- What is proved here: fringelaw22.between returns true where some part is at most, and some at least, the one of the mean. Condition: valid visibilities. -/
namespace Go.Proofs.Ytpjhiojdnebgoaa
open Go.RowKit

def lowB (p : Vs → Int) (x : Rat) (l : List Vs) : Bool := l.any fun v => decide (0 ≤ fcmp x.num x.den (prt p v).num (prt p v).den)
def highB (p : Vs → Int) (x : Rat) (l : List Vs) : Bool := l.any fun v => decide (fcmp x.num x.den (prt p v).num (prt p v).den ≤ 0)
theorem lowB_take {p : Vs → Int} {x : Rat} {l : List Vs} {k : Nat} (hk : k < l.length) : lowB p x (l.take (k + 1)) = (lowB p x (l.take k) || decide (0 ≤ fcmp x.num x.den (prt p l[k]).num (prt p l[k]).den)) := by
  unfold lowB; rw [List.take_succ_eq_append_getElem hk, List.any_append]; simp
theorem highB_take {p : Vs → Int} {x : Rat} {l : List Vs} {k : Nat} (hk : k < l.length) : highB p x (l.take (k + 1)) = (highB p x (l.take k) || decide (fcmp x.num x.den (prt p l[k]).num (prt p l[k]).den ≤ 0)) := by
  unfold highB; rw [List.take_succ_eq_append_getElem hk, List.any_append]; simp
theorem fcmp_le_iff {x y : Rat} : 0 ≤ fcmp x.num x.den y.num y.den ↔ y ≤ x := by rw [fcmp_ge, Rat.le_iff]
theorem fcmp_ge_iff {x y : Rat} : fcmp x.num x.den y.num y.den ≤ 0 ↔ x ≤ y := by
  have h := @fcmp_gt_iff x.num x.den y.num y.den
  rw [Rat.le_iff]
  constructor
  · intro h1
    have : ¬ y.num * x.den < x.num * y.den := fun h2 => by have := h.2 h2; omega
    omega
  · intro h1
    have : ¬ 0 < fcmp x.num x.den y.num y.den := fun h2 => by have := h.1 h2; omega
    omega
theorem lowB_of {p : Vs → Int} {x : Rat} {l : List Vs} (h : ∃ v ∈ l, prt p v ≤ x) : lowB p x l = true := by
  obtain ⟨v, hv, h1⟩ := h
  unfold lowB; rw [List.any_eq_true]
  exact ⟨v, hv, by simpa using fcmp_le_iff.2 h1⟩
theorem highB_of {p : Vs → Int} {x : Rat} {l : List Vs} (h : ∃ v ∈ l, x ≤ prt p v) : highB p x l = true := by
  obtain ⟨v, hv, h1⟩ := h
  unfold highB; rw [List.any_eq_true]
  exact ⟨v, hv, by simpa using fcmp_ge_iff.2 h1⟩
/-- What a valid visibility's part is. -/
structure PartF (p : Vs → Int) (v : Vs) (x : Rat) : Prop where
  f : fmk (p v) v.den = uf x
  c : fchk x.num x.den = 0
  p : i64 v.re ∧ i64 v.im ∧ i64 v.den
theorem part_f {p : Vs → Int} (hp : PartR p) {v : Vs} (h : v.chk = 0) : PartF p v (prt p v) := by
  obtain ⟨e1, e2⟩ := part_uf hp h
  obtain ⟨h1, h2, h3, h4, h5, h6⟩ := Vs.small h
  exact ⟨e1, fchk_inr e2, ⟨by omega, by omega⟩, ⟨by omega, by omega⟩, ⟨by omega, by omega⟩⟩
set_option maxRecDepth 100000 in
set_option maxHeartbeats 16000000 in
theorem between_re_any (l : List Vs) (m : Vs) (v : Value) (w : World) (hs : SV w v l) (hv : vall l = true) (hl : l.length ≤ 200) (hm : m.chk = 0) (h1 : ∃ v ∈ l, prt Vs.re v ≤ prt Vs.re m) (h2 : ∃ v ∈ l, prt Vs.re m ≤ prt Vs.re v) :
    Calls Try.prog 44 #[v, .agg #[.int .i64 m.i, .int .i64 m.j, .int .i64 m.re, .int .i64 m.im, .int .i64 m.den, .int .i64 m.n], .bool false] w fun e w' => e = .returned (.bool true) ∧ Below w.heap.size w w' := by
  have S0 := Lib.hid hs
  have V0 := Lib.hid hv
  have PM := Lib.hid (part_f re_r hm)
  have PR := Lib.hid (part_f re_r hm)
  have E1 := Lib.hid (lowB_of h1)
  have E2 := Lib.hid (highB_of h2)
  obtain ⟨ad, cap, rfl, hc1, hc2, _⟩ := hs.open
  clear hs hv hm h1 h2
  have oM := Own.new w 60 [.int .i64 m.i, .int .i64 m.j, .int .i64 m.re, .int .i64 m.im, .int .i64 m.den, .int .i64 m.n]
  have hB := ba1 w (.cells #[.int .i64 m.i, .int .i64 m.j, .int .i64 m.re, .int .i64 m.im, .int .i64 m.den, .int .i64 m.n] 60)
  go_enter Try.func44, Try.ntmps44
  go_upto_region 2 with fail
  generalize hx : prt Vs.re m = x at *
  clear hx
  obtain ⟨bM, hM⟩ : ∃ B, B = w.heap.size := ⟨_, rfl⟩
  have zM0 : w.heap.size ≤ bM := by omega
  rw [← hM] at oM ⊢
  clear hM
  generalize w.alloc (.cells #[.int .i64 m.i, .int .i64 m.j, .int .i64 m.re, .int .i64 m.im, .int .i64 m.den, .int .i64 m.n] 60) = y0 at *
  obtain ⟨rM, fM⟩ := oM.rules
  have zM := oM.lt
  go_wp2_with fail
  refine (real_any m.re m.im m.den _ PR.out.p.1 PR.out.p.2.2).mono ?_
  rintro e y1 ⟨rfl, hq⟩
  clear rM fM zM
  replace oM := oM.below hq
  replace hB := below_to hB hq
  clear hq
  rw [PM.out.f]
  have oX := Own.new y1 24 [.int .i64 x.num, .int .i64 (x.den : Int)]
  have hq := ba1 y1 (.cells #[.int .i64 x.num, .int .i64 (x.den : Int)] 24)
  unfold uf
  go_upto_region 3 with fail
  replace oM := oM.below hq
  replace hB := below_to hB hq
  clear hq
  obtain ⟨bX, hX⟩ : ∃ B, B = y1.heap.size := ⟨_, rfl⟩
  rw [← hX] at oX ⊢
  clear hX
  generalize y1.alloc (.cells #[.int .i64 x.num, .int .i64 (x.den : Int)] 24) = y2 at *
  have S2 := Lib.hid (S0.out.below hB)
  clear oM
  go_wp2
  go_loopw [7, 8, 10] (fun lo hi i wr => ∃ k : Nat, k ≤ l.length ∧ i = .int .i64 k ∧ lo = .bool (lowB Vs.re x (l.take k)) ∧ hi = .bool (highB Vs.re x (l.take k)) ∧ Own wr bX 24 [.int .i64 x.num, .int .i64 (x.den : Int)] ∧ Below y2.heap.size y2 wr) (fun _ _ i _ => l.length + 1 - (intOf i).toNat)
  case atStart => exact ⟨0, Nat.zero_le _, rfl, rfl, rfl, oX, Below.refl _ _⟩
  case round =>
    clear oX
    obtain ⟨k, hk, rfl, rfl, rfl, oX, hC⟩ := hrel
    rename World => W
    by_cases hlt : k < l.length
    · obtain ⟨_, _, e, _, _, H⟩ := (S2.out.below hC).open
      cases e
      obtain ⟨b, off, rfl, c0, c1, c2, c3, c4, c5⟩ := H.out k hlt
      clear H
      have PU := Lib.hid (part_f re_r (vall_get V0.out hlt))
      have RU := Lib.hid (part_f re_r (vall_get V0.out hlt))
      have TL := Lib.hid (lowB_take (p := Vs.re) (x := x) hlt)
      have TH := Lib.hid (highB_take (p := Vs.re) (x := x) hlt)
      generalize prt Vs.re l[k] = y at *
      generalize l[k] = u at *
      generalize lowB Vs.re x (l.take k) = lo at *
      generalize highB Vs.re x (l.take k) = hi at *
      go_wp2_with fail
      refine (real_any u.re u.im u.den _ RU.out.p.1 RU.out.p.2.2).mono ?_
      rintro e W1 ⟨rfl, hq⟩
      replace oX := oX.below hq
      have hC1 := below_to hC hq
      clear hq c0 c1 c2 c3 c4 c5 hC
      rw [PU.out.f]
      unfold uf
      have oY := Own.new W1 24 [.int .i64 y.num, .int .i64 (y.den : Int)]
      have hq := ba1 W1 (.cells #[.int .i64 y.num, .int .i64 (y.den : Int)] 24)
      go_upto_region 9 with fail
      replace oX := oX.below hq
      replace hC1 := below_to hC1 hq
      clear hq
      obtain ⟨bY, hY⟩ : ∃ B, B = W1.heap.size := ⟨_, rfl⟩
      rw [← hY] at oY ⊢
      clear hY
      generalize W1.alloc (.cells #[.int .i64 y.num, .int .i64 (y.den : Int)] 24) = W2 at *
      have I1 := Lib.hid (fr_i64 PM.out.c)
      have I2 := Lib.hid (fr_i64 PU.out.c)
      have FZ : Hid (fcmpZ x.num x.den y.num y.den = fcmp x.num x.den y.num y.den) := if_pos (fboth_of PM.out.c PU.out.c)
      obtain ⟨rX, fX⟩ := oX.rules
      have zX := oX.lt
      obtain ⟨rY, fY⟩ := oY.rules
      have zY := oY.lt
      go_wp2_with fail
      refine (rcmp_any x.num x.den y.num y.den _ I1.out.1 I1.out.2 I2.out.1 I2.out.2).mono ?_
      rintro e W3 ⟨rfl, hq⟩
      rw [FZ.out]
      clear rX fX zX rY fY zY oY
      replace oX := oX.below hq
      replace hC1 := below_to hC1 hq
      clear hq
      generalize fcmp x.num x.den y.num y.den = c at *
      cases lo <;> cases hi
      all_goals
        go_wp2
        go_roundw
        case rel => exact ⟨k + 1, by omega, by go_num, by rw [TL.out]; first | rfl | simp, by rw [TH.out]; first | rfl | simp, oX, hC1⟩
        case measure => simp [intOf]; try omega
    · obtain rfl : k = l.length := by omega
      have e1 : l.take l.length = l := List.take_of_length_le (Nat.le_refl _)
      rw [e1, E1.out, E2.out]
      go_wp2
      go_ret
      exact ⟨rfl, below_to hB hC⟩
set_option maxRecDepth 100000 in
set_option maxHeartbeats 16000000 in
theorem between_im_any (l : List Vs) (m : Vs) (v : Value) (w : World) (hs : SV w v l) (hv : vall l = true) (hl : l.length ≤ 200) (hm : m.chk = 0) (h1 : ∃ v ∈ l, prt Vs.im v ≤ prt Vs.im m) (h2 : ∃ v ∈ l, prt Vs.im m ≤ prt Vs.im v) :
    Calls Try.prog 44 #[v, .agg #[.int .i64 m.i, .int .i64 m.j, .int .i64 m.re, .int .i64 m.im, .int .i64 m.den, .int .i64 m.n], .bool true] w fun e w' => e = .returned (.bool true) ∧ Below w.heap.size w w' := by
  have S0 := Lib.hid hs
  have V0 := Lib.hid hv
  have PM := Lib.hid (part_f im_r hm)
  have PR := Lib.hid (part_f re_r hm)
  have E1 := Lib.hid (lowB_of h1)
  have E2 := Lib.hid (highB_of h2)
  obtain ⟨ad, cap, rfl, hc1, hc2, _⟩ := hs.open
  clear hs hv hm h1 h2
  have oM := Own.new w 60 [.int .i64 m.i, .int .i64 m.j, .int .i64 m.re, .int .i64 m.im, .int .i64 m.den, .int .i64 m.n]
  have hB := ba1 w (.cells #[.int .i64 m.i, .int .i64 m.j, .int .i64 m.re, .int .i64 m.im, .int .i64 m.den, .int .i64 m.n] 60)
  go_enter Try.func44, Try.ntmps44
  go_upto_region 2 with fail
  generalize hx : prt Vs.im m = x at *
  clear hx
  obtain ⟨bM, hM⟩ : ∃ B, B = w.heap.size := ⟨_, rfl⟩
  have zM0 : w.heap.size ≤ bM := by omega
  rw [← hM] at oM ⊢
  clear hM
  generalize w.alloc (.cells #[.int .i64 m.i, .int .i64 m.j, .int .i64 m.re, .int .i64 m.im, .int .i64 m.den, .int .i64 m.n] 60) = y0 at *
  obtain ⟨rM, fM⟩ := oM.rules
  have zM := oM.lt
  go_wp2_with fail
  refine (real_any m.re m.im m.den _ PR.out.p.1 PR.out.p.2.2).mono ?_
  rintro e y1 ⟨rfl, hq⟩
  clear rM fM zM
  replace oM := oM.below hq
  replace hB := below_to hB hq
  clear hq
  generalize fmk m.re m.den = r at *
  have zX0 := hB.size
  have oX := Own.new y1 24 [.int .i64 r.n, .int .i64 r.d]
  have hq := ba1 y1 (.cells #[.int .i64 r.n, .int .i64 r.d] 24)
  go_upto_region 3 with fail
  replace oM := oM.below hq
  replace hB := below_to hB hq
  clear hq
  obtain ⟨bX, hX⟩ : ∃ B, B = y1.heap.size := ⟨_, rfl⟩
  have zX1 : w.heap.size ≤ bX := by rw [hX]; exact zX0
  rw [← hX] at oX ⊢
  generalize y1.alloc (.cells #[.int .i64 r.n, .int .i64 r.d] 24) = y1b at *
  have zMX : bM < y1.heap.size ∨ True := .inr trivial
  obtain ⟨rM, fM⟩ := oM.rules
  have zM := oM.lt
  go_wp2_with fail
  refine (imag_any m.re m.im m.den _ PM.out.p.2.1 PM.out.p.2.2).mono ?_
  rintro e y1c ⟨rfl, hq⟩
  clear rM fM zM oM zMX hX
  replace oX := oX.below hq
  replace hB := below_to hB hq
  clear hq
  rw [PM.out.f]
  unfold uf
  obtain ⟨rX, fX⟩ := oX.rules
  have zX := oX.lt
  go_upto_region 5 with fail
  clear rX fX zX
  replace oX := (oX.set 0 (.int .i64 x.num)).set 1 (.int .i64 (x.den : Int))
  replace hB := (hB.setCell (p := ⟨bX, 0, none⟩) (by simp; omega) (.int .i64 x.num)).setCell (p := ⟨bX, 1, none⟩) (by simp; omega) (.int .i64 (x.den : Int))
  generalize (y1c.setCell ⟨bX, 0, none⟩ (.int .i64 x.num)).setCell ⟨bX, 1, none⟩ (.int .i64 (x.den : Int)) = y2 at *
  have S2 := Lib.hid (S0.out.below hB)
  skip
  go_wp2
  go_loopw [7, 8, 10] (fun lo hi i wr => ∃ k : Nat, k ≤ l.length ∧ i = .int .i64 k ∧ lo = .bool (lowB Vs.im x (l.take k)) ∧ hi = .bool (highB Vs.im x (l.take k)) ∧ Own wr bX 24 [.int .i64 x.num, .int .i64 (x.den : Int)] ∧ Below y2.heap.size y2 wr) (fun _ _ i _ => l.length + 1 - (intOf i).toNat)
  case atStart => exact ⟨0, Nat.zero_le _, rfl, rfl, rfl, oX, Below.refl _ _⟩
  case round =>
    clear oX
    obtain ⟨k, hk, rfl, rfl, rfl, oX, hC⟩ := hrel
    rename World => W
    by_cases hlt : k < l.length
    · obtain ⟨_, _, e, _, _, H⟩ := (S2.out.below hC).open
      cases e
      obtain ⟨b, off, rfl, c0, c1, c2, c3, c4, c5⟩ := H.out k hlt
      clear H
      have PU := Lib.hid (part_f im_r (vall_get V0.out hlt))
      have RU := Lib.hid (part_f re_r (vall_get V0.out hlt))
      have TL := Lib.hid (lowB_take (p := Vs.im) (x := x) hlt)
      have TH := Lib.hid (highB_take (p := Vs.im) (x := x) hlt)
      generalize prt Vs.im l[k] = y at *
      generalize l[k] = u at *
      generalize lowB Vs.im x (l.take k) = lo at *
      generalize highB Vs.im x (l.take k) = hi at *
      go_wp2_with fail
      refine (real_any u.re u.im u.den _ RU.out.p.1 RU.out.p.2.2).mono ?_
      rintro e W1 ⟨rfl, hq⟩
      replace oX := oX.below hq
      have hC1 := below_to hC hq
      have d2 := below_cell hq c2
      have d3 := below_cell hq c3
      have d4 := below_cell hq c4
      clear hq c0 c1 c2 c3 c4 c5 hC
      generalize fmk u.re u.den = r at *
      have oY := Own.new W1 24 [.int .i64 r.n, .int .i64 r.d]
      have hq := ba1 W1 (.cells #[.int .i64 r.n, .int .i64 r.d] 24)
      have ZX := oX.lt
      have ZC := hC1.size
      go_upto_region 9 with fail
      replace d2 := below_cell hq d2
      replace d3 := below_cell hq d3
      replace d4 := below_cell hq d4
      replace oX := oX.below hq
      replace hC1 := below_to hC1 hq
      clear hq
      obtain ⟨bY, hY⟩ : ∃ B, B = W1.heap.size := ⟨_, rfl⟩
      have zY0 : bX < bY := by rw [hY]; exact ZX
      have zY1 : y2.heap.size ≤ bY := by rw [hY]; exact ZC
      rw [← hY] at oY ⊢
      clear hY ZX ZC
      generalize W1.alloc (.cells #[.int .i64 r.n, .int .i64 r.d] 24) = W1b at *
      go_wp2_with fail
      refine (imag_any u.re u.im u.den _ PU.out.p.2.1 PU.out.p.2.2).mono ?_
      rintro e W1c ⟨rfl, hq⟩
      replace oX := oX.below hq
      replace oY := oY.below hq
      replace hC1 := below_to hC1 hq
      clear hq d2 d3 d4
      rw [PU.out.f]
      unfold uf
      obtain ⟨rY, fY⟩ := oY.rules
      have zY := oY.lt
      go_upto_region 11 with fail
      clear rY fY zY
      replace oY := (oY.set 0 (.int .i64 y.num)).set 1 (.int .i64 (y.den : Int))
      replace oX := (oX.other (g' := bY) (by omega) 0 (.int .i64 y.num)).other (g' := bY) (by omega) 1 (.int .i64 (y.den : Int))
      replace hC1 := (hC1.setCell (p := ⟨bY, 0, none⟩) (by simp; omega) (.int .i64 y.num)).setCell (p := ⟨bY, 1, none⟩) (by simp; omega) (.int .i64 (y.den : Int))
      generalize (W1c.setCell ⟨bY, 0, none⟩ (.int .i64 y.num)).setCell ⟨bY, 1, none⟩ (.int .i64 (y.den : Int)) = W2 at *
      have I1 := Lib.hid (fr_i64 PM.out.c)
      have I2 := Lib.hid (fr_i64 PU.out.c)
      have FZ : Hid (fcmpZ x.num x.den y.num y.den = fcmp x.num x.den y.num y.den) := if_pos (fboth_of PM.out.c PU.out.c)
      obtain ⟨rX, fX⟩ := oX.rules
      have zX := oX.lt
      obtain ⟨rY, fY⟩ := oY.rules
      have zY := oY.lt
      go_wp2_with fail
      refine (rcmp_any x.num x.den y.num y.den _ I1.out.1 I1.out.2 I2.out.1 I2.out.2).mono ?_
      rintro e W3 ⟨rfl, hq⟩
      rw [FZ.out]
      clear rX fX zX rY fY zY oY
      replace oX := oX.below hq
      replace hC1 := below_to hC1 hq
      clear hq
      generalize fcmp x.num x.den y.num y.den = c at *
      cases lo <;> cases hi
      all_goals
        go_wp2
        go_roundw
        case rel => exact ⟨k + 1, by omega, by go_num, by rw [TL.out]; first | rfl | simp, by rw [TH.out]; first | rfl | simp, oX, hC1⟩
        case measure => simp [intOf]; try omega
    · obtain rfl : k = l.length := by omega
      have e1 : l.take l.length = l := List.take_of_length_le (Nat.le_refl _)
      rw [e1, E1.out, E2.out]
      go_wp2
      go_ret
      exact ⟨rfl, below_to hB hC⟩
end Go.Proofs.Ytpjhiojdnebgoaa
