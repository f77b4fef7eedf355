/- What is proved here: the law FlagCloses holds. Condition: a slice that can be read, 64-bit integers. -/
import Derived.Test.YtpkggglifahioaaFlagGrows
namespace Go.Proofs.Ytpkggglifahioaa
open Go.RowKit

theorem ok_close (t c : Int) (v : Value) (xs : List Bool) (fn fd : Int) (w : World) (h : SB w v xs) (h1 : i64 fn) (h2 : i64 fd) (hm : Hid (mchk t c xs.length = 0)) (hp : Hid (prtB fn fd = true)) :
    Calls Try.prog 28 #[.agg #[.int .i64 t, .int .i64 c, v], .agg #[.int .i64 fn, .int .i64 fd]] w fun e w' => ∃ (u : Value) (n : Nat), e = .returned (.tuple #[.agg #[.int .i64 t, .int .i64 c, u], .int .i64 n, .int .i64 0]) ∧ (∃ zs, SB w' u zs ∧ Hid (zs = cloL t.toNat c.toNat xs fn fd ∧ n = cloN t.toNat c.toNat xs fn fd ∧ mchk t c zs.length = 0 ∧ fillL t.toNat c.toNat zs fn fd = zs)) ∧ Frv w.heap.size u ∧ Below w.heap.size w w' := by
  have h := mclose_any t c v xs fn fd w h h1 h2
  have e := ferr_0 hm.out hp.out
  rw [e, zt_eq rfl, zt_eq rfl, zt_eq rfl, zl_eq rfl] at h
  refine h.mono ?_
  rintro e w' ⟨u, a, b, d, f⟩
  refine ⟨u, _, a, ⟨_, b, ⟨rfl, rfl, by rw [cloL, clo_len]; exact hm.out, ?_⟩⟩, d, f⟩
  refine clo_fix _ _ _ _ 600 xs ?_
  obtain ⟨m1, m2, m3, m4, m5⟩ := mchk_ok hm.out
  have := prod_bd m1 m2 m3 m4
  have := nf_le xs
  omega
theorem ok_close2 (t c : Int) (v : Value) (xs : List Bool) (fn fd : Int) (w : World) (h : SB w v xs) (h1 : i64 fn) (h2 : i64 fd) (hm : Hid (mchk t c xs.length = 0)) (hp : Hid (prtB fn fd = true)) (hf : Hid (fillL t.toNat c.toNat xs fn fd = xs)) :
    Calls Try.prog 28 #[.agg #[.int .i64 t, .int .i64 c, v], .agg #[.int .i64 fn, .int .i64 fd]] w fun e w' => ∃ (u : Value), e = .returned (.tuple #[.agg #[.int .i64 t, .int .i64 c, u], .int .i64 0, .int .i64 0]) ∧ SB w' u xs ∧ Frv w.heap.size u ∧ Below w.heap.size w w' := by
  have h := mclose_any t c v xs fn fd w h h1 h2
  have e := ferr_0 hm.out hp.out
  rw [e, zt_eq rfl, zt_eq rfl, zt_eq rfl, zl_eq rfl, cloL, cloN, clo_stop _ hf.out] at h
  exact h
theorem ok_fill2 (t c : Int) (v : Value) (xs : List Bool) (fn fd : Int) (w : World) (h : SB w v xs) (h1 : i64 fn) (h2 : i64 fd) (hm : Hid (mchk t c xs.length = 0)) (hp : Hid (prtB fn fd = true)) (hf : Hid (fillL t.toNat c.toNat xs fn fd = xs)) :
    Calls Try.prog 26 #[.agg #[.int .i64 t, .int .i64 c, v], .agg #[.int .i64 fn, .int .i64 fd]] w fun e w' => ∃ (u : Value), e = .returned (.tuple #[.agg #[.int .i64 t, .int .i64 c, u], .int .i64 0]) ∧ SB w' u xs ∧ Frv w.heap.size u ∧ Below w.heap.size w w' := by
  have h := mfill_any t c v xs fn fd w h h1 h2
  have e := ferr_0 hm.out hp.out
  rw [e, zt_eq rfl, zt_eq rfl, zl_eq rfl, hf.out] at h
  exact h
theorem ok_count (t c : Int) (v : Value) (xs : List Bool) (w : World) (h : SB w v xs) (hm : Hid (mchk t c xs.length = 0)) :
    Calls Try.prog 11 #[.agg #[.int .i64 t, .int .i64 c, v]] w fun e w' => ∃ k : Nat, e = .returned (.tuple #[.int .i64 k, .int .i64 0]) ∧ Hid (k = xs.count true) ∧ Below w.heap.size w w' := by
  have h := count_any t c v xs w h
  rw [hm.out, mcount, if_pos hm.out] at h
  refine h.mono ?_
  rintro e w' ⟨a, b⟩
  exact ⟨_, a, rfl, b⟩
theorem closes_num {t c : Int} {xs zs : List Bool} {fn fd : Int} {n ka kb : Nat} (hm : mchk t c xs.length = 0) (h : zs = cloL t.toNat c.toNat xs fn fd) (hn : n = cloN t.toNat c.toNat xs fn fd) (ha : ka = xs.count true) (hb : kb = zs.count true) : ka ≤ kb ∧ (n = 0 ↔ ka = kb) ∧ (n : Int) ≤ t + c := by
  obtain ⟨m1, m2, m3, m4, m5⟩ := mchk_ok hm
  have a := le_count (clo_more t.toNat c.toNat fn fd 600 xs)
  have b := clo_none (T := t.toNat) (C := c.toNat) (fn := fn) (fd := fd) 600 (by omega) xs
  have d := clo_num (T := t.toNat) (C := c.toNat) (fn := fn) (fd := fd) (by omega) 600 xs (mchk_len hm)
  have f := fullN_le t.toNat c.toNat (clo t.toNat c.toNat fn fd 600 xs).1
  subst h hn ha hb
  unfold cloL cloN
  refine ⟨a, ?_, by omega⟩
  rw [b]
  exact ⟨fun h => h.symm, fun h => h.symm⟩

set_option maxRecDepth 100000 in
set_option maxHeartbeats 16000000 in
theorem closes_any (t c : Int) (v : Value) (xs : List Bool) (fn fd : Int) (w : World) (h : SB w v xs) (h1 : i64 fn) (h2 : i64 fd) :
    Calls Try.prog 6 #[.agg #[.int .i64 t, .int .i64 c, v], .agg #[.int .i64 fn, .int .i64 fd]] w fun e w' => e = .returned (.bool true) ∧ Below w.heap.size w w' := by
  have hs := h
  obtain ⟨ad, cap, rfl, q1, q2, q3⟩ := h.open
  clear h q3
  cases hfit : fitB t c xs.length t c xs.length with
  | false =>
    go_enter Try.func6, Try.ntmps6
    have oM := own_first w 24 [.int .i64 t, .int .i64 c, .slice ad xs.length cap] (.cells #[.int .i64 fn, .int .i64 fd] 49)
    have oP := own_second w 49 [.int .i64 fn, .int .i64 fd] (.cells #[.int .i64 t, .int .i64 c, .slice ad xs.length cap] 24)
    have hB := ba2 w (.cells #[.int .i64 t, .int .i64 c, .slice ad xs.length cap] 24) (.cells #[.int .i64 fn, .int .i64 fd] 49)
    have sM := hs.below hB
    go_wp2_with fail
    refine (alive_any _).mono ?_
    rintro e v1 ⟨rfl, hq⟩
    have oM := oM.below hq
    have oP := oP.below hq
    have sM := sM.below hq
    have hB := below_to hB hq
    clear hq
    obtain ⟨rM, fM⟩ := oM.rules
    have zM := oM.lt
    go_wp2_with fail
    refine (fit_any _ _ _ _ _ _ xs xs _ sM sM).mono ?_
    rintro e v2 ⟨rfl, hq⟩
    clear rM fM zM
    have oM := oM.below hq
    have oP := oP.below hq
    have sM := sM.below hq
    have hB := below_to hB hq
    clear hq
    rw [hfit]
    go_wp2
    go_ret
    exact ⟨rfl, hB⟩
  | true =>
    have Hm := Lib.hid (of_decide_eq_true hfit).1
    cases hpr : prtB fn fd with
    | false =>
      go_enter Try.func6, Try.ntmps6
      have oM := own_first w 24 [.int .i64 t, .int .i64 c, .slice ad xs.length cap] (.cells #[.int .i64 fn, .int .i64 fd] 49)
      have oP := own_second w 49 [.int .i64 fn, .int .i64 fd] (.cells #[.int .i64 t, .int .i64 c, .slice ad xs.length cap] 24)
      have hB := ba2 w (.cells #[.int .i64 t, .int .i64 c, .slice ad xs.length cap] 24) (.cells #[.int .i64 fn, .int .i64 fd] 49)
      have sM := hs.below hB
      go_wp2_with fail
      refine (alive_any _).mono ?_
      rintro e v1 ⟨rfl, hq⟩
      have oM := oM.below hq
      have oP := oP.below hq
      have sM := sM.below hq
      have hB := below_to hB hq
      clear hq
      obtain ⟨rM, fM⟩ := oM.rules
      have zM := oM.lt
      go_wp2_with fail
      refine (fit_any _ _ _ _ _ _ xs xs _ sM sM).mono ?_
      rintro e v2 ⟨rfl, hq⟩
      clear rM fM zM
      have oM := oM.below hq
      have oP := oP.below hq
      have sM := sM.below hq
      have hB := below_to hB hq
      clear hq
      rw [hfit]
      obtain ⟨rP, fP⟩ := oP.rules
      have zP := oP.lt
      go_wp2_with fail
      refine (part_any _ _ _ h1 h2).mono ?_
      rintro e v3 ⟨rfl, hq⟩
      clear rP fP zP
      have oM := oM.below hq
      have oP := oP.below hq
      have sM := sM.below hq
      have hB := below_to hB hq
      clear hq
      rw [hpr]
      go_wp2
      go_ret
      exact ⟨rfl, hB⟩
    | true =>
      have Hp := Lib.hid hpr
      go_enter Try.func6, Try.ntmps6
      have oM := own_first w 24 [.int .i64 t, .int .i64 c, .slice ad xs.length cap] (.cells #[.int .i64 fn, .int .i64 fd] 49)
      have oP := own_second w 49 [.int .i64 fn, .int .i64 fd] (.cells #[.int .i64 t, .int .i64 c, .slice ad xs.length cap] 24)
      have hB := ba2 w (.cells #[.int .i64 t, .int .i64 c, .slice ad xs.length cap] 24) (.cells #[.int .i64 fn, .int .i64 fd] 49)
      have sM := hs.below hB
      go_wp2_with fail
      refine (alive_any _).mono ?_
      rintro e v1 ⟨rfl, hq⟩
      have oM := oM.below hq
      have oP := oP.below hq
      have sM := sM.below hq
      have hB := below_to hB hq
      clear hq
      obtain ⟨rM, fM⟩ := oM.rules
      have zM := oM.lt
      go_wp2_with fail
      refine (fit_any _ _ _ _ _ _ xs xs _ sM sM).mono ?_
      rintro e v2 ⟨rfl, hq⟩
      clear rM fM zM
      have oM := oM.below hq
      have oP := oP.below hq
      have sM := sM.below hq
      have hB := below_to hB hq
      clear hq
      rw [hfit]
      obtain ⟨rP, fP⟩ := oP.rules
      have zP := oP.lt
      go_wp2_with fail
      refine (part_any _ _ _ h1 h2).mono ?_
      rintro e v3 ⟨rfl, hq⟩
      clear rP fP zP
      have oM := oM.below hq
      have oP := oP.below hq
      have sM := sM.below hq
      have hB := below_to hB hq
      clear hq
      rw [hpr]
      obtain ⟨rM, fM⟩ := oM.rules
      obtain ⟨rP, fP⟩ := oP.rules
      have zM := oM.lt
      have zP := oP.lt
      go_wp2_with fail
      refine (ok_close _ _ _ xs _ _ _ sM h1 h2 Hm Hp).mono ?_
      rintro e v4 ⟨uX, nX, rfl, ⟨zXs, sX, HX⟩, _, hq⟩
      clear rM fM zM rP fP zP
      have oM := oM.below hq
      have oP := oP.below hq
      have sM := sM.below hq
      have hB := below_to hB hq
      clear hq
      have sX' := sX
      obtain ⟨aX, cX, huX, _, _, _⟩ := sX'.open
      subst huX
      clear sX'
      go_upto_region 5 with fail
      have oM := oM.alloc (.cells #[.int .i64 t, .int .i64 c, .slice aX zXs.length cX] 24)
      have oP := oP.alloc (.cells #[.int .i64 t, .int .i64 c, .slice aX zXs.length cX] 24)
      have sM := sM.below (ba1 v4 (.cells #[.int .i64 t, .int .i64 c, .slice aX zXs.length cX] 24))
      have sX := sX.below (ba1 v4 (.cells #[.int .i64 t, .int .i64 c, .slice aX zXs.length cX] 24))
      have hB := below_to hB (ba1 v4 (.cells #[.int .i64 t, .int .i64 c, .slice aX zXs.length cX] 24))
      have oX := Own.new v4 24 [.int .i64 t, .int .i64 c, .slice aX zXs.length cX]
      generalize hbk : v4.heap.size = kX at oX ⊢
      clear hbk
      generalize v4.alloc (.cells #[.int .i64 t, .int .i64 c, .slice aX zXs.length cX] 24) = y4 at *
      have KX : Hid (mchk t c zXs.length = 0) := HX.out.2.2.1
      have FX : Hid (fillL t.toNat c.toNat zXs fn fd = zXs) := HX.out.2.2.2
      obtain ⟨rX, fX⟩ := oX.rules
      obtain ⟨rP, fP⟩ := oP.rules
      have zX := oX.lt
      have zP := oP.lt
      go_wp2_with fail
      refine (ok_close2 _ _ _ zXs _ _ _ sX h1 h2 KX Hp FX).mono ?_
      rintro e v5 ⟨uY, rfl, sY, _, hq⟩
      clear rX fX zX rP fP zP
      have oM := oM.below hq
      have oP := oP.below hq
      have oX := oX.below hq
      have sM := sM.below hq
      have sX := sX.below hq
      have hB := below_to hB hq
      clear hq
      have sY' := sY
      obtain ⟨aY, cY, huY, _, _, _⟩ := sY'.open
      subst huY
      clear sY'
      go_upto_region 6 with fail
      have oM := oM.alloc (.cells #[.int .i64 t, .int .i64 c, .slice aY zXs.length cY] 24)
      have oP := oP.alloc (.cells #[.int .i64 t, .int .i64 c, .slice aY zXs.length cY] 24)
      have oX := oX.alloc (.cells #[.int .i64 t, .int .i64 c, .slice aY zXs.length cY] 24)
      have sM := sM.below (ba1 v5 (.cells #[.int .i64 t, .int .i64 c, .slice aY zXs.length cY] 24))
      have sX := sX.below (ba1 v5 (.cells #[.int .i64 t, .int .i64 c, .slice aY zXs.length cY] 24))
      have sY := sY.below (ba1 v5 (.cells #[.int .i64 t, .int .i64 c, .slice aY zXs.length cY] 24))
      have hB := below_to hB (ba1 v5 (.cells #[.int .i64 t, .int .i64 c, .slice aY zXs.length cY] 24))
      have oY := Own.new v5 24 [.int .i64 t, .int .i64 c, .slice aY zXs.length cY]
      generalize hbk : v5.heap.size = kY at oY ⊢
      clear hbk
      generalize v5.alloc (.cells #[.int .i64 t, .int .i64 c, .slice aY zXs.length cY] 24) = y5 at *
      obtain ⟨rX, fX⟩ := oX.rules
      obtain ⟨rP, fP⟩ := oP.rules
      have zX := oX.lt
      have zP := oP.lt
      go_wp2_with fail
      refine (ok_fill2 _ _ _ zXs _ _ _ sX h1 h2 KX Hp FX).mono ?_
      rintro e v6 ⟨uZ, rfl, sZ, _, hq⟩
      clear rX fX zX rP fP zP
      have oM := oM.below hq
      have oP := oP.below hq
      have oX := oX.below hq
      have oY := oY.below hq
      have sM := sM.below hq
      have sX := sX.below hq
      have sY := sY.below hq
      have hB := below_to hB hq
      clear hq
      have sZ' := sZ
      obtain ⟨aZ, cZ, huZ, _, _, _⟩ := sZ'.open
      subst huZ
      clear sZ'
      go_upto_region 7 with fail
      have oM := oM.alloc (.cells #[.int .i64 t, .int .i64 c, .slice aZ zXs.length cZ] 24)
      have oP := oP.alloc (.cells #[.int .i64 t, .int .i64 c, .slice aZ zXs.length cZ] 24)
      have oX := oX.alloc (.cells #[.int .i64 t, .int .i64 c, .slice aZ zXs.length cZ] 24)
      have oY := oY.alloc (.cells #[.int .i64 t, .int .i64 c, .slice aZ zXs.length cZ] 24)
      have sM := sM.below (ba1 v6 (.cells #[.int .i64 t, .int .i64 c, .slice aZ zXs.length cZ] 24))
      have sX := sX.below (ba1 v6 (.cells #[.int .i64 t, .int .i64 c, .slice aZ zXs.length cZ] 24))
      have sY := sY.below (ba1 v6 (.cells #[.int .i64 t, .int .i64 c, .slice aZ zXs.length cZ] 24))
      have sZ := sZ.below (ba1 v6 (.cells #[.int .i64 t, .int .i64 c, .slice aZ zXs.length cZ] 24))
      have hB := below_to hB (ba1 v6 (.cells #[.int .i64 t, .int .i64 c, .slice aZ zXs.length cZ] 24))
      have oZ := Own.new v6 24 [.int .i64 t, .int .i64 c, .slice aZ zXs.length cZ]
      generalize hbk : v6.heap.size = kZ at oZ ⊢
      clear hbk
      generalize v6.alloc (.cells #[.int .i64 t, .int .i64 c, .slice aZ zXs.length cZ] 24) = y6 at *
      obtain ⟨rM, fM⟩ := oM.rules
      have zM := oM.lt
      go_wp2_with fail
      refine (ok_count _ _ _ xs _ sM Hm).mono ?_
      rintro e v7 ⟨kA, rfl, HA, hq⟩
      clear rM fM zM
      have oM := oM.below hq
      have oP := oP.below hq
      have oX := oX.below hq
      have oY := oY.below hq
      have oZ := oZ.below hq
      have sM := sM.below hq
      have sX := sX.below hq
      have sY := sY.below hq
      have sZ := sZ.below hq
      have hB := below_to hB hq
      clear hq
      obtain ⟨rX, fX⟩ := oX.rules
      have zX := oX.lt
      go_wp2_with fail
      refine (ok_count _ _ _ zXs _ sX KX).mono ?_
      rintro e v8 ⟨kB, rfl, HB, hq⟩
      clear rX fX zX
      have oM := oM.below hq
      have oP := oP.below hq
      have oX := oX.below hq
      have oY := oY.below hq
      have oZ := oZ.below hq
      have sM := sM.below hq
      have sX := sX.below hq
      have sY := sY.below hq
      have sZ := sZ.below hq
      have hB := below_to hB hq
      clear hq
      have hfx : fitB t c xs.length t c zXs.length = true := decide_eq_true ⟨Hm.out, KX.out, rfl, rfl⟩
      obtain ⟨rM, fM⟩ := oM.rules
      obtain ⟨rX, fX⟩ := oX.rules
      have zM := oM.lt
      have zX := oX.lt
      go_wp2_with fail
      refine (fit_any _ _ _ _ _ _ xs zXs _ sM sX).mono ?_
      rintro e v9 ⟨rfl, hq⟩
      clear rM fM zM rX fX zX
      have oM := oM.below hq
      have oP := oP.below hq
      have oX := oX.below hq
      have oY := oY.below hq
      have oZ := oZ.below hq
      have sM := sM.below hq
      have sX := sX.below hq
      have sY := sY.below hq
      have sZ := sZ.below hq
      have hB := below_to hB hq
      clear hq
      rw [hfx]
      clear hfx
      obtain ⟨rX, fX⟩ := oX.rules
      obtain ⟨rY, fY⟩ := oY.rules
      have zX := oX.lt
      have zY := oY.lt
      go_wp2_with fail
      refine (same_any _ _ _ _ _ _ _ _ _ sX sY).mono ?_
      rintro e v10 ⟨rfl, hq⟩
      clear rX fX zX rY fY zY
      have oM := oM.below hq
      have oP := oP.below hq
      have oX := oX.below hq
      have oY := oY.below hq
      have oZ := oZ.below hq
      have sM := sM.below hq
      have sX := sX.below hq
      have sY := sY.below hq
      have sZ := sZ.below hq
      have hB := below_to hB hq
      clear hq
      rw [msame_eq, decide_eq_true rfl]
      obtain ⟨rX, fX⟩ := oX.rules
      obtain ⟨rZ, fZ⟩ := oZ.rules
      have zX := oX.lt
      have zZ := oZ.lt
      go_wp2_with fail
      refine (same_any _ _ _ _ _ _ _ _ _ sX sZ).mono ?_
      rintro e v11 ⟨rfl, hq⟩
      clear rX fX zX rZ fZ zZ
      have oM := oM.below hq
      have oP := oP.below hq
      have oX := oX.below hq
      have oY := oY.below hq
      have oZ := oZ.below hq
      have sM := sM.below hq
      have sX := sX.below hq
      have sY := sY.below hq
      have sZ := sZ.below hq
      have hB := below_to hB hq
      clear hq
      rw [msame_eq, decide_eq_true rfl]
      obtain ⟨n1, n2, n3⟩ := closes_num Hm.out HX.out.1 HX.out.2.1 HA.out HB.out
      obtain ⟨m1, m2, m3, m4, _⟩ := mchk_ok Hm.out
      obtain ⟨rM, fM⟩ := oM.rules
      have zM := oM.lt
      by_cases p0 : nX = 0
      · have p1 := n2.1 p0
        have b1 : (((nX : Nat) : Int) == 0) = true := by simp [p0]
        have b2 : (((kA : Nat) : Int) == ((kB : Nat) : Int)) = true := by simp [p1]
        clear p0 p1 n2
        go_wp2
        go_ret
        exact ⟨rfl, hB⟩
      · have p1 := fun h => p0 (n2.2 h)
        have b1 : (((nX : Nat) : Int) == 0) = false := by simp [p0]
        have b2 : (((kA : Nat) : Int) == ((kB : Nat) : Int)) = false := by rw [beq_eq_false_iff_ne]; intro h; exact p1 (by omega)
        clear p0 p1 n2
        go_wp2
        go_ret
        exact ⟨rfl, hB⟩

end Go.Proofs.Ytpkggglifahioaa
