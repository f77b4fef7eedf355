/- What is proved here: the law FlagGrows holds. Condition: slices that can be read. -/
import Derived.Test.YtpkggglifahioaaFlagAlive
import Derived.Test.YtpkggglifahioaaFlagFit
namespace Go.Proofs.Ytpkggglifahioaa
open Go.RowKit

theorem mchk_len {t c : Int} {n : Nat} (h : mchk t c n = 0) : n = t.toNat * c.toNat := by
  obtain ⟨m1, m2, m3, m4, m5⟩ := mchk_ok h
  have hc : ((c.toNat : Nat) : Int) = c := by omega
  have ht : ((t.toNat : Nat) : Int) = t := by omega
  have : (n : Int) = ((t.toNat * c.toNat : Nat) : Int) := by rw [Int.natCast_mul, hc, ht]; exact m5
  omega
theorem ok_grow (t c : Int) (v : Value) (xs : List Bool) (dt dc : Int) (w : World) (h : SB w v xs) (hm : Hid (mchk t c xs.length = 0)) (h1 : ¬ (dt < 0 ∨ dc < 0 ∨ 8 < dt ∨ 8 < dc)) :
    Calls Try.prog 20 #[.agg #[.int .i64 t, .int .i64 c, v], .int .i64 dt, .int .i64 dc] w fun e w' => ∃ u, e = .returned (.tuple #[.agg #[.int .i64 t, .int .i64 c, u], .int .i64 0]) ∧ (∃ zs, SB w' u zs ∧ Hid (zs = growL c.toNat xs dt dc ∧ mchk t c zs.length = 0)) ∧ Frv w.heap.size u ∧ Below w.heap.size w w' := by
  have h := grow_any t c v xs dt dc w h
  have e := gerr_3 hm.out h1
  rw [e, zt_eq rfl, zt_eq rfl, zl_eq rfl] at h
  refine h.mono ?_
  rintro e w' ⟨u, a, b, c, d⟩
  exact ⟨u, a, ⟨_, b, ⟨rfl, by rw [growL_len]; exact hm.out⟩⟩, c, d⟩
theorem ok_join (t c : Int) (v v' : Value) (xs ys : List Bool) (w : World) (h : SB w v xs) (h' : SB w v' ys) (hm : Hid (mchk t c xs.length = 0)) (hm' : Hid (mchk t c ys.length = 0)) :
    Calls Try.prog 13 #[.agg #[.int .i64 t, .int .i64 c, v], .agg #[.int .i64 t, .int .i64 c, v']] w fun e w' => ∃ u, e = .returned (.tuple #[.agg #[.int .i64 t, .int .i64 c, u], .int .i64 0]) ∧ (∃ zs, SB w' u zs ∧ Hid (zs = List.zipWith (· || ·) xs ys ∧ mchk t c zs.length = 0)) ∧ Frv w.heap.size u ∧ Below w.heap.size w w' := by
  have h := join_any t c t c v v' xs ys w h h'
  have e := mpair_4 hm.out hm'.out ⟨rfl, rfl⟩
  have hl : xs.length = ys.length := by have a := (mchk_ok hm.out).2.2.2.2; have b := (mchk_ok hm'.out).2.2.2.2; omega
  rw [e, zt_eq rfl, zt_eq rfl, zl_eq rfl] at h
  refine h.mono ?_
  rintro e w' ⟨u, a, b, c, d⟩
  exact ⟨u, a, ⟨_, b, ⟨rfl, by rw [zip_len hl]; exact hm.out⟩⟩, c, d⟩

set_option maxRecDepth 100000 in
set_option maxHeartbeats 16000000 in
theorem grows_any (t c t' c' : Int) (v v' : Value) (xs ys : List Bool) (dt dc et ec : Int) (w : World) (h : SB w v xs) (h' : SB w v' ys) :
    Calls Try.prog 8 #[.agg #[.int .i64 t, .int .i64 c, v], .agg #[.int .i64 t', .int .i64 c', v'], .int .i64 dt, .int .i64 dc, .int .i64 et, .int .i64 ec] w fun e w' => e = .returned (.bool true) ∧ Below w.heap.size w w' := by
  have hs := h
  have hs' := h'
  obtain ⟨ad, cap, rfl, q1, q2, q3⟩ := h.open
  obtain ⟨ad', cap', rfl, q1', q2', q3'⟩ := h'.open
  clear h h' q3 q3'
  cases hfit : fitB t c xs.length t' c' ys.length with
  | false =>
    go_enter Try.func8, Try.ntmps8
    have oM := own_first w 24 [.int .i64 t, .int .i64 c, .slice ad xs.length cap] (.cells #[.int .i64 t', .int .i64 c', .slice ad' ys.length cap'] 24)
    have oN := own_second w 24 [.int .i64 t', .int .i64 c', .slice ad' ys.length cap'] (.cells #[.int .i64 t, .int .i64 c, .slice ad xs.length cap] 24)
    have hB := ba2 w (.cells #[.int .i64 t, .int .i64 c, .slice ad xs.length cap] 24) (.cells #[.int .i64 t', .int .i64 c', .slice ad' ys.length cap'] 24)
    have sM := hs.below hB
    have sN := hs'.below hB
    go_wp2_with fail
    refine (alive_any _).mono ?_
    rintro e v1 ⟨rfl, hq⟩
    have oM := oM.below hq
    have oN := oN.below hq
    have sM := sM.below hq
    have sN := sN.below hq
    have hB := below_to hB hq
    clear hq
    obtain ⟨rM, fM⟩ := oM.rules
    obtain ⟨rN, fN⟩ := oN.rules
    have zM := oM.lt
    have zN := oN.lt
    go_wp2_with fail
    refine (fit_any _ _ _ _ _ _ xs ys _ sM sN).mono ?_
    rintro e v2 ⟨rfl, hq⟩
    clear rM fM zM rN fN zN
    have oM := oM.below hq
    have oN := oN.below hq
    have sM := sM.below hq
    have sN := sN.below hq
    have hB := below_to hB hq
    clear hq
    rw [hfit]
    go_wp2
    go_ret
    exact ⟨rfl, hB⟩
  | true =>
    obtain ⟨hm, hm', rfl, rfl⟩ := of_decide_eq_true hfit
    have Hm := Lib.hid hm
    have Hm' := Lib.hid hm'
    clear hm hm'
    by_cases p0 : dt < 0
    · skip
      go_enter Try.func8, Try.ntmps8
      have oM := own_first w 24 [.int .i64 t, .int .i64 c, .slice ad xs.length cap] (.cells #[.int .i64 t, .int .i64 c, .slice ad' ys.length cap'] 24)
      have oN := own_second w 24 [.int .i64 t, .int .i64 c, .slice ad' ys.length cap'] (.cells #[.int .i64 t, .int .i64 c, .slice ad xs.length cap] 24)
      have hB := ba2 w (.cells #[.int .i64 t, .int .i64 c, .slice ad xs.length cap] 24) (.cells #[.int .i64 t, .int .i64 c, .slice ad' ys.length cap'] 24)
      have sM := hs.below hB
      have sN := hs'.below hB
      go_wp2_with fail
      refine (alive_any _).mono ?_
      rintro e v1 ⟨rfl, hq⟩
      have oM := oM.below hq
      have oN := oN.below hq
      have sM := sM.below hq
      have sN := sN.below hq
      have hB := below_to hB hq
      clear hq
      obtain ⟨rM, fM⟩ := oM.rules
      obtain ⟨rN, fN⟩ := oN.rules
      have zM := oM.lt
      have zN := oN.lt
      go_wp2_with fail
      refine (fit_any _ _ _ _ _ _ xs ys _ sM sN).mono ?_
      rintro e v2 ⟨rfl, hq⟩
      clear rM fM zM rN fN zN
      have oM := oM.below hq
      have oN := oN.below hq
      have sM := sM.below hq
      have sN := sN.below hq
      have hB := below_to hB hq
      clear hq
      rw [hfit]
      go_wp2
      go_ret
      exact ⟨rfl, hB⟩
    by_cases p1 : dt > 4
    · skip
      go_enter Try.func8, Try.ntmps8
      have oM := own_first w 24 [.int .i64 t, .int .i64 c, .slice ad xs.length cap] (.cells #[.int .i64 t, .int .i64 c, .slice ad' ys.length cap'] 24)
      have oN := own_second w 24 [.int .i64 t, .int .i64 c, .slice ad' ys.length cap'] (.cells #[.int .i64 t, .int .i64 c, .slice ad xs.length cap] 24)
      have hB := ba2 w (.cells #[.int .i64 t, .int .i64 c, .slice ad xs.length cap] 24) (.cells #[.int .i64 t, .int .i64 c, .slice ad' ys.length cap'] 24)
      have sM := hs.below hB
      have sN := hs'.below hB
      go_wp2_with fail
      refine (alive_any _).mono ?_
      rintro e v1 ⟨rfl, hq⟩
      have oM := oM.below hq
      have oN := oN.below hq
      have sM := sM.below hq
      have sN := sN.below hq
      have hB := below_to hB hq
      clear hq
      obtain ⟨rM, fM⟩ := oM.rules
      obtain ⟨rN, fN⟩ := oN.rules
      have zM := oM.lt
      have zN := oN.lt
      go_wp2_with fail
      refine (fit_any _ _ _ _ _ _ xs ys _ sM sN).mono ?_
      rintro e v2 ⟨rfl, hq⟩
      clear rM fM zM rN fN zN
      have oM := oM.below hq
      have oN := oN.below hq
      have sM := sM.below hq
      have sN := sN.below hq
      have hB := below_to hB hq
      clear hq
      rw [hfit]
      go_wp2
      go_ret
      exact ⟨rfl, hB⟩
    by_cases p2 : dc < 0
    · skip
      go_enter Try.func8, Try.ntmps8
      have oM := own_first w 24 [.int .i64 t, .int .i64 c, .slice ad xs.length cap] (.cells #[.int .i64 t, .int .i64 c, .slice ad' ys.length cap'] 24)
      have oN := own_second w 24 [.int .i64 t, .int .i64 c, .slice ad' ys.length cap'] (.cells #[.int .i64 t, .int .i64 c, .slice ad xs.length cap] 24)
      have hB := ba2 w (.cells #[.int .i64 t, .int .i64 c, .slice ad xs.length cap] 24) (.cells #[.int .i64 t, .int .i64 c, .slice ad' ys.length cap'] 24)
      have sM := hs.below hB
      have sN := hs'.below hB
      go_wp2_with fail
      refine (alive_any _).mono ?_
      rintro e v1 ⟨rfl, hq⟩
      have oM := oM.below hq
      have oN := oN.below hq
      have sM := sM.below hq
      have sN := sN.below hq
      have hB := below_to hB hq
      clear hq
      obtain ⟨rM, fM⟩ := oM.rules
      obtain ⟨rN, fN⟩ := oN.rules
      have zM := oM.lt
      have zN := oN.lt
      go_wp2_with fail
      refine (fit_any _ _ _ _ _ _ xs ys _ sM sN).mono ?_
      rintro e v2 ⟨rfl, hq⟩
      clear rM fM zM rN fN zN
      have oM := oM.below hq
      have oN := oN.below hq
      have sM := sM.below hq
      have sN := sN.below hq
      have hB := below_to hB hq
      clear hq
      rw [hfit]
      go_wp2
      go_ret
      exact ⟨rfl, hB⟩
    by_cases p3 : dc > 4
    · skip
      go_enter Try.func8, Try.ntmps8
      have oM := own_first w 24 [.int .i64 t, .int .i64 c, .slice ad xs.length cap] (.cells #[.int .i64 t, .int .i64 c, .slice ad' ys.length cap'] 24)
      have oN := own_second w 24 [.int .i64 t, .int .i64 c, .slice ad' ys.length cap'] (.cells #[.int .i64 t, .int .i64 c, .slice ad xs.length cap] 24)
      have hB := ba2 w (.cells #[.int .i64 t, .int .i64 c, .slice ad xs.length cap] 24) (.cells #[.int .i64 t, .int .i64 c, .slice ad' ys.length cap'] 24)
      have sM := hs.below hB
      have sN := hs'.below hB
      go_wp2_with fail
      refine (alive_any _).mono ?_
      rintro e v1 ⟨rfl, hq⟩
      have oM := oM.below hq
      have oN := oN.below hq
      have sM := sM.below hq
      have sN := sN.below hq
      have hB := below_to hB hq
      clear hq
      obtain ⟨rM, fM⟩ := oM.rules
      obtain ⟨rN, fN⟩ := oN.rules
      have zM := oM.lt
      have zN := oN.lt
      go_wp2_with fail
      refine (fit_any _ _ _ _ _ _ xs ys _ sM sN).mono ?_
      rintro e v2 ⟨rfl, hq⟩
      clear rM fM zM rN fN zN
      have oM := oM.below hq
      have oN := oN.below hq
      have sM := sM.below hq
      have sN := sN.below hq
      have hB := below_to hB hq
      clear hq
      rw [hfit]
      go_wp2
      go_ret
      exact ⟨rfl, hB⟩
    by_cases p4 : et < 0
    · skip
      go_enter Try.func8, Try.ntmps8
      have oM := own_first w 24 [.int .i64 t, .int .i64 c, .slice ad xs.length cap] (.cells #[.int .i64 t, .int .i64 c, .slice ad' ys.length cap'] 24)
      have oN := own_second w 24 [.int .i64 t, .int .i64 c, .slice ad' ys.length cap'] (.cells #[.int .i64 t, .int .i64 c, .slice ad xs.length cap] 24)
      have hB := ba2 w (.cells #[.int .i64 t, .int .i64 c, .slice ad xs.length cap] 24) (.cells #[.int .i64 t, .int .i64 c, .slice ad' ys.length cap'] 24)
      have sM := hs.below hB
      have sN := hs'.below hB
      go_wp2_with fail
      refine (alive_any _).mono ?_
      rintro e v1 ⟨rfl, hq⟩
      have oM := oM.below hq
      have oN := oN.below hq
      have sM := sM.below hq
      have sN := sN.below hq
      have hB := below_to hB hq
      clear hq
      obtain ⟨rM, fM⟩ := oM.rules
      obtain ⟨rN, fN⟩ := oN.rules
      have zM := oM.lt
      have zN := oN.lt
      go_wp2_with fail
      refine (fit_any _ _ _ _ _ _ xs ys _ sM sN).mono ?_
      rintro e v2 ⟨rfl, hq⟩
      clear rM fM zM rN fN zN
      have oM := oM.below hq
      have oN := oN.below hq
      have sM := sM.below hq
      have sN := sN.below hq
      have hB := below_to hB hq
      clear hq
      rw [hfit]
      go_wp2
      go_ret
      exact ⟨rfl, hB⟩
    by_cases p5 : et > 4
    · skip
      go_enter Try.func8, Try.ntmps8
      have oM := own_first w 24 [.int .i64 t, .int .i64 c, .slice ad xs.length cap] (.cells #[.int .i64 t, .int .i64 c, .slice ad' ys.length cap'] 24)
      have oN := own_second w 24 [.int .i64 t, .int .i64 c, .slice ad' ys.length cap'] (.cells #[.int .i64 t, .int .i64 c, .slice ad xs.length cap] 24)
      have hB := ba2 w (.cells #[.int .i64 t, .int .i64 c, .slice ad xs.length cap] 24) (.cells #[.int .i64 t, .int .i64 c, .slice ad' ys.length cap'] 24)
      have sM := hs.below hB
      have sN := hs'.below hB
      go_wp2_with fail
      refine (alive_any _).mono ?_
      rintro e v1 ⟨rfl, hq⟩
      have oM := oM.below hq
      have oN := oN.below hq
      have sM := sM.below hq
      have sN := sN.below hq
      have hB := below_to hB hq
      clear hq
      obtain ⟨rM, fM⟩ := oM.rules
      obtain ⟨rN, fN⟩ := oN.rules
      have zM := oM.lt
      have zN := oN.lt
      go_wp2_with fail
      refine (fit_any _ _ _ _ _ _ xs ys _ sM sN).mono ?_
      rintro e v2 ⟨rfl, hq⟩
      clear rM fM zM rN fN zN
      have oM := oM.below hq
      have oN := oN.below hq
      have sM := sM.below hq
      have sN := sN.below hq
      have hB := below_to hB hq
      clear hq
      rw [hfit]
      go_wp2
      go_ret
      exact ⟨rfl, hB⟩
    by_cases p6 : ec < 0
    · skip
      go_enter Try.func8, Try.ntmps8
      have oM := own_first w 24 [.int .i64 t, .int .i64 c, .slice ad xs.length cap] (.cells #[.int .i64 t, .int .i64 c, .slice ad' ys.length cap'] 24)
      have oN := own_second w 24 [.int .i64 t, .int .i64 c, .slice ad' ys.length cap'] (.cells #[.int .i64 t, .int .i64 c, .slice ad xs.length cap] 24)
      have hB := ba2 w (.cells #[.int .i64 t, .int .i64 c, .slice ad xs.length cap] 24) (.cells #[.int .i64 t, .int .i64 c, .slice ad' ys.length cap'] 24)
      have sM := hs.below hB
      have sN := hs'.below hB
      go_wp2_with fail
      refine (alive_any _).mono ?_
      rintro e v1 ⟨rfl, hq⟩
      have oM := oM.below hq
      have oN := oN.below hq
      have sM := sM.below hq
      have sN := sN.below hq
      have hB := below_to hB hq
      clear hq
      obtain ⟨rM, fM⟩ := oM.rules
      obtain ⟨rN, fN⟩ := oN.rules
      have zM := oM.lt
      have zN := oN.lt
      go_wp2_with fail
      refine (fit_any _ _ _ _ _ _ xs ys _ sM sN).mono ?_
      rintro e v2 ⟨rfl, hq⟩
      clear rM fM zM rN fN zN
      have oM := oM.below hq
      have oN := oN.below hq
      have sM := sM.below hq
      have sN := sN.below hq
      have hB := below_to hB hq
      clear hq
      rw [hfit]
      go_wp2
      go_ret
      exact ⟨rfl, hB⟩
    by_cases p7 : ec > 4
    · skip
      go_enter Try.func8, Try.ntmps8
      have oM := own_first w 24 [.int .i64 t, .int .i64 c, .slice ad xs.length cap] (.cells #[.int .i64 t, .int .i64 c, .slice ad' ys.length cap'] 24)
      have oN := own_second w 24 [.int .i64 t, .int .i64 c, .slice ad' ys.length cap'] (.cells #[.int .i64 t, .int .i64 c, .slice ad xs.length cap] 24)
      have hB := ba2 w (.cells #[.int .i64 t, .int .i64 c, .slice ad xs.length cap] 24) (.cells #[.int .i64 t, .int .i64 c, .slice ad' ys.length cap'] 24)
      have sM := hs.below hB
      have sN := hs'.below hB
      go_wp2_with fail
      refine (alive_any _).mono ?_
      rintro e v1 ⟨rfl, hq⟩
      have oM := oM.below hq
      have oN := oN.below hq
      have sM := sM.below hq
      have sN := sN.below hq
      have hB := below_to hB hq
      clear hq
      obtain ⟨rM, fM⟩ := oM.rules
      obtain ⟨rN, fN⟩ := oN.rules
      have zM := oM.lt
      have zN := oN.lt
      go_wp2_with fail
      refine (fit_any _ _ _ _ _ _ xs ys _ sM sN).mono ?_
      rintro e v2 ⟨rfl, hq⟩
      clear rM fM zM rN fN zN
      have oM := oM.below hq
      have oN := oN.below hq
      have sM := sM.below hq
      have sN := sN.below hq
      have hB := below_to hB hq
      clear hq
      rw [hfit]
      go_wp2
      go_ret
      exact ⟨rfl, hB⟩
    go_enter Try.func8, Try.ntmps8
    have oM := own_first w 24 [.int .i64 t, .int .i64 c, .slice ad xs.length cap] (.cells #[.int .i64 t, .int .i64 c, .slice ad' ys.length cap'] 24)
    have oN := own_second w 24 [.int .i64 t, .int .i64 c, .slice ad' ys.length cap'] (.cells #[.int .i64 t, .int .i64 c, .slice ad xs.length cap] 24)
    have hB := ba2 w (.cells #[.int .i64 t, .int .i64 c, .slice ad xs.length cap] 24) (.cells #[.int .i64 t, .int .i64 c, .slice ad' ys.length cap'] 24)
    have sM := hs.below hB
    have sN := hs'.below hB
    go_wp2_with fail
    refine (alive_any _).mono ?_
    rintro e v1 ⟨rfl, hq⟩
    have oM := oM.below hq
    have oN := oN.below hq
    have sM := sM.below hq
    have sN := sN.below hq
    have hB := below_to hB hq
    clear hq
    obtain ⟨rM, fM⟩ := oM.rules
    obtain ⟨rN, fN⟩ := oN.rules
    have zM := oM.lt
    have zN := oN.lt
    go_wp2_with fail
    refine (fit_any _ _ _ _ _ _ xs ys _ sM sN).mono ?_
    rintro e v2 ⟨rfl, hq⟩
    clear rM fM zM rN fN zN
    have oM := oM.below hq
    have oN := oN.below hq
    have sM := sM.below hq
    have sN := sN.below hq
    have hB := below_to hB hq
    clear hq
    rw [hfit]
    obtain ⟨rM, fM⟩ := oM.rules
    have zM := oM.lt
    go_wp2_with fail
    refine (ok_grow _ _ _ xs _ _ _ sM Hm (by omega)).mono ?_
    rintro e v3 ⟨uX, rfl, ⟨zXs, sX, HX⟩, _, hq⟩
    clear rM fM zM
    have oM := oM.below hq
    have oN := oN.below hq
    have sM := sM.below hq
    have sN := sN.below hq
    have hB := below_to hB hq
    clear hq
    have KX : Hid (mchk t c zXs.length = 0) := HX.out.2
    have sX' := sX
    obtain ⟨aX, cX, huX, _, _, _⟩ := sX'.open
    subst huX
    clear sX'
    go_upto_region 5 with fail
    have oM := oM.alloc (.cells #[.int .i64 t, .int .i64 c, .slice aX zXs.length cX] 24)
    have oN := oN.alloc (.cells #[.int .i64 t, .int .i64 c, .slice aX zXs.length cX] 24)
    have sM := sM.below (ba1 v3 (.cells #[.int .i64 t, .int .i64 c, .slice aX zXs.length cX] 24))
    have sN := sN.below (ba1 v3 (.cells #[.int .i64 t, .int .i64 c, .slice aX zXs.length cX] 24))
    have sX := sX.below (ba1 v3 (.cells #[.int .i64 t, .int .i64 c, .slice aX zXs.length cX] 24))
    have hB := below_to hB (ba1 v3 (.cells #[.int .i64 t, .int .i64 c, .slice aX zXs.length cX] 24))
    have oX := Own.new v3 24 [.int .i64 t, .int .i64 c, .slice aX zXs.length cX]
    generalize hbk : v3.heap.size = kX at oX ⊢
    clear hbk
    generalize v3.alloc (.cells #[.int .i64 t, .int .i64 c, .slice aX zXs.length cX] 24) = y3 at *
    obtain ⟨rX, fX⟩ := oX.rules
    have zX := oX.lt
    go_wp2_with fail
    refine (ok_grow _ _ _ zXs _ _ _ sX KX (by omega)).mono ?_
    rintro e v4 ⟨uY, rfl, ⟨zYs, sY, HY⟩, _, hq⟩
    clear rX fX zX
    have oM := oM.below hq
    have oN := oN.below hq
    have oX := oX.below hq
    have sM := sM.below hq
    have sN := sN.below hq
    have sX := sX.below hq
    have hB := below_to hB hq
    clear hq
    have KY : Hid (mchk t c zYs.length = 0) := HY.out.2
    have sY' := sY
    obtain ⟨aY, cY, huY, _, _, _⟩ := sY'.open
    subst huY
    clear sY'
    go_upto_region 6 with fail
    have oM := oM.alloc (.cells #[.int .i64 t, .int .i64 c, .slice aY zYs.length cY] 24)
    have oN := oN.alloc (.cells #[.int .i64 t, .int .i64 c, .slice aY zYs.length cY] 24)
    have oX := oX.alloc (.cells #[.int .i64 t, .int .i64 c, .slice aY zYs.length cY] 24)
    have sM := sM.below (ba1 v4 (.cells #[.int .i64 t, .int .i64 c, .slice aY zYs.length cY] 24))
    have sN := sN.below (ba1 v4 (.cells #[.int .i64 t, .int .i64 c, .slice aY zYs.length cY] 24))
    have sX := sX.below (ba1 v4 (.cells #[.int .i64 t, .int .i64 c, .slice aY zYs.length cY] 24))
    have sY := sY.below (ba1 v4 (.cells #[.int .i64 t, .int .i64 c, .slice aY zYs.length cY] 24))
    have hB := below_to hB (ba1 v4 (.cells #[.int .i64 t, .int .i64 c, .slice aY zYs.length cY] 24))
    have oY := Own.new v4 24 [.int .i64 t, .int .i64 c, .slice aY zYs.length cY]
    generalize hbk : v4.heap.size = kY at oY ⊢
    clear hbk
    generalize v4.alloc (.cells #[.int .i64 t, .int .i64 c, .slice aY zYs.length cY] 24) = y4 at *
    obtain ⟨rM, fM⟩ := oM.rules
    have zM := oM.lt
    go_wp2_with fail
    refine (ok_grow _ _ _ xs _ _ _ sM Hm (by omega)).mono ?_
    rintro e v5 ⟨uZ, rfl, ⟨zZs, sZ, HZ⟩, _, hq⟩
    clear rM fM zM
    have oM := oM.below hq
    have oN := oN.below hq
    have oX := oX.below hq
    have oY := oY.below hq
    have sM := sM.below hq
    have sN := sN.below hq
    have sX := sX.below hq
    have sY := sY.below hq
    have hB := below_to hB hq
    clear hq
    have KZ : Hid (mchk t c zZs.length = 0) := HZ.out.2
    have sZ' := sZ
    obtain ⟨aZ, cZ, huZ, _, _, _⟩ := sZ'.open
    subst huZ
    clear sZ'
    go_upto_region 7 with fail
    have oM := oM.alloc (.cells #[.int .i64 t, .int .i64 c, .slice aZ zZs.length cZ] 24)
    have oN := oN.alloc (.cells #[.int .i64 t, .int .i64 c, .slice aZ zZs.length cZ] 24)
    have oX := oX.alloc (.cells #[.int .i64 t, .int .i64 c, .slice aZ zZs.length cZ] 24)
    have oY := oY.alloc (.cells #[.int .i64 t, .int .i64 c, .slice aZ zZs.length cZ] 24)
    have sM := sM.below (ba1 v5 (.cells #[.int .i64 t, .int .i64 c, .slice aZ zZs.length cZ] 24))
    have sN := sN.below (ba1 v5 (.cells #[.int .i64 t, .int .i64 c, .slice aZ zZs.length cZ] 24))
    have sX := sX.below (ba1 v5 (.cells #[.int .i64 t, .int .i64 c, .slice aZ zZs.length cZ] 24))
    have sY := sY.below (ba1 v5 (.cells #[.int .i64 t, .int .i64 c, .slice aZ zZs.length cZ] 24))
    have sZ := sZ.below (ba1 v5 (.cells #[.int .i64 t, .int .i64 c, .slice aZ zZs.length cZ] 24))
    have hB := below_to hB (ba1 v5 (.cells #[.int .i64 t, .int .i64 c, .slice aZ zZs.length cZ] 24))
    have oZ := Own.new v5 24 [.int .i64 t, .int .i64 c, .slice aZ zZs.length cZ]
    generalize hbk : v5.heap.size = kZ at oZ ⊢
    clear hbk
    generalize v5.alloc (.cells #[.int .i64 t, .int .i64 c, .slice aZ zZs.length cZ] 24) = y5 at *
    obtain ⟨rM, fM⟩ := oM.rules
    obtain ⟨rN, fN⟩ := oN.rules
    have zM := oM.lt
    have zN := oN.lt
    go_wp2_with fail
    refine (ok_join _ _ _ _ xs ys _ sM sN Hm Hm').mono ?_
    rintro e v6 ⟨uC, rfl, ⟨zCs, sC, HC⟩, _, hq⟩
    clear rM fM zM rN fN zN
    have oM := oM.below hq
    have oN := oN.below hq
    have oX := oX.below hq
    have oY := oY.below hq
    have oZ := oZ.below hq
    have sM := sM.below hq
    have sN := sN.below hq
    have sX := sX.below hq
    have sY := sY.below hq
    have sZ := sZ.below hq
    have hB := below_to hB hq
    clear hq
    have KC : Hid (mchk t c zCs.length = 0) := HC.out.2
    have sC' := sC
    obtain ⟨aC, cC, huC, _, _, _⟩ := sC'.open
    subst huC
    clear sC'
    go_upto_region 8 with fail
    have oM := oM.alloc (.cells #[.int .i64 t, .int .i64 c, .slice aC zCs.length cC] 24)
    have oN := oN.alloc (.cells #[.int .i64 t, .int .i64 c, .slice aC zCs.length cC] 24)
    have oX := oX.alloc (.cells #[.int .i64 t, .int .i64 c, .slice aC zCs.length cC] 24)
    have oY := oY.alloc (.cells #[.int .i64 t, .int .i64 c, .slice aC zCs.length cC] 24)
    have oZ := oZ.alloc (.cells #[.int .i64 t, .int .i64 c, .slice aC zCs.length cC] 24)
    have sM := sM.below (ba1 v6 (.cells #[.int .i64 t, .int .i64 c, .slice aC zCs.length cC] 24))
    have sN := sN.below (ba1 v6 (.cells #[.int .i64 t, .int .i64 c, .slice aC zCs.length cC] 24))
    have sX := sX.below (ba1 v6 (.cells #[.int .i64 t, .int .i64 c, .slice aC zCs.length cC] 24))
    have sY := sY.below (ba1 v6 (.cells #[.int .i64 t, .int .i64 c, .slice aC zCs.length cC] 24))
    have sZ := sZ.below (ba1 v6 (.cells #[.int .i64 t, .int .i64 c, .slice aC zCs.length cC] 24))
    have sC := sC.below (ba1 v6 (.cells #[.int .i64 t, .int .i64 c, .slice aC zCs.length cC] 24))
    have hB := below_to hB (ba1 v6 (.cells #[.int .i64 t, .int .i64 c, .slice aC zCs.length cC] 24))
    have oC := Own.new v6 24 [.int .i64 t, .int .i64 c, .slice aC zCs.length cC]
    generalize hbk : v6.heap.size = kC at oC ⊢
    clear hbk
    generalize v6.alloc (.cells #[.int .i64 t, .int .i64 c, .slice aC zCs.length cC] 24) = y6 at *
    obtain ⟨rC, fC⟩ := oC.rules
    have zC := oC.lt
    go_wp2_with fail
    refine (ok_grow _ _ _ zCs _ _ _ sC KC (by omega)).mono ?_
    rintro e v7 ⟨uU, rfl, ⟨zUs, sU, HU⟩, _, hq⟩
    clear rC fC zC
    have oM := oM.below hq
    have oN := oN.below hq
    have oX := oX.below hq
    have oY := oY.below hq
    have oZ := oZ.below hq
    have oC := oC.below hq
    have sM := sM.below hq
    have sN := sN.below hq
    have sX := sX.below hq
    have sY := sY.below hq
    have sZ := sZ.below hq
    have sC := sC.below hq
    have hB := below_to hB hq
    clear hq
    have KU : Hid (mchk t c zUs.length = 0) := HU.out.2
    have sU' := sU
    obtain ⟨aU, cU, huU, _, _, _⟩ := sU'.open
    subst huU
    clear sU'
    go_upto_region 9 with fail
    have oM := oM.alloc (.cells #[.int .i64 t, .int .i64 c, .slice aU zUs.length cU] 24)
    have oN := oN.alloc (.cells #[.int .i64 t, .int .i64 c, .slice aU zUs.length cU] 24)
    have oX := oX.alloc (.cells #[.int .i64 t, .int .i64 c, .slice aU zUs.length cU] 24)
    have oY := oY.alloc (.cells #[.int .i64 t, .int .i64 c, .slice aU zUs.length cU] 24)
    have oZ := oZ.alloc (.cells #[.int .i64 t, .int .i64 c, .slice aU zUs.length cU] 24)
    have oC := oC.alloc (.cells #[.int .i64 t, .int .i64 c, .slice aU zUs.length cU] 24)
    have sM := sM.below (ba1 v7 (.cells #[.int .i64 t, .int .i64 c, .slice aU zUs.length cU] 24))
    have sN := sN.below (ba1 v7 (.cells #[.int .i64 t, .int .i64 c, .slice aU zUs.length cU] 24))
    have sX := sX.below (ba1 v7 (.cells #[.int .i64 t, .int .i64 c, .slice aU zUs.length cU] 24))
    have sY := sY.below (ba1 v7 (.cells #[.int .i64 t, .int .i64 c, .slice aU zUs.length cU] 24))
    have sZ := sZ.below (ba1 v7 (.cells #[.int .i64 t, .int .i64 c, .slice aU zUs.length cU] 24))
    have sC := sC.below (ba1 v7 (.cells #[.int .i64 t, .int .i64 c, .slice aU zUs.length cU] 24))
    have sU := sU.below (ba1 v7 (.cells #[.int .i64 t, .int .i64 c, .slice aU zUs.length cU] 24))
    have hB := below_to hB (ba1 v7 (.cells #[.int .i64 t, .int .i64 c, .slice aU zUs.length cU] 24))
    have oU := Own.new v7 24 [.int .i64 t, .int .i64 c, .slice aU zUs.length cU]
    generalize hbk : v7.heap.size = kU at oU ⊢
    clear hbk
    generalize v7.alloc (.cells #[.int .i64 t, .int .i64 c, .slice aU zUs.length cU] 24) = y7 at *
    obtain ⟨rN, fN⟩ := oN.rules
    have zN := oN.lt
    go_wp2_with fail
    refine (ok_grow _ _ _ ys _ _ _ sN Hm' (by omega)).mono ?_
    rintro e v8 ⟨uV, rfl, ⟨zVs, sV, HV⟩, _, hq⟩
    clear rN fN zN
    have oM := oM.below hq
    have oN := oN.below hq
    have oX := oX.below hq
    have oY := oY.below hq
    have oZ := oZ.below hq
    have oC := oC.below hq
    have oU := oU.below hq
    have sM := sM.below hq
    have sN := sN.below hq
    have sX := sX.below hq
    have sY := sY.below hq
    have sZ := sZ.below hq
    have sC := sC.below hq
    have sU := sU.below hq
    have hB := below_to hB hq
    clear hq
    have KV : Hid (mchk t c zVs.length = 0) := HV.out.2
    have sV' := sV
    obtain ⟨aV, cV, huV, _, _, _⟩ := sV'.open
    subst huV
    clear sV'
    go_upto_region 10 with fail
    have oM := oM.alloc (.cells #[.int .i64 t, .int .i64 c, .slice aV zVs.length cV] 24)
    have oN := oN.alloc (.cells #[.int .i64 t, .int .i64 c, .slice aV zVs.length cV] 24)
    have oX := oX.alloc (.cells #[.int .i64 t, .int .i64 c, .slice aV zVs.length cV] 24)
    have oY := oY.alloc (.cells #[.int .i64 t, .int .i64 c, .slice aV zVs.length cV] 24)
    have oZ := oZ.alloc (.cells #[.int .i64 t, .int .i64 c, .slice aV zVs.length cV] 24)
    have oC := oC.alloc (.cells #[.int .i64 t, .int .i64 c, .slice aV zVs.length cV] 24)
    have oU := oU.alloc (.cells #[.int .i64 t, .int .i64 c, .slice aV zVs.length cV] 24)
    have sM := sM.below (ba1 v8 (.cells #[.int .i64 t, .int .i64 c, .slice aV zVs.length cV] 24))
    have sN := sN.below (ba1 v8 (.cells #[.int .i64 t, .int .i64 c, .slice aV zVs.length cV] 24))
    have sX := sX.below (ba1 v8 (.cells #[.int .i64 t, .int .i64 c, .slice aV zVs.length cV] 24))
    have sY := sY.below (ba1 v8 (.cells #[.int .i64 t, .int .i64 c, .slice aV zVs.length cV] 24))
    have sZ := sZ.below (ba1 v8 (.cells #[.int .i64 t, .int .i64 c, .slice aV zVs.length cV] 24))
    have sC := sC.below (ba1 v8 (.cells #[.int .i64 t, .int .i64 c, .slice aV zVs.length cV] 24))
    have sU := sU.below (ba1 v8 (.cells #[.int .i64 t, .int .i64 c, .slice aV zVs.length cV] 24))
    have sV := sV.below (ba1 v8 (.cells #[.int .i64 t, .int .i64 c, .slice aV zVs.length cV] 24))
    have hB := below_to hB (ba1 v8 (.cells #[.int .i64 t, .int .i64 c, .slice aV zVs.length cV] 24))
    have oV := Own.new v8 24 [.int .i64 t, .int .i64 c, .slice aV zVs.length cV]
    generalize hbk : v8.heap.size = kV at oV ⊢
    clear hbk
    generalize v8.alloc (.cells #[.int .i64 t, .int .i64 c, .slice aV zVs.length cV] 24) = y8 at *
    obtain ⟨rX, fX⟩ := oX.rules
    obtain ⟨rV, fV⟩ := oV.rules
    have zX := oX.lt
    have zV := oV.lt
    go_wp2_with fail
    refine (ok_join _ _ _ _ zXs zVs _ sX sV KX KV).mono ?_
    rintro e v9 ⟨uW, rfl, ⟨zWs, sW, HW⟩, _, hq⟩
    clear rX fX zX rV fV zV
    have oM := oM.below hq
    have oN := oN.below hq
    have oX := oX.below hq
    have oY := oY.below hq
    have oZ := oZ.below hq
    have oC := oC.below hq
    have oU := oU.below hq
    have oV := oV.below hq
    have sM := sM.below hq
    have sN := sN.below hq
    have sX := sX.below hq
    have sY := sY.below hq
    have sZ := sZ.below hq
    have sC := sC.below hq
    have sU := sU.below hq
    have sV := sV.below hq
    have hB := below_to hB hq
    clear hq
    have KW : Hid (mchk t c zWs.length = 0) := HW.out.2
    have sW' := sW
    obtain ⟨aW, cW, huW, _, _, _⟩ := sW'.open
    subst huW
    clear sW'
    go_upto_region 11 with fail
    have oM := oM.alloc (.cells #[.int .i64 t, .int .i64 c, .slice aW zWs.length cW] 24)
    have oN := oN.alloc (.cells #[.int .i64 t, .int .i64 c, .slice aW zWs.length cW] 24)
    have oX := oX.alloc (.cells #[.int .i64 t, .int .i64 c, .slice aW zWs.length cW] 24)
    have oY := oY.alloc (.cells #[.int .i64 t, .int .i64 c, .slice aW zWs.length cW] 24)
    have oZ := oZ.alloc (.cells #[.int .i64 t, .int .i64 c, .slice aW zWs.length cW] 24)
    have oC := oC.alloc (.cells #[.int .i64 t, .int .i64 c, .slice aW zWs.length cW] 24)
    have oU := oU.alloc (.cells #[.int .i64 t, .int .i64 c, .slice aW zWs.length cW] 24)
    have oV := oV.alloc (.cells #[.int .i64 t, .int .i64 c, .slice aW zWs.length cW] 24)
    have sM := sM.below (ba1 v9 (.cells #[.int .i64 t, .int .i64 c, .slice aW zWs.length cW] 24))
    have sN := sN.below (ba1 v9 (.cells #[.int .i64 t, .int .i64 c, .slice aW zWs.length cW] 24))
    have sX := sX.below (ba1 v9 (.cells #[.int .i64 t, .int .i64 c, .slice aW zWs.length cW] 24))
    have sY := sY.below (ba1 v9 (.cells #[.int .i64 t, .int .i64 c, .slice aW zWs.length cW] 24))
    have sZ := sZ.below (ba1 v9 (.cells #[.int .i64 t, .int .i64 c, .slice aW zWs.length cW] 24))
    have sC := sC.below (ba1 v9 (.cells #[.int .i64 t, .int .i64 c, .slice aW zWs.length cW] 24))
    have sU := sU.below (ba1 v9 (.cells #[.int .i64 t, .int .i64 c, .slice aW zWs.length cW] 24))
    have sV := sV.below (ba1 v9 (.cells #[.int .i64 t, .int .i64 c, .slice aW zWs.length cW] 24))
    have sW := sW.below (ba1 v9 (.cells #[.int .i64 t, .int .i64 c, .slice aW zWs.length cW] 24))
    have hB := below_to hB (ba1 v9 (.cells #[.int .i64 t, .int .i64 c, .slice aW zWs.length cW] 24))
    have oW := Own.new v9 24 [.int .i64 t, .int .i64 c, .slice aW zWs.length cW]
    generalize hbk : v9.heap.size = kW at oW ⊢
    clear hbk
    generalize v9.alloc (.cells #[.int .i64 t, .int .i64 c, .slice aW zWs.length cW] 24) = y9 at *
    have E1 : Hid (zYs = zZs) := by
      obtain ⟨m1, m2, m3, m4, m5⟩ := mchk_ok Hm.out
      show zYs = zZs
      rw [HY.out.1, HZ.out.1, HX.out.1]
      exact grow_grow (mchk_len Hm.out) (by omega) (by omega) (by omega) (by omega) (by omega)
    have E2 : Hid (zUs = zWs) := by
      show zUs = zWs
      have a := (mchk_ok Hm.out).2.2.2.2
      have b := (mchk_ok Hm'.out).2.2.2.2
      rw [HU.out.1, HW.out.1, HC.out.1, HX.out.1, HV.out.1]
      exact grow_join (by omega)
    obtain ⟨rY, fY⟩ := oY.rules
    obtain ⟨rZ, fZ⟩ := oZ.rules
    have zY := oY.lt
    have zZ := oZ.lt
    go_wp2_with fail
    refine (same_any _ _ _ _ _ _ _ _ _ sY sZ).mono ?_
    rintro e v10 ⟨rfl, hq⟩
    clear rY fY zY rZ fZ zZ
    have oM := oM.below hq
    have oN := oN.below hq
    have oX := oX.below hq
    have oY := oY.below hq
    have oZ := oZ.below hq
    have oC := oC.below hq
    have oU := oU.below hq
    have oV := oV.below hq
    have oW := oW.below hq
    have sM := sM.below hq
    have sN := sN.below hq
    have sX := sX.below hq
    have sY := sY.below hq
    have sZ := sZ.below hq
    have sC := sC.below hq
    have sU := sU.below hq
    have sV := sV.below hq
    have sW := sW.below hq
    have hB := below_to hB hq
    clear hq
    rw [msame_eq, decide_eq_true E1.out]
    obtain ⟨rU, fU⟩ := oU.rules
    obtain ⟨rW, fW⟩ := oW.rules
    have zU := oU.lt
    have zW := oW.lt
    go_wp2_with fail
    refine (same_any _ _ _ _ _ _ _ _ _ sU sW).mono ?_
    rintro e v11 ⟨rfl, hq⟩
    clear rU fU zU rW fW zW
    have oM := oM.below hq
    have oN := oN.below hq
    have oX := oX.below hq
    have oY := oY.below hq
    have oZ := oZ.below hq
    have oC := oC.below hq
    have oU := oU.below hq
    have oV := oV.below hq
    have oW := oW.below hq
    have sM := sM.below hq
    have sN := sN.below hq
    have sX := sX.below hq
    have sY := sY.below hq
    have sZ := sZ.below hq
    have sC := sC.below hq
    have sU := sU.below hq
    have sV := sV.below hq
    have sW := sW.below hq
    have hB := below_to hB hq
    clear hq
    rw [msame_eq, decide_eq_true E2.out]
    go_wp2
    go_ret
    exact ⟨rfl, hB⟩

end Go.Proofs.Ytpkggglifahioaa
