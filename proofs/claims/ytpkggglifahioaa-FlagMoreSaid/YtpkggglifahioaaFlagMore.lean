/- What is proved here: the law FlagMore holds. Condition: slices that can be read, 64-bit integers. -/
import Derived.Test.YtpkggglifahioaaFlagCloses
namespace Go.Proofs.Ytpkggglifahioaa
open Go.RowKit

theorem ok_fill (t c : Int) (v : Value) (xs : List Bool) (fn fd : Int) (w : World) (h : SB w v xs) (h1 : i64 fn) (h2 : i64 fd) (hm : Hid (mchk t c xs.length = 0)) (hp : Hid (prtB fn fd = true)) :
    Calls Try.prog 26 #[.agg #[.int .i64 t, .int .i64 c, v], .agg #[.int .i64 fn, .int .i64 fd]] w fun e w' => ∃ (u : Value), e = .returned (.tuple #[.agg #[.int .i64 t, .int .i64 c, u], .int .i64 0]) ∧ (∃ zs, SB w' u zs ∧ Hid (zs = fillL t.toNat c.toNat xs fn fd ∧ mchk t c zs.length = 0)) ∧ Frv w.heap.size u ∧ Below w.heap.size w w' := by
  have h := mfill_any t c v xs fn fd w h h1 h2
  have e := ferr_0 hm.out hp.out
  rw [e, zt_eq rfl, zt_eq rfl, zl_eq rfl] at h
  refine h.mono ?_
  rintro e w' ⟨u, a, b, c, d⟩
  exact ⟨u, a, ⟨_, b, ⟨rfl, by rw [fillL_len]; exact hm.out⟩⟩, c, d⟩
theorem ok_drop (t c : Int) (v v' : Value) (xs : List Bool) (ws : List Int) (n : Nat) (w : World) (h : SB w v xs) (h' : SI w v' ws) (hn : Hid (xs.length = n)) :
    Calls Try.prog 30 #[.agg #[.int .i64 t, .int .i64 c, v], v'] w fun e w' => ∃ u, e = .returned (.tuple #[u, .int .i64 (derr t c n ws)]) ∧ (∃ ls, SI w' u ls ∧ Hid (ls = zi (derr t c n ws) (dropL xs ws))) ∧ Frv w.heap.size u ∧ Below w.heap.size w w' := by
  have h := drop_any t c v v' xs ws w h h'
  rw [hn.out] at h
  refine h.mono ?_
  rintro e w' ⟨u, a, b, c, d⟩
  exact ⟨u, a, ⟨_, b, rfl⟩, c, d⟩
theorem derr_ok {t c : Int} {n : Nat} {ws : List Int} (h : derr t c n ws = 0) : ws.length = n ∧ ∀ k (hk : k < ws.length), 0 ≤ ws[k] := by
  unfold derr at h
  split at h
  · rename_i h'; exact absurd h h'
  split at h
  · cases h
  split at h
  · cases h
  rename_i h1 h2 h3
  refine ⟨by omega, fun k hk => ?_⟩
  rw [List.any_eq_true] at h3
  by_cases h' : ws[k] < 0
  · exact absurd ⟨ws[k], List.getElem_mem hk, by simpa using h'⟩ h3
  · omega
/-- What a greater mask leaves is less. -/
theorem drop_cmp {t c : Int} {n : Nat} {ws ms ns : List Int} {xs zs : List Bool} (hm : ms = zi (derr t c n ws) (dropL xs ws)) (hn : ns = zi (derr t c n ws) (dropL zs ws)) (hx : xs.length = n) (hl : LeM xs zs) :
    ms.length = ns.length ∧ ms.length ≤ ws.length ∧ ∀ k (h1 : k < ms.length) (h2 : k < ns.length) (h3 : k < ws.length), ns[k] ≤ ms[k] ∧ ms[k] ≤ ws[k] ∧ 0 ≤ ns[k] := by
  subst hm hn
  by_cases e : derr t c n ws = 0
  · obtain ⟨e1, e2⟩ := derr_ok e
    have hz := hl.1
    simp only [zi_eq e]
    have l1 : (dropL xs ws).length = ws.length := by unfold dropL; rw [List.length_zipWith]; omega
    have l2 : (dropL zs ws).length = ws.length := by unfold dropL; rw [List.length_zipWith]; omega
    refine ⟨by omega, by omega, fun k h1 h2 h3 => ?_⟩
    have g1 := drop_get xs ws k (by omega) h3
    have g2 := drop_get zs ws k (by omega) h3
    rw [List.getElem?_eq_getElem h1] at g1
    rw [List.getElem?_eq_getElem h2] at g2
    have g1 := Option.some.inj g1
    have g2 := Option.some.inj g2
    have hx' : k < xs.length := by omega
    have hz' : k < zs.length := by omega
    have hle := hl.2 k
    rw [List.getD_eq_getElem?_getD, List.getD_eq_getElem?_getD, List.getElem?_eq_getElem hx', List.getElem?_eq_getElem hz'] at hle
    have hp := e2 k h3
    simp only [Option.getD_some] at hle
    rw [g1, g2]
    cases hx0 : xs[k] <;> cases hz0 : zs[k] <;> simp [hx0, hz0] at hle ⊢ <;> omega
  · rw [zi_ne e, zi_ne e]
    exact ⟨rfl, Nat.zero_le _, fun k h1 => absurd h1 (by simp)⟩

set_option maxRecDepth 100000 in
set_option maxHeartbeats 32000000 in
theorem more_any (t c t' c' : Int) (v v' : Value) (xs ys : List Bool) (dt dc fn fd : Int) (vw : Value) (ws : List Int) (w : World) (h : SB w v xs) (h' : SB w v' ys) (hw : SI w vw ws) (h1 : i64 fn) (h2 : i64 fd) :
    Calls Try.prog 7 #[.agg #[.int .i64 t, .int .i64 c, v], .agg #[.int .i64 t', .int .i64 c', v'], .int .i64 dt, .int .i64 dc, .agg #[.int .i64 fn, .int .i64 fd], vw] w fun e w' => e = .returned (.bool true) ∧ Below w.heap.size w w' := by
  have hs := h
  have hs' := h'
  have hsw := hw
  obtain ⟨ad, cap, rfl, q1, q2, q3⟩ := h.open
  obtain ⟨ad', cap', rfl, q1', q2', q3'⟩ := h'.open
  obtain ⟨aw, capw, rfl, r1, r2, r3⟩ := hw.open
  clear h h' q3 q3' hw r3
  cases hfit : fitB t c xs.length t' c' ys.length with
  | false =>
    go_enter Try.func7, Try.ntmps7
    have oM := (own_first w 24 [.int .i64 t, .int .i64 c, .slice ad xs.length cap] (.cells #[.int .i64 t', .int .i64 c', .slice ad' ys.length cap'] 24)).alloc (.cells #[.int .i64 fn, .int .i64 fd] 49)
    have oN := (own_second w 24 [.int .i64 t', .int .i64 c', .slice ad' ys.length cap'] (.cells #[.int .i64 t, .int .i64 c, .slice ad xs.length cap] 24)).alloc (.cells #[.int .i64 fn, .int .i64 fd] 49)
    have oP := own_third w 49 [.int .i64 fn, .int .i64 fd] (.cells #[.int .i64 t, .int .i64 c, .slice ad xs.length cap] 24) (.cells #[.int .i64 t', .int .i64 c', .slice ad' ys.length cap'] 24)
    have hB := ba3 w (.cells #[.int .i64 t, .int .i64 c, .slice ad xs.length cap] 24) (.cells #[.int .i64 t', .int .i64 c', .slice ad' ys.length cap'] 24) (.cells #[.int .i64 fn, .int .i64 fd] 49)
    have sM := hs.below hB
    have sN := hs'.below hB
    have sW := hsw.below hB
    go_wp2_with fail
    refine (alive_any _).mono ?_
    rintro e v1 ⟨rfl, hq⟩
    replace oM := oM.below hq
    replace oN := oN.below hq
    replace oP := oP.below hq
    replace sM := sM.below hq
    replace sN := sN.below hq
    replace sW := sW.below hq
    replace hB := below_to hB hq
    clear hq
    obtain ⟨rM, fM⟩ := oM.rules
    obtain ⟨rN, fN⟩ := oN.rules
    have zM := oM.lt
    have zN := oN.lt
    go_wp2_with fail
    refine (fit_any _ _ _ _ _ _ xs ys _ sM sN).mono ?_
    rintro e v2 ⟨rfl, hq⟩
    clear rM fM zM rN fN zN
    replace oM := oM.below hq
    replace oN := oN.below hq
    replace oP := oP.below hq
    replace sM := sM.below hq
    replace sN := sN.below hq
    replace sW := sW.below hq
    replace hB := below_to hB hq
    clear hq
    rw [hfit]
    go_wp2
    go_ret
    exact ⟨rfl, hB⟩
  | true =>
    obtain ⟨hm, hm', rfl, rfl⟩ := of_decide_eq_true hfit
    have Hm := Lib.hid hm
    have Hm' := Lib.hid hm'
    clear hm hm'
    by_cases p0 : dt < 0
    · skip
      go_enter Try.func7, Try.ntmps7
      have oM := (own_first w 24 [.int .i64 t, .int .i64 c, .slice ad xs.length cap] (.cells #[.int .i64 t, .int .i64 c, .slice ad' ys.length cap'] 24)).alloc (.cells #[.int .i64 fn, .int .i64 fd] 49)
      have oN := (own_second w 24 [.int .i64 t, .int .i64 c, .slice ad' ys.length cap'] (.cells #[.int .i64 t, .int .i64 c, .slice ad xs.length cap] 24)).alloc (.cells #[.int .i64 fn, .int .i64 fd] 49)
      have oP := own_third w 49 [.int .i64 fn, .int .i64 fd] (.cells #[.int .i64 t, .int .i64 c, .slice ad xs.length cap] 24) (.cells #[.int .i64 t, .int .i64 c, .slice ad' ys.length cap'] 24)
      have hB := ba3 w (.cells #[.int .i64 t, .int .i64 c, .slice ad xs.length cap] 24) (.cells #[.int .i64 t, .int .i64 c, .slice ad' ys.length cap'] 24) (.cells #[.int .i64 fn, .int .i64 fd] 49)
      have sM := hs.below hB
      have sN := hs'.below hB
      have sW := hsw.below hB
      go_wp2_with fail
      refine (alive_any _).mono ?_
      rintro e v1 ⟨rfl, hq⟩
      replace oM := oM.below hq
      replace oN := oN.below hq
      replace oP := oP.below hq
      replace sM := sM.below hq
      replace sN := sN.below hq
      replace sW := sW.below hq
      replace hB := below_to hB hq
      clear hq
      obtain ⟨rM, fM⟩ := oM.rules
      obtain ⟨rN, fN⟩ := oN.rules
      have zM := oM.lt
      have zN := oN.lt
      go_wp2_with fail
      refine (fit_any _ _ _ _ _ _ xs ys _ sM sN).mono ?_
      rintro e v2 ⟨rfl, hq⟩
      clear rM fM zM rN fN zN
      replace oM := oM.below hq
      replace oN := oN.below hq
      replace oP := oP.below hq
      replace sM := sM.below hq
      replace sN := sN.below hq
      replace sW := sW.below hq
      replace hB := below_to hB hq
      clear hq
      rw [hfit]
      go_wp2
      go_ret
      exact ⟨rfl, hB⟩
    by_cases p1 : dt > 8
    · skip
      go_enter Try.func7, Try.ntmps7
      have oM := (own_first w 24 [.int .i64 t, .int .i64 c, .slice ad xs.length cap] (.cells #[.int .i64 t, .int .i64 c, .slice ad' ys.length cap'] 24)).alloc (.cells #[.int .i64 fn, .int .i64 fd] 49)
      have oN := (own_second w 24 [.int .i64 t, .int .i64 c, .slice ad' ys.length cap'] (.cells #[.int .i64 t, .int .i64 c, .slice ad xs.length cap] 24)).alloc (.cells #[.int .i64 fn, .int .i64 fd] 49)
      have oP := own_third w 49 [.int .i64 fn, .int .i64 fd] (.cells #[.int .i64 t, .int .i64 c, .slice ad xs.length cap] 24) (.cells #[.int .i64 t, .int .i64 c, .slice ad' ys.length cap'] 24)
      have hB := ba3 w (.cells #[.int .i64 t, .int .i64 c, .slice ad xs.length cap] 24) (.cells #[.int .i64 t, .int .i64 c, .slice ad' ys.length cap'] 24) (.cells #[.int .i64 fn, .int .i64 fd] 49)
      have sM := hs.below hB
      have sN := hs'.below hB
      have sW := hsw.below hB
      go_wp2_with fail
      refine (alive_any _).mono ?_
      rintro e v1 ⟨rfl, hq⟩
      replace oM := oM.below hq
      replace oN := oN.below hq
      replace oP := oP.below hq
      replace sM := sM.below hq
      replace sN := sN.below hq
      replace sW := sW.below hq
      replace hB := below_to hB hq
      clear hq
      obtain ⟨rM, fM⟩ := oM.rules
      obtain ⟨rN, fN⟩ := oN.rules
      have zM := oM.lt
      have zN := oN.lt
      go_wp2_with fail
      refine (fit_any _ _ _ _ _ _ xs ys _ sM sN).mono ?_
      rintro e v2 ⟨rfl, hq⟩
      clear rM fM zM rN fN zN
      replace oM := oM.below hq
      replace oN := oN.below hq
      replace oP := oP.below hq
      replace sM := sM.below hq
      replace sN := sN.below hq
      replace sW := sW.below hq
      replace hB := below_to hB hq
      clear hq
      rw [hfit]
      go_wp2
      go_ret
      exact ⟨rfl, hB⟩
    by_cases p2 : dc < 0
    · skip
      go_enter Try.func7, Try.ntmps7
      have oM := (own_first w 24 [.int .i64 t, .int .i64 c, .slice ad xs.length cap] (.cells #[.int .i64 t, .int .i64 c, .slice ad' ys.length cap'] 24)).alloc (.cells #[.int .i64 fn, .int .i64 fd] 49)
      have oN := (own_second w 24 [.int .i64 t, .int .i64 c, .slice ad' ys.length cap'] (.cells #[.int .i64 t, .int .i64 c, .slice ad xs.length cap] 24)).alloc (.cells #[.int .i64 fn, .int .i64 fd] 49)
      have oP := own_third w 49 [.int .i64 fn, .int .i64 fd] (.cells #[.int .i64 t, .int .i64 c, .slice ad xs.length cap] 24) (.cells #[.int .i64 t, .int .i64 c, .slice ad' ys.length cap'] 24)
      have hB := ba3 w (.cells #[.int .i64 t, .int .i64 c, .slice ad xs.length cap] 24) (.cells #[.int .i64 t, .int .i64 c, .slice ad' ys.length cap'] 24) (.cells #[.int .i64 fn, .int .i64 fd] 49)
      have sM := hs.below hB
      have sN := hs'.below hB
      have sW := hsw.below hB
      go_wp2_with fail
      refine (alive_any _).mono ?_
      rintro e v1 ⟨rfl, hq⟩
      replace oM := oM.below hq
      replace oN := oN.below hq
      replace oP := oP.below hq
      replace sM := sM.below hq
      replace sN := sN.below hq
      replace sW := sW.below hq
      replace hB := below_to hB hq
      clear hq
      obtain ⟨rM, fM⟩ := oM.rules
      obtain ⟨rN, fN⟩ := oN.rules
      have zM := oM.lt
      have zN := oN.lt
      go_wp2_with fail
      refine (fit_any _ _ _ _ _ _ xs ys _ sM sN).mono ?_
      rintro e v2 ⟨rfl, hq⟩
      clear rM fM zM rN fN zN
      replace oM := oM.below hq
      replace oN := oN.below hq
      replace oP := oP.below hq
      replace sM := sM.below hq
      replace sN := sN.below hq
      replace sW := sW.below hq
      replace hB := below_to hB hq
      clear hq
      rw [hfit]
      go_wp2
      go_ret
      exact ⟨rfl, hB⟩
    by_cases p3 : dc > 8
    · skip
      go_enter Try.func7, Try.ntmps7
      have oM := (own_first w 24 [.int .i64 t, .int .i64 c, .slice ad xs.length cap] (.cells #[.int .i64 t, .int .i64 c, .slice ad' ys.length cap'] 24)).alloc (.cells #[.int .i64 fn, .int .i64 fd] 49)
      have oN := (own_second w 24 [.int .i64 t, .int .i64 c, .slice ad' ys.length cap'] (.cells #[.int .i64 t, .int .i64 c, .slice ad xs.length cap] 24)).alloc (.cells #[.int .i64 fn, .int .i64 fd] 49)
      have oP := own_third w 49 [.int .i64 fn, .int .i64 fd] (.cells #[.int .i64 t, .int .i64 c, .slice ad xs.length cap] 24) (.cells #[.int .i64 t, .int .i64 c, .slice ad' ys.length cap'] 24)
      have hB := ba3 w (.cells #[.int .i64 t, .int .i64 c, .slice ad xs.length cap] 24) (.cells #[.int .i64 t, .int .i64 c, .slice ad' ys.length cap'] 24) (.cells #[.int .i64 fn, .int .i64 fd] 49)
      have sM := hs.below hB
      have sN := hs'.below hB
      have sW := hsw.below hB
      go_wp2_with fail
      refine (alive_any _).mono ?_
      rintro e v1 ⟨rfl, hq⟩
      replace oM := oM.below hq
      replace oN := oN.below hq
      replace oP := oP.below hq
      replace sM := sM.below hq
      replace sN := sN.below hq
      replace sW := sW.below hq
      replace hB := below_to hB hq
      clear hq
      obtain ⟨rM, fM⟩ := oM.rules
      obtain ⟨rN, fN⟩ := oN.rules
      have zM := oM.lt
      have zN := oN.lt
      go_wp2_with fail
      refine (fit_any _ _ _ _ _ _ xs ys _ sM sN).mono ?_
      rintro e v2 ⟨rfl, hq⟩
      clear rM fM zM rN fN zN
      replace oM := oM.below hq
      replace oN := oN.below hq
      replace oP := oP.below hq
      replace sM := sM.below hq
      replace sN := sN.below hq
      replace sW := sW.below hq
      replace hB := below_to hB hq
      clear hq
      rw [hfit]
      go_wp2
      go_ret
      exact ⟨rfl, hB⟩
    cases hpr : prtB fn fd with
    | false =>
      go_enter Try.func7, Try.ntmps7
      have oM := (own_first w 24 [.int .i64 t, .int .i64 c, .slice ad xs.length cap] (.cells #[.int .i64 t, .int .i64 c, .slice ad' ys.length cap'] 24)).alloc (.cells #[.int .i64 fn, .int .i64 fd] 49)
      have oN := (own_second w 24 [.int .i64 t, .int .i64 c, .slice ad' ys.length cap'] (.cells #[.int .i64 t, .int .i64 c, .slice ad xs.length cap] 24)).alloc (.cells #[.int .i64 fn, .int .i64 fd] 49)
      have oP := own_third w 49 [.int .i64 fn, .int .i64 fd] (.cells #[.int .i64 t, .int .i64 c, .slice ad xs.length cap] 24) (.cells #[.int .i64 t, .int .i64 c, .slice ad' ys.length cap'] 24)
      have hB := ba3 w (.cells #[.int .i64 t, .int .i64 c, .slice ad xs.length cap] 24) (.cells #[.int .i64 t, .int .i64 c, .slice ad' ys.length cap'] 24) (.cells #[.int .i64 fn, .int .i64 fd] 49)
      have sM := hs.below hB
      have sN := hs'.below hB
      have sW := hsw.below hB
      go_wp2_with fail
      refine (alive_any _).mono ?_
      rintro e v1 ⟨rfl, hq⟩
      replace oM := oM.below hq
      replace oN := oN.below hq
      replace oP := oP.below hq
      replace sM := sM.below hq
      replace sN := sN.below hq
      replace sW := sW.below hq
      replace hB := below_to hB hq
      clear hq
      obtain ⟨rM, fM⟩ := oM.rules
      obtain ⟨rN, fN⟩ := oN.rules
      have zM := oM.lt
      have zN := oN.lt
      go_wp2_with fail
      refine (fit_any _ _ _ _ _ _ xs ys _ sM sN).mono ?_
      rintro e v2 ⟨rfl, hq⟩
      clear rM fM zM rN fN zN
      replace oM := oM.below hq
      replace oN := oN.below hq
      replace oP := oP.below hq
      replace sM := sM.below hq
      replace sN := sN.below hq
      replace sW := sW.below hq
      replace hB := below_to hB hq
      clear hq
      rw [hfit]
      obtain ⟨rP, fP⟩ := oP.rules
      have zP := oP.lt
      go_wp2_with fail
      refine (part_any _ _ _ h1 h2).mono ?_
      rintro e v3 ⟨rfl, hq⟩
      clear rP fP zP
      replace oM := oM.below hq
      replace oN := oN.below hq
      replace oP := oP.below hq
      replace sM := sM.below hq
      replace sN := sN.below hq
      replace sW := sW.below hq
      replace hB := below_to hB hq
      clear hq
      rw [hpr]
      go_wp2
      go_ret
      exact ⟨rfl, hB⟩
    | true =>
      have Hp := Lib.hid hpr
      have hfd : Hid (0 ≤ fd) := by have := prt_ok hpr; show 0 ≤ fd; omega
      go_enter Try.func7, Try.ntmps7
      have oM := (own_first w 24 [.int .i64 t, .int .i64 c, .slice ad xs.length cap] (.cells #[.int .i64 t, .int .i64 c, .slice ad' ys.length cap'] 24)).alloc (.cells #[.int .i64 fn, .int .i64 fd] 49)
      have oN := (own_second w 24 [.int .i64 t, .int .i64 c, .slice ad' ys.length cap'] (.cells #[.int .i64 t, .int .i64 c, .slice ad xs.length cap] 24)).alloc (.cells #[.int .i64 fn, .int .i64 fd] 49)
      have oP := own_third w 49 [.int .i64 fn, .int .i64 fd] (.cells #[.int .i64 t, .int .i64 c, .slice ad xs.length cap] 24) (.cells #[.int .i64 t, .int .i64 c, .slice ad' ys.length cap'] 24)
      have hB := ba3 w (.cells #[.int .i64 t, .int .i64 c, .slice ad xs.length cap] 24) (.cells #[.int .i64 t, .int .i64 c, .slice ad' ys.length cap'] 24) (.cells #[.int .i64 fn, .int .i64 fd] 49)
      have sM := hs.below hB
      have sN := hs'.below hB
      have sW := hsw.below hB
      go_wp2_with fail
      refine (alive_any _).mono ?_
      rintro e v1 ⟨rfl, hq⟩
      replace oM := oM.below hq
      replace oN := oN.below hq
      replace oP := oP.below hq
      replace sM := sM.below hq
      replace sN := sN.below hq
      replace sW := sW.below hq
      replace hB := below_to hB hq
      clear hq
      obtain ⟨rM, fM⟩ := oM.rules
      obtain ⟨rN, fN⟩ := oN.rules
      have zM := oM.lt
      have zN := oN.lt
      go_wp2_with fail
      refine (fit_any _ _ _ _ _ _ xs ys _ sM sN).mono ?_
      rintro e v2 ⟨rfl, hq⟩
      clear rM fM zM rN fN zN
      replace oM := oM.below hq
      replace oN := oN.below hq
      replace oP := oP.below hq
      replace sM := sM.below hq
      replace sN := sN.below hq
      replace sW := sW.below hq
      replace hB := below_to hB hq
      clear hq
      rw [hfit]
      obtain ⟨rP, fP⟩ := oP.rules
      have zP := oP.lt
      go_wp2_with fail
      refine (part_any _ _ _ h1 h2).mono ?_
      rintro e v3 ⟨rfl, hq⟩
      clear rP fP zP
      replace oM := oM.below hq
      replace oN := oN.below hq
      replace oP := oP.below hq
      replace sM := sM.below hq
      replace sN := sN.below hq
      replace sW := sW.below hq
      replace hB := below_to hB hq
      clear hq
      rw [hpr]
      obtain ⟨rM, fM⟩ := oM.rules
      obtain ⟨rN, fN⟩ := oN.rules
      have zM := oM.lt
      have zN := oN.lt
      go_wp2_with fail
      refine (ok_join _ _ _ _ xs ys _ sM sN Hm Hm').mono ?_
      rintro e v4 ⟨uC, rfl, ⟨zCs, sC, HC⟩, _, hq⟩
      clear rM fM zM rN fN zN
      replace oM := oM.below hq
      replace oN := oN.below hq
      replace oP := oP.below hq
      replace sM := sM.below hq
      replace sN := sN.below hq
      replace sW := sW.below hq
      replace hB := below_to hB hq
      clear hq
      have KC : Hid (mchk t c zCs.length = 0) := HC.out.2
      have sC' := sC
      obtain ⟨aC, cC, huC, _, _, _⟩ := sC'.open
      subst huC
      clear sC'
      go_upto_region 5 with fail
      replace oM := oM.alloc (.cells #[.int .i64 t, .int .i64 c, .slice aC zCs.length cC] 24)
      replace oN := oN.alloc (.cells #[.int .i64 t, .int .i64 c, .slice aC zCs.length cC] 24)
      replace oP := oP.alloc (.cells #[.int .i64 t, .int .i64 c, .slice aC zCs.length cC] 24)
      replace sM := sM.below (ba1 v4 (.cells #[.int .i64 t, .int .i64 c, .slice aC zCs.length cC] 24))
      replace sN := sN.below (ba1 v4 (.cells #[.int .i64 t, .int .i64 c, .slice aC zCs.length cC] 24))
      replace sW := sW.below (ba1 v4 (.cells #[.int .i64 t, .int .i64 c, .slice aC zCs.length cC] 24))
      replace sC := sC.below (ba1 v4 (.cells #[.int .i64 t, .int .i64 c, .slice aC zCs.length cC] 24))
      replace hB := below_to hB (ba1 v4 (.cells #[.int .i64 t, .int .i64 c, .slice aC zCs.length cC] 24))
      have oC := Own.new v4 24 [.int .i64 t, .int .i64 c, .slice aC zCs.length cC]
      generalize hbk : v4.heap.size = kC at oC ⊢
      clear hbk
      generalize v4.alloc (.cells #[.int .i64 t, .int .i64 c, .slice aC zCs.length cC] 24) = y4 at *
      have HL : Hid (xs.length = ys.length) := by
        show xs.length = ys.length
        have a := (mchk_ok Hm.out).2.2.2.2
        have b := (mchk_ok Hm'.out).2.2.2.2
        omega
      have LMC : Hid (LeM xs zCs) := by
        show LeM xs zCs
        rw [HC.out.1]; exact zip_le1 HL.out
      have LNC : Hid (LeM ys zCs) := by
        show LeM ys zCs
        rw [HC.out.1]; exact zip_le2 HL.out
      have hfx : fitB t c xs.length t c zCs.length = true := decide_eq_true ⟨Hm.out, KC.out, rfl, rfl⟩
      obtain ⟨rM, fM⟩ := oM.rules
      obtain ⟨rC, fC⟩ := oC.rules
      have zM := oM.lt
      have zC := oC.lt
      go_wp2_with fail
      refine (fit_any _ _ _ _ _ _ xs zCs _ sM sC).mono ?_
      rintro e v5 ⟨rfl, hq⟩
      clear rM fM zM rC fC zC
      replace oM := oM.below hq
      replace oN := oN.below hq
      replace oP := oP.below hq
      replace oC := oC.below hq
      replace sM := sM.below hq
      replace sN := sN.below hq
      replace sW := sW.below hq
      replace sC := sC.below hq
      replace hB := below_to hB hq
      clear hq
      rw [hfx]
      clear hfx
      obtain ⟨rM, fM⟩ := oM.rules
      obtain ⟨rC, fC⟩ := oC.rules
      have zM := oM.lt
      have zC := oC.lt
      go_wp2_with fail
      refine (within_any _ _ _ _ _ _ _ _ _ sM sC LMC.out).mono ?_
      rintro e v6 ⟨rfl, hq⟩
      clear rM fM zM rC fC zC
      replace oM := oM.below hq
      replace oN := oN.below hq
      replace oP := oP.below hq
      replace oC := oC.below hq
      replace sM := sM.below hq
      replace sN := sN.below hq
      replace sW := sW.below hq
      replace sC := sC.below hq
      replace hB := below_to hB hq
      clear hq
      obtain ⟨rN, fN⟩ := oN.rules
      obtain ⟨rC, fC⟩ := oC.rules
      have zN := oN.lt
      have zC := oC.lt
      go_wp2_with fail
      refine (within_any _ _ _ _ _ _ _ _ _ sN sC LNC.out).mono ?_
      rintro e v7 ⟨rfl, hq⟩
      clear rN fN zN rC fC zC
      replace oM := oM.below hq
      replace oN := oN.below hq
      replace oP := oP.below hq
      replace oC := oC.below hq
      replace sM := sM.below hq
      replace sN := sN.below hq
      replace sW := sW.below hq
      replace sC := sC.below hq
      replace hB := below_to hB hq
      clear hq
      obtain ⟨rM, fM⟩ := oM.rules
      have zM := oM.lt
      go_wp2_with fail
      refine (ok_grow _ _ _ xs _ _ _ sM Hm (by omega)).mono ?_
      rintro e v8 ⟨uX, rfl, ⟨zXs, sX, HX⟩, _, hq⟩
      clear rM fM zM
      replace oM := oM.below hq
      replace oN := oN.below hq
      replace oP := oP.below hq
      replace oC := oC.below hq
      replace sM := sM.below hq
      replace sN := sN.below hq
      replace sW := sW.below hq
      replace sC := sC.below hq
      replace hB := below_to hB hq
      clear hq
      have KX : Hid (mchk t c zXs.length = 0) := HX.out.2
      have sX' := sX
      obtain ⟨aX, cX, huX, _, _, _⟩ := sX'.open
      subst huX
      clear sX'
      go_upto_region 8 with fail
      replace oM := oM.alloc (.cells #[.int .i64 t, .int .i64 c, .slice aX zXs.length cX] 24)
      replace oN := oN.alloc (.cells #[.int .i64 t, .int .i64 c, .slice aX zXs.length cX] 24)
      replace oP := oP.alloc (.cells #[.int .i64 t, .int .i64 c, .slice aX zXs.length cX] 24)
      replace oC := oC.alloc (.cells #[.int .i64 t, .int .i64 c, .slice aX zXs.length cX] 24)
      replace sM := sM.below (ba1 v8 (.cells #[.int .i64 t, .int .i64 c, .slice aX zXs.length cX] 24))
      replace sN := sN.below (ba1 v8 (.cells #[.int .i64 t, .int .i64 c, .slice aX zXs.length cX] 24))
      replace sW := sW.below (ba1 v8 (.cells #[.int .i64 t, .int .i64 c, .slice aX zXs.length cX] 24))
      replace sC := sC.below (ba1 v8 (.cells #[.int .i64 t, .int .i64 c, .slice aX zXs.length cX] 24))
      replace sX := sX.below (ba1 v8 (.cells #[.int .i64 t, .int .i64 c, .slice aX zXs.length cX] 24))
      replace hB := below_to hB (ba1 v8 (.cells #[.int .i64 t, .int .i64 c, .slice aX zXs.length cX] 24))
      have oX := Own.new v8 24 [.int .i64 t, .int .i64 c, .slice aX zXs.length cX]
      generalize hbk : v8.heap.size = kX at oX ⊢
      clear hbk
      generalize v8.alloc (.cells #[.int .i64 t, .int .i64 c, .slice aX zXs.length cX] 24) = y8 at *
      obtain ⟨rC, fC⟩ := oC.rules
      have zC := oC.lt
      go_wp2_with fail
      refine (ok_grow _ _ _ zCs _ _ _ sC KC (by omega)).mono ?_
      rintro e v9 ⟨uY, rfl, ⟨zYs, sY, HY⟩, _, hq⟩
      clear rC fC zC
      replace oM := oM.below hq
      replace oN := oN.below hq
      replace oP := oP.below hq
      replace oC := oC.below hq
      replace oX := oX.below hq
      replace sM := sM.below hq
      replace sN := sN.below hq
      replace sW := sW.below hq
      replace sC := sC.below hq
      replace sX := sX.below hq
      replace hB := below_to hB hq
      clear hq
      have KY : Hid (mchk t c zYs.length = 0) := HY.out.2
      have sY' := sY
      obtain ⟨aY, cY, huY, _, _, _⟩ := sY'.open
      subst huY
      clear sY'
      go_upto_region 9 with fail
      replace oM := oM.alloc (.cells #[.int .i64 t, .int .i64 c, .slice aY zYs.length cY] 24)
      replace oN := oN.alloc (.cells #[.int .i64 t, .int .i64 c, .slice aY zYs.length cY] 24)
      replace oP := oP.alloc (.cells #[.int .i64 t, .int .i64 c, .slice aY zYs.length cY] 24)
      replace oC := oC.alloc (.cells #[.int .i64 t, .int .i64 c, .slice aY zYs.length cY] 24)
      replace oX := oX.alloc (.cells #[.int .i64 t, .int .i64 c, .slice aY zYs.length cY] 24)
      replace sM := sM.below (ba1 v9 (.cells #[.int .i64 t, .int .i64 c, .slice aY zYs.length cY] 24))
      replace sN := sN.below (ba1 v9 (.cells #[.int .i64 t, .int .i64 c, .slice aY zYs.length cY] 24))
      replace sW := sW.below (ba1 v9 (.cells #[.int .i64 t, .int .i64 c, .slice aY zYs.length cY] 24))
      replace sC := sC.below (ba1 v9 (.cells #[.int .i64 t, .int .i64 c, .slice aY zYs.length cY] 24))
      replace sX := sX.below (ba1 v9 (.cells #[.int .i64 t, .int .i64 c, .slice aY zYs.length cY] 24))
      replace sY := sY.below (ba1 v9 (.cells #[.int .i64 t, .int .i64 c, .slice aY zYs.length cY] 24))
      replace hB := below_to hB (ba1 v9 (.cells #[.int .i64 t, .int .i64 c, .slice aY zYs.length cY] 24))
      have oY := Own.new v9 24 [.int .i64 t, .int .i64 c, .slice aY zYs.length cY]
      generalize hbk : v9.heap.size = kY at oY ⊢
      clear hbk
      generalize v9.alloc (.cells #[.int .i64 t, .int .i64 c, .slice aY zYs.length cY] 24) = y9 at *
      obtain ⟨rM, fM⟩ := oM.rules
      obtain ⟨rP, fP⟩ := oP.rules
      have zM := oM.lt
      have zP := oP.lt
      go_wp2_with fail
      refine (ok_fill _ _ _ xs _ _ _ sM h1 h2 Hm Hp).mono ?_
      rintro e v10 ⟨uU, rfl, ⟨zUs, sU, HU⟩, _, hq⟩
      clear rM fM zM rP fP zP
      replace oM := oM.below hq
      replace oN := oN.below hq
      replace oP := oP.below hq
      replace oC := oC.below hq
      replace oX := oX.below hq
      replace oY := oY.below hq
      replace sM := sM.below hq
      replace sN := sN.below hq
      replace sW := sW.below hq
      replace sC := sC.below hq
      replace sX := sX.below hq
      replace sY := sY.below hq
      replace hB := below_to hB hq
      clear hq
      have KU : Hid (mchk t c zUs.length = 0) := HU.out.2
      have sU' := sU
      obtain ⟨aU, cU, huU, _, _, _⟩ := sU'.open
      subst huU
      clear sU'
      go_upto_region 10 with fail
      replace oM := oM.alloc (.cells #[.int .i64 t, .int .i64 c, .slice aU zUs.length cU] 24)
      replace oN := oN.alloc (.cells #[.int .i64 t, .int .i64 c, .slice aU zUs.length cU] 24)
      replace oP := oP.alloc (.cells #[.int .i64 t, .int .i64 c, .slice aU zUs.length cU] 24)
      replace oC := oC.alloc (.cells #[.int .i64 t, .int .i64 c, .slice aU zUs.length cU] 24)
      replace oX := oX.alloc (.cells #[.int .i64 t, .int .i64 c, .slice aU zUs.length cU] 24)
      replace oY := oY.alloc (.cells #[.int .i64 t, .int .i64 c, .slice aU zUs.length cU] 24)
      replace sM := sM.below (ba1 v10 (.cells #[.int .i64 t, .int .i64 c, .slice aU zUs.length cU] 24))
      replace sN := sN.below (ba1 v10 (.cells #[.int .i64 t, .int .i64 c, .slice aU zUs.length cU] 24))
      replace sW := sW.below (ba1 v10 (.cells #[.int .i64 t, .int .i64 c, .slice aU zUs.length cU] 24))
      replace sC := sC.below (ba1 v10 (.cells #[.int .i64 t, .int .i64 c, .slice aU zUs.length cU] 24))
      replace sX := sX.below (ba1 v10 (.cells #[.int .i64 t, .int .i64 c, .slice aU zUs.length cU] 24))
      replace sY := sY.below (ba1 v10 (.cells #[.int .i64 t, .int .i64 c, .slice aU zUs.length cU] 24))
      replace sU := sU.below (ba1 v10 (.cells #[.int .i64 t, .int .i64 c, .slice aU zUs.length cU] 24))
      replace hB := below_to hB (ba1 v10 (.cells #[.int .i64 t, .int .i64 c, .slice aU zUs.length cU] 24))
      have oU := Own.new v10 24 [.int .i64 t, .int .i64 c, .slice aU zUs.length cU]
      generalize hbk : v10.heap.size = kU at oU ⊢
      clear hbk
      generalize v10.alloc (.cells #[.int .i64 t, .int .i64 c, .slice aU zUs.length cU] 24) = y10 at *
      obtain ⟨rC, fC⟩ := oC.rules
      obtain ⟨rP, fP⟩ := oP.rules
      have zC := oC.lt
      have zP := oP.lt
      go_wp2_with fail
      refine (ok_fill _ _ _ zCs _ _ _ sC h1 h2 KC Hp).mono ?_
      rintro e v11 ⟨uV, rfl, ⟨zVs, sV, HV⟩, _, hq⟩
      clear rC fC zC rP fP zP
      replace oM := oM.below hq
      replace oN := oN.below hq
      replace oP := oP.below hq
      replace oC := oC.below hq
      replace oX := oX.below hq
      replace oY := oY.below hq
      replace oU := oU.below hq
      replace sM := sM.below hq
      replace sN := sN.below hq
      replace sW := sW.below hq
      replace sC := sC.below hq
      replace sX := sX.below hq
      replace sY := sY.below hq
      replace sU := sU.below hq
      replace hB := below_to hB hq
      clear hq
      have KV : Hid (mchk t c zVs.length = 0) := HV.out.2
      have sV' := sV
      obtain ⟨aV, cV, huV, _, _, _⟩ := sV'.open
      subst huV
      clear sV'
      go_upto_region 11 with fail
      replace oM := oM.alloc (.cells #[.int .i64 t, .int .i64 c, .slice aV zVs.length cV] 24)
      replace oN := oN.alloc (.cells #[.int .i64 t, .int .i64 c, .slice aV zVs.length cV] 24)
      replace oP := oP.alloc (.cells #[.int .i64 t, .int .i64 c, .slice aV zVs.length cV] 24)
      replace oC := oC.alloc (.cells #[.int .i64 t, .int .i64 c, .slice aV zVs.length cV] 24)
      replace oX := oX.alloc (.cells #[.int .i64 t, .int .i64 c, .slice aV zVs.length cV] 24)
      replace oY := oY.alloc (.cells #[.int .i64 t, .int .i64 c, .slice aV zVs.length cV] 24)
      replace oU := oU.alloc (.cells #[.int .i64 t, .int .i64 c, .slice aV zVs.length cV] 24)
      replace sM := sM.below (ba1 v11 (.cells #[.int .i64 t, .int .i64 c, .slice aV zVs.length cV] 24))
      replace sN := sN.below (ba1 v11 (.cells #[.int .i64 t, .int .i64 c, .slice aV zVs.length cV] 24))
      replace sW := sW.below (ba1 v11 (.cells #[.int .i64 t, .int .i64 c, .slice aV zVs.length cV] 24))
      replace sC := sC.below (ba1 v11 (.cells #[.int .i64 t, .int .i64 c, .slice aV zVs.length cV] 24))
      replace sX := sX.below (ba1 v11 (.cells #[.int .i64 t, .int .i64 c, .slice aV zVs.length cV] 24))
      replace sY := sY.below (ba1 v11 (.cells #[.int .i64 t, .int .i64 c, .slice aV zVs.length cV] 24))
      replace sU := sU.below (ba1 v11 (.cells #[.int .i64 t, .int .i64 c, .slice aV zVs.length cV] 24))
      replace sV := sV.below (ba1 v11 (.cells #[.int .i64 t, .int .i64 c, .slice aV zVs.length cV] 24))
      replace hB := below_to hB (ba1 v11 (.cells #[.int .i64 t, .int .i64 c, .slice aV zVs.length cV] 24))
      have oV := Own.new v11 24 [.int .i64 t, .int .i64 c, .slice aV zVs.length cV]
      generalize hbk : v11.heap.size = kV at oV ⊢
      clear hbk
      generalize v11.alloc (.cells #[.int .i64 t, .int .i64 c, .slice aV zVs.length cV] 24) = y11 at *
      obtain ⟨rM, fM⟩ := oM.rules
      obtain ⟨rP, fP⟩ := oP.rules
      have zM := oM.lt
      have zP := oP.lt
      go_wp2_with fail
      refine (ok_close _ _ _ xs _ _ _ sM h1 h2 Hm Hp).mono ?_
      rintro e v12 ⟨uR, nR, rfl, ⟨zRs, sR, HR⟩, _, hq⟩
      clear rM fM zM rP fP zP
      replace oM := oM.below hq
      replace oN := oN.below hq
      replace oP := oP.below hq
      replace oC := oC.below hq
      replace oX := oX.below hq
      replace oY := oY.below hq
      replace oU := oU.below hq
      replace oV := oV.below hq
      replace sM := sM.below hq
      replace sN := sN.below hq
      replace sW := sW.below hq
      replace sC := sC.below hq
      replace sX := sX.below hq
      replace sY := sY.below hq
      replace sU := sU.below hq
      replace sV := sV.below hq
      replace hB := below_to hB hq
      clear hq
      have KR : Hid (mchk t c zRs.length = 0) := HR.out.2.2.1
      have sR' := sR
      obtain ⟨aR, cR, huR, _, _, _⟩ := sR'.open
      subst huR
      clear sR'
      go_upto_region 12 with fail
      replace oM := oM.alloc (.cells #[.int .i64 t, .int .i64 c, .slice aR zRs.length cR] 24)
      replace oN := oN.alloc (.cells #[.int .i64 t, .int .i64 c, .slice aR zRs.length cR] 24)
      replace oP := oP.alloc (.cells #[.int .i64 t, .int .i64 c, .slice aR zRs.length cR] 24)
      replace oC := oC.alloc (.cells #[.int .i64 t, .int .i64 c, .slice aR zRs.length cR] 24)
      replace oX := oX.alloc (.cells #[.int .i64 t, .int .i64 c, .slice aR zRs.length cR] 24)
      replace oY := oY.alloc (.cells #[.int .i64 t, .int .i64 c, .slice aR zRs.length cR] 24)
      replace oU := oU.alloc (.cells #[.int .i64 t, .int .i64 c, .slice aR zRs.length cR] 24)
      replace oV := oV.alloc (.cells #[.int .i64 t, .int .i64 c, .slice aR zRs.length cR] 24)
      replace sM := sM.below (ba1 v12 (.cells #[.int .i64 t, .int .i64 c, .slice aR zRs.length cR] 24))
      replace sN := sN.below (ba1 v12 (.cells #[.int .i64 t, .int .i64 c, .slice aR zRs.length cR] 24))
      replace sW := sW.below (ba1 v12 (.cells #[.int .i64 t, .int .i64 c, .slice aR zRs.length cR] 24))
      replace sC := sC.below (ba1 v12 (.cells #[.int .i64 t, .int .i64 c, .slice aR zRs.length cR] 24))
      replace sX := sX.below (ba1 v12 (.cells #[.int .i64 t, .int .i64 c, .slice aR zRs.length cR] 24))
      replace sY := sY.below (ba1 v12 (.cells #[.int .i64 t, .int .i64 c, .slice aR zRs.length cR] 24))
      replace sU := sU.below (ba1 v12 (.cells #[.int .i64 t, .int .i64 c, .slice aR zRs.length cR] 24))
      replace sV := sV.below (ba1 v12 (.cells #[.int .i64 t, .int .i64 c, .slice aR zRs.length cR] 24))
      replace sR := sR.below (ba1 v12 (.cells #[.int .i64 t, .int .i64 c, .slice aR zRs.length cR] 24))
      replace hB := below_to hB (ba1 v12 (.cells #[.int .i64 t, .int .i64 c, .slice aR zRs.length cR] 24))
      have oR := Own.new v12 24 [.int .i64 t, .int .i64 c, .slice aR zRs.length cR]
      generalize hbk : v12.heap.size = kR at oR ⊢
      clear hbk
      generalize v12.alloc (.cells #[.int .i64 t, .int .i64 c, .slice aR zRs.length cR] 24) = y12 at *
      obtain ⟨rC, fC⟩ := oC.rules
      obtain ⟨rP, fP⟩ := oP.rules
      have zC := oC.lt
      have zP := oP.lt
      go_wp2_with fail
      refine (ok_close _ _ _ zCs _ _ _ sC h1 h2 KC Hp).mono ?_
      rintro e v13 ⟨uQ, nQ, rfl, ⟨zQs, sQ, HQ⟩, _, hq⟩
      clear rC fC zC rP fP zP
      replace oM := oM.below hq
      replace oN := oN.below hq
      replace oP := oP.below hq
      replace oC := oC.below hq
      replace oX := oX.below hq
      replace oY := oY.below hq
      replace oU := oU.below hq
      replace oV := oV.below hq
      replace oR := oR.below hq
      replace sM := sM.below hq
      replace sN := sN.below hq
      replace sW := sW.below hq
      replace sC := sC.below hq
      replace sX := sX.below hq
      replace sY := sY.below hq
      replace sU := sU.below hq
      replace sV := sV.below hq
      replace sR := sR.below hq
      replace hB := below_to hB hq
      clear hq
      have KQ : Hid (mchk t c zQs.length = 0) := HQ.out.2.2.1
      have sQ' := sQ
      obtain ⟨aQ, cQ, huQ, _, _, _⟩ := sQ'.open
      subst huQ
      clear sQ'
      go_upto_region 13 with fail
      replace oM := oM.alloc (.cells #[.int .i64 t, .int .i64 c, .slice aQ zQs.length cQ] 24)
      replace oN := oN.alloc (.cells #[.int .i64 t, .int .i64 c, .slice aQ zQs.length cQ] 24)
      replace oP := oP.alloc (.cells #[.int .i64 t, .int .i64 c, .slice aQ zQs.length cQ] 24)
      replace oC := oC.alloc (.cells #[.int .i64 t, .int .i64 c, .slice aQ zQs.length cQ] 24)
      replace oX := oX.alloc (.cells #[.int .i64 t, .int .i64 c, .slice aQ zQs.length cQ] 24)
      replace oY := oY.alloc (.cells #[.int .i64 t, .int .i64 c, .slice aQ zQs.length cQ] 24)
      replace oU := oU.alloc (.cells #[.int .i64 t, .int .i64 c, .slice aQ zQs.length cQ] 24)
      replace oV := oV.alloc (.cells #[.int .i64 t, .int .i64 c, .slice aQ zQs.length cQ] 24)
      replace oR := oR.alloc (.cells #[.int .i64 t, .int .i64 c, .slice aQ zQs.length cQ] 24)
      replace sM := sM.below (ba1 v13 (.cells #[.int .i64 t, .int .i64 c, .slice aQ zQs.length cQ] 24))
      replace sN := sN.below (ba1 v13 (.cells #[.int .i64 t, .int .i64 c, .slice aQ zQs.length cQ] 24))
      replace sW := sW.below (ba1 v13 (.cells #[.int .i64 t, .int .i64 c, .slice aQ zQs.length cQ] 24))
      replace sC := sC.below (ba1 v13 (.cells #[.int .i64 t, .int .i64 c, .slice aQ zQs.length cQ] 24))
      replace sX := sX.below (ba1 v13 (.cells #[.int .i64 t, .int .i64 c, .slice aQ zQs.length cQ] 24))
      replace sY := sY.below (ba1 v13 (.cells #[.int .i64 t, .int .i64 c, .slice aQ zQs.length cQ] 24))
      replace sU := sU.below (ba1 v13 (.cells #[.int .i64 t, .int .i64 c, .slice aQ zQs.length cQ] 24))
      replace sV := sV.below (ba1 v13 (.cells #[.int .i64 t, .int .i64 c, .slice aQ zQs.length cQ] 24))
      replace sR := sR.below (ba1 v13 (.cells #[.int .i64 t, .int .i64 c, .slice aQ zQs.length cQ] 24))
      replace sQ := sQ.below (ba1 v13 (.cells #[.int .i64 t, .int .i64 c, .slice aQ zQs.length cQ] 24))
      replace hB := below_to hB (ba1 v13 (.cells #[.int .i64 t, .int .i64 c, .slice aQ zQs.length cQ] 24))
      have oQ := Own.new v13 24 [.int .i64 t, .int .i64 c, .slice aQ zQs.length cQ]
      generalize hbk : v13.heap.size = kQ at oQ ⊢
      clear hbk
      generalize v13.alloc (.cells #[.int .i64 t, .int .i64 c, .slice aQ zQs.length cQ] 24) = y13 at *
      have LMX : Hid (LeM xs zXs) := by
        show LeM xs zXs
        rw [HX.out.1]; exact grow_le (by omega) (by omega)
      have LXY : Hid (LeM zXs zYs) := by
        show LeM zXs zYs
        rw [HX.out.1, HY.out.1]; exact grow_mono LMC.out
      have LMU : Hid (LeM xs zUs) := by
        show LeM xs zUs
        rw [HU.out.1]; exact fill_le _ _ _ _ _
      have LUV : Hid (LeM zUs zVs) := by
        show LeM zUs zVs
        rw [HU.out.1, HV.out.1]; exact fill_mono hfd.out LMC.out
      have LUR : Hid (LeM zUs zRs) := by
        show LeM zUs zRs
        rw [HU.out.1, HR.out.1]; exact clo_fill _ _ _ _ 599 _
      have LRQ : Hid (LeM zRs zQs) := by
        show LeM zRs zQs
        have a := prod_bd (mchk_ok KC.out).1 (mchk_ok KC.out).2.1 (mchk_ok KC.out).2.2.1 (mchk_ok KC.out).2.2.2.1
        have b := (mchk_ok KC.out).2.2.2.2
        have d := nf_le zCs
        rw [HR.out.1, HQ.out.1]; exact clo_mono hfd.out LMC.out 600 (by omega)
      have hfx : fitB t c xs.length t c zXs.length = true := decide_eq_true ⟨Hm.out, KX.out, rfl, rfl⟩
      obtain ⟨rM, fM⟩ := oM.rules
      obtain ⟨rX, fX⟩ := oX.rules
      have zM := oM.lt
      have zX := oX.lt
      go_wp2_with fail
      refine (fit_any _ _ _ _ _ _ xs zXs _ sM sX).mono ?_
      rintro e v14 ⟨rfl, hq⟩
      clear rM fM zM rX fX zX
      replace oM := oM.below hq
      replace oN := oN.below hq
      replace oP := oP.below hq
      replace oC := oC.below hq
      replace oX := oX.below hq
      replace oY := oY.below hq
      replace oU := oU.below hq
      replace oV := oV.below hq
      replace oR := oR.below hq
      replace oQ := oQ.below hq
      replace sM := sM.below hq
      replace sN := sN.below hq
      replace sW := sW.below hq
      replace sC := sC.below hq
      replace sX := sX.below hq
      replace sY := sY.below hq
      replace sU := sU.below hq
      replace sV := sV.below hq
      replace sR := sR.below hq
      replace sQ := sQ.below hq
      replace hB := below_to hB hq
      clear hq
      rw [hfx]
      clear hfx
      have hfx : fitB t c xs.length t c zYs.length = true := decide_eq_true ⟨Hm.out, KY.out, rfl, rfl⟩
      obtain ⟨rM, fM⟩ := oM.rules
      obtain ⟨rY, fY⟩ := oY.rules
      have zM := oM.lt
      have zY := oY.lt
      go_wp2_with fail
      refine (fit_any _ _ _ _ _ _ xs zYs _ sM sY).mono ?_
      rintro e v15 ⟨rfl, hq⟩
      clear rM fM zM rY fY zY
      replace oM := oM.below hq
      replace oN := oN.below hq
      replace oP := oP.below hq
      replace oC := oC.below hq
      replace oX := oX.below hq
      replace oY := oY.below hq
      replace oU := oU.below hq
      replace oV := oV.below hq
      replace oR := oR.below hq
      replace oQ := oQ.below hq
      replace sM := sM.below hq
      replace sN := sN.below hq
      replace sW := sW.below hq
      replace sC := sC.below hq
      replace sX := sX.below hq
      replace sY := sY.below hq
      replace sU := sU.below hq
      replace sV := sV.below hq
      replace sR := sR.below hq
      replace sQ := sQ.below hq
      replace hB := below_to hB hq
      clear hq
      rw [hfx]
      clear hfx
      have hfx : fitB t c xs.length t c zUs.length = true := decide_eq_true ⟨Hm.out, KU.out, rfl, rfl⟩
      obtain ⟨rM, fM⟩ := oM.rules
      obtain ⟨rU, fU⟩ := oU.rules
      have zM := oM.lt
      have zU := oU.lt
      go_wp2_with fail
      refine (fit_any _ _ _ _ _ _ xs zUs _ sM sU).mono ?_
      rintro e v16 ⟨rfl, hq⟩
      clear rM fM zM rU fU zU
      replace oM := oM.below hq
      replace oN := oN.below hq
      replace oP := oP.below hq
      replace oC := oC.below hq
      replace oX := oX.below hq
      replace oY := oY.below hq
      replace oU := oU.below hq
      replace oV := oV.below hq
      replace oR := oR.below hq
      replace oQ := oQ.below hq
      replace sM := sM.below hq
      replace sN := sN.below hq
      replace sW := sW.below hq
      replace sC := sC.below hq
      replace sX := sX.below hq
      replace sY := sY.below hq
      replace sU := sU.below hq
      replace sV := sV.below hq
      replace sR := sR.below hq
      replace sQ := sQ.below hq
      replace hB := below_to hB hq
      clear hq
      rw [hfx]
      clear hfx
      have hfx : fitB t c xs.length t c zVs.length = true := decide_eq_true ⟨Hm.out, KV.out, rfl, rfl⟩
      obtain ⟨rM, fM⟩ := oM.rules
      obtain ⟨rV, fV⟩ := oV.rules
      have zM := oM.lt
      have zV := oV.lt
      go_wp2_with fail
      refine (fit_any _ _ _ _ _ _ xs zVs _ sM sV).mono ?_
      rintro e v17 ⟨rfl, hq⟩
      clear rM fM zM rV fV zV
      replace oM := oM.below hq
      replace oN := oN.below hq
      replace oP := oP.below hq
      replace oC := oC.below hq
      replace oX := oX.below hq
      replace oY := oY.below hq
      replace oU := oU.below hq
      replace oV := oV.below hq
      replace oR := oR.below hq
      replace oQ := oQ.below hq
      replace sM := sM.below hq
      replace sN := sN.below hq
      replace sW := sW.below hq
      replace sC := sC.below hq
      replace sX := sX.below hq
      replace sY := sY.below hq
      replace sU := sU.below hq
      replace sV := sV.below hq
      replace sR := sR.below hq
      replace sQ := sQ.below hq
      replace hB := below_to hB hq
      clear hq
      rw [hfx]
      clear hfx
      have hfx : fitB t c xs.length t c zRs.length = true := decide_eq_true ⟨Hm.out, KR.out, rfl, rfl⟩
      obtain ⟨rM, fM⟩ := oM.rules
      obtain ⟨rR, fR⟩ := oR.rules
      have zM := oM.lt
      have zR := oR.lt
      go_wp2_with fail
      refine (fit_any _ _ _ _ _ _ xs zRs _ sM sR).mono ?_
      rintro e v18 ⟨rfl, hq⟩
      clear rM fM zM rR fR zR
      replace oM := oM.below hq
      replace oN := oN.below hq
      replace oP := oP.below hq
      replace oC := oC.below hq
      replace oX := oX.below hq
      replace oY := oY.below hq
      replace oU := oU.below hq
      replace oV := oV.below hq
      replace oR := oR.below hq
      replace oQ := oQ.below hq
      replace sM := sM.below hq
      replace sN := sN.below hq
      replace sW := sW.below hq
      replace sC := sC.below hq
      replace sX := sX.below hq
      replace sY := sY.below hq
      replace sU := sU.below hq
      replace sV := sV.below hq
      replace sR := sR.below hq
      replace sQ := sQ.below hq
      replace hB := below_to hB hq
      clear hq
      rw [hfx]
      clear hfx
      have hfx : fitB t c xs.length t c zQs.length = true := decide_eq_true ⟨Hm.out, KQ.out, rfl, rfl⟩
      obtain ⟨rM, fM⟩ := oM.rules
      obtain ⟨rQ, fQ⟩ := oQ.rules
      have zM := oM.lt
      have zQ := oQ.lt
      go_wp2_with fail
      refine (fit_any _ _ _ _ _ _ xs zQs _ sM sQ).mono ?_
      rintro e v19 ⟨rfl, hq⟩
      clear rM fM zM rQ fQ zQ
      replace oM := oM.below hq
      replace oN := oN.below hq
      replace oP := oP.below hq
      replace oC := oC.below hq
      replace oX := oX.below hq
      replace oY := oY.below hq
      replace oU := oU.below hq
      replace oV := oV.below hq
      replace oR := oR.below hq
      replace oQ := oQ.below hq
      replace sM := sM.below hq
      replace sN := sN.below hq
      replace sW := sW.below hq
      replace sC := sC.below hq
      replace sX := sX.below hq
      replace sY := sY.below hq
      replace sU := sU.below hq
      replace sV := sV.below hq
      replace sR := sR.below hq
      replace sQ := sQ.below hq
      replace hB := below_to hB hq
      clear hq
      rw [hfx]
      clear hfx
      obtain ⟨rM, fM⟩ := oM.rules
      obtain ⟨rX, fX⟩ := oX.rules
      have zM := oM.lt
      have zX := oX.lt
      go_wp2_with fail
      refine (within_any _ _ _ _ _ _ _ _ _ sM sX LMX.out).mono ?_
      rintro e v20 ⟨rfl, hq⟩
      clear rM fM zM rX fX zX
      replace oM := oM.below hq
      replace oN := oN.below hq
      replace oP := oP.below hq
      replace oC := oC.below hq
      replace oX := oX.below hq
      replace oY := oY.below hq
      replace oU := oU.below hq
      replace oV := oV.below hq
      replace oR := oR.below hq
      replace oQ := oQ.below hq
      replace sM := sM.below hq
      replace sN := sN.below hq
      replace sW := sW.below hq
      replace sC := sC.below hq
      replace sX := sX.below hq
      replace sY := sY.below hq
      replace sU := sU.below hq
      replace sV := sV.below hq
      replace sR := sR.below hq
      replace sQ := sQ.below hq
      replace hB := below_to hB hq
      clear hq
      obtain ⟨rX, fX⟩ := oX.rules
      obtain ⟨rY, fY⟩ := oY.rules
      have zX := oX.lt
      have zY := oY.lt
      go_wp2_with fail
      refine (within_any _ _ _ _ _ _ _ _ _ sX sY LXY.out).mono ?_
      rintro e v21 ⟨rfl, hq⟩
      clear rX fX zX rY fY zY
      replace oM := oM.below hq
      replace oN := oN.below hq
      replace oP := oP.below hq
      replace oC := oC.below hq
      replace oX := oX.below hq
      replace oY := oY.below hq
      replace oU := oU.below hq
      replace oV := oV.below hq
      replace oR := oR.below hq
      replace oQ := oQ.below hq
      replace sM := sM.below hq
      replace sN := sN.below hq
      replace sW := sW.below hq
      replace sC := sC.below hq
      replace sX := sX.below hq
      replace sY := sY.below hq
      replace sU := sU.below hq
      replace sV := sV.below hq
      replace sR := sR.below hq
      replace sQ := sQ.below hq
      replace hB := below_to hB hq
      clear hq
      obtain ⟨rM, fM⟩ := oM.rules
      obtain ⟨rU, fU⟩ := oU.rules
      have zM := oM.lt
      have zU := oU.lt
      go_wp2_with fail
      refine (within_any _ _ _ _ _ _ _ _ _ sM sU LMU.out).mono ?_
      rintro e v22 ⟨rfl, hq⟩
      clear rM fM zM rU fU zU
      replace oM := oM.below hq
      replace oN := oN.below hq
      replace oP := oP.below hq
      replace oC := oC.below hq
      replace oX := oX.below hq
      replace oY := oY.below hq
      replace oU := oU.below hq
      replace oV := oV.below hq
      replace oR := oR.below hq
      replace oQ := oQ.below hq
      replace sM := sM.below hq
      replace sN := sN.below hq
      replace sW := sW.below hq
      replace sC := sC.below hq
      replace sX := sX.below hq
      replace sY := sY.below hq
      replace sU := sU.below hq
      replace sV := sV.below hq
      replace sR := sR.below hq
      replace sQ := sQ.below hq
      replace hB := below_to hB hq
      clear hq
      obtain ⟨rU, fU⟩ := oU.rules
      obtain ⟨rV, fV⟩ := oV.rules
      have zU := oU.lt
      have zV := oV.lt
      go_wp2_with fail
      refine (within_any _ _ _ _ _ _ _ _ _ sU sV LUV.out).mono ?_
      rintro e v23 ⟨rfl, hq⟩
      clear rU fU zU rV fV zV
      replace oM := oM.below hq
      replace oN := oN.below hq
      replace oP := oP.below hq
      replace oC := oC.below hq
      replace oX := oX.below hq
      replace oY := oY.below hq
      replace oU := oU.below hq
      replace oV := oV.below hq
      replace oR := oR.below hq
      replace oQ := oQ.below hq
      replace sM := sM.below hq
      replace sN := sN.below hq
      replace sW := sW.below hq
      replace sC := sC.below hq
      replace sX := sX.below hq
      replace sY := sY.below hq
      replace sU := sU.below hq
      replace sV := sV.below hq
      replace sR := sR.below hq
      replace sQ := sQ.below hq
      replace hB := below_to hB hq
      clear hq
      obtain ⟨rU, fU⟩ := oU.rules
      obtain ⟨rR, fR⟩ := oR.rules
      have zU := oU.lt
      have zR := oR.lt
      go_wp2_with fail
      refine (within_any _ _ _ _ _ _ _ _ _ sU sR LUR.out).mono ?_
      rintro e v24 ⟨rfl, hq⟩
      clear rU fU zU rR fR zR
      replace oM := oM.below hq
      replace oN := oN.below hq
      replace oP := oP.below hq
      replace oC := oC.below hq
      replace oX := oX.below hq
      replace oY := oY.below hq
      replace oU := oU.below hq
      replace oV := oV.below hq
      replace oR := oR.below hq
      replace oQ := oQ.below hq
      replace sM := sM.below hq
      replace sN := sN.below hq
      replace sW := sW.below hq
      replace sC := sC.below hq
      replace sX := sX.below hq
      replace sY := sY.below hq
      replace sU := sU.below hq
      replace sV := sV.below hq
      replace sR := sR.below hq
      replace sQ := sQ.below hq
      replace hB := below_to hB hq
      clear hq
      obtain ⟨rR, fR⟩ := oR.rules
      obtain ⟨rQ, fQ⟩ := oQ.rules
      have zR := oR.lt
      have zQ := oQ.lt
      go_wp2_with fail
      refine (within_any _ _ _ _ _ _ _ _ _ sR sQ LRQ.out).mono ?_
      rintro e v25 ⟨rfl, hq⟩
      clear rR fR zR rQ fQ zQ
      replace oM := oM.below hq
      replace oN := oN.below hq
      replace oP := oP.below hq
      replace oC := oC.below hq
      replace oX := oX.below hq
      replace oY := oY.below hq
      replace oU := oU.below hq
      replace oV := oV.below hq
      replace oR := oR.below hq
      replace oQ := oQ.below hq
      replace sM := sM.below hq
      replace sN := sN.below hq
      replace sW := sW.below hq
      replace sC := sC.below hq
      replace sX := sX.below hq
      replace sY := sY.below hq
      replace sU := sU.below hq
      replace sV := sV.below hq
      replace sR := sR.below hq
      replace sQ := sQ.below hq
      replace hB := below_to hB hq
      clear hq
      obtain ⟨rM, fM⟩ := oM.rules
      have zM := oM.lt
      go_wp2_with fail
      refine (ok_drop _ _ _ _ xs ws xs.length _ sM sW (Lib.hid rfl)).mono ?_
      rintro e v26 ⟨uD, rfl, ⟨zD, sD, HD⟩, _, hq⟩
      clear rM fM zM
      replace oM := oM.below hq
      replace oN := oN.below hq
      replace oP := oP.below hq
      replace oC := oC.below hq
      replace oX := oX.below hq
      replace oY := oY.below hq
      replace oU := oU.below hq
      replace oV := oV.below hq
      replace oR := oR.below hq
      replace oQ := oQ.below hq
      replace sM := sM.below hq
      replace sN := sN.below hq
      replace sW := sW.below hq
      replace sC := sC.below hq
      replace sX := sX.below hq
      replace sY := sY.below hq
      replace sU := sU.below hq
      replace sV := sV.below hq
      replace sR := sR.below hq
      replace sQ := sQ.below hq
      replace hB := below_to hB hq
      clear hq
      have sD' := sD
      obtain ⟨aD, cD, huD, _, _, _⟩ := sD'.open
      subst huD
      clear sD'
      have HCl : Hid (zCs.length = xs.length) := LMC.out.1.symm
      obtain ⟨rC, fC⟩ := oC.rules
      have zC := oC.lt
      go_wp2_with fail
      refine (ok_drop _ _ _ _ zCs ws xs.length _ sC sW HCl).mono ?_
      rintro e v27 ⟨uE, rfl, ⟨zE, sE, HE⟩, _, hq⟩
      clear rC fC zC
      replace oM := oM.below hq
      replace oN := oN.below hq
      replace oP := oP.below hq
      replace oC := oC.below hq
      replace oX := oX.below hq
      replace oY := oY.below hq
      replace oU := oU.below hq
      replace oV := oV.below hq
      replace oR := oR.below hq
      replace oQ := oQ.below hq
      replace sM := sM.below hq
      replace sN := sN.below hq
      replace sW := sW.below hq
      replace sC := sC.below hq
      replace sX := sX.below hq
      replace sY := sY.below hq
      replace sU := sU.below hq
      replace sV := sV.below hq
      replace sR := sR.below hq
      replace sQ := sQ.below hq
      replace sD := sD.below hq
      replace hB := below_to hB hq
      clear hq
      have sE' := sE
      obtain ⟨aE, cE, huE, _, _, _⟩ := sE'.open
      subst huE
      clear sE'
      obtain ⟨d1, d2, d3⟩ := drop_cmp HD.out HE.out rfl LMC.out
      have D3 := Lib.hid d3
      clear d3
      have b1 : (derr t c xs.length ws != derr t c xs.length ws) = false := by simp
      have b2 : (((zD.length : Nat) : Int) != ((zE.length : Nat) : Int)) = false := by simp [d1]
      have d4 : zD.length ≤ zE.length := by omega
      clear d1
      obtain ⟨_, _, e1, _, _, FD⟩ := sD.open
      cases e1
      obtain ⟨_, _, e1, _, _, FE⟩ := sE.open
      cases e1
      obtain ⟨_, _, e1, _, _, FW⟩ := sW.open
      cases e1
      clear hs hs' hsw HD HE Hm Hm' Hp hfd HL HCl oM oN oP oC oX oY oU oV oR oQ sM sN sW sC sX sY sU sV sR sQ sD sE HC KC HX KX HY KY HU KU HV KV HR KR HQ KQ LMC LNC LMX LXY LMU LUV LUR LRQ
      have b3 : decide (ws.length < zD.length) = false := decide_eq_false (by omega)
      go_wp2
      go_loopw [34] (fun i wr => ∃ k m : Nat, k ≤ zD.length ∧ i = .int .i64 k ∧ wr = v27.drewN m) (fun i _ => zD.length - (intOf i).toNat)
      case atStart => exact ⟨0, 0, Nat.zero_le _, rfl, rfl⟩
      case round =>
        obtain ⟨k, m, hk, rfl, rfl⟩ := hrel
        by_cases hlt : k < zD.length
        · obtain ⟨b, off, rfl, hc⟩ := FD.out k hlt
          obtain ⟨b', off', rfl, hc'⟩ := FE.out k (by omega)
          obtain ⟨b'', off'', rfl, hc''⟩ := FW.out k (by omega)
          obtain ⟨k1, k2, k3⟩ := D3.out k hlt (by omega) (by omega)
          have hlt' : k < zE.length := by omega
          have hlt'' : k < ws.length := by omega
          clear FD FE FW D3
          go_wp2
          go_quiet (fail)
          go_wp2
          go_roundw
          case rel =>
            refine ⟨k + 1, m + nq, by omega, ?_, ?_⟩
            · go_num
            · simp
          case measure => simp [intOf]; omega
        · go_wp2
          go_ret
          exact ⟨rfl, bd hB _⟩

end Go.Proofs.Ytpkggglifahioaa
