/- What is proved here: contracts of functions and plain facts, several texts in one; each one says ahead what it proves, and its conditions. -/
import Derived.Test.YtpjhiojdnebgoaaC45
import Derived.Test.YtpjhiojdnebgoaaC46
import Derived.Test.YtpjhiojdnebgoaaC11
import Derived.Test.YtpjhiojdnebgoaaC21
import Derived.Deep.DeepCutAuto
/- What is proved here: the law WeightTwice returns true. Condition: a slice of visibilities. -/
namespace Go.Proofs.Ytpjhiojdnebgoaa
open Go.RowKit

theorem SV.take {w : World} {ad : Option Addr} {cap : Nat} {l : List Vs} (h : SV w (.slice ad l.length cap) l) {k : Nat} (hk : k ≤ l.length) : SV w (.slice ad k cap) (l.take k) := by
  obtain ⟨ad', cap', e, h1, h2, h3⟩ := h
  cases e
  have e1 : (l.take k).length = k := by rw [List.length_take]; omega
  unfold SV
  rw [e1]
  refine ⟨_, _, rfl, by omega, by omega, fun i x hx => h3 i x ?_⟩
  have : vcs l = vcs (l.take k) ++ vcs (l.drop k) := by rw [← vcs_append, List.take_append_drop]
  rw [this, List.getElem?_append_left, hx]
  rcases Nat.lt_or_ge i (vcs (l.take k)).length with h4 | h4
  · exact h4
  · rw [List.getElem?_eq_none h4] at hx; cases hx
theorem SV.drop {w : World} {b off cap : Nat} {l : List Vs} (h : SV w (.slice (some ⟨b, off, none⟩) l.length cap) l) {k : Nat} (hk : k ≤ l.length) : SV w (.slice (some ⟨b, off + k * 6, none⟩) (l.length - k) (cap - k)) (l.drop k) := by
  obtain ⟨ad', cap', e, h1, h2, h3⟩ := h
  cases e
  have e1 : (l.drop k).length = l.length - k := List.length_drop
  unfold SV
  rw [e1]
  refine ⟨_, _, rfl, by omega, by omega, fun i x hx => ⟨b, off + k * 6, rfl, ?_⟩⟩
  have e2 : vcs l = vcs (l.take k) ++ vcs (l.drop k) := by rw [← vcs_append, List.take_append_drop]
  have e3 : (vcs (l.take k)).length = k * 6 := by rw [vcs_len, List.length_take, Nat.min_eq_left hk]
  obtain ⟨b', off', e, hc⟩ := h3 (k * 6 + i) x (by rw [e2, List.getElem?_append_right (by omega), e3, Nat.add_sub_cancel_left, hx])
  cases e
  rw [Nat.add_assoc]; exact hc
theorem SV.addr {w : World} {ad : Option Addr} {cap : Nat} {l : List Vs} (h : SV w (.slice ad l.length cap) l) (hl : 0 < l.length) : ∃ b off, ad = some ⟨b, off, none⟩ := by
  obtain ⟨_, _, e, _, _, H⟩ := h.open
  cases e
  obtain ⟨b, off, e, _⟩ := H.out 0 hl
  exact ⟨b, off, e⟩
set_option maxRecDepth 100000 in
set_option maxHeartbeats 16000000 in
theorem weightTwice_any (l : List Vs) (n : Int) (v : Value) (w : World) (hs : SV w v l) :
    Calls Try.prog 9 #[v, .int .i64 n] w fun e w' => e = .returned (.bool true) ∧ Below w.heap.size w w' := by
  obtain ⟨ad, cap, rfl, h1, h2, _⟩ := hs.open
  go_enter Try.func9, Try.ntmps9
  go_wp2_with fail
  refine (alive22_any _).mono ?_
  rintro e y1 ⟨rfl, hB⟩
  have S0 := Lib.hid (hs.below hB)
  clear hs
  go_wp2_with fail
  refine (fit22_any l _ _ S0.out).mono ?_
  rintro e y2 ⟨rfl, hq⟩
  replace S0 := Lib.hid (S0.out.below hq)
  replace hB := below_to hB hq
  clear hq
  by_cases hf : (decide (l.length ≤ 250) && decide (vlist l = 0)) = true
  case neg =>
    rw [Bool.not_eq_true] at hf
    rw [hf]
    go_wp2
    go_ret
    exact ⟨rfl, hB⟩
  have hv : vlist l = 0 := by simp only [Bool.and_eq_true, decide_eq_true_eq] at hf; exact hf.2
  rw [hf]
  have HV := Lib.hid (vlist_0 hv)
  clear hf hv
  by_cases g1 : n < 1
  · have q1 : decide (n < 1) = true := by simpa using g1
    go_wp2
    go_ret
    exact ⟨rfl, hB⟩
  have q1 : decide (n < 1) = false := by simpa using g1
  by_cases g2 : (l.length : Int) ≤ n
  · have q2 : decide (n ≥ (l.length : Int)) = true := by simpa using g2
    go_wp2
    go_ret
    exact ⟨rfl, hB⟩
  have q2 : decide (n ≥ (l.length : Int)) = false := by simp; omega
  obtain ⟨k, rfl⟩ := Int.eq_ofNat_of_zero_le (show 0 ≤ n by omega)
  have hk : k < l.length := by omega
  have hk0 : 0 < k := by omega
  obtain ⟨b, off, rfl⟩ := S0.out.addr (by omega)
  have hkc : k ≤ cap := by omega
  have ST := Lib.hid (S0.out.take (show k ≤ l.length by omega))
  have SD := Lib.hid (S0.out.drop (show k ≤ l.length by omega))
  go_wp2_with fail
  refine (vMean_any (l.take k) _ _ ST.out).mono ?_
  rintro e y3 ⟨rfl, hq⟩
  replace hB := below_to hB hq
  replace S0 := Lib.hid (S0.out.below hq)
  replace ST := Lib.hid (ST.out.below hq)
  replace SD := Lib.hid (SD.out.below hq)
  clear hq
  generalize hra : vMean (l.take k) = ra at *
  have RA := Lib.hid hra
  clear hra
  unfold VR.res
  have oA := Own.new y3 60 [.int .i64 ra.i, .int .i64 ra.j, .int .i64 ra.re, .int .i64 ra.im, .int .i64 ra.den, .int .i64 ra.n]
  have hq := ba1 y3 (.cells #[.int .i64 ra.i, .int .i64 ra.j, .int .i64 ra.re, .int .i64 ra.im, .int .i64 ra.den, .int .i64 ra.n] 60)
  go_upto_region 5 with fail
  replace hB := below_to hB hq
  replace S0 := Lib.hid (S0.out.below hq)
  replace ST := Lib.hid (ST.out.below hq)
  replace SD := Lib.hid (SD.out.below hq)
  clear hq
  obtain ⟨bA, hA⟩ : ∃ B, B = y3.heap.size := ⟨_, rfl⟩
  rw [← hA] at oA ⊢
  clear hA
  generalize y3.alloc (.cells #[.int .i64 ra.i, .int .i64 ra.j, .int .i64 ra.re, .int .i64 ra.im, .int .i64 ra.den, .int .i64 ra.n] 60) = y4 at *
  go_wp2_with fail
  refine (vMean_any (l.drop k) _ _ SD.out).mono ?_
  rintro e y5 ⟨rfl, hq⟩
  replace hB := below_to hB hq
  replace S0 := Lib.hid (S0.out.below hq)
  replace SD := Lib.hid (SD.out.below hq)
  replace oA := oA.below hq
  clear hq
  generalize hrb : vMean (l.drop k) = rb at *
  have RB := Lib.hid hrb
  clear hrb
  unfold VR.res
  have oB := Own.new y5 60 [.int .i64 rb.i, .int .i64 rb.j, .int .i64 rb.re, .int .i64 rb.im, .int .i64 rb.den, .int .i64 rb.n]
  have hq := ba1 y5 (.cells #[.int .i64 rb.i, .int .i64 rb.j, .int .i64 rb.re, .int .i64 rb.im, .int .i64 rb.den, .int .i64 rb.n] 60)
  go_upto_region 6 with fail
  replace hB := below_to hB hq
  replace S0 := Lib.hid (S0.out.below hq)
  replace oA := oA.below hq
  clear hq
  obtain ⟨bB, hB⟩ : ∃ B, B = y5.heap.size := ⟨_, rfl⟩
  rw [← hB] at oB ⊢
  clear hB
  generalize y5.alloc (.cells #[.int .i64 rb.i, .int .i64 rb.j, .int .i64 rb.re, .int .i64 rb.im, .int .i64 rb.den, .int .i64 rb.n] 60) = y6 at *
  go_wp2_with fail
  refine (vMean_any l _ _ S0.out).mono ?_
  rintro e y7 ⟨rfl, hq⟩
  replace hB := below_to hB hq
  replace S0 := Lib.hid (S0.out.below hq)
  replace oA := oA.below hq
  replace oB := oB.below hq
  clear hq
  generalize hrm : vMean l = rm at *
  have RM := Lib.hid hrm
  clear hrm
  unfold VR.res
  have oM := Own.new y7 60 [.int .i64 rm.i, .int .i64 rm.j, .int .i64 rm.re, .int .i64 rm.im, .int .i64 rm.den, .int .i64 rm.n]
  have hq := ba1 y7 (.cells #[.int .i64 rm.i, .int .i64 rm.j, .int .i64 rm.re, .int .i64 rm.im, .int .i64 rm.den, .int .i64 rm.n] 60)
  go_upto_region 7 with fail
  replace hB := below_to hB hq
  replace S0 := Lib.hid (S0.out.below hq)
  replace oA := oA.below hq
  replace oB := oB.below hq
  clear hq
  obtain ⟨bM, hM⟩ : ∃ B, B = y7.heap.size := ⟨_, rfl⟩
  rw [← hM] at oM ⊢
  clear hM
  generalize y7.alloc (.cells #[.int .i64 rm.i, .int .i64 rm.j, .int .i64 rm.re, .int .i64 rm.im, .int .i64 rm.den, .int .i64 rm.n] 60) = y8 at *
  have CAT := Lib.hid (List.take_append_drop k l)
  have L1 : Hid (0 < (l.take k).length) := by show _ < _; rw [List.length_take]; omega
  have L2 : Hid (0 < (l.drop k).length) := by show _ < _; rw [List.length_drop]; omega
  have VL : Hid (vall (l.take k ++ l.drop k) = true) := by show _ = _; rw [CAT.out]; exact HV.out.2
  have LL : Hid ((l.take k ++ l.drop k).length ≤ 200) := by show _ ≤ _; rw [CAT.out]; exact HV.out.1
  clear S0
  by_cases e1 : ra.e = 18 ∧ rb.e = 0
  · obtain ⟨e1, e2⟩ := e1
    rcases twice_zero VL.out LL.out L1.out L2.out (by rw [RA.out]; exact e1) (by rw [RB.out]; exact e2) with h | h
    · rw [CAT.out, RB.out, RM.out] at h
      subst h
      rw [e1, e2]
      clear RA RB RM oA VL LL CAT HV
      obtain ⟨rB, fB⟩ := oB.rules
      have zB := oB.lt
      obtain ⟨rM, fM⟩ := oM.rules
      have zM := oM.lt
      go_wp2
      go_ret
      exact ⟨by simp, hB⟩
    · rw [CAT.out, RM.out] at h
      have q3 : (rm.e == 0) = false := by simp [h]
      rw [e1, e2, h]
      clear RA RB RM oA VL LL CAT HV
      go_wp2
      go_ret
      exact ⟨rfl, hB⟩
  by_cases f1 : ra.e = 0
  case neg =>
    have q3 : (ra.e != 0) = true := by simpa using f1
    by_cases f2 : ra.e = 18
    · have q4 : (ra.e == 18) = true := by simpa using f2
      have q5 : (rb.e == 0) = false := by simp; exact fun h => e1 ⟨f2, h⟩
      go_wp2
      go_ret
      exact ⟨rfl, hB⟩
    · have q4 : (ra.e == 18) = false := by simpa using f2
      go_wp2
      go_ret
      exact ⟨rfl, hB⟩
  have q3 : (ra.e == 18) = false := by simp [f1]
  have q4 : (ra.e != 0) = false := by simp [f1]
  by_cases f2 : rb.e = 0
  case neg =>
    have q5 : (rb.e != 0) = true := by simpa using f2
    go_wp2
    go_ret
    exact ⟨rfl, hB⟩
  have q5 : (rb.e != 0) = false := by simp [f2]
  by_cases f3 : rm.e = 0
  case neg =>
    have q6 : (rm.e != 0) = true := by simpa using f3
    go_wp2
    go_ret
    exact ⟨rfl, hB⟩
  have q6 : (rm.e != 0) = false := by simp [f3]
  have KEY := Lib.hid (twice_mean VL.out L1.out L2.out (by rw [RA.out]; exact f1) (by rw [RB.out]; exact f2) (by rw [CAT.out, RM.out]; exact f3))
  have F3 := Lib.hid f3
  clear f1 f2 f3 e1 VL LL HV
  obtain ⟨rA, fA⟩ := oA.rules
  have zA := oA.lt
  obtain ⟨rB, fB⟩ := oB.rules
  have zB := oB.lt
  go_wp2_with fail
  have oL := Own.new y8 60 (vcs [ra.vs, rb.vs])
  have hq := ba1 y8 (.cells (vcs [ra.vs, rb.vs]).toArray 60)
  have sL := sv_of_own _ 2 rfl (by decide) oL
  replace hB := below_to hB hq
  replace oM := oM.below hq
  clear hq oL rA fA zA rB fB zB oA oB
  refine (vMean_any [ra.vs, rb.vs] _ _ sL).mono ?_
  rintro e y9 ⟨rfl, hq⟩
  replace hB := below_to hB hq
  replace oM := oM.below hq
  clear hq sL
  rw [CAT.out, RA.out, RB.out, RM.out] at KEY
  generalize vMean [ra.vs, rb.vs] = rn at *
  unfold VR.res
  have oN := Own.new y9 60 [.int .i64 rn.i, .int .i64 rn.j, .int .i64 rn.re, .int .i64 rn.im, .int .i64 rn.den, .int .i64 rn.n]
  have hq := ba1 y9 (.cells #[.int .i64 rn.i, .int .i64 rn.j, .int .i64 rn.re, .int .i64 rn.im, .int .i64 rn.den, .int .i64 rn.n] 60)
  go_upto_region 12 with fail
  replace hB := below_to hB hq
  replace oM := oM.below hq
  clear hq
  obtain ⟨bN, hN⟩ : ∃ B, B = y9.heap.size := ⟨_, rfl⟩
  rw [← hN] at oN ⊢
  clear hN
  generalize y9.alloc (.cells #[.int .i64 rn.i, .int .i64 rn.j, .int .i64 rn.re, .int .i64 rn.im, .int .i64 rn.den, .int .i64 rn.n] 60) = y10 at *
  rcases KEY.out with h | h
  · subst h
    have F := F3.out
    clear RM KEY
    rw [F]
    obtain ⟨rM, fM⟩ := oM.rules
    have zM := oM.lt
    obtain ⟨rN, fN⟩ := oN.rules
    have zN := oN.lt
    go_wp2
    go_ret
    exact ⟨by simp, hB⟩
  · rw [h]
    go_wp2
    go_ret
    exact ⟨rfl, hB⟩
end Go.Proofs.Ytpjhiojdnebgoaa
