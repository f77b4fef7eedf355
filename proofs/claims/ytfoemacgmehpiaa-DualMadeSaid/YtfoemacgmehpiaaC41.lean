/- What is proved here: contracts of functions and plain facts, several texts in one; each one says ahead what it proves, and its conditions. -/
import Derived.Test.YtfoemacgmehpiaaC39
import Derived.Test.YtfoemacgmehpiaaC01
import Derived.Deep.DeepCutAuto
import Derived.Test.YtfoemacgmehpiaaC15
/- What is proved here: the contracts of dual.whole, isCost, isPoint and isWitness. Condition: a system and a slice of fractions that can be read; isPoint: a system that has a row. -/
namespace Go.Proofs.Ytfoemacgmehpiaa
open Go.RowKit

theorem dwhole_any (n : Int) (w : World) : Calls Try.prog 77 #[.int .i64 n] w fun e w' => e = .returned (.agg #[.int .i64 n, .int .i64 1]) ∧ Below w.heap.size w w' := by
  go_enter Try.func77, Try.ntmps77
  go_wp2
  have oR := Own.new w 39 [.int .i64 n, .int .i64 1]
  have hB := ba1 w (.cells #[.int .i64 n, .int .i64 1] 39)
  refine bp_gen' (fun W => Own W _ _ _ ∧ Below w.heap.size w W) ⟨oR, hB⟩ ?_
  rintro wz ⟨oz, bz⟩
  obtain ⟨rz, fz⟩ := oz.rules
  clear oz
  refine bodyPost_ret (v := .agg #[.int .i64 n, .int .i64 1]) (by simp [results, Try.results77, go_sem, rz]) rfl ⟨rfl, ?_⟩
  exact bz
/-- Whether a number is a cost. -/
def costB (c : Int) : Bool := decide (0 ≤ c) && decide (c ≤ 1000)
theorem dcost_any (c : Int) (w : World) : Calls Try.prog 74 #[.int .i64 c] w fun e w' => e = .returned (.bool (costB c)) ∧ w = w' := by
  unfold costB
  by_cases h3 : 0 ≤ c
  · have b1 : decide (0 ≤ c) = true := by simpa using h3
    rw [b1]
    go_enter Try.func74, Try.ntmps74
    go_wp2
    go_ret
    exact ⟨by simp, rfl⟩
  · have b1 : decide (0 ≤ c) = false := by simpa using h3
    rw [b1]
    go_enter Try.func74, Try.ntmps74
    go_wp2
    go_ret
    exact ⟨by simp, rfl⟩
set_option maxRecDepth 100000 in
set_option maxHeartbeats 4000000 in
theorem dpt_any (A : List (List Int)) (x : List (Int × Int)) (va vb vx : Value) (w : World) (hA : SS w va A) (hx : SF w vx x) (ix : FI x) (l1 : 0 < A.length) :
    Calls Try.prog 79 #[.agg #[va, vb], vx] w fun e w' => e = .returned (.bool (pointB (A.getD 0 []).length x)) ∧ Below w.heap.size w w' := by
  have IX := Lib.hid ix
  obtain ⟨ada, capa, rfl, ha1, ha2, _⟩ := hA.open
  obtain ⟨adx, capx, rfl, hx1, hx2, _⟩ := hx.open
  clear ix
  have G0 : Hid ((A.getD 0 []).length = A[0].length) := by show _ = _; rw [getD_get l1]
  go_enter Try.func79, Try.ntmps79
  have oS := Own.new w 25 [.slice ada A.length capa, vb]
  have hy := ba1 w (.cells #[.slice ada A.length capa, vb] 25)
  replace hA := hA.below hy
  have SX := Lib.hid (hx.below hy)
  go_upto_region 1 with fail
  generalize w.alloc (.cells #[.slice ada A.length capa, vb] 25) = y1 at *
  obtain ⟨_, _, e, _, _, H⟩ := hA.open
  cases e
  obtain ⟨b, off, ad0, cap0, rfl, d1, d2, d3, _⟩ := H.out 0 l1
  rw [Nat.add_zero] at d1
  clear H hA hx
  generalize A[0].length = n at *
  obtain ⟨rS, fS⟩ := oS.rules
  have zS := oS.lt
  by_cases hl : x.length = n
  case neg =>
    have HV := Lib.hid ((show pointB (A.getD 0 []).length x = false by rw [G0.out]; exact pointB_len hl))
    have b2 : ((x.length : Int) != (n : Int)) = true := by simp; omega
    clear hl
    go_wp2
    go_ret
    exact ⟨by rw [HV.out]; try rfl, hy⟩
  have b2 : ((x.length : Int) != (n : Int)) = false := by simp; omega
  have HL := Lib.hid hl
  clear hl
  go_wp2
  go_loopw [17] (fun i wr => ∃ k : Nat, k ≤ x.length ∧ i = .int .i64 k ∧ Hid ((x.take k).all ptB = true) ∧ Below y1.heap.size y1 wr) (fun i _ => x.length - (intOf i).toNat)
  case atStart => exact ⟨0, Nat.zero_le _, rfl, rfl, Below.refl _ _⟩
  case round =>
    obtain ⟨k, hk, rfl, hv, hW⟩ := hrel
    rename World => W
    clear rS fS zS d1
    by_cases hlt : k < x.length
    · obtain ⟨_, _, e, _, _, H⟩ := (SX.out.below hW).open
      cases e
      obtain ⟨b', off', rfl, c1, c2⟩ := H.out k hlt
      obtain ⟨i1, i2⟩ := IX.out.get k hlt
      clear H
      have XN := Lib.hid (fun h => pointB_all (n := (A.getD 0 []).length) (all_not (p := ptB) hlt h))
      have XT := Lib.hid (fun h => all_take (p := ptB) hlt hv.out h)
      have K1 := Lib.hid (ptB_chk (p := x[k]))
      have K2 := Lib.hid (ptB_neg (p := x[k]))
      have K3 := Lib.hid (ptB_ok (p := x[k]))
      generalize x[k].1 = n1 at *
      generalize x[k].2 = d1 at *
      go_wp2_with fail
      refine (check_any n1 d1 _ i1 i2).mono ?_
      rintro e y2 ⟨rfl, hq⟩
      have hq0 := hq
      have oF := (Own.new W 39 [.int .i64 n1, .int .i64 d1]).below hq
      replace hW := below_to hW (below_to (ba1 W _) hq)
      clear hq hq0
      obtain ⟨G, hG⟩ : ∃ G, G = W.heap.size := ⟨_, rfl⟩
      rw [← hG] at oF ⊢
      clear hG
      obtain ⟨rF, fF⟩ := oF.rules
      have zF := oF.lt
      by_cases h1 : fchk n1 d1 = 0
      case neg =>
        have HV := Lib.hid (XN.out (K1.out h1))
        have b3 : (fchk n1 d1 != 0) = true := by simpa using h1
        clear h1 XN XT K1 K2 K3
        go_wp2
        go_ret
        exact ⟨by rw [HV.out]; try rfl, below_to hy hW⟩
      have b3 : (fchk n1 d1 != 0) = false := by simp [h1]
      by_cases h2 : n1 < 0
      · have HV := Lib.hid (XN.out (K2.out h2))
        have b4 : decide (n1 < 0) = true := by simpa using h2
        clear h1 XN XT K1 K2 K3
        go_wp2
        go_ret
        exact ⟨by rw [HV.out]; try rfl, below_to hy hW⟩
      have b4 : decide (n1 < 0) = false := by simpa using h2
      have HV := Lib.hid (XT.out (K3.out h1 (by omega)))
      clear h1 XN XT K1 K2 K3
      go_wp2
      go_roundw
      case rel => exact ⟨k + 1, by omega, by go_num, HV, hW⟩
      case measure => simp [intOf]; try omega
    · have HV := Lib.hid ((show pointB (A.getD 0 []).length x = true by rw [G0.out, pointB_ok (all_end hlt hv.out)]; simpa using HL.out))
      go_wp2
      go_ret
      exact ⟨by rw [HV.out]; try rfl, below_to hy hW⟩
set_option maxRecDepth 100000 in
set_option maxHeartbeats 4000000 in
theorem dwitB_any (A : List (List Int)) (x : List (Int × Int)) (va vb vx : Value) (w : World) (hA : SS w va A) (hx : SF w vx x) (ix : FI x) :
    Calls Try.prog 75 #[.agg #[va, vb], vx] w fun e w' => e = .returned (.bool (witB A.length x)) ∧ Below w.heap.size w w' := by
  have IX := Lib.hid ix
  obtain ⟨ada, capa, rfl, ha1, ha2, _⟩ := hA.open
  obtain ⟨adx, capx, rfl, hx1, hx2, _⟩ := hx.open
  clear ix hA
  go_enter Try.func75, Try.ntmps75
  have oS := Own.new w 25 [.slice ada A.length capa, vb]
  have hy := ba1 w (.cells #[.slice ada A.length capa, vb] 25)
  have SX := Lib.hid (hx.below hy)
  go_upto_region 1 with fail
  generalize w.alloc (.cells #[.slice ada A.length capa, vb] 25) = y1 at *
  clear hx
  obtain ⟨rS, fS⟩ := oS.rules
  have zS := oS.lt
  by_cases hl : x.length = A.length
  case neg =>
    have HV := Lib.hid (witB_len hl)
    have b2 : ((x.length : Int) != (A.length : Int)) = true := by simp; omega
    clear hl
    go_wp2
    go_ret
    exact ⟨by rw [HV.out]; try rfl, hy⟩
  have b2 : ((x.length : Int) != (A.length : Int)) = false := by simp; omega
  have HL := Lib.hid hl
  clear hl
  go_wp2
  clear rS fS zS
  go_loopw [15] (fun i wr => ∃ k : Nat, k ≤ x.length ∧ i = .int .i64 k ∧ Hid (fvalid (x.take k) = true) ∧ Below y1.heap.size y1 wr) (fun i _ => x.length - (intOf i).toNat)
  case atStart => exact ⟨0, Nat.zero_le _, rfl, rfl, Below.refl _ _⟩
  case round =>
    obtain ⟨k, hk, rfl, hv, hW⟩ := hrel
    rename World => W
    by_cases hlt : k < x.length
    · obtain ⟨_, _, e, _, _, H⟩ := (SX.out.below hW).open
      cases e
      obtain ⟨b', off', rfl, c1, c2⟩ := H.out k hlt
      obtain ⟨i1, i2⟩ := IX.out.get k hlt
      clear H
      have XT := Lib.hid (fun h => fvalid_take hlt hv.out h)
      have XN := Lib.hid (fun h => witB_bad (m := A.length) (fvalid_not (k := k) hlt h))
      generalize x[k].1 = n1 at *
      generalize x[k].2 = d1 at *
      go_wp2_with fail
      refine (check_any n1 d1 _ i1 i2).mono ?_
      rintro e y2 ⟨rfl, hq⟩
      replace hW := below_to hW (below_to (ba1 W _) hq)
      clear hq
      by_cases h1 : fchk n1 d1 = 0
      · have b3 : (fchk n1 d1 != 0) = false := by simp [h1]
        have HV := Lib.hid (XT.out h1)
        clear h1 XT XN
        go_wp2
        go_roundw
        case rel => exact ⟨k + 1, by omega, by go_num, HV, hW⟩
        case measure => simp [intOf]; try omega
      · have b3 : (fchk n1 d1 != 0) = true := by simpa using h1
        have HV := Lib.hid (XN.out h1)
        clear h1 XT XN
        go_wp2
        go_ret
        exact ⟨by rw [HV.out]; try rfl, below_to hy hW⟩
    · have hv' : fvalid x = true := by
        have := hv.out
        rw [List.take_of_length_le (by omega)] at this
        exact this
      have HV : Hid (witB A.length x = true) := by show _ = _; rw [witB_ok hv']; simpa using HL.out
      clear hv'
      go_wp2
      go_ret
      exact ⟨by rw [HV.out]; try rfl, below_to hy hW⟩
end Go.Proofs.Ytfoemacgmehpiaa

/- What is proved here: the contract of frac.Div. Condition: 64-bit numbers. -/
namespace Go.Proofs.Ytfoemacgmehpiaa
open Go.RowKit

set_option maxRecDepth 100000 in
set_option maxHeartbeats 4000000 in
theorem fdiv_any (an ad bn bd : Int) (w : World) (h1 : i64 an) (h2 : i64 ad) (h3 : i64 bn) (h4 : i64 bd) :
    Calls Try.prog 80 #[.agg #[.int .i64 an, .int .i64 ad], .agg #[.int .i64 bn, .int .i64 bd]] w fun e w' => e = .returned (.tuple #[.agg #[.int .i64 (fdiv an ad bn bd).n, .int .i64 (fdiv an ad bn bd).d], .int .i64 (fdiv an ad bn bd).e]) ∧ Below w.heap.size w w' := by
  by_cases hb : fboth an ad bn bd = 0
  case neg =>
    have HV := Lib.hid (fdiv_8 hb)
    have b1 : (fboth an ad bn bd != 0) = true := by simpa using hb
    clear hb
    go_enter Try.func80, Try.ntmps80
    have oA := (own_first w 39 [.int .i64 an, .int .i64 ad] (.cells #[.int .i64 bn, .int .i64 bd] 39)).alloc (.cells #[.int .i64 0, .int .i64 0] 39)
    have oB := (own_second w 39 [.int .i64 bn, .int .i64 bd] (.cells #[.int .i64 an, .int .i64 ad] 39)).alloc (.cells #[.int .i64 0, .int .i64 0] 39)
    have oR := own_third w 39 [.int .i64 0, .int .i64 0] (.cells #[.int .i64 an, .int .i64 ad] 39) (.cells #[.int .i64 bn, .int .i64 bd] 39)
    have hB := ba3 w (.cells #[.int .i64 an, .int .i64 ad] 39) (.cells #[.int .i64 bn, .int .i64 bd] 39) (.cells #[.int .i64 0, .int .i64 0] 39)
    go_wp2_with fail
    generalize ((w.alloc (.cells #[.int .i64 an, .int .i64 ad] 39)).alloc (.cells #[.int .i64 bn, .int .i64 bd] 39)).alloc (.cells #[.int .i64 0, .int .i64 0] 39) = y0 at *
    obtain ⟨rA, fA⟩ := oA.rules
    have zA := oA.lt
    obtain ⟨rB, fB⟩ := oB.rules
    have zB := oB.lt
    obtain ⟨rR, fR⟩ := oR.rules
    have zR := oR.lt
    refine (frboth_any _ _ _ _ _ h1 h2 h3 h4).mono ?_
    rintro e y1 ⟨rfl, hq⟩
    clear rA fA zA rB fB zB rR fR zR
    replace oA := oA.below hq
    replace oB := oB.below hq
    replace oR := oR.below hq
    replace hB := below_to hB hq
    clear hq
    obtain ⟨rA, fA⟩ := oA.rules
    have zA := oA.lt
    obtain ⟨rB, fB⟩ := oB.rules
    have zB := oB.lt
    obtain ⟨rR, fR⟩ := oR.rules
    have zR := oR.lt
    generalize fboth an ad bn bd = fe at *
    go_wp2
    refine bp_gen' (fun W => Own W (w.heap.size + 1 + 1) 39 [.int .i64 0, .int .i64 0] ∧ Below w.heap.size w W) ⟨(oR.set 0 (.int .i64 0)).set 1 (.int .i64 0), ?_⟩ ?_
    · repeat (refine Below.setCell ?_ (by first | omega | (simp; done) | (simp; omega)) _)
      exact hB
    rintro wz ⟨oz, bz⟩
    obtain ⟨rz, fz⟩ := oz.rules
    clear oz
    refine bodyPost_ret (v := .tuple #[.agg #[.int .i64 0, .int .i64 0], .int .i64 fe]) (by simp [results, Try.results80, go_sem, rz]) rfl ⟨by rw [HV.out], ?_⟩
    repeat (refine Below.setCell ?_ (by first | omega | (simp; done) | (simp; omega)) _)
    exact bz
  obtain ⟨c1, c2⟩ := fboth_ok hb
  obtain ⟨k1, k2, k3, k4, _⟩ := fok_of c1
  obtain ⟨l1, l2, l3, l4, _⟩ := fok_of c2
  have b1 : (fboth an ad bn bd != 0) = false := by simp [hb]
  by_cases hz : bn = 0
  · have HV := Lib.hid (fdiv_0 hb hz)
    have bz : (bn == 0) = true := by simpa using hz
    clear hb c1 c2 hz
    go_enter Try.func80, Try.ntmps80
    have oA := (own_first w 39 [.int .i64 an, .int .i64 ad] (.cells #[.int .i64 bn, .int .i64 bd] 39)).alloc (.cells #[.int .i64 0, .int .i64 0] 39)
    have oB := (own_second w 39 [.int .i64 bn, .int .i64 bd] (.cells #[.int .i64 an, .int .i64 ad] 39)).alloc (.cells #[.int .i64 0, .int .i64 0] 39)
    have oR := own_third w 39 [.int .i64 0, .int .i64 0] (.cells #[.int .i64 an, .int .i64 ad] 39) (.cells #[.int .i64 bn, .int .i64 bd] 39)
    have hB := ba3 w (.cells #[.int .i64 an, .int .i64 ad] 39) (.cells #[.int .i64 bn, .int .i64 bd] 39) (.cells #[.int .i64 0, .int .i64 0] 39)
    go_wp2_with fail
    generalize ((w.alloc (.cells #[.int .i64 an, .int .i64 ad] 39)).alloc (.cells #[.int .i64 bn, .int .i64 bd] 39)).alloc (.cells #[.int .i64 0, .int .i64 0] 39) = y0 at *
    obtain ⟨rA, fA⟩ := oA.rules
    have zA := oA.lt
    obtain ⟨rB, fB⟩ := oB.rules
    have zB := oB.lt
    obtain ⟨rR, fR⟩ := oR.rules
    have zR := oR.lt
    refine (frboth_any _ _ _ _ _ h1 h2 h3 h4).mono ?_
    rintro e y1 ⟨rfl, hq⟩
    clear rA fA zA rB fB zB rR fR zR
    replace oA := oA.below hq
    replace oB := oB.below hq
    replace oR := oR.below hq
    replace hB := below_to hB hq
    clear hq
    obtain ⟨rA, fA⟩ := oA.rules
    have zA := oA.lt
    obtain ⟨rB, fB⟩ := oB.rules
    have zB := oB.lt
    obtain ⟨rR, fR⟩ := oR.rules
    have zR := oR.lt
    go_wp2
    refine bp_gen' (fun W => Own W (w.heap.size + 1 + 1) 39 [.int .i64 0, .int .i64 0] ∧ Below w.heap.size w W) ⟨(oR.set 0 (.int .i64 0)).set 1 (.int .i64 0), ?_⟩ ?_
    · repeat (refine Below.setCell ?_ (by first | omega | (simp; done) | (simp; omega)) _)
      exact hB
    rintro wz ⟨oz, bz⟩
    obtain ⟨rz, fz⟩ := oz.rules
    clear oz
    refine bodyPost_ret (v := .tuple #[.agg #[.int .i64 0, .int .i64 0], .int .i64 18]) (by simp [results, Try.results80, go_sem, rz]) rfl ⟨by rw [HV.out], ?_⟩
    repeat (refine Below.setCell ?_ (by first | omega | (simp; done) | (simp; omega)) _)
    exact bz
  have HV0 := fdiv_1 hb hz
  have bz : (bn == 0) = false := by simpa using hz
  clear hb
  rcases Int.lt_or_gt_of_ne hz with hs | hs
  · have co := fchk_over' c2 hs
    have HV : Hid (fdiv an ad bn bd = fmulV an ad (-bd) (-bn)) := by show _ = _; rw [HV0, fmulV_pack c1 co, div_as_mul']
    clear HV0 hz c1 c2 co
    go_enter Try.func80, Try.ntmps80
    have oA := (own_first w 39 [.int .i64 an, .int .i64 ad] (.cells #[.int .i64 bn, .int .i64 bd] 39)).alloc (.cells #[.int .i64 0, .int .i64 0] 39)
    have oB := (own_second w 39 [.int .i64 bn, .int .i64 bd] (.cells #[.int .i64 an, .int .i64 ad] 39)).alloc (.cells #[.int .i64 0, .int .i64 0] 39)
    have oR := own_third w 39 [.int .i64 0, .int .i64 0] (.cells #[.int .i64 an, .int .i64 ad] 39) (.cells #[.int .i64 bn, .int .i64 bd] 39)
    have hB := ba3 w (.cells #[.int .i64 an, .int .i64 ad] 39) (.cells #[.int .i64 bn, .int .i64 bd] 39) (.cells #[.int .i64 0, .int .i64 0] 39)
    go_wp2_with fail
    generalize ((w.alloc (.cells #[.int .i64 an, .int .i64 ad] 39)).alloc (.cells #[.int .i64 bn, .int .i64 bd] 39)).alloc (.cells #[.int .i64 0, .int .i64 0] 39) = y0 at *
    obtain ⟨rA, fA⟩ := oA.rules
    have zA := oA.lt
    obtain ⟨rB, fB⟩ := oB.rules
    have zB := oB.lt
    obtain ⟨rR, fR⟩ := oR.rules
    have zR := oR.lt
    refine (frboth_any _ _ _ _ _ h1 h2 h3 h4).mono ?_
    rintro e y1 ⟨rfl, hq⟩
    clear rA fA zA rB fB zB rR fR zR
    replace oA := oA.below hq
    replace oB := oB.below hq
    replace oR := oR.below hq
    replace hB := below_to hB hq
    clear hq
    obtain ⟨rA, fA⟩ := oA.rules
    have zA := oA.lt
    obtain ⟨rB, fB⟩ := oB.rules
    have zB := oB.lt
    obtain ⟨rR, fR⟩ := oR.rules
    have zR := oR.lt
    have oO := Own.new y1 39 [.int .i64 0, .int .i64 0]
    go_wp2_with fail
    refine (fproduct_any an ad (-bd) (-bn) _ k3 k4 k1 k2 (by omega) (by omega) (by omega) (by omega)).mono ?_
    rintro e y2 ⟨rfl, hq⟩
    replace hq := below_to (ba1 y1 _) hq
    clear oO
    clear rA fA zA rB fB zB rR fR zR
    replace oA := oA.below hq
    replace oB := oB.below hq
    replace oR := oR.below hq
    replace hB := below_to hB hq
    clear hq
    obtain ⟨rA, fA⟩ := oA.rules
    have zA := oA.lt
    obtain ⟨rB, fB⟩ := oB.rules
    have zB := oB.lt
    obtain ⟨rR, fR⟩ := oR.rules
    have zR := oR.lt
    generalize fmulV an ad (-bd) (-bn) = r at *
    go_wp2
    refine bp_gen' (fun W => Own W (w.heap.size + 1 + 1) 39 [.int .i64 r.n, .int .i64 r.d] ∧ Below w.heap.size w W) ⟨(oR.set 0 (.int .i64 r.n)).set 1 (.int .i64 r.d), ?_⟩ ?_
    · repeat (refine Below.setCell ?_ (by first | omega | (simp; done) | (simp; omega)) _)
      exact hB
    rintro wz ⟨oz, bz⟩
    obtain ⟨rz, fz⟩ := oz.rules
    clear oz
    refine bodyPost_ret (v := .tuple #[.agg #[.int .i64 r.n, .int .i64 r.d], .int .i64 r.e]) (by simp [results, Try.results80, go_sem, rz]) rfl ⟨by rw [HV.out], ?_⟩
    repeat (refine Below.setCell ?_ (by first | omega | (simp; done) | (simp; omega)) _)
    exact bz
  · have co := fchk_over c2 hs
    have HV : Hid (fdiv an ad bn bd = fmulV an ad bd bn) := by show _ = _; rw [HV0, fmulV_pack c1 co, div_as_mul]
    clear HV0 hz c1 c2 co
    go_enter Try.func80, Try.ntmps80
    have oA := (own_first w 39 [.int .i64 an, .int .i64 ad] (.cells #[.int .i64 bn, .int .i64 bd] 39)).alloc (.cells #[.int .i64 0, .int .i64 0] 39)
    have oB := (own_second w 39 [.int .i64 bn, .int .i64 bd] (.cells #[.int .i64 an, .int .i64 ad] 39)).alloc (.cells #[.int .i64 0, .int .i64 0] 39)
    have oR := own_third w 39 [.int .i64 0, .int .i64 0] (.cells #[.int .i64 an, .int .i64 ad] 39) (.cells #[.int .i64 bn, .int .i64 bd] 39)
    have hB := ba3 w (.cells #[.int .i64 an, .int .i64 ad] 39) (.cells #[.int .i64 bn, .int .i64 bd] 39) (.cells #[.int .i64 0, .int .i64 0] 39)
    go_wp2_with fail
    generalize ((w.alloc (.cells #[.int .i64 an, .int .i64 ad] 39)).alloc (.cells #[.int .i64 bn, .int .i64 bd] 39)).alloc (.cells #[.int .i64 0, .int .i64 0] 39) = y0 at *
    obtain ⟨rA, fA⟩ := oA.rules
    have zA := oA.lt
    obtain ⟨rB, fB⟩ := oB.rules
    have zB := oB.lt
    obtain ⟨rR, fR⟩ := oR.rules
    have zR := oR.lt
    refine (frboth_any _ _ _ _ _ h1 h2 h3 h4).mono ?_
    rintro e y1 ⟨rfl, hq⟩
    clear rA fA zA rB fB zB rR fR zR
    replace oA := oA.below hq
    replace oB := oB.below hq
    replace oR := oR.below hq
    replace hB := below_to hB hq
    clear hq
    obtain ⟨rA, fA⟩ := oA.rules
    have zA := oA.lt
    obtain ⟨rB, fB⟩ := oB.rules
    have zB := oB.lt
    obtain ⟨rR, fR⟩ := oR.rules
    have zR := oR.lt
    have oO := Own.new y1 39 [.int .i64 0, .int .i64 0]
    go_wp2_with fail
    refine (fproduct_any an ad bd bn _ k3 k4 k1 k2 (by omega) (by omega) (by omega) (by omega)).mono ?_
    rintro e y2 ⟨rfl, hq⟩
    replace hq := below_to (ba1 y1 _) hq
    clear oO
    clear rA fA zA rB fB zB rR fR zR
    replace oA := oA.below hq
    replace oB := oB.below hq
    replace oR := oR.below hq
    replace hB := below_to hB hq
    clear hq
    obtain ⟨rA, fA⟩ := oA.rules
    have zA := oA.lt
    obtain ⟨rB, fB⟩ := oB.rules
    have zB := oB.lt
    obtain ⟨rR, fR⟩ := oR.rules
    have zR := oR.lt
    generalize fmulV an ad bd bn = r at *
    go_wp2
    refine bp_gen' (fun W => Own W (w.heap.size + 1 + 1) 39 [.int .i64 r.n, .int .i64 r.d] ∧ Below w.heap.size w W) ⟨(oR.set 0 (.int .i64 r.n)).set 1 (.int .i64 r.d), ?_⟩ ?_
    · repeat (refine Below.setCell ?_ (by first | omega | (simp; done) | (simp; omega)) _)
      exact hB
    rintro wz ⟨oz, bz⟩
    obtain ⟨rz, fz⟩ := oz.rules
    clear oz
    refine bodyPost_ret (v := .tuple #[.agg #[.int .i64 r.n, .int .i64 r.d], .int .i64 r.e]) (by simp [results, Try.results80, go_sem, rz]) rfl ⟨by rw [HV.out], ?_⟩
    repeat (refine Below.setCell ?_ (by first | omega | (simp; done) | (simp; omega)) _)
    exact bz
end Go.Proofs.Ytfoemacgmehpiaa
