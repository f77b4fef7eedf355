/- What is proved here: contracts of functions and plain facts, several texts in one; each one says ahead what it proves, and its conditions. -/
import Derived.Test.YthlcmlngmcoknaaC29
import Derived.Test.YthlcmlngmcoknaaC01
import Derived.Deep.DeepCutAuto
import Derived.Test.YthlcmlngmcoknaaC05
/- What is proved here: the contracts of dual.whole, isCost, isPoint and isWitness. Condition: a system and a slice of fractions that can be read; isPoint: a system that has a row. -/
namespace Go.Proofs.Ythlcmlngmcoknaa
open Go.RowKit

theorem dwhole_any (n : Int) (w : World) : Calls Try.prog 140 #[.int .i64 n] w fun e w' => e = .returned (.agg #[.int .i64 n, .int .i64 1]) ∧ Below w.heap.size w w' := by
  go_enter Try.func140, Try.ntmps140
  go_wp2
  have oR := Own.new w 78 [.int .i64 n, .int .i64 1]
  have hB := ba1 w (.cells #[.int .i64 n, .int .i64 1] 78)
  refine bp_gen' (fun W => Own W _ _ _ ∧ Below w.heap.size w W) ⟨oR, hB⟩ ?_
  rintro wz ⟨oz, bz⟩
  obtain ⟨rz, fz⟩ := oz.rules
  clear oz
  refine bodyPost_ret (v := .agg #[.int .i64 n, .int .i64 1]) (by simp [results, Try.results140, go_sem, rz]) rfl ⟨rfl, ?_⟩
  exact bz
/-- Whether a number is a cost. -/
def costB (c : Int) : Bool := decide (0 ≤ c) && decide (c ≤ 1000)
theorem dcost_any (c : Int) (w : World) : Calls Try.prog 137 #[.int .i64 c] w fun e w' => e = .returned (.bool (costB c)) ∧ w = w' := by
  unfold costB
  by_cases h3 : 0 ≤ c
  · have b1 : decide (0 ≤ c) = true := by simpa using h3
    rw [b1]
    go_enter Try.func137, Try.ntmps137
    go_wp2
    go_ret
    exact ⟨by simp, rfl⟩
  · have b1 : decide (0 ≤ c) = false := by simpa using h3
    rw [b1]
    go_enter Try.func137, Try.ntmps137
    go_wp2
    go_ret
    exact ⟨by simp, rfl⟩
set_option maxRecDepth 100000 in
set_option maxHeartbeats 4000000 in
theorem dpt_any (A : List (List Int)) (x : List (Int × Int)) (va vb vx : Value) (w : World) (hA : SS w va A) (hx : SF w vx x) (ix : FI x) (l1 : 0 < A.length) :
    Calls Try.prog 138 #[.agg #[va, vb], vx] w fun e w' => e = .returned (.bool (pointB (A.getD 0 []).length x)) ∧ Below w.heap.size w w' := by
  have IX := Lib.hid ix
  obtain ⟨ada, capa, rfl, ha1, ha2, _⟩ := hA.open
  obtain ⟨adx, capx, rfl, hx1, hx2, _⟩ := hx.open
  clear ix
  have G0 : Hid ((A.getD 0 []).length = A[0].length) := by show _ = _; rw [getD_get l1]
  go_enter Try.func138, Try.ntmps138
  have oS := Own.new w 25 [.slice ada A.length capa, vb]
  have hy := ba1 w (.cells #[.slice ada A.length capa, vb] 25)
  replace hA := hA.below hy
  have SX := Lib.hid (hx.below hy)
  go_upto_region 1 with fail
  generalize w.alloc (.cells #[.slice ada A.length capa, vb] 25) = y1 at *
  obtain ⟨_, _, e, _, _, H⟩ := hA.open
  cases e
  obtain ⟨b, off, ad0, cap0, rfl, d1, d2, d3, _⟩ := H.out 0 l1
  rw [Nat.add_zero] at d1
  clear H hA hx
  generalize A[0].length = n at *
  obtain ⟨rS, fS⟩ := oS.rules
  have zS := oS.lt
  by_cases hl : x.length = n
  case neg =>
    have HV := Lib.hid ((show pointB (A.getD 0 []).length x = false by rw [G0.out]; exact pointB_len hl))
    have b2 : ((x.length : Int) != (n : Int)) = true := by simp; omega
    clear hl
    go_wp2
    go_ret
    exact ⟨by rw [HV.out]; try rfl, hy⟩
  have b2 : ((x.length : Int) != (n : Int)) = false := by simp; omega
  have HL := Lib.hid hl
  clear hl
  go_wp2
  go_loopw [17] (fun i wr => ∃ k : Nat, k ≤ x.length ∧ i = .int .i64 k ∧ Hid ((x.take k).all ptB = true) ∧ Below y1.heap.size y1 wr) (fun i _ => x.length - (intOf i).toNat)
  case atStart => exact ⟨0, Nat.zero_le _, rfl, rfl, Below.refl _ _⟩
  case round =>
    obtain ⟨k, hk, rfl, hv, hW⟩ := hrel
    rename World => W
    clear rS fS zS d1
    by_cases hlt : k < x.length
    · obtain ⟨_, _, e, _, _, H⟩ := (SX.out.below hW).open
      cases e
      obtain ⟨b', off', rfl, c1, c2⟩ := H.out k hlt
      obtain ⟨i1, i2⟩ := IX.out.get k hlt
      clear H
      have XN := Lib.hid (fun h => pointB_all (n := (A.getD 0 []).length) (all_not (p := ptB) hlt h))
      have XT := Lib.hid (fun h => all_take (p := ptB) hlt hv.out h)
      have K1 := Lib.hid (ptB_chk (p := x[k]))
      have K2 := Lib.hid (ptB_neg (p := x[k]))
      have K3 := Lib.hid (ptB_ok (p := x[k]))
      generalize x[k].1 = n1 at *
      generalize x[k].2 = d1 at *
      go_wp2_with fail
      refine (check_any n1 d1 _ i1 i2).mono ?_
      rintro e y2 ⟨rfl, hq⟩
      have hq0 := hq
      have oF := (Own.new W 78 [.int .i64 n1, .int .i64 d1]).below hq
      replace hW := below_to hW (below_to (ba1 W _) hq)
      clear hq hq0
      obtain ⟨G, hG⟩ : ∃ G, G = W.heap.size := ⟨_, rfl⟩
      rw [← hG] at oF ⊢
      clear hG
      obtain ⟨rF, fF⟩ := oF.rules
      have zF := oF.lt
      by_cases h1 : fchk n1 d1 = 0
      case neg =>
        have HV := Lib.hid (XN.out (K1.out h1))
        have b3 : (fchk n1 d1 != 0) = true := by simpa using h1
        clear h1 XN XT K1 K2 K3
        go_wp2
        go_ret
        exact ⟨by rw [HV.out]; try rfl, below_to hy hW⟩
      have b3 : (fchk n1 d1 != 0) = false := by simp [h1]
      by_cases h2 : n1 < 0
      · have HV := Lib.hid (XN.out (K2.out h2))
        have b4 : decide (n1 < 0) = true := by simpa using h2
        clear h1 XN XT K1 K2 K3
        go_wp2
        go_ret
        exact ⟨by rw [HV.out]; try rfl, below_to hy hW⟩
      have b4 : decide (n1 < 0) = false := by simpa using h2
      have HV := Lib.hid (XT.out (K3.out h1 (by omega)))
      clear h1 XN XT K1 K2 K3
      go_wp2
      go_roundw
      case rel => exact ⟨k + 1, by omega, by go_num, HV, hW⟩
      case measure => simp [intOf]; try omega
    · have HV := Lib.hid ((show pointB (A.getD 0 []).length x = true by rw [G0.out, pointB_ok (all_end hlt hv.out)]; simpa using HL.out))
      go_wp2
      go_ret
      exact ⟨by rw [HV.out]; try rfl, below_to hy hW⟩
set_option maxRecDepth 100000 in
set_option maxHeartbeats 4000000 in
theorem dwitB_any (A : List (List Int)) (x : List (Int × Int)) (va vb vx : Value) (w : World) (hA : SS w va A) (hx : SF w vx x) (ix : FI x) :
    Calls Try.prog 142 #[.agg #[va, vb], vx] w fun e w' => e = .returned (.bool (witB A.length x)) ∧ Below w.heap.size w w' := by
  have IX := Lib.hid ix
  obtain ⟨ada, capa, rfl, ha1, ha2, _⟩ := hA.open
  obtain ⟨adx, capx, rfl, hx1, hx2, _⟩ := hx.open
  clear ix hA
  go_enter Try.func142, Try.ntmps142
  have oS := Own.new w 25 [.slice ada A.length capa, vb]
  have hy := ba1 w (.cells #[.slice ada A.length capa, vb] 25)
  have SX := Lib.hid (hx.below hy)
  go_upto_region 1 with fail
  generalize w.alloc (.cells #[.slice ada A.length capa, vb] 25) = y1 at *
  clear hx
  obtain ⟨rS, fS⟩ := oS.rules
  have zS := oS.lt
  by_cases hl : x.length = A.length
  case neg =>
    have HV := Lib.hid (witB_len hl)
    have b2 : ((x.length : Int) != (A.length : Int)) = true := by simp; omega
    clear hl
    go_wp2
    go_ret
    exact ⟨by rw [HV.out]; try rfl, hy⟩
  have b2 : ((x.length : Int) != (A.length : Int)) = false := by simp; omega
  have HL := Lib.hid hl
  clear hl
  go_wp2
  clear rS fS zS
  go_loopw [15] (fun i wr => ∃ k : Nat, k ≤ x.length ∧ i = .int .i64 k ∧ Hid (fvalid (x.take k) = true) ∧ Below y1.heap.size y1 wr) (fun i _ => x.length - (intOf i).toNat)
  case atStart => exact ⟨0, Nat.zero_le _, rfl, rfl, Below.refl _ _⟩
  case round =>
    obtain ⟨k, hk, rfl, hv, hW⟩ := hrel
    rename World => W
    by_cases hlt : k < x.length
    · obtain ⟨_, _, e, _, _, H⟩ := (SX.out.below hW).open
      cases e
      obtain ⟨b', off', rfl, c1, c2⟩ := H.out k hlt
      obtain ⟨i1, i2⟩ := IX.out.get k hlt
      clear H
      have XT := Lib.hid (fun h => fvalid_take hlt hv.out h)
      have XN := Lib.hid (fun h => witB_bad (m := A.length) (fvalid_not (k := k) hlt h))
      generalize x[k].1 = n1 at *
      generalize x[k].2 = d1 at *
      go_wp2_with fail
      refine (check_any n1 d1 _ i1 i2).mono ?_
      rintro e y2 ⟨rfl, hq⟩
      replace hW := below_to hW (below_to (ba1 W _) hq)
      clear hq
      by_cases h1 : fchk n1 d1 = 0
      · have b3 : (fchk n1 d1 != 0) = false := by simp [h1]
        have HV := Lib.hid (XT.out h1)
        clear h1 XT XN
        go_wp2
        go_roundw
        case rel => exact ⟨k + 1, by omega, by go_num, HV, hW⟩
        case measure => simp [intOf]; try omega
      · have b3 : (fchk n1 d1 != 0) = true := by simpa using h1
        have HV := Lib.hid (XN.out h1)
        clear h1 XT XN
        go_wp2
        go_ret
        exact ⟨by rw [HV.out]; try rfl, below_to hy hW⟩
    · have hv' : fvalid x = true := by
        have := hv.out
        rw [List.take_of_length_le (by omega)] at this
        exact this
      have HV : Hid (witB A.length x = true) := by show _ = _; rw [witB_ok hv']; simpa using HL.out
      clear hv'
      go_wp2
      go_ret
      exact ⟨by rw [HV.out]; try rfl, below_to hy hW⟩
end Go.Proofs.Ythlcmlngmcoknaa

/- What is proved here: the contracts of frac.product and frac.Mul. Condition: 64-bit numbers; product is asked of numbers within 10^18. -/
namespace Go.Proofs.Ythlcmlngmcoknaa
open Go.RowKit

theorem high_no {X Y : Nat} {neg : Bool} (h : ¬ X / 18446744073709551616 = 0 ∨ ¬ Y / 18446744073709551616 = 0) : bld neg (X : Int) (Y : Int) = ⟨0, 0, 16⟩ := bld_no (by omega)
set_option maxRecDepth 100000 in
set_option maxHeartbeats 8000000 in
theorem fproduct_any (an ad bn bd : Int) (w : World) (a1 : -1000000000000000000 ≤ an) (a2 : an ≤ 1000000000000000000) (a3 : 1 ≤ ad) (a4 : ad ≤ 1000000000000000000) (b1 : -1000000000000000000 ≤ bn) (b2 : bn ≤ 1000000000000000000) (b3 : 1 ≤ bd) (b4 : bd ≤ 1000000000000000000) :
    Calls Try.prog 156 #[.agg #[.int .i64 an, .int .i64 ad], .agg #[.int .i64 bn, .int .i64 bd]] w fun e w' => e = .returned (.tuple #[.agg #[.int .i64 (fmulV an ad bn bd).n, .int .i64 (fmulV an ad bn bd).d], .int .i64 (fmulV an ad bn bd).e]) ∧ Below w.heap.size w w' := by
  obtain ⟨A, rfl⟩ := Int.eq_ofNat_of_zero_le (show 0 ≤ ad by omega)
  obtain ⟨B, rfl⟩ := Int.eq_ofNat_of_zero_le (show 0 ≤ bd by omega)
  have na : an.natAbs ≤ 9223372036854775808 := by omega
  have nb : bn.natAbs ≤ 9223372036854775808 := by omega
  have e1 := wrap_quo an.natAbs (Nat.gcd an.natAbs B) na
  have e2 := wrap_quo bn.natAbs (Nat.gcd bn.natAbs A) nb
  have e3 := wrap_quo A (Nat.gcd bn.natAbs A) (by omega)
  have e4 := wrap_quo B (Nat.gcd an.natAbs B) (by omega)
  have d1 := Nat.div_le_self an.natAbs (Nat.gcd an.natAbs B)
  have d2 := Nat.div_le_self bn.natAbs (Nat.gcd bn.natAbs A)
  have d3 := Nat.div_le_self A (Nat.gcd bn.natAbs A)
  have d4 := Nat.div_le_self B (Nat.gcd an.natAbs B)
  have q1 : (an.natAbs : Int) / ((Nat.gcd an.natAbs B : Nat) : Int) = ((an.natAbs / Nat.gcd an.natAbs B : Nat) : Int) := (Int.natCast_ediv _ _).symm
  have q2 : (bn.natAbs : Int) / ((Nat.gcd bn.natAbs A : Nat) : Int) = ((bn.natAbs / Nat.gcd bn.natAbs A : Nat) : Int) := (Int.natCast_ediv _ _).symm
  have q3 : (A : Int) / ((Nat.gcd bn.natAbs A : Nat) : Int) = ((A / Nat.gcd bn.natAbs A : Nat) : Int) := (Int.natCast_ediv _ _).symm
  have q4 : (B : Int) / ((Nat.gcd an.natAbs B : Nat) : Int) = ((B / Nat.gcd an.natAbs B : Nat) : Int) := (Int.natCast_ediv _ _).symm
  have gp : 0 < Nat.gcd an.natAbs B := Nat.gcd_pos_of_pos_right _ (by omega)
  have hp : 0 < Nat.gcd bn.natAbs A := Nat.gcd_pos_of_pos_right _ (by omega)
  have HV : Hid (fmulV an A bn B = bld (decide (an < 0) != decide (bn < 0)) ((an.natAbs / Nat.gcd an.natAbs B * (bn.natAbs / Nat.gcd bn.natAbs A) : Nat) : Int) ((A / Nat.gcd bn.natAbs A * (B / Nat.gcd an.natAbs B) : Nat) : Int)) := rfl
  generalize hgg : Nat.gcd an.natAbs B = g at *
  generalize hhh : Nat.gcd bn.natAbs A = h at *
  have HG := Lib.hid hgg
  have HH := Lib.hid hhh
  have g0 : ((g : Int) == 0) = false := by simp; omega
  have g1 : ¬ ((g : Int) = 0) := by omega
  have h0 : ((h : Int) == 0) = false := by simp; omega
  have h1' : ¬ ((h : Int) = 0) := by omega
  clear hgg hhh
  generalize an.natAbs / g = u1 at *
  generalize bn.natAbs / h = u2 at *
  generalize A / h = u3 at *
  generalize B / g = u4 at *
  go_enter Try.func156, Try.ntmps156
  have oA := (own_first w 78 [.int .i64 an, .int .i64 A] (.cells #[.int .i64 bn, .int .i64 B] 78)).alloc (.cells #[.int .i64 0, .int .i64 0] 78)
  have oB := (own_second w 78 [.int .i64 bn, .int .i64 B] (.cells #[.int .i64 an, .int .i64 A] 78)).alloc (.cells #[.int .i64 0, .int .i64 0] 78)
  have oR := own_third w 78 [.int .i64 0, .int .i64 0] (.cells #[.int .i64 an, .int .i64 A] 78) (.cells #[.int .i64 bn, .int .i64 B] 78)
  have hB := ba3 w (.cells #[.int .i64 an, .int .i64 A] 78) (.cells #[.int .i64 bn, .int .i64 B] 78) (.cells #[.int .i64 0, .int .i64 0] 78)
  go_wp2
  generalize ((w.alloc (.cells #[.int .i64 an, .int .i64 A] 78)).alloc (.cells #[.int .i64 bn, .int .i64 B] 78)).alloc (.cells #[.int .i64 0, .int .i64 0] 78) = y0 at *
  obtain ⟨rA, fA⟩ := oA.rules
  have zA := oA.lt
  obtain ⟨rB, fB⟩ := oB.rules
  have zB := oB.lt
  obtain ⟨rR, fR⟩ := oR.rules
  have zR := oR.lt
  go_quiet ((go_at_call 153; exact Calls.quiet_same (size_any _ _ (by omega) (by omega))))
  rw [Int.natAbs_natCast, Int.natAbs_natCast]
  clear rA fA zA rB fB zB rR fR zR
  replace oA := oA.drewN nq
  replace oB := oB.drewN nq
  replace oR := oR.drewN nq
  replace hB := bd hB nq
  generalize World.drewN y0 nq = y1 at *
  obtain ⟨rA, fA⟩ := oA.rules
  have zA := oA.lt
  obtain ⟨rB, fB⟩ := oB.rules
  have zB := oB.lt
  obtain ⟨rR, fR⟩ := oR.rules
  have zR := oR.lt
  go_wp2_with fail
  refine (gcd_any _ _ _ (by omega) (by omega)).mono ?_
  rintro e _ ⟨rfl, nr, rfl⟩
  rw [HG.out]
  clear rA fA zA rB fB zB rR fR zR
  replace oA := oA.drewN nr
  replace oB := oB.drewN nr
  replace oR := oR.drewN nr
  replace hB := bd hB nr
  generalize World.drewN y1 nr = y2 at *
  obtain ⟨rA, fA⟩ := oA.rules
  have zA := oA.lt
  obtain ⟨rB, fB⟩ := oB.rules
  have zB := oB.lt
  obtain ⟨rR, fR⟩ := oR.rules
  have zR := oR.lt
  go_wp2_with fail
  refine (gcd_any _ _ _ (by omega) (by omega)).mono ?_
  rintro e _ ⟨rfl, ns, rfl⟩
  rw [HH.out]
  clear rA fA zA rB fB zB rR fR zR
  replace oA := oA.drewN ns
  replace oB := oB.drewN ns
  replace oR := oR.drewN ns
  replace hB := bd hB ns
  generalize World.drewN y2 ns = y3 at *
  obtain ⟨rA, fA⟩ := oA.rules
  have zA := oA.lt
  obtain ⟨rB, fB⟩ := oB.rules
  have zB := oB.lt
  obtain ⟨rR, fR⟩ := oR.rules
  have zR := oR.lt
  have X1 : Hid (u1 ≤ 18446744073709551615) := by show _ ≤ _; omega
  have X2 : Hid (u2 ≤ 18446744073709551615) := by show _ ≤ _; omega
  have X3 : Hid (u3 ≤ 18446744073709551615) := by show _ ≤ _; omega
  have X4 : Hid (u4 ≤ 18446744073709551615) := by show _ ≤ _; omega
  by_cases hz : u1 * u2 / 18446744073709551616 = 0 ∧ u3 * u4 / 18446744073709551616 = 0
  · obtain ⟨hz1, hz2⟩ := hz
    have K1 : Hid (((u1 * u2 / 18446744073709551616 : Nat) : Int) = 0) := by show _ = _; omega
    have K2 : Hid (((u3 * u4 / 18446744073709551616 : Nat) : Int) = 0) := by show _ = _; omega
    have M1 : Hid (((u1 * u2 % 18446744073709551616 : Nat) : Int) = ((u1 * u2 : Nat) : Int)) := by show _ = _; omega
    have M2 : Hid (((u3 * u4 % 18446744073709551616 : Nat) : Int) = ((u3 * u4 : Nat) : Int)) := by show _ = _; omega
    have w1 : ((u1 * u2 : Nat) : Int) ≤ 18446744073709551615 := by omega
    have w2 : ((u3 * u4 : Nat) : Int) ≤ 18446744073709551615 := by omega
    clear hz1 hz2
    obtain ⟨p, hp'⟩ : ∃ p, p = u1 * u2 := ⟨_, rfl⟩
    obtain ⟨q, hq'⟩ : ∃ q, q = u3 * u4 := ⟨_, rfl⟩
    have HP1 : Hid (((u1 * u2 % 18446744073709551616 : Nat) : Int) = (p : Int)) := by show _ = _; rw [M1.out, hp']
    have HP2 : Hid (((u3 * u4 % 18446744073709551616 : Nat) : Int) = (q : Int)) := by show _ = _; rw [M2.out, hq']
    rw [← hp'] at w1 HV
    rw [← hq'] at w2 HV
    clear hp' hq' M1 M2
    go_wp2
    go_quiet ((go_at_call 161; exact Calls.quiet_same (mul64_as u1 u2 0 p _ X1.out X2.out K1.out HP1.out)))
    clear rA fA zA rB fB zB rR fR zR
    replace oA := oA.drewN nq
    replace oB := oB.drewN nq
    replace oR := oR.drewN nq
    replace hB := bd hB nq
    generalize World.drewN y3 nq = y4 at *
    obtain ⟨rA, fA⟩ := oA.rules
    have zA := oA.lt
    obtain ⟨rB, fB⟩ := oB.rules
    have zB := oB.lt
    obtain ⟨rR, fR⟩ := oR.rules
    have zR := oR.lt
    go_wp2
    go_quiet ((go_at_call 161; exact Calls.quiet_same (mul64_as u3 u4 0 q _ X3.out X4.out K2.out HP2.out)))
    clear rA fA zA rB fB zB rR fR zR
    replace oA := oA.drewN nq
    replace oB := oB.drewN nq
    replace oR := oR.drewN nq
    replace hB := bd hB nq
    generalize World.drewN y4 nq = y5 at *
    obtain ⟨rA, fA⟩ := oA.rules
    have zA := oA.lt
    obtain ⟨rB, fB⟩ := oB.rules
    have zB := oB.lt
    obtain ⟨rR, fR⟩ := oR.rules
    have zR := oR.lt
    go_wp2_with fail
    refine (build_any _ _ _ _ (by omega) w1 (by omega) w2).mono ?_
    rintro e y6 ⟨rfl, hb⟩
    clear rA fA zA rB fB zB rR fR zR
    replace oA := oA.below hb
    replace oB := oB.below hb
    replace oR := oR.below hb
    replace hB := below_to hB hb
    clear hb
    obtain ⟨rA, fA⟩ := oA.rules
    have zA := oA.lt
    obtain ⟨rB, fB⟩ := oB.rules
    have zB := oB.lt
    obtain ⟨rR, fR⟩ := oR.rules
    have zR := oR.lt
    generalize hr : bld (!decide (an < 0) == decide (bn < 0)) (p : Int) (q : Int) = r at *
    have HR : Hid (fmulV an A bn B = r) := by show _ = _; rw [HV.out, ← hr]; try rfl
    clear hr HV
    go_wp2
    refine bp_gen' (fun W => Own W (w.heap.size + 1 + 1) 78 [.int .i64 r.n, .int .i64 r.d] ∧ Below w.heap.size w W) ⟨(oR.set 0 (.int .i64 r.n)).set 1 (.int .i64 r.d), ?_⟩ ?_
    · repeat (refine Below.setCell ?_ (by first | omega | (simp; done) | (simp; omega)) _)
      exact hB
    rintro wz ⟨oz, bz⟩
    obtain ⟨rz, fz⟩ := oz.rules
    clear oz
    refine bodyPost_ret (v := .tuple #[.agg #[.int .i64 r.n, .int .i64 r.d], .int .i64 r.e]) (by simp [results, Try.results156, go_sem, rz]) rfl ⟨by rw [HR.out], ?_⟩
    repeat (refine Below.setCell ?_ (by first | omega | (simp; done) | (simp; omega)) _)
    exact bz
  · have HN : Hid (fmulV an A bn B = ⟨0, 0, 16⟩) := by show _ = _; rw [HV.out, high_no (by omega)]
    obtain ⟨ph, hph⟩ : ∃ p, p = u1 * u2 / 18446744073709551616 := ⟨_, rfl⟩
    obtain ⟨qh, hqh⟩ : ∃ p, p = u3 * u4 / 18446744073709551616 := ⟨_, rfl⟩
    obtain ⟨pl, hpl⟩ : ∃ p, p = u1 * u2 % 18446744073709551616 := ⟨_, rfl⟩
    obtain ⟨ql, hql⟩ : ∃ p, p = u3 * u4 % 18446744073709551616 := ⟨_, rfl⟩
    rw [← hph, ← hqh] at hz
    have K1 : Hid (((u1 * u2 / 18446744073709551616 : Nat) : Int) = (ph : Int)) := by show _ = _; rw [hph]
    have K2 : Hid (((u3 * u4 / 18446744073709551616 : Nat) : Int) = (qh : Int)) := by show _ = _; rw [hqh]
    have L1 : Hid (((u1 * u2 % 18446744073709551616 : Nat) : Int) = (pl : Int)) := by show _ = _; rw [hpl]
    have L2 : Hid (((u3 * u4 % 18446744073709551616 : Nat) : Int) = (ql : Int)) := by show _ = _; rw [hql]
    clear hph hqh hpl hql HV
    by_cases hz1 : ph = 0
    · subst hz1
      have bz : ((qh : Int) != 0) = true := by simp; omega
      clear hz
      go_wp2
      go_quiet ((go_at_call 161; exact Calls.quiet_same (mul64_as u1 u2 0 pl _ X1.out X2.out K1.out L1.out)))
      clear rA fA zA rB fB zB rR fR zR
      replace oA := oA.drewN nq
      replace oB := oB.drewN nq
      replace oR := oR.drewN nq
      replace hB := bd hB nq
      generalize World.drewN y3 nq = y4 at *
      obtain ⟨rA, fA⟩ := oA.rules
      have zA := oA.lt
      obtain ⟨rB, fB⟩ := oB.rules
      have zB := oB.lt
      obtain ⟨rR, fR⟩ := oR.rules
      have zR := oR.lt
      go_wp2
      go_quiet ((go_at_call 161; exact Calls.quiet_same (mul64_as u3 u4 qh ql _ X3.out X4.out K2.out L2.out)))
      clear rA fA zA rB fB zB rR fR zR
      replace oA := oA.drewN nq
      replace oB := oB.drewN nq
      replace oR := oR.drewN nq
      replace hB := bd hB nq
      generalize World.drewN y4 nq = y5 at *
      obtain ⟨rA, fA⟩ := oA.rules
      have zA := oA.lt
      obtain ⟨rB, fB⟩ := oB.rules
      have zB := oB.lt
      obtain ⟨rR, fR⟩ := oR.rules
      have zR := oR.lt
      go_wp2
      refine bp_gen' (fun W => Own W (w.heap.size + 1 + 1) 78 [.int .i64 0, .int .i64 0] ∧ Below w.heap.size w W) ⟨(oR.set 0 (.int .i64 0)).set 1 (.int .i64 0), ?_⟩ ?_
      · repeat (refine Below.setCell ?_ (by first | omega | (simp; done) | (simp; omega)) _)
        exact hB
      rintro wz ⟨oz, bz⟩
      obtain ⟨rz, fz⟩ := oz.rules
      clear oz
      refine bodyPost_ret (v := .tuple #[.agg #[.int .i64 0, .int .i64 0], .int .i64 16]) (by simp [results, Try.results156, go_sem, rz]) rfl ⟨by rw [HN.out], ?_⟩
      repeat (refine Below.setCell ?_ (by first | omega | (simp; done) | (simp; omega)) _)
      exact bz
    · have bz : ((ph : Int) != 0) = true := by simp; omega
      clear hz hz1
      go_wp2
      go_quiet ((go_at_call 161; exact Calls.quiet_same (mul64_as u1 u2 ph pl _ X1.out X2.out K1.out L1.out)))
      clear rA fA zA rB fB zB rR fR zR
      replace oA := oA.drewN nq
      replace oB := oB.drewN nq
      replace oR := oR.drewN nq
      replace hB := bd hB nq
      generalize World.drewN y3 nq = y4 at *
      obtain ⟨rA, fA⟩ := oA.rules
      have zA := oA.lt
      obtain ⟨rB, fB⟩ := oB.rules
      have zB := oB.lt
      obtain ⟨rR, fR⟩ := oR.rules
      have zR := oR.lt
      go_wp2
      go_quiet ((go_at_call 161; exact Calls.quiet_same (mul64_as u3 u4 qh ql _ X3.out X4.out K2.out L2.out)))
      clear rA fA zA rB fB zB rR fR zR
      replace oA := oA.drewN nq
      replace oB := oB.drewN nq
      replace oR := oR.drewN nq
      replace hB := bd hB nq
      generalize World.drewN y4 nq = y5 at *
      obtain ⟨rA, fA⟩ := oA.rules
      have zA := oA.lt
      obtain ⟨rB, fB⟩ := oB.rules
      have zB := oB.lt
      obtain ⟨rR, fR⟩ := oR.rules
      have zR := oR.lt
      go_wp2
      refine bp_gen' (fun W => Own W (w.heap.size + 1 + 1) 78 [.int .i64 0, .int .i64 0] ∧ Below w.heap.size w W) ⟨(oR.set 0 (.int .i64 0)).set 1 (.int .i64 0), ?_⟩ ?_
      · repeat (refine Below.setCell ?_ (by first | omega | (simp; done) | (simp; omega)) _)
        exact hB
      rintro wz ⟨oz, bz⟩
      obtain ⟨rz, fz⟩ := oz.rules
      clear oz
      refine bodyPost_ret (v := .tuple #[.agg #[.int .i64 0, .int .i64 0], .int .i64 16]) (by simp [results, Try.results156, go_sem, rz]) rfl ⟨by rw [HN.out], ?_⟩
      repeat (refine Below.setCell ?_ (by first | omega | (simp; done) | (simp; omega)) _)
      exact bz
end Go.Proofs.Ythlcmlngmcoknaa

/- What is proved here: the contract of frac.Mul. Condition: 64-bit numbers. -/
namespace Go.Proofs.Ythlcmlngmcoknaa
open Go.RowKit

set_option maxRecDepth 100000 in
set_option maxHeartbeats 4000000 in
theorem fmul_any (an ad bn bd : Int) (w : World) (h1 : i64 an) (h2 : i64 ad) (h3 : i64 bn) (h4 : i64 bd) :
    Calls Try.prog 118 #[.agg #[.int .i64 an, .int .i64 ad], .agg #[.int .i64 bn, .int .i64 bd]] w fun e w' => e = .returned (.tuple #[.agg #[.int .i64 (fmul an ad bn bd).n, .int .i64 (fmul an ad bn bd).d], .int .i64 (fmul an ad bn bd).e]) ∧ Below w.heap.size w w' := by
  by_cases hb : fboth an ad bn bd = 0
  case neg =>
    have HV := Lib.hid (fmul_8 hb)
    have b1 : (fboth an ad bn bd != 0) = true := by simpa using hb
    clear hb
    go_enter Try.func118, Try.ntmps118
    have oA := (own_first w 78 [.int .i64 an, .int .i64 ad] (.cells #[.int .i64 bn, .int .i64 bd] 78)).alloc (.cells #[.int .i64 0, .int .i64 0] 78)
    have oB := (own_second w 78 [.int .i64 bn, .int .i64 bd] (.cells #[.int .i64 an, .int .i64 ad] 78)).alloc (.cells #[.int .i64 0, .int .i64 0] 78)
    have oR := own_third w 78 [.int .i64 0, .int .i64 0] (.cells #[.int .i64 an, .int .i64 ad] 78) (.cells #[.int .i64 bn, .int .i64 bd] 78)
    have hB := ba3 w (.cells #[.int .i64 an, .int .i64 ad] 78) (.cells #[.int .i64 bn, .int .i64 bd] 78) (.cells #[.int .i64 0, .int .i64 0] 78)
    go_wp2_with fail
    generalize ((w.alloc (.cells #[.int .i64 an, .int .i64 ad] 78)).alloc (.cells #[.int .i64 bn, .int .i64 bd] 78)).alloc (.cells #[.int .i64 0, .int .i64 0] 78) = y0 at *
    obtain ⟨rA, fA⟩ := oA.rules
    have zA := oA.lt
    obtain ⟨rB, fB⟩ := oB.rules
    have zB := oB.lt
    obtain ⟨rR, fR⟩ := oR.rules
    have zR := oR.lt
    refine (frboth_any _ _ _ _ _ h1 h2 h3 h4).mono ?_
    rintro e y1 ⟨rfl, hq⟩
    clear rA fA zA rB fB zB rR fR zR
    replace oA := oA.below hq
    replace oB := oB.below hq
    replace oR := oR.below hq
    replace hB := below_to hB hq
    clear hq
    obtain ⟨rA, fA⟩ := oA.rules
    have zA := oA.lt
    obtain ⟨rB, fB⟩ := oB.rules
    have zB := oB.lt
    obtain ⟨rR, fR⟩ := oR.rules
    have zR := oR.lt
    generalize fboth an ad bn bd = fe at *
    go_wp2
    refine bp_gen' (fun W => Own W (w.heap.size + 1 + 1) 78 [.int .i64 0, .int .i64 0] ∧ Below w.heap.size w W) ⟨(oR.set 0 (.int .i64 0)).set 1 (.int .i64 0), ?_⟩ ?_
    · repeat (refine Below.setCell ?_ (by first | omega | (simp; done) | (simp; omega)) _)
      exact hB
    rintro wz ⟨oz, bz⟩
    obtain ⟨rz, fz⟩ := oz.rules
    clear oz
    refine bodyPost_ret (v := .tuple #[.agg #[.int .i64 0, .int .i64 0], .int .i64 fe]) (by simp [results, Try.results118, go_sem, rz]) rfl ⟨by rw [HV.out], ?_⟩
    repeat (refine Below.setCell ?_ (by first | omega | (simp; done) | (simp; omega)) _)
    exact bz
  obtain ⟨c1, c2⟩ := fboth_ok hb
  obtain ⟨k1, k2, k3, k4, _⟩ := fok_of c1
  obtain ⟨l1, l2, l3, l4, _⟩ := fok_of c2
  have HV := Lib.hid (fmul_0 hb)
  have b1 : (fboth an ad bn bd != 0) = false := by simp [hb]
  clear hb c1 c2
  go_enter Try.func118, Try.ntmps118
  have oA := (own_first w 78 [.int .i64 an, .int .i64 ad] (.cells #[.int .i64 bn, .int .i64 bd] 78)).alloc (.cells #[.int .i64 0, .int .i64 0] 78)
  have oB := (own_second w 78 [.int .i64 bn, .int .i64 bd] (.cells #[.int .i64 an, .int .i64 ad] 78)).alloc (.cells #[.int .i64 0, .int .i64 0] 78)
  have oR := own_third w 78 [.int .i64 0, .int .i64 0] (.cells #[.int .i64 an, .int .i64 ad] 78) (.cells #[.int .i64 bn, .int .i64 bd] 78)
  have hB := ba3 w (.cells #[.int .i64 an, .int .i64 ad] 78) (.cells #[.int .i64 bn, .int .i64 bd] 78) (.cells #[.int .i64 0, .int .i64 0] 78)
  go_wp2_with fail
  generalize ((w.alloc (.cells #[.int .i64 an, .int .i64 ad] 78)).alloc (.cells #[.int .i64 bn, .int .i64 bd] 78)).alloc (.cells #[.int .i64 0, .int .i64 0] 78) = y0 at *
  obtain ⟨rA, fA⟩ := oA.rules
  have zA := oA.lt
  obtain ⟨rB, fB⟩ := oB.rules
  have zB := oB.lt
  obtain ⟨rR, fR⟩ := oR.rules
  have zR := oR.lt
  refine (frboth_any _ _ _ _ _ h1 h2 h3 h4).mono ?_
  rintro e y1 ⟨rfl, hq⟩
  clear rA fA zA rB fB zB rR fR zR
  replace oA := oA.below hq
  replace oB := oB.below hq
  replace oR := oR.below hq
  replace hB := below_to hB hq
  clear hq
  obtain ⟨rA, fA⟩ := oA.rules
  have zA := oA.lt
  obtain ⟨rB, fB⟩ := oB.rules
  have zB := oB.lt
  obtain ⟨rR, fR⟩ := oR.rules
  have zR := oR.lt
  go_wp2_with fail
  refine (fproduct_any an ad bn bd _ k3 k4 k1 k2 l3 l4 l1 l2).mono ?_
  rintro e y2 ⟨rfl, hq⟩
  clear rA fA zA rB fB zB rR fR zR
  replace oA := oA.below hq
  replace oB := oB.below hq
  replace oR := oR.below hq
  replace hB := below_to hB hq
  clear hq
  obtain ⟨rA, fA⟩ := oA.rules
  have zA := oA.lt
  obtain ⟨rB, fB⟩ := oB.rules
  have zB := oB.lt
  obtain ⟨rR, fR⟩ := oR.rules
  have zR := oR.lt
  generalize fmulV an ad bn bd = r at *
  go_wp2
  refine bp_gen' (fun W => Own W (w.heap.size + 1 + 1) 78 [.int .i64 r.n, .int .i64 r.d] ∧ Below w.heap.size w W) ⟨(oR.set 0 (.int .i64 r.n)).set 1 (.int .i64 r.d), ?_⟩ ?_
  · repeat (refine Below.setCell ?_ (by first | omega | (simp; done) | (simp; omega)) _)
    exact hB
  rintro wz ⟨oz, bz⟩
  obtain ⟨rz, fz⟩ := oz.rules
  clear oz
  refine bodyPost_ret (v := .tuple #[.agg #[.int .i64 r.n, .int .i64 r.d], .int .i64 r.e]) (by simp [results, Try.results118, go_sem, rz]) rfl ⟨by rw [HV.out], ?_⟩
  repeat (refine Below.setCell ?_ (by first | omega | (simp; done) | (simp; omega)) _)
  exact bz
end Go.Proofs.Ythlcmlngmcoknaa

/- What is proved here: the contract of frac.Div. Condition: 64-bit numbers. -/
namespace Go.Proofs.Ythlcmlngmcoknaa
open Go.RowKit

set_option maxRecDepth 100000 in
set_option maxHeartbeats 4000000 in
theorem fdiv_any (an ad bn bd : Int) (w : World) (h1 : i64 an) (h2 : i64 ad) (h3 : i64 bn) (h4 : i64 bd) :
    Calls Try.prog 141 #[.agg #[.int .i64 an, .int .i64 ad], .agg #[.int .i64 bn, .int .i64 bd]] w fun e w' => e = .returned (.tuple #[.agg #[.int .i64 (fdiv an ad bn bd).n, .int .i64 (fdiv an ad bn bd).d], .int .i64 (fdiv an ad bn bd).e]) ∧ Below w.heap.size w w' := by
  by_cases hb : fboth an ad bn bd = 0
  case neg =>
    have HV := Lib.hid (fdiv_8 hb)
    have b1 : (fboth an ad bn bd != 0) = true := by simpa using hb
    clear hb
    go_enter Try.func141, Try.ntmps141
    have oA := (own_first w 78 [.int .i64 an, .int .i64 ad] (.cells #[.int .i64 bn, .int .i64 bd] 78)).alloc (.cells #[.int .i64 0, .int .i64 0] 78)
    have oB := (own_second w 78 [.int .i64 bn, .int .i64 bd] (.cells #[.int .i64 an, .int .i64 ad] 78)).alloc (.cells #[.int .i64 0, .int .i64 0] 78)
    have oR := own_third w 78 [.int .i64 0, .int .i64 0] (.cells #[.int .i64 an, .int .i64 ad] 78) (.cells #[.int .i64 bn, .int .i64 bd] 78)
    have hB := ba3 w (.cells #[.int .i64 an, .int .i64 ad] 78) (.cells #[.int .i64 bn, .int .i64 bd] 78) (.cells #[.int .i64 0, .int .i64 0] 78)
    go_wp2_with fail
    generalize ((w.alloc (.cells #[.int .i64 an, .int .i64 ad] 78)).alloc (.cells #[.int .i64 bn, .int .i64 bd] 78)).alloc (.cells #[.int .i64 0, .int .i64 0] 78) = y0 at *
    obtain ⟨rA, fA⟩ := oA.rules
    have zA := oA.lt
    obtain ⟨rB, fB⟩ := oB.rules
    have zB := oB.lt
    obtain ⟨rR, fR⟩ := oR.rules
    have zR := oR.lt
    refine (frboth_any _ _ _ _ _ h1 h2 h3 h4).mono ?_
    rintro e y1 ⟨rfl, hq⟩
    clear rA fA zA rB fB zB rR fR zR
    replace oA := oA.below hq
    replace oB := oB.below hq
    replace oR := oR.below hq
    replace hB := below_to hB hq
    clear hq
    obtain ⟨rA, fA⟩ := oA.rules
    have zA := oA.lt
    obtain ⟨rB, fB⟩ := oB.rules
    have zB := oB.lt
    obtain ⟨rR, fR⟩ := oR.rules
    have zR := oR.lt
    generalize fboth an ad bn bd = fe at *
    go_wp2
    refine bp_gen' (fun W => Own W (w.heap.size + 1 + 1) 78 [.int .i64 0, .int .i64 0] ∧ Below w.heap.size w W) ⟨(oR.set 0 (.int .i64 0)).set 1 (.int .i64 0), ?_⟩ ?_
    · repeat (refine Below.setCell ?_ (by first | omega | (simp; done) | (simp; omega)) _)
      exact hB
    rintro wz ⟨oz, bz⟩
    obtain ⟨rz, fz⟩ := oz.rules
    clear oz
    refine bodyPost_ret (v := .tuple #[.agg #[.int .i64 0, .int .i64 0], .int .i64 fe]) (by simp [results, Try.results141, go_sem, rz]) rfl ⟨by rw [HV.out], ?_⟩
    repeat (refine Below.setCell ?_ (by first | omega | (simp; done) | (simp; omega)) _)
    exact bz
  obtain ⟨c1, c2⟩ := fboth_ok hb
  obtain ⟨k1, k2, k3, k4, _⟩ := fok_of c1
  obtain ⟨l1, l2, l3, l4, _⟩ := fok_of c2
  have b1 : (fboth an ad bn bd != 0) = false := by simp [hb]
  by_cases hz : bn = 0
  · have HV := Lib.hid (fdiv_0 hb hz)
    have bz : (bn == 0) = true := by simpa using hz
    clear hb c1 c2 hz
    go_enter Try.func141, Try.ntmps141
    have oA := (own_first w 78 [.int .i64 an, .int .i64 ad] (.cells #[.int .i64 bn, .int .i64 bd] 78)).alloc (.cells #[.int .i64 0, .int .i64 0] 78)
    have oB := (own_second w 78 [.int .i64 bn, .int .i64 bd] (.cells #[.int .i64 an, .int .i64 ad] 78)).alloc (.cells #[.int .i64 0, .int .i64 0] 78)
    have oR := own_third w 78 [.int .i64 0, .int .i64 0] (.cells #[.int .i64 an, .int .i64 ad] 78) (.cells #[.int .i64 bn, .int .i64 bd] 78)
    have hB := ba3 w (.cells #[.int .i64 an, .int .i64 ad] 78) (.cells #[.int .i64 bn, .int .i64 bd] 78) (.cells #[.int .i64 0, .int .i64 0] 78)
    go_wp2_with fail
    generalize ((w.alloc (.cells #[.int .i64 an, .int .i64 ad] 78)).alloc (.cells #[.int .i64 bn, .int .i64 bd] 78)).alloc (.cells #[.int .i64 0, .int .i64 0] 78) = y0 at *
    obtain ⟨rA, fA⟩ := oA.rules
    have zA := oA.lt
    obtain ⟨rB, fB⟩ := oB.rules
    have zB := oB.lt
    obtain ⟨rR, fR⟩ := oR.rules
    have zR := oR.lt
    refine (frboth_any _ _ _ _ _ h1 h2 h3 h4).mono ?_
    rintro e y1 ⟨rfl, hq⟩
    clear rA fA zA rB fB zB rR fR zR
    replace oA := oA.below hq
    replace oB := oB.below hq
    replace oR := oR.below hq
    replace hB := below_to hB hq
    clear hq
    obtain ⟨rA, fA⟩ := oA.rules
    have zA := oA.lt
    obtain ⟨rB, fB⟩ := oB.rules
    have zB := oB.lt
    obtain ⟨rR, fR⟩ := oR.rules
    have zR := oR.lt
    go_wp2
    refine bp_gen' (fun W => Own W (w.heap.size + 1 + 1) 78 [.int .i64 0, .int .i64 0] ∧ Below w.heap.size w W) ⟨(oR.set 0 (.int .i64 0)).set 1 (.int .i64 0), ?_⟩ ?_
    · repeat (refine Below.setCell ?_ (by first | omega | (simp; done) | (simp; omega)) _)
      exact hB
    rintro wz ⟨oz, bz⟩
    obtain ⟨rz, fz⟩ := oz.rules
    clear oz
    refine bodyPost_ret (v := .tuple #[.agg #[.int .i64 0, .int .i64 0], .int .i64 18]) (by simp [results, Try.results141, go_sem, rz]) rfl ⟨by rw [HV.out], ?_⟩
    repeat (refine Below.setCell ?_ (by first | omega | (simp; done) | (simp; omega)) _)
    exact bz
  have HV0 := fdiv_1 hb hz
  have bz : (bn == 0) = false := by simpa using hz
  clear hb
  rcases Int.lt_or_gt_of_ne hz with hs | hs
  · have co := fchk_over' c2 hs
    have HV : Hid (fdiv an ad bn bd = fmulV an ad (-bd) (-bn)) := by show _ = _; rw [HV0, fmulV_pack c1 co, div_as_mul']
    clear HV0 hz c1 c2 co
    go_enter Try.func141, Try.ntmps141
    have oA := (own_first w 78 [.int .i64 an, .int .i64 ad] (.cells #[.int .i64 bn, .int .i64 bd] 78)).alloc (.cells #[.int .i64 0, .int .i64 0] 78)
    have oB := (own_second w 78 [.int .i64 bn, .int .i64 bd] (.cells #[.int .i64 an, .int .i64 ad] 78)).alloc (.cells #[.int .i64 0, .int .i64 0] 78)
    have oR := own_third w 78 [.int .i64 0, .int .i64 0] (.cells #[.int .i64 an, .int .i64 ad] 78) (.cells #[.int .i64 bn, .int .i64 bd] 78)
    have hB := ba3 w (.cells #[.int .i64 an, .int .i64 ad] 78) (.cells #[.int .i64 bn, .int .i64 bd] 78) (.cells #[.int .i64 0, .int .i64 0] 78)
    go_wp2_with fail
    generalize ((w.alloc (.cells #[.int .i64 an, .int .i64 ad] 78)).alloc (.cells #[.int .i64 bn, .int .i64 bd] 78)).alloc (.cells #[.int .i64 0, .int .i64 0] 78) = y0 at *
    obtain ⟨rA, fA⟩ := oA.rules
    have zA := oA.lt
    obtain ⟨rB, fB⟩ := oB.rules
    have zB := oB.lt
    obtain ⟨rR, fR⟩ := oR.rules
    have zR := oR.lt
    refine (frboth_any _ _ _ _ _ h1 h2 h3 h4).mono ?_
    rintro e y1 ⟨rfl, hq⟩
    clear rA fA zA rB fB zB rR fR zR
    replace oA := oA.below hq
    replace oB := oB.below hq
    replace oR := oR.below hq
    replace hB := below_to hB hq
    clear hq
    obtain ⟨rA, fA⟩ := oA.rules
    have zA := oA.lt
    obtain ⟨rB, fB⟩ := oB.rules
    have zB := oB.lt
    obtain ⟨rR, fR⟩ := oR.rules
    have zR := oR.lt
    have oO := Own.new y1 78 [.int .i64 0, .int .i64 0]
    go_wp2_with fail
    refine (fproduct_any an ad (-bd) (-bn) _ k3 k4 k1 k2 (by omega) (by omega) (by omega) (by omega)).mono ?_
    rintro e y2 ⟨rfl, hq⟩
    replace hq := below_to (ba1 y1 _) hq
    clear oO
    clear rA fA zA rB fB zB rR fR zR
    replace oA := oA.below hq
    replace oB := oB.below hq
    replace oR := oR.below hq
    replace hB := below_to hB hq
    clear hq
    obtain ⟨rA, fA⟩ := oA.rules
    have zA := oA.lt
    obtain ⟨rB, fB⟩ := oB.rules
    have zB := oB.lt
    obtain ⟨rR, fR⟩ := oR.rules
    have zR := oR.lt
    generalize fmulV an ad (-bd) (-bn) = r at *
    go_wp2
    refine bp_gen' (fun W => Own W (w.heap.size + 1 + 1) 78 [.int .i64 r.n, .int .i64 r.d] ∧ Below w.heap.size w W) ⟨(oR.set 0 (.int .i64 r.n)).set 1 (.int .i64 r.d), ?_⟩ ?_
    · repeat (refine Below.setCell ?_ (by first | omega | (simp; done) | (simp; omega)) _)
      exact hB
    rintro wz ⟨oz, bz⟩
    obtain ⟨rz, fz⟩ := oz.rules
    clear oz
    refine bodyPost_ret (v := .tuple #[.agg #[.int .i64 r.n, .int .i64 r.d], .int .i64 r.e]) (by simp [results, Try.results141, go_sem, rz]) rfl ⟨by rw [HV.out], ?_⟩
    repeat (refine Below.setCell ?_ (by first | omega | (simp; done) | (simp; omega)) _)
    exact bz
  · have co := fchk_over c2 hs
    have HV : Hid (fdiv an ad bn bd = fmulV an ad bd bn) := by show _ = _; rw [HV0, fmulV_pack c1 co, div_as_mul]
    clear HV0 hz c1 c2 co
    go_enter Try.func141, Try.ntmps141
    have oA := (own_first w 78 [.int .i64 an, .int .i64 ad] (.cells #[.int .i64 bn, .int .i64 bd] 78)).alloc (.cells #[.int .i64 0, .int .i64 0] 78)
    have oB := (own_second w 78 [.int .i64 bn, .int .i64 bd] (.cells #[.int .i64 an, .int .i64 ad] 78)).alloc (.cells #[.int .i64 0, .int .i64 0] 78)
    have oR := own_third w 78 [.int .i64 0, .int .i64 0] (.cells #[.int .i64 an, .int .i64 ad] 78) (.cells #[.int .i64 bn, .int .i64 bd] 78)
    have hB := ba3 w (.cells #[.int .i64 an, .int .i64 ad] 78) (.cells #[.int .i64 bn, .int .i64 bd] 78) (.cells #[.int .i64 0, .int .i64 0] 78)
    go_wp2_with fail
    generalize ((w.alloc (.cells #[.int .i64 an, .int .i64 ad] 78)).alloc (.cells #[.int .i64 bn, .int .i64 bd] 78)).alloc (.cells #[.int .i64 0, .int .i64 0] 78) = y0 at *
    obtain ⟨rA, fA⟩ := oA.rules
    have zA := oA.lt
    obtain ⟨rB, fB⟩ := oB.rules
    have zB := oB.lt
    obtain ⟨rR, fR⟩ := oR.rules
    have zR := oR.lt
    refine (frboth_any _ _ _ _ _ h1 h2 h3 h4).mono ?_
    rintro e y1 ⟨rfl, hq⟩
    clear rA fA zA rB fB zB rR fR zR
    replace oA := oA.below hq
    replace oB := oB.below hq
    replace oR := oR.below hq
    replace hB := below_to hB hq
    clear hq
    obtain ⟨rA, fA⟩ := oA.rules
    have zA := oA.lt
    obtain ⟨rB, fB⟩ := oB.rules
    have zB := oB.lt
    obtain ⟨rR, fR⟩ := oR.rules
    have zR := oR.lt
    have oO := Own.new y1 78 [.int .i64 0, .int .i64 0]
    go_wp2_with fail
    refine (fproduct_any an ad bd bn _ k3 k4 k1 k2 (by omega) (by omega) (by omega) (by omega)).mono ?_
    rintro e y2 ⟨rfl, hq⟩
    replace hq := below_to (ba1 y1 _) hq
    clear oO
    clear rA fA zA rB fB zB rR fR zR
    replace oA := oA.below hq
    replace oB := oB.below hq
    replace oR := oR.below hq
    replace hB := below_to hB hq
    clear hq
    obtain ⟨rA, fA⟩ := oA.rules
    have zA := oA.lt
    obtain ⟨rB, fB⟩ := oB.rules
    have zB := oB.lt
    obtain ⟨rR, fR⟩ := oR.rules
    have zR := oR.lt
    generalize fmulV an ad bd bn = r at *
    go_wp2
    refine bp_gen' (fun W => Own W (w.heap.size + 1 + 1) 78 [.int .i64 r.n, .int .i64 r.d] ∧ Below w.heap.size w W) ⟨(oR.set 0 (.int .i64 r.n)).set 1 (.int .i64 r.d), ?_⟩ ?_
    · repeat (refine Below.setCell ?_ (by first | omega | (simp; done) | (simp; omega)) _)
      exact hB
    rintro wz ⟨oz, bz⟩
    obtain ⟨rz, fz⟩ := oz.rules
    clear oz
    refine bodyPost_ret (v := .tuple #[.agg #[.int .i64 r.n, .int .i64 r.d], .int .i64 r.e]) (by simp [results, Try.results141, go_sem, rz]) rfl ⟨by rw [HV.out], ?_⟩
    repeat (refine Below.setCell ?_ (by first | omega | (simp; done) | (simp; omega)) _)
    exact bz
end Go.Proofs.Ythlcmlngmcoknaa
