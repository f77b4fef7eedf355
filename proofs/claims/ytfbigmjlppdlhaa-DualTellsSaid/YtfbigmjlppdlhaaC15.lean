/- What is proved here: contracts of functions and plain facts, several texts in one; each one says ahead what it proves, and its conditions. -/
import Derived.Test.YtfbigmjlppdlhaaC05
import Derived.Test.YtfbigmjlppdlhaaC01
import Derived.Test.YtfbigmjlppdlhaaC04
import Derived.Test.YtfbigmjlppdlhaaC10
import Derived.LoopN
/- What is proved here: the contract of fringeref37.Check. Condition: a system whose lists can be read. -/
namespace Go.Proofs.Ytfbigmjlppdlhaa
open Go.RowKit

set_option maxRecDepth 100000 in
set_option maxHeartbeats 4000000 in
theorem rncheck_any (A : List (List Int)) (B : List Int) (va vb : Value) (w : World) (hA : SS w va A) (hB : SI w vb B) :
    Calls Try.prog 25 #[.agg #[va, vb]] w fun e w' => e = .returned (.int .i64 (ncheck A B)) ∧ Below w.heap.size w w' := by
  have hA0 := Lib.hid hA
  have hB0 := Lib.hid hB
  obtain ⟨ada, capa, rfl, ha1, ha2, _⟩ := hA.open
  obtain ⟨adb, capb, rfl, hb1, hb2, _⟩ := hB.open
  clear hA hB
  by_cases h0 : 5 < A.length
  · have HV := Lib.hid (ncheck_4 (B := B) (.inl h0))
    go_enter Try.func25, Try.ntmps25
    have oS := Own.new w 25 [.slice ada A.length capa, .slice adb B.length capb]
    obtain ⟨rS, fS⟩ := oS.rules
    have zS := oS.lt
    go_wp2
    go_ret
    exact ⟨by rw [HV.out]; try rfl, ba1 _ _⟩
  by_cases h0' : 5 < B.length
  · have HV := Lib.hid (ncheck_4 (A := A) (.inr h0'))
    go_enter Try.func25, Try.ntmps25
    have oS := Own.new w 25 [.slice ada A.length capa, .slice adb B.length capb]
    obtain ⟨rS, fS⟩ := oS.rules
    have zS := oS.lt
    go_wp2
    go_ret
    exact ⟨by rw [HV.out]; try rfl, ba1 _ _⟩
  have H0 : Hid (¬ (5 < A.length ∨ 5 < B.length)) := by show ¬ _; omega
  go_enter Try.func25, Try.ntmps25
  have oS := Own.new w 25 [.slice ada A.length capa, .slice adb B.length capb]
  have hy := ba1 w (.cells #[.slice ada A.length capa, .slice adb B.length capb] 25)
  have sA := Lib.hid (hA0.out.below hy)
  have sB := Lib.hid (hB0.out.below hy)
  clear hA0 hB0
  go_wp2_with fail
  generalize w.alloc (.cells #[.slice ada A.length capa, .slice adb B.length capb] 25) = y at *
  obtain ⟨rS, fS⟩ := oS.rules
  have zS := oS.lt
  go_wp2
  go_loop [3] (fun i => ∃ k : Nat, k ≤ A.length ∧ i = .int .i64 k ∧ Hid (((A.take k).all fun r => decide (r.length ≤ 3)) = true)) (fun i => A.length - (intOf i).toNat)
  case atStart => exact ⟨0, Nat.zero_le _, rfl, rfl⟩
  case round =>
    obtain ⟨k, hk, rfl, hv⟩ := hrel
    by_cases hlt : k < A.length
    · obtain ⟨_, _, e, _, _, H⟩ := sA.out.open
      cases e
      obtain ⟨b, off, ad', cap', rfl, c1, c2, c3, _⟩ := H.out k hlt
      clear H
      by_cases hz : 3 < A[k].length
      · have HV := Lib.hid (ncheck_4' H0.out hlt hz)
        generalize A[k].length = m at *
        go_wp2
        go_ret
        exact ⟨by rw [HV.out]; try rfl, hy⟩
      · have HV := Lib.hid (all_take (p := fun r => decide (r.length ≤ 3)) hlt hv.out (by simp; omega))
        generalize A[k].length = m at *
        go_wp2
        go_round
        case rel => exact ⟨k + 1, by omega, by go_num, HV⟩
        case measure => simp [intOf]; try omega
    · have H1 := Lib.hid (all_end hlt hv.out)
      clear hv
      by_cases hz0 : A.length = 0
      · have HV := Lib.hid (ncheck_8 H0.out H1.out (.inl hz0))
        have q1 : ((A.length : Int) == 0) = true := by rw [hz0]; rfl
        clear hz0
        go_wp2
        go_ret
        exact ⟨by rw [HV.out]; try rfl, hy⟩
      have q1 : ((A.length : Int) == 0) = false := by simpa using hz0
      by_cases hz1 : B.length ≠ A.length
      · have HV := Lib.hid (ncheck_8 H0.out H1.out (.inr (.inl hz1)))
        have q2 : ((B.length : Int) != (A.length : Int)) = true := by simp; omega
        clear hz1
        go_wp2
        go_ret
        exact ⟨by rw [HV.out]; try rfl, hy⟩
      have q2 : ((B.length : Int) != (A.length : Int)) = false := by simp; omega
      have l1 : 0 < A.length := by omega
      have l2 : B.length ≤ A.length := by omega
      have l3 : A.length ≤ B.length := by omega
      obtain ⟨_, _, e, _, _, H⟩ := sA.out.open
      cases e
      obtain ⟨b, off, ad0, cap0, rfl, d1, d2, d3, _⟩ := H.out 0 l1
      rw [Nat.add_zero] at d1
      have H := Lib.hid H
      have G0 := Lib.hid (getD_get (d := []) l1)
      by_cases hz2 : A[0].length = 0
      · have HV := Lib.hid (ncheck_8 H0.out H1.out (.inr (.inr (by rw [G0.out]; exact hz2))))
        have q3 : ((A[0].length : Int) == 0) = true := by rw [hz2]; rfl
        clear hz2 hz1 hz0
        generalize A[0].length = m at *
        go_wp2
        go_ret
        exact ⟨by rw [HV.out]; try rfl, hy⟩
      have H2 : Hid (¬ (A.length = 0 ∨ B.length ≠ A.length ∨ (A.getD 0 []).length = 0)) := by
        show ¬ _
        rw [G0.out]; omega
      have q3 : ((A[0].length : Int) == 0) = false := by simpa using hz2
      have G1 : Hid ((A.getD 0 []).length = A[0].length) := by show _ = _; rw [G0.out]
      clear hz2 hz1 hz0 G0
      generalize A[0].length = n at *
      go_wp2
      clear rS fS zS d1 H
      go_loopw [4] (fun i wr => ∃ k : Nat, k ≤ A.length ∧ i = .int .i64 k ∧ Hid (((A.take k).all fun r => rowOk n r) = true) ∧ Hid (((B.take k).all fun b => decide (-50 ≤ b) && decide (b ≤ 50)) = true) ∧ Below y.heap.size y wr) (fun i _ => A.length - (intOf i).toNat)
      case atStart => exact ⟨0, Nat.zero_le _, rfl, rfl, rfl, Below.refl _ _⟩
      case round =>
        obtain ⟨k, hk, rfl, hv, hu, hB⟩ := hrel
        rename World => W
        replace oS := oS.below hB
        have sA' := Lib.hid (sA.out.below hB)
        have sB' := Lib.hid (sB.out.below hB)
        obtain ⟨rS, fS⟩ := oS.rules
        have zS := oS.lt
        by_cases hlt : k < A.length
        · obtain ⟨_, _, e, _, _, H⟩ := sA'.out.open
          cases e
          obtain ⟨_, _, ad0', cap0', e, d1, d2', d3', _⟩ := H.out 0 l1
          cases e
          rw [Nat.add_zero] at d1
          obtain ⟨b', off', ad', cap', e, c1, c2, c3, s1⟩ := H.out k hlt
          cases e
          clear H
          obtain ⟨_, _, e, _, _, HB⟩ := sB'.out.open
          cases e
          have hkB : k < B.length := by omega
          obtain ⟨b2, off2, rfl, c4⟩ := HB.out k hkB
          clear HB
          have X8 := Lib.hid (fun h => ncheck_8' H0.out H1.out H2.out (.inl h))
          have Y8 := Lib.hid (fun h => ncheck_8' H0.out H1.out H2.out (.inr (all_not hkB h)))
          have XT := Lib.hid (fun h => all_take (p := fun r => rowOk n r) hlt hv.out h)
          have YT := Lib.hid (fun h => all_take (p := fun b => decide (-50 ≤ b) && decide (b ≤ 50)) hkB hu.out h)
          have XN := Lib.hid (fun h => all_not (p := fun r => rowOk n r) hlt h)
          have N0 : Hid (A[0].length = n) := by show _ = _; rw [← G1.out, getD_get l1]
          rw [N0.out] at d1 d2' d3'
          by_cases hw : A[k].length = n
          case neg =>
            have HV := Lib.hid (X8.out (by rw [G1.out]; exact XN.out (by simp [rowOk, hw])))
            have q5 : ((A[k].length : Int) != (n : Int)) = true := by simp; omega
            clear hw X8 Y8 XT YT XN s1
            generalize A[k].length = m at *
            go_wp2
            go_quiet (fail)
            go_wp2
            go_ret
            exact ⟨by rw [HV.out]; try rfl, bd (below_to hy hB) _⟩
          have q5 : ((A[k].length : Int) != (n : Int)) = false := by simp; omega
          have HW := Lib.hid hw
          have l4 : A[k].length ≤ n := by omega
          have l5 : n ≤ A[k].length := by omega
          have S1 := Lib.hid s1
          clear hw s1
          generalize A[k] = row at *
          generalize B[k] = bk at *
          by_cases hb1 : bk < -50
          · have HV := Lib.hid (Y8.out (by simp; omega))
            have q6 : decide (bk < -50) = true := by simpa using hb1
            clear X8 Y8 XT YT XN
            go_wp2
            go_quiet (fail)
            go_wp2
            go_ret
            exact ⟨by rw [HV.out]; try rfl, bd (below_to hy hB) _⟩
          have q6 : decide (bk < -50) = false := by simpa using hb1
          by_cases hb2 : 50 < bk
          · have HV := Lib.hid (Y8.out (by simp; omega))
            have q7 : decide (50 < bk) = true := by simpa using hb2
            clear X8 Y8 XT YT XN
            go_wp2
            go_quiet (fail)
            go_wp2
            go_ret
            exact ⟨by rw [HV.out]; try rfl, bd (below_to hy hB) _⟩
          have q7 : decide (50 < bk) = false := by simpa using hb2
          have YT' := Lib.hid (YT.out (by simp; omega))
          clear Y8 YT
          go_wp2
          go_quiet (fail)
          go_wp2
          have hB' := bd hB nq
          have S1' := Lib.hid (S1.out.below (below_drewN W nq))
          have c1' : (W.drewN nq).cell? ⟨b, off + k, none⟩ = some (.slice ad' row.length cap') := c1
          replace oS := oS.drewN nq
          clear rS fS zS S1 c1 c4 d1
          generalize W.drewN nq = W' at *
          obtain ⟨rS, fS⟩ := oS.rules
          have zS := oS.lt
          go_loop [5] (fun i => ∃ j : Nat, j ≤ row.length ∧ i = .int .i64 j ∧ Hid (((row.take j).all fun a => decide (-5 ≤ a) && decide (a ≤ 5)) = true)) (fun i => row.length - (intOf i).toNat)
          case atStart => exact ⟨0, Nat.zero_le _, rfl, rfl⟩
          case round =>
            obtain ⟨j, hj, rfl, hr⟩ := hrel
            by_cases hjl : j < row.length
            · obtain ⟨_, _, e, _, _, HR⟩ := S1'.out.open
              cases e
              obtain ⟨b3, off3, rfl, c5⟩ := HR.out j hjl
              clear HR
              have RT := Lib.hid (fun h => all_take (p := fun a => decide (-5 ≤ a) && decide (a ≤ 5)) hjl hr.out h)
              have RN := Lib.hid (fun h => all_not (p := fun a => decide (-5 ≤ a) && decide (a ≤ 5)) hjl h)
              generalize row[j] = aj at *
              by_cases ha1 : aj < -5
              · have HV := Lib.hid (X8.out (by rw [G1.out]; exact XN.out (by unfold rowOk; rw [RN.out (by simp; omega)]; simp)))
                have q8 : decide (aj < -5) = true := by simpa using ha1
                clear X8 XT XN RT RN
                go_wp2
                go_ret
                exact ⟨by rw [HV.out]; try rfl, below_to hy hB'⟩
              have q8 : decide (aj < -5) = false := by simpa using ha1
              by_cases ha2 : 5 < aj
              · have HV := Lib.hid (X8.out (by rw [G1.out]; exact XN.out (by unfold rowOk; rw [RN.out (by simp; omega)]; simp)))
                have q9 : decide (5 < aj) = true := by simpa using ha2
                clear X8 XT XN RT RN
                go_wp2
                go_ret
                exact ⟨by rw [HV.out]; try rfl, below_to hy hB'⟩
              have q9 : decide (5 < aj) = false := by simpa using ha2
              have HV := Lib.hid (RT.out (by simp; omega))
              clear X8 XT XN RT RN
              go_wp2
              go_round
              case rel => exact ⟨j + 1, by omega, by go_num, HV⟩
              case measure => simp [intOf]; try omega
            · have HV := Lib.hid (XT.out (by unfold rowOk; rw [all_end hjl hr.out, HW.out]; simp))
              clear X8 XT XN
              go_wp2
              go_roundw
              case rel => exact ⟨k + 1, by omega, by go_num, HV, YT', hB'⟩
              case measure => simp [intOf]; try omega
        · have HV := Lib.hid (ncheck_0 H0.out H1.out H2.out (by rw [G1.out]; exact all_end hlt hv.out) (all_end (xs := B) (k := k) (by omega) hu.out))
          go_wp2
          go_ret
          exact ⟨by rw [HV.out]; try rfl, below_to hy hB⟩
end Go.Proofs.Ytfbigmjlppdlhaa

/- What is proved here: the contracts of the reference's big, Small and lowest. Condition: the numbers are 64-bit integers. -/
namespace Go.Proofs.Ytfbigmjlppdlhaa
open Go.RowKit

/-- A digit to the base 2^32. -/
def dg (x i : Nat) : Nat := x / 4294967296 ^ i % 4294967296
theorem dg_lt (x i : Nat) : dg x i < 4294967296 := Nat.mod_lt _ (by decide)
theorem dg_of {x a b c d : Nat} (ha : a < 4294967296) (hb : b < 4294967296) (hc : c < 4294967296) (hd : d < 4294967296) (h : x = a + b * 4294967296 + c * 18446744073709551616 + d * 79228162514264337593543950336) :
    dg x 0 = a ∧ dg x 1 = b ∧ dg x 2 = c ∧ dg x 3 = d := by
  unfold dg
  refine ⟨?_, ?_, ?_, ?_⟩
  · rw [show 4294967296 ^ 0 = 1 from rfl]; omega
  · rw [show 4294967296 ^ 1 = 4294967296 from rfl]; omega
  · rw [show 4294967296 ^ 2 = 18446744073709551616 from rfl]; omega
  · rw [show 4294967296 ^ 3 = 79228162514264337593543950336 from rfl]; omega
theorem dg_sum (x : Nat) (h : x < 340282366920938463463374607431768211456) : x = dg x 0 + dg x 1 * 4294967296 + dg x 2 * 18446744073709551616 + dg x 3 * 79228162514264337593543950336 := by
  unfold dg
  rw [show 4294967296 ^ 0 = 1 from rfl, show 4294967296 ^ 1 = 4294967296 from rfl, show 4294967296 ^ 2 = 18446744073709551616 from rfl, show 4294967296 ^ 3 = 79228162514264337593543950336 from rfl]
  omega
theorem dg_small {n : Nat} (h : n ≤ 18446744073709551615) : dg n 0 = n % 4294967296 ∧ dg n 1 = n / 4294967296 ∧ dg n 2 = 0 ∧ dg n 3 = 0 := dg_of (by omega) (by omega) (by omega) (by omega) (by omega)

theorem big_any (n : Nat) (w : World) (h : n ≤ 18446744073709551615) :
    Calls Try.prog 132 #[.int .u64 n] w fun e w' => e = .returned (.agg #[.int .u64 (dg n 0), .int .u64 (dg n 1), .int .u64 (dg n 2), .int .u64 (dg n 3)]) ∧ Below w.heap.size w w' := by
  have H := Lib.hid (dg_small h)
  have r1 := and32 n (by omega)
  have r2 : (n : Int) / 4294967296 = ((n / 4294967296 : Nat) : Int) := rfl
  generalize n % 4294967296 = a at *
  generalize n / 4294967296 = b at *
  go_enter Try.func132, Try.ntmps132
  go_wp2
  refine bodyPost_ret (v := .agg #[.int .u64 a, .int .u64 b, .int .u64 0, .int .u64 0]) (by simp [results, Try.results132, go_sem]) rfl ⟨by rw [H.out.1, H.out.2.1, H.out.2.2.1, H.out.2.2.2]; rfl, ?_⟩
  repeat (refine Below.setCell ?_ (by first | omega | (simp; done) | (simp; omega)) _)
  exact ba1 _ _

set_option maxHeartbeats 800000 in
theorem small_any (x : Nat) (w : World) (hx : x < 340282366920938463463374607431768211456) :
    Calls Try.prog 131 #[.agg #[.int .u64 (dg x 0), .int .u64 (dg x 1), .int .u64 (dg x 2), .int .u64 (dg x 3)]] w fun e w' => e = .returned (.tuple #[.int .i64 (x % 9223372036854775808 : Nat), .bool (decide (x ≤ 1000000000000000000))]) ∧ Below w.heap.size w w' := by
  have HS := Lib.hid (dg_sum x hx)
  have l0 := dg_lt x 0
  have l1 := dg_lt x 1
  have l2 := dg_lt x 2
  have l3 := dg_lt x 3
  generalize dg x 0 = a at *
  generalize dg x 1 = b at *
  generalize dg x 2 = c at *
  generalize dg x 3 = d at *
  have r1 := or32 a b l0 l1
  have r2 := and63 (b * 4294967296 + a) (by omega)
  have hm : (b * 4294967296 + a) % 9223372036854775808 = x % 9223372036854775808 := by have := HS.out; omega
  rw [hm] at r2
  have hn : b * 4294967296 + a < 18446744073709551616 := by omega
  generalize hN : b * 4294967296 + a = N at *
  have HN := Lib.hid hN
  have HX : Hid (x = N + c * 18446744073709551616 + d * 79228162514264337593543950336) := by show x = _; have := HS.out; omega
  have hM : x % 9223372036854775808 < 9223372036854775808 := Nat.mod_lt _ (by decide)
  generalize x % 9223372036854775808 = M at *
  clear hN hm hx
  by_cases hc : c = 0
  · subst hc
    by_cases hd : d = 0
    · subst hd
      have H : Hid (decide (x ≤ 1000000000000000000) = decide ((N : Int) ≤ 1000000000000000000)) := by
        show _ = _
        have := HX.out
        exact decide_eq_decide.2 (by omega)
      go_enter Try.func131, Try.ntmps131
      go_wp2
      go_ret2
      exact ⟨by rw [H.out]; try rfl, ba1 _ _⟩
    · have b1 : ((d : Int) == 0) = false := by simpa using hd
      have H : Hid (decide (x ≤ 1000000000000000000) = false) := by show _ = _; have := HX.out; simp; omega
      clear hd
      go_enter Try.func131, Try.ntmps131
      go_wp2
      go_ret2
      exact ⟨by rw [H.out]; try rfl, ba1 _ _⟩
  · have b1 : ((c : Int) == 0) = false := by simpa using hc
    have H : Hid (decide (x ≤ 1000000000000000000) = false) := by show _ = _; have := HX.out; simp; omega
    clear hc
    go_enter Try.func131, Try.ntmps131
    go_wp2
    go_ret2
    exact ⟨by rw [H.out]; try rfl, ba1 _ _⟩

set_option maxHeartbeats 800000 in
theorem lowest_any (neg : Bool) (x y : Nat) (w : World) (hx : x < 340282366920938463463374607431768211456) (hy : y < 340282366920938463463374607431768211456) :
    Calls Try.prog 110 #[.bool neg, .agg #[.int .u64 (dg x 0), .int .u64 (dg x 1), .int .u64 (dg x 2), .int .u64 (dg x 3)], .agg #[.int .u64 (dg y 0), .int .u64 (dg y 1), .int .u64 (dg y 2), .int .u64 (dg y 3)]] w fun e w' =>
      e = .returned (.tuple #[.agg #[.int .i64 (bld neg x y).n, .int .i64 (bld neg x y).d], .int .i64 (bld neg x y).e]) ∧ Below w.heap.size w w' := by
  have mx : x ≤ 1000000000000000000 → x % 9223372036854775808 = x := fun h => Nat.mod_eq_of_lt (by omega)
  have my : y ≤ 1000000000000000000 → y % 9223372036854775808 = y := fun h => Nat.mod_eq_of_lt (by omega)
  have MX := Lib.hid mx
  have MY := Lib.hid my
  clear mx my
  have LX : Hid (x % 9223372036854775808 < 9223372036854775808) := Nat.mod_lt _ (by decide)
  have LY : Hid (y % 9223372036854775808 < 9223372036854775808) := Nat.mod_lt _ (by decide)
  by_cases h : x ≤ 1000000000000000000 ∧ y ≤ 1000000000000000000
  · obtain ⟨h1, h2⟩ := h
    have b1 : decide (x ≤ 1000000000000000000) = true := by simpa using h1
    have b2 : decide (y ≤ 1000000000000000000) = true := by simpa using h2
    have H := Lib.hid (bld_yes (neg := neg) (num := x) (den := y) (by omega))
    cases neg
    · go_enter Try.func110, Try.ntmps110
      go_wp2_with fail
      refine (small_any x _ hx).mono ?_
      rintro e w1 ⟨rfl, hb1⟩
      rw [MX.out h1]
      obtain ⟨c1, f1⟩ := bcell hb1
      have z1 := (hb1).size
      try simp at z1
      try simp at c1
      try simp at f1
      have z1a : w.heap.size < w1.heap.size := by omega
      have z1b : w.heap.size + 1 < w1.heap.size := by omega
      have z1c : w.heap.size + 1 + 1 < w1.heap.size := by omega
      go_wp2_with fail
      refine (small_any y _ hy).mono ?_
      rintro e w2 ⟨rfl, hb2⟩
      rw [MY.out h2]
      obtain ⟨c2, f2⟩ := bcell hb2
      have z2 := (hb2).size
      try simp at z2
      try simp at c2
      try simp at f2
      have z2a : w.heap.size < w2.heap.size := by omega
      have z2b : w.heap.size + 1 < w2.heap.size := by omega
      have z2c : w.heap.size + 1 + 1 < w2.heap.size := by omega
      go_wp2
      refine bodyPost_ret (v := .tuple #[.agg #[.int .i64 x, .int .i64 y], .int .i64 0]) (by simp [results, Try.results110, go_sem, c1, c2, z1c]) rfl ⟨by rw [H.out]; try rfl, ?_⟩
      repeat (refine Below.setCell ?_ (by first | omega | (simp; done) | (simp; omega)) _)
      exact below_to (below_to (ba3 _ _ _ _) hb1) hb2
    · go_enter Try.func110, Try.ntmps110
      go_wp2_with fail
      refine (small_any x _ hx).mono ?_
      rintro e w1 ⟨rfl, hb1⟩
      rw [MX.out h1]
      obtain ⟨c1, f1⟩ := bcell hb1
      have z1 := (hb1).size
      try simp at z1
      try simp at c1
      try simp at f1
      have z1a : w.heap.size < w1.heap.size := by omega
      have z1b : w.heap.size + 1 < w1.heap.size := by omega
      have z1c : w.heap.size + 1 + 1 < w1.heap.size := by omega
      go_wp2_with fail
      refine (small_any y _ hy).mono ?_
      rintro e w2 ⟨rfl, hb2⟩
      rw [MY.out h2]
      obtain ⟨c2, f2⟩ := bcell hb2
      have z2 := (hb2).size
      try simp at z2
      try simp at c2
      try simp at f2
      have z2a : w.heap.size < w2.heap.size := by omega
      have z2b : w.heap.size + 1 < w2.heap.size := by omega
      have z2c : w.heap.size + 1 + 1 < w2.heap.size := by omega
      go_wp2
      refine bodyPost_ret (v := .tuple #[.agg #[.int .i64 (-x), .int .i64 y], .int .i64 0]) (by simp [results, Try.results110, go_sem, c1, c2, z1c]) rfl ⟨by rw [H.out]; try rfl, ?_⟩
      repeat (refine Below.setCell ?_ (by first | omega | (simp; done) | (simp; omega)) _)
      exact below_to (below_to (ba3 _ _ _ _) hb1) hb2
  · have H := Lib.hid (bld_no (neg := neg) (num := x) (den := y) (by omega))
    by_cases h1 : x ≤ 1000000000000000000
    · have b1 : decide (x ≤ 1000000000000000000) = true := by simpa using h1
      have b2 : decide (y ≤ 1000000000000000000) = false := by simp; omega
      clear h h1
      go_enter Try.func110, Try.ntmps110
      go_wp2_with fail
      refine (small_any x _ hx).mono ?_
      rintro e w1 ⟨rfl, hb1⟩
      obtain ⟨c1, f1⟩ := bcell hb1
      have z1 := (hb1).size
      try simp at z1
      try simp at c1
      try simp at f1
      have z1a : w.heap.size < w1.heap.size := by omega
      have z1b : w.heap.size + 1 < w1.heap.size := by omega
      have z1c : w.heap.size + 1 + 1 < w1.heap.size := by omega
      go_wp2_with fail
      refine (small_any y _ hy).mono ?_
      rintro e w2 ⟨rfl, hb2⟩
      obtain ⟨c2, f2⟩ := bcell hb2
      have z2 := (hb2).size
      try simp at z2
      try simp at c2
      try simp at f2
      have z2a : w.heap.size < w2.heap.size := by omega
      have z2b : w.heap.size + 1 < w2.heap.size := by omega
      have z2c : w.heap.size + 1 + 1 < w2.heap.size := by omega
      go_wp2
      refine bodyPost_ret (v := .tuple #[.agg #[.int .i64 0, .int .i64 0], .int .i64 16]) (by simp [results, Try.results110, go_sem, c1, c2, z1c]) rfl ⟨by rw [H.out]; try rfl, ?_⟩
      repeat (refine Below.setCell ?_ (by first | omega | (simp; done) | (simp; omega)) _)
      exact below_to (below_to (ba3 _ _ _ _) hb1) hb2
    · have b1 : decide (x ≤ 1000000000000000000) = false := by simp; omega
      clear h h1
      go_enter Try.func110, Try.ntmps110
      go_wp2_with fail
      refine (small_any x _ hx).mono ?_
      rintro e w1 ⟨rfl, hb1⟩
      obtain ⟨c1, f1⟩ := bcell hb1
      have z1 := (hb1).size
      try simp at z1
      try simp at c1
      try simp at f1
      have z1a : w.heap.size < w1.heap.size := by omega
      have z1b : w.heap.size + 1 < w1.heap.size := by omega
      have z1c : w.heap.size + 1 + 1 < w1.heap.size := by omega
      go_wp2_with fail
      refine (small_any y _ hy).mono ?_
      rintro e w2 ⟨rfl, hb2⟩
      obtain ⟨c2, f2⟩ := bcell hb2
      have z2 := (hb2).size
      try simp at z2
      try simp at c2
      try simp at f2
      have z2a : w.heap.size < w2.heap.size := by omega
      have z2b : w.heap.size + 1 < w2.heap.size := by omega
      have z2c : w.heap.size + 1 + 1 < w2.heap.size := by omega
      go_wp2
      refine bodyPost_ret (v := .tuple #[.agg #[.int .i64 0, .int .i64 0], .int .i64 16]) (by simp [results, Try.results110, go_sem, c1, c2, z1c]) rfl ⟨by rw [H.out]; try rfl, ?_⟩
      repeat (refine Below.setCell ?_ (by first | omega | (simp; done) | (simp; omega)) _)
      exact below_to (below_to (ba3 _ _ _ _) hb1) hb2

theorem big_of (m : Int) (n : Nat) (w : World) (hm : m = n) (h : n ≤ 18446744073709551615) :
    Calls Try.prog 132 #[.int .u64 m] w fun e w' => e = .returned (.agg #[.int .u64 (dg n 0), .int .u64 (dg n 1), .int .u64 (dg n 2), .int .u64 (dg n 3)]) ∧ Below w.heap.size w w' := by
  subst hm; exact big_any n w h
theorem mul_bd {a b : Nat} (ha : a < 4294967296) (hb : b < 4294967296) : 0 ≤ (a : Int) * b ∧ (a : Int) * b ≤ 18446744065119617025 := by
  have h := Nat.mul_le_mul (show a ≤ 4294967295 by omega) (show b ≤ 4294967295 by omega)
  rw [← Int.natCast_mul]
  generalize a * b = c at *
  omega
theorem and32' (z : Int) (n : Nat) (hz : z = n) (hn : n < 18446744073709551616) : bits BinOp.and IntKind.u64 z 4294967295 = ((n % 4294967296 : Nat) : Int) := by subst hz; exact and32 n hn

/-- The steps of a product of two numbers of two digits. -/
structure Prod4 (x0 x1 y0 y1 : Nat) where
  a0 : Nat
  c0 : Nat
  a1 : Nat
  c1 : Nat
  b1 : Nat
  e0 : Nat
  b2 : Nat
  e1 : Nat
  l0 : a0 < 4294967296
  l1 : a1 < 4294967296
  l2 : b1 < 4294967296
  l3 : b2 < 4294967296
  m0 : c0 < 4294967296
  m1 : c1 < 4294967296
  m2 : e0 < 4294967296
  m3 : e1 < 4294967296
  r1 : bits BinOp.and IntKind.u64 ((x0 : Int) * y0) 4294967295 = a0
  r2 : ((x0 : Int) * y0) / 4294967296 = c0
  r3 : bits BinOp.and IntKind.u64 ((c0 : Int) + (x0 : Int) * y1) 4294967295 = a1
  r4 : ((c0 : Int) + (x0 : Int) * y1) / 4294967296 = c1
  r5 : bits BinOp.and IntKind.u64 ((a1 : Int) + (x1 : Int) * y0) 4294967295 = b1
  r6 : ((a1 : Int) + (x1 : Int) * y0) / 4294967296 = e0
  r7 : bits BinOp.and IntKind.u64 ((e0 : Int) + ((c1 : Int) + (x1 : Int) * y1)) 4294967295 = b2
  r8 : ((e0 : Int) + ((c1 : Int) + (x1 : Int) * y1)) / 4294967296 = e1
  total : (x0 + x1 * 4294967296) * (y0 + y1 * 4294967296) = a0 + b1 * 4294967296 + b2 * 18446744073709551616 + e1 * 79228162514264337593543950336
theorem step32 (p : Nat) (h : p < 18446744073709551616) : p % 4294967296 < 4294967296 ∧ p / 4294967296 < 4294967296 ∧ p = p % 4294967296 + p / 4294967296 * 4294967296 := by omega
theorem prod4 {x0 x1 y0 y1 : Nat} (hx0 : x0 < 4294967296) (hx1 : x1 < 4294967296) (hy0 : y0 < 4294967296) (hy1 : y1 < 4294967296) : Nonempty (Prod4 x0 x1 y0 y1) := by
  have p00 := Nat.mul_le_mul (show x0 ≤ 4294967295 by omega) (show y0 ≤ 4294967295 by omega)
  have p01 := Nat.mul_le_mul (show x0 ≤ 4294967295 by omega) (show y1 ≤ 4294967295 by omega)
  have p10 := Nat.mul_le_mul (show x1 ≤ 4294967295 by omega) (show y0 ≤ 4294967295 by omega)
  have p11 := Nat.mul_le_mul (show x1 ≤ 4294967295 by omega) (show y1 ≤ 4294967295 by omega)
  have hd : (x0 + x1 * 4294967296) * (y0 + y1 * 4294967296) = x0 * y0 + (x0 * y1) * 4294967296 + (x1 * y0) * 4294967296 + (x1 * y1) * 18446744073709551616 := by
    rw [Nat.add_mul, Nat.mul_add, Nat.mul_add]
    rw [show x0 * (y1 * 4294967296) = (x0 * y1) * 4294967296 from (Nat.mul_assoc _ _ _).symm]
    rw [show x1 * 4294967296 * y0 = (x1 * y0) * 4294967296 from by rw [Nat.mul_assoc, Nat.mul_comm 4294967296 y0, Nat.mul_assoc]]
    rw [show x1 * 4294967296 * (y1 * 4294967296) = (x1 * y1) * 18446744073709551616 from by
      rw [Nat.mul_assoc, ← Nat.mul_assoc 4294967296 y1, Nat.mul_comm 4294967296 y1, Nat.mul_assoc y1, ← Nat.mul_assoc x1]]
    omega
  have q00 : (x0 : Int) * y0 = ((x0 * y0 : Nat) : Int) := (Int.natCast_mul _ _).symm
  have q01 : (x0 : Int) * y1 = ((x0 * y1 : Nat) : Int) := (Int.natCast_mul _ _).symm
  have q10 : (x1 : Int) * y0 = ((x1 * y0 : Nat) : Int) := (Int.natCast_mul _ _).symm
  have q11 : (x1 : Int) * y1 = ((x1 * y1 : Nat) : Int) := (Int.natCast_mul _ _).symm
  generalize x0 * y0 = P00 at *
  generalize x0 * y1 = P01 at *
  generalize x1 * y0 = P10 at *
  generalize x1 * y1 = P11 at *
  obtain ⟨s1, s2, s3⟩ := step32 P00 (by omega)
  generalize ha0 : P00 % 4294967296 = a0 at *
  generalize hc0 : P00 / 4294967296 = c0 at *
  obtain ⟨s4, s5, s6⟩ := step32 (c0 + P01) (by omega)
  generalize ha1 : (c0 + P01) % 4294967296 = a1 at *
  generalize hc1 : (c0 + P01) / 4294967296 = c1 at *
  obtain ⟨s7, s8, s9⟩ := step32 (a1 + P10) (by omega)
  generalize hb1 : (a1 + P10) % 4294967296 = b1 at *
  generalize he0 : (a1 + P10) / 4294967296 = e0 at *
  obtain ⟨t1, t2, t3⟩ := step32 (e0 + (c1 + P11)) (by omega)
  generalize hb2 : (e0 + (c1 + P11)) % 4294967296 = b2 at *
  generalize he1 : (e0 + (c1 + P11)) / 4294967296 = e1 at *
  exact ⟨⟨a0, c0, a1, c1, b1, e0, b2, e1, s1, s4, s7, t1, s2, s5, s8, t2,
    by rw [q00, and32 _ (by omega), ha0], by rw [q00]; omega,
    by rw [q01, and32' _ (c0 + P01) (by omega) (by omega), ha1], by rw [q01]; omega,
    by rw [q10, and32' _ (a1 + P10) (by omega) (by omega), hb1], by rw [q10]; omega,
    by rw [q11, and32' _ (e0 + (c1 + P11)) (by omega) (by omega), hb2], by rw [q11]; omega, by rw [hd]; omega⟩⟩


end Go.Proofs.Ytfbigmjlppdlhaa

/- What is proved here: the contracts of fringeref37.Point and Both. Condition: a system and a slice of fractions that can be read; Point: a system that has a row. -/
namespace Go.Proofs.Ytfbigmjlppdlhaa
open Go.RowKit

set_option maxRecDepth 100000 in
set_option maxHeartbeats 4000000 in
theorem rnpt_any (A : List (List Int)) (x : List (Int × Int)) (va vb vx : Value) (w : World) (hA : SS w va A) (hx : SF w vx x) (ix : FI x) (l1 : 0 < A.length) :
    Calls Try.prog 60 #[.agg #[va, vb], vx] w fun e w' => e = .returned (.bool (pointB (A.getD 0 []).length x)) ∧ Below w.heap.size w w' := by
  have IX := Lib.hid ix
  obtain ⟨ada, capa, rfl, ha1, ha2, _⟩ := hA.open
  obtain ⟨adx, capx, rfl, hx1, hx2, _⟩ := hx.open
  clear ix
  have G0 : Hid ((A.getD 0 []).length = A[0].length) := by show _ = _; rw [getD_get l1]
  go_enter Try.func60, Try.ntmps60
  have oS := Own.new w 25 [.slice ada A.length capa, vb]
  have hy := ba1 w (.cells #[.slice ada A.length capa, vb] 25)
  have SA := Lib.hid (hA.below hy)
  have SX := Lib.hid (hx.below hy)
  clear hA hx
  go_wp2_with fail
  generalize w.alloc (.cells #[.slice ada A.length capa, vb] 25) = y1 at *
  go_loopw [5] (fun i wr => ∃ k : Nat, k ≤ x.length ∧ i = .int .i64 k ∧ Hid ((x.take k).all ptB = true) ∧ Below y1.heap.size y1 wr) (fun i _ => x.length - (intOf i).toNat)
  case atStart => exact ⟨0, Nat.zero_le _, rfl, rfl, Below.refl _ _⟩
  case round =>
    obtain ⟨k, hk, rfl, hv, hW⟩ := hrel
    rename World => W
    by_cases hlt : k < x.length
    · obtain ⟨_, _, e, _, _, H⟩ := (SX.out.below hW).open
      cases e
      obtain ⟨b', off', rfl, c1, c2⟩ := H.out k hlt
      obtain ⟨i1, i2⟩ := IX.out.get k hlt
      clear H
      have XN := Lib.hid (fun h => pointB_all (n := (A.getD 0 []).length) (all_not (p := ptB) hlt h))
      have XT := Lib.hid (fun h => all_take (p := ptB) hlt hv.out h)
      have K1 := Lib.hid (ptB_chk (p := x[k]))
      have K2 := Lib.hid (ptB_neg (p := x[k]))
      have K3 := Lib.hid (ptB_ok (p := x[k]))
      generalize x[k].1 = n1 at *
      generalize x[k].2 = d1 at *
      go_wp2_with fail
      refine (rcheck_any n1 d1 _ i1 i2).mono ?_
      rintro e y2 ⟨rfl, hq⟩
      replace c1 := below_cell hq c1
      replace c2 := below_cell hq c2
      replace hW := below_to hW hq
      clear hq
      by_cases h1 : fchk n1 d1 = 0
      case neg =>
        have HV := Lib.hid (XN.out (K1.out h1))
        have b3 : (fchk n1 d1 != 0) = true := by simpa using h1
        clear h1 XN XT K1 K2 K3
        go_wp2
        go_ret
        exact ⟨by rw [HV.out]; try rfl, below_to hy hW⟩
      have b3 : (fchk n1 d1 != 0) = false := by simp [h1]
      by_cases h2 : n1 < 0
      · have HV := Lib.hid (XN.out (K2.out h2))
        have b4 : decide (n1 < 0) = true := by simpa using h2
        clear h1 XN XT K1 K2 K3
        go_wp2
        go_ret
        exact ⟨by rw [HV.out]; try rfl, below_to hy hW⟩
      have b4 : decide (n1 < 0) = false := by simpa using h2
      have HV := Lib.hid (XT.out (K3.out h1 (by omega)))
      clear h1 XN XT K1 K2 K3
      go_wp2
      go_roundw
      case rel => exact ⟨k + 1, by omega, by go_num, HV, hW⟩
      case measure => simp [intOf]; try omega
    · have HV := Lib.hid (pointB_ok (n := (A.getD 0 []).length) (all_end hlt hv.out))
      obtain ⟨_, _, e, _, _, H⟩ := (SA.out.below hW).open
      cases e
      obtain ⟨b, off, ad0, cap0, rfl, d1, d2, d3, _⟩ := H.out 0 l1
      rw [Nat.add_zero] at d1
      clear H
      generalize A[0].length = n at *
      replace oS := oS.below hW
      obtain ⟨rS, fS⟩ := oS.rules
      have zS := oS.lt
      by_cases hl : x.length = n
      · have b5 : ((x.length : Int) == (n : Int)) = true := by simp [hl]
        have HL : Hid (decide (x.length = n) = true) := by show _ = _; simp [hl]
        clear hl
        go_wp2
        go_ret
        exact ⟨by rw [HV.out, G0.out, HL.out]; try rfl, below_to hy hW⟩
      · have b5 : ((x.length : Int) == (n : Int)) = false := by simp; omega
        have HL : Hid (decide (x.length = n) = false) := by show _ = _; simp [hl]
        clear hl
        go_wp2
        go_ret
        exact ⟨by rw [HV.out, G0.out, HL.out]; try rfl, below_to hy hW⟩
set_option maxRecDepth 100000 in
set_option maxHeartbeats 4000000 in
theorem rnboth_any (A : List (List Int)) (B : List Int) (x : List (Int × Int)) (va vb vx : Value) (w : World) (hA : SS w va A) (hB : SI w vb B) (hx : SF w vx x) (ix : FI x) :
    Calls Try.prog 68 #[.agg #[va, vb], vx] w fun e w' => e = .returned (.int .i64 (npoint A B x)) ∧ Below w.heap.size w w' := by
  have IX := Lib.hid ix
  clear ix
  go_enter Try.func68, Try.ntmps68
  have oS := Own.new w 25 [va, vb]
  have hy := ba1 w (.cells #[va, vb] 25)
  replace hA := hA.below hy
  replace hB := hB.below hy
  replace hx := hx.below hy
  obtain ⟨rS, fS⟩ := oS.rules
  have zS := oS.lt
  go_wp2_with fail
  refine (rncheck_any A B _ _ _ hA hB).mono ?_
  rintro e y1 ⟨rfl, hq⟩
  clear rS fS zS
  replace oS := oS.below hq
  replace hA := hA.below hq
  replace hB := hB.below hq
  replace hx := hx.below hq
  replace hy := below_to hy hq
  clear hq
  obtain ⟨rS, fS⟩ := oS.rules
  have zS := oS.lt
  by_cases h0 : ncheck A B = 0
  case neg =>
    have HV := Lib.hid (npoint_c (x := x) h0)
    have b1 : (ncheck A B != 0) = true := by simpa using h0
    clear h0 hA hB hx
    go_wp2
    go_ret
    exact ⟨by rw [HV.out]; try rfl, hy⟩
  have b1 : (ncheck A B != 0) = false := by simp [h0]
  have H0 := Lib.hid h0
  have l1 := ncheck_len h0
  clear h0
  go_wp2_with fail
  refine (rnpt_any A x _ _ _ _ hA hx IX.out l1).mono ?_
  rintro e y2 ⟨rfl, hq⟩
  clear rS fS zS
  replace oS := oS.below hq
  replace hA := hA.below hq
  replace hB := hB.below hq
  replace hx := hx.below hq
  replace hy := below_to hy hq
  clear hq
  obtain ⟨rS, fS⟩ := oS.rules
  have zS := oS.lt
  by_cases hp : pointB (A.getD 0 []).length x = true
  · have HV := Lib.hid (npoint_0 H0.out hp)
    rw [hp]
    clear hp hA hB hx
    go_wp2
    go_ret
    exact ⟨by rw [HV.out]; try rfl, hy⟩
  · have hp' : pointB (A.getD 0 []).length x = false := by simpa using hp
    have HV := Lib.hid (npoint_2 H0.out hp')
    rw [hp']
    clear hp hp' hA hB hx
    go_wp2
    go_ret
    exact ⟨by rw [HV.out]; try rfl, hy⟩
end Go.Proofs.Ytfbigmjlppdlhaa

/- What is proved here: the contract of the reference's Neg. Condition: 64-bit numbers. -/
namespace Go.Proofs.Ytfbigmjlppdlhaa
open Go.RowKit

theorem rneg_any (n d : Int) (w : World) (h1 : -9223372036854775807 ≤ n) (h2 : n ≤ 9223372036854775807) :
    Calls Try.prog 85 #[.agg #[.int .i64 n, .int .i64 d]] w fun e w' => e = .returned (.agg #[.int .i64 (-n), .int .i64 d]) ∧ Below w.heap.size w w' := by
  go_enter Try.func85, Try.ntmps85
  go_wp2
  refine bodyPost_ret (v := .agg #[.int .i64 (-n), .int .i64 d]) (by simp [results, Try.results85, go_sem]) rfl ⟨rfl, ?_⟩
  repeat (refine Below.setCell ?_ (by first | omega | (simp; done) | (simp; omega)) _)
  exact ba2 _ _ _
end Go.Proofs.Ytfbigmjlppdlhaa
