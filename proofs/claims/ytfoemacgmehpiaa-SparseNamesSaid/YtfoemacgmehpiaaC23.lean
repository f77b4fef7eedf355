/- What is proved here: contracts of functions and plain facts, several texts in one; each one says ahead what it proves, and its conditions. -/
import Derived.Test.YtfoemacgmehpiaaC05
import Derived.Test.YtfoemacgmehpiaaC01
import Derived.Test.YtfoemacgmehpiaaC13
/- What is proved here: the contract of fringeref37.Check. Condition: a system whose lists can be read. -/
namespace Go.Proofs.Ytfoemacgmehpiaa
open Go.RowKit

set_option maxRecDepth 100000 in
set_option maxHeartbeats 4000000 in
theorem rncheck_any (A : List (List Int)) (B : List Int) (va vb : Value) (w : World) (hA : SS w va A) (hB : SI w vb B) :
    Calls Try.prog 30 #[.agg #[va, vb]] w fun e w' => e = .returned (.int .i64 (ncheck A B)) ∧ Below w.heap.size w w' := by
  have hA0 := Lib.hid hA
  have hB0 := Lib.hid hB
  obtain ⟨ada, capa, rfl, ha1, ha2, _⟩ := hA.open
  obtain ⟨adb, capb, rfl, hb1, hb2, _⟩ := hB.open
  clear hA hB
  by_cases h0 : 5 < A.length
  · have HV := Lib.hid (ncheck_4 (B := B) (.inl h0))
    go_enter Try.func30, Try.ntmps30
    have oS := Own.new w 25 [.slice ada A.length capa, .slice adb B.length capb]
    obtain ⟨rS, fS⟩ := oS.rules
    have zS := oS.lt
    go_wp2
    go_ret
    exact ⟨by rw [HV.out]; try rfl, ba1 _ _⟩
  by_cases h0' : 5 < B.length
  · have HV := Lib.hid (ncheck_4 (A := A) (.inr h0'))
    go_enter Try.func30, Try.ntmps30
    have oS := Own.new w 25 [.slice ada A.length capa, .slice adb B.length capb]
    obtain ⟨rS, fS⟩ := oS.rules
    have zS := oS.lt
    go_wp2
    go_ret
    exact ⟨by rw [HV.out]; try rfl, ba1 _ _⟩
  have H0 : Hid (¬ (5 < A.length ∨ 5 < B.length)) := by show ¬ _; omega
  go_enter Try.func30, Try.ntmps30
  have oS := Own.new w 25 [.slice ada A.length capa, .slice adb B.length capb]
  have hy := ba1 w (.cells #[.slice ada A.length capa, .slice adb B.length capb] 25)
  have sA := Lib.hid (hA0.out.below hy)
  have sB := Lib.hid (hB0.out.below hy)
  clear hA0 hB0
  go_wp2_with fail
  generalize w.alloc (.cells #[.slice ada A.length capa, .slice adb B.length capb] 25) = y at *
  obtain ⟨rS, fS⟩ := oS.rules
  have zS := oS.lt
  go_wp2
  go_loop [3] (fun i => ∃ k : Nat, k ≤ A.length ∧ i = .int .i64 k ∧ Hid (((A.take k).all fun r => decide (r.length ≤ 3)) = true)) (fun i => A.length - (intOf i).toNat)
  case atStart => exact ⟨0, Nat.zero_le _, rfl, rfl⟩
  case round =>
    obtain ⟨k, hk, rfl, hv⟩ := hrel
    by_cases hlt : k < A.length
    · obtain ⟨_, _, e, _, _, H⟩ := sA.out.open
      cases e
      obtain ⟨b, off, ad', cap', rfl, c1, c2, c3, _⟩ := H.out k hlt
      clear H
      by_cases hz : 3 < A[k].length
      · have HV := Lib.hid (ncheck_4' H0.out hlt hz)
        generalize A[k].length = m at *
        go_wp2
        go_ret
        exact ⟨by rw [HV.out]; try rfl, hy⟩
      · have HV := Lib.hid (all_take (p := fun r => decide (r.length ≤ 3)) hlt hv.out (by simp; omega))
        generalize A[k].length = m at *
        go_wp2
        go_round
        case rel => exact ⟨k + 1, by omega, by go_num, HV⟩
        case measure => simp [intOf]; try omega
    · have H1 := Lib.hid (all_end hlt hv.out)
      clear hv
      by_cases hz0 : A.length = 0
      · have HV := Lib.hid (ncheck_8 H0.out H1.out (.inl hz0))
        have q1 : ((A.length : Int) == 0) = true := by rw [hz0]; rfl
        clear hz0
        go_wp2
        go_ret
        exact ⟨by rw [HV.out]; try rfl, hy⟩
      have q1 : ((A.length : Int) == 0) = false := by simpa using hz0
      by_cases hz1 : B.length ≠ A.length
      · have HV := Lib.hid (ncheck_8 H0.out H1.out (.inr (.inl hz1)))
        have q2 : ((B.length : Int) != (A.length : Int)) = true := by simp; omega
        clear hz1
        go_wp2
        go_ret
        exact ⟨by rw [HV.out]; try rfl, hy⟩
      have q2 : ((B.length : Int) != (A.length : Int)) = false := by simp; omega
      have l1 : 0 < A.length := by omega
      have l2 : B.length ≤ A.length := by omega
      have l3 : A.length ≤ B.length := by omega
      obtain ⟨_, _, e, _, _, H⟩ := sA.out.open
      cases e
      obtain ⟨b, off, ad0, cap0, rfl, d1, d2, d3, _⟩ := H.out 0 l1
      rw [Nat.add_zero] at d1
      have H := Lib.hid H
      have G0 := Lib.hid (getD_get (d := []) l1)
      by_cases hz2 : A[0].length = 0
      · have HV := Lib.hid (ncheck_8 H0.out H1.out (.inr (.inr (by rw [G0.out]; exact hz2))))
        have q3 : ((A[0].length : Int) == 0) = true := by rw [hz2]; rfl
        clear hz2 hz1 hz0
        generalize A[0].length = m at *
        go_wp2
        go_ret
        exact ⟨by rw [HV.out]; try rfl, hy⟩
      have H2 : Hid (¬ (A.length = 0 ∨ B.length ≠ A.length ∨ (A.getD 0 []).length = 0)) := by
        show ¬ _
        rw [G0.out]; omega
      have q3 : ((A[0].length : Int) == 0) = false := by simpa using hz2
      have G1 : Hid ((A.getD 0 []).length = A[0].length) := by show _ = _; rw [G0.out]
      clear hz2 hz1 hz0 G0
      generalize A[0].length = n at *
      go_wp2
      clear rS fS zS d1 H
      go_loopw [4] (fun i wr => ∃ k : Nat, k ≤ A.length ∧ i = .int .i64 k ∧ Hid (((A.take k).all fun r => rowOk n r) = true) ∧ Hid (((B.take k).all fun b => decide (-50 ≤ b) && decide (b ≤ 50)) = true) ∧ Below y.heap.size y wr) (fun i _ => A.length - (intOf i).toNat)
      case atStart => exact ⟨0, Nat.zero_le _, rfl, rfl, rfl, Below.refl _ _⟩
      case round =>
        obtain ⟨k, hk, rfl, hv, hu, hB⟩ := hrel
        rename World => W
        replace oS := oS.below hB
        have sA' := Lib.hid (sA.out.below hB)
        have sB' := Lib.hid (sB.out.below hB)
        obtain ⟨rS, fS⟩ := oS.rules
        have zS := oS.lt
        by_cases hlt : k < A.length
        · obtain ⟨_, _, e, _, _, H⟩ := sA'.out.open
          cases e
          obtain ⟨_, _, ad0', cap0', e, d1, d2', d3', _⟩ := H.out 0 l1
          cases e
          rw [Nat.add_zero] at d1
          obtain ⟨b', off', ad', cap', e, c1, c2, c3, s1⟩ := H.out k hlt
          cases e
          clear H
          obtain ⟨_, _, e, _, _, HB⟩ := sB'.out.open
          cases e
          have hkB : k < B.length := by omega
          obtain ⟨b2, off2, rfl, c4⟩ := HB.out k hkB
          clear HB
          have X8 := Lib.hid (fun h => ncheck_8' H0.out H1.out H2.out (.inl h))
          have Y8 := Lib.hid (fun h => ncheck_8' H0.out H1.out H2.out (.inr (all_not hkB h)))
          have XT := Lib.hid (fun h => all_take (p := fun r => rowOk n r) hlt hv.out h)
          have YT := Lib.hid (fun h => all_take (p := fun b => decide (-50 ≤ b) && decide (b ≤ 50)) hkB hu.out h)
          have XN := Lib.hid (fun h => all_not (p := fun r => rowOk n r) hlt h)
          have N0 : Hid (A[0].length = n) := by show _ = _; rw [← G1.out, getD_get l1]
          rw [N0.out] at d1 d2' d3'
          by_cases hw : A[k].length = n
          case neg =>
            have HV := Lib.hid (X8.out (by rw [G1.out]; exact XN.out (by simp [rowOk, hw])))
            have q5 : ((A[k].length : Int) != (n : Int)) = true := by simp; omega
            clear hw X8 Y8 XT YT XN s1
            generalize A[k].length = m at *
            go_wp2
            go_quiet (fail)
            go_wp2
            go_ret
            exact ⟨by rw [HV.out]; try rfl, bd (below_to hy hB) _⟩
          have q5 : ((A[k].length : Int) != (n : Int)) = false := by simp; omega
          have HW := Lib.hid hw
          have l4 : A[k].length ≤ n := by omega
          have l5 : n ≤ A[k].length := by omega
          have S1 := Lib.hid s1
          clear hw s1
          generalize A[k] = row at *
          generalize B[k] = bk at *
          by_cases hb1 : bk < -50
          · have HV := Lib.hid (Y8.out (by simp; omega))
            have q6 : decide (bk < -50) = true := by simpa using hb1
            clear X8 Y8 XT YT XN
            go_wp2
            go_quiet (fail)
            go_wp2
            go_ret
            exact ⟨by rw [HV.out]; try rfl, bd (below_to hy hB) _⟩
          have q6 : decide (bk < -50) = false := by simpa using hb1
          by_cases hb2 : 50 < bk
          · have HV := Lib.hid (Y8.out (by simp; omega))
            have q7 : decide (50 < bk) = true := by simpa using hb2
            clear X8 Y8 XT YT XN
            go_wp2
            go_quiet (fail)
            go_wp2
            go_ret
            exact ⟨by rw [HV.out]; try rfl, bd (below_to hy hB) _⟩
          have q7 : decide (50 < bk) = false := by simpa using hb2
          have YT' := Lib.hid (YT.out (by simp; omega))
          clear Y8 YT
          go_wp2
          go_quiet (fail)
          go_wp2
          have hB' := bd hB nq
          have S1' := Lib.hid (S1.out.below (below_drewN W nq))
          have c1' : (W.drewN nq).cell? ⟨b, off + k, none⟩ = some (.slice ad' row.length cap') := c1
          replace oS := oS.drewN nq
          clear rS fS zS S1 c1 c4 d1
          generalize W.drewN nq = W' at *
          obtain ⟨rS, fS⟩ := oS.rules
          have zS := oS.lt
          go_loop [5] (fun i => ∃ j : Nat, j ≤ row.length ∧ i = .int .i64 j ∧ Hid (((row.take j).all fun a => decide (-5 ≤ a) && decide (a ≤ 5)) = true)) (fun i => row.length - (intOf i).toNat)
          case atStart => exact ⟨0, Nat.zero_le _, rfl, rfl⟩
          case round =>
            obtain ⟨j, hj, rfl, hr⟩ := hrel
            by_cases hjl : j < row.length
            · obtain ⟨_, _, e, _, _, HR⟩ := S1'.out.open
              cases e
              obtain ⟨b3, off3, rfl, c5⟩ := HR.out j hjl
              clear HR
              have RT := Lib.hid (fun h => all_take (p := fun a => decide (-5 ≤ a) && decide (a ≤ 5)) hjl hr.out h)
              have RN := Lib.hid (fun h => all_not (p := fun a => decide (-5 ≤ a) && decide (a ≤ 5)) hjl h)
              generalize row[j] = aj at *
              by_cases ha1 : aj < -5
              · have HV := Lib.hid (X8.out (by rw [G1.out]; exact XN.out (by unfold rowOk; rw [RN.out (by simp; omega)]; simp)))
                have q8 : decide (aj < -5) = true := by simpa using ha1
                clear X8 XT XN RT RN
                go_wp2
                go_ret
                exact ⟨by rw [HV.out]; try rfl, below_to hy hB'⟩
              have q8 : decide (aj < -5) = false := by simpa using ha1
              by_cases ha2 : 5 < aj
              · have HV := Lib.hid (X8.out (by rw [G1.out]; exact XN.out (by unfold rowOk; rw [RN.out (by simp; omega)]; simp)))
                have q9 : decide (5 < aj) = true := by simpa using ha2
                clear X8 XT XN RT RN
                go_wp2
                go_ret
                exact ⟨by rw [HV.out]; try rfl, below_to hy hB'⟩
              have q9 : decide (5 < aj) = false := by simpa using ha2
              have HV := Lib.hid (RT.out (by simp; omega))
              clear X8 XT XN RT RN
              go_wp2
              go_round
              case rel => exact ⟨j + 1, by omega, by go_num, HV⟩
              case measure => simp [intOf]; try omega
            · have HV := Lib.hid (XT.out (by unfold rowOk; rw [all_end hjl hr.out, HW.out]; simp))
              clear X8 XT XN
              go_wp2
              go_roundw
              case rel => exact ⟨k + 1, by omega, by go_num, HV, YT', hB'⟩
              case measure => simp [intOf]; try omega
        · have HV := Lib.hid (ncheck_0 H0.out H1.out H2.out (by rw [G1.out]; exact all_end hlt hv.out) (all_end (xs := B) (k := k) (by omega) hu.out))
          go_wp2
          go_ret
          exact ⟨by rw [HV.out]; try rfl, below_to hy hB⟩
end Go.Proofs.Ytfoemacgmehpiaa

/- What is proved here: the contract of fringeref37.Point. Condition: a system and a slice of fractions that can be read; Point: a system that has a row. -/
namespace Go.Proofs.Ytfoemacgmehpiaa
open Go.RowKit

set_option maxRecDepth 100000 in
set_option maxHeartbeats 4000000 in
theorem rnpt_any (A : List (List Int)) (x : List (Int × Int)) (va vb vx : Value) (w : World) (hA : SS w va A) (hx : SF w vx x) (ix : FI x) (l1 : 0 < A.length) :
    Calls Try.prog 19 #[.agg #[va, vb], vx] w fun e w' => e = .returned (.bool (pointB (A.getD 0 []).length x)) ∧ Below w.heap.size w w' := by
  have IX := Lib.hid ix
  obtain ⟨ada, capa, rfl, ha1, ha2, _⟩ := hA.open
  obtain ⟨adx, capx, rfl, hx1, hx2, _⟩ := hx.open
  clear ix
  have G0 : Hid ((A.getD 0 []).length = A[0].length) := by show _ = _; rw [getD_get l1]
  go_enter Try.func19, Try.ntmps19
  have oS := Own.new w 25 [.slice ada A.length capa, vb]
  have hy := ba1 w (.cells #[.slice ada A.length capa, vb] 25)
  have SA := Lib.hid (hA.below hy)
  have SX := Lib.hid (hx.below hy)
  clear hA hx
  go_wp2_with fail
  generalize w.alloc (.cells #[.slice ada A.length capa, vb] 25) = y1 at *
  go_loopw [5] (fun i wr => ∃ k : Nat, k ≤ x.length ∧ i = .int .i64 k ∧ Hid ((x.take k).all ptB = true) ∧ Below y1.heap.size y1 wr) (fun i _ => x.length - (intOf i).toNat)
  case atStart => exact ⟨0, Nat.zero_le _, rfl, rfl, Below.refl _ _⟩
  case round =>
    obtain ⟨k, hk, rfl, hv, hW⟩ := hrel
    rename World => W
    by_cases hlt : k < x.length
    · obtain ⟨_, _, e, _, _, H⟩ := (SX.out.below hW).open
      cases e
      obtain ⟨b', off', rfl, c1, c2⟩ := H.out k hlt
      obtain ⟨i1, i2⟩ := IX.out.get k hlt
      clear H
      have XN := Lib.hid (fun h => pointB_all (n := (A.getD 0 []).length) (all_not (p := ptB) hlt h))
      have XT := Lib.hid (fun h => all_take (p := ptB) hlt hv.out h)
      have K1 := Lib.hid (ptB_chk (p := x[k]))
      have K2 := Lib.hid (ptB_neg (p := x[k]))
      have K3 := Lib.hid (ptB_ok (p := x[k]))
      generalize x[k].1 = n1 at *
      generalize x[k].2 = d1 at *
      go_wp2_with fail
      refine (rcheck_any n1 d1 _ i1 i2).mono ?_
      rintro e y2 ⟨rfl, hq⟩
      replace c1 := below_cell hq c1
      replace c2 := below_cell hq c2
      replace hW := below_to hW hq
      clear hq
      by_cases h1 : fchk n1 d1 = 0
      case neg =>
        have HV := Lib.hid (XN.out (K1.out h1))
        have b3 : (fchk n1 d1 != 0) = true := by simpa using h1
        clear h1 XN XT K1 K2 K3
        go_wp2
        go_ret
        exact ⟨by rw [HV.out]; try rfl, below_to hy hW⟩
      have b3 : (fchk n1 d1 != 0) = false := by simp [h1]
      by_cases h2 : n1 < 0
      · have HV := Lib.hid (XN.out (K2.out h2))
        have b4 : decide (n1 < 0) = true := by simpa using h2
        clear h1 XN XT K1 K2 K3
        go_wp2
        go_ret
        exact ⟨by rw [HV.out]; try rfl, below_to hy hW⟩
      have b4 : decide (n1 < 0) = false := by simpa using h2
      have HV := Lib.hid (XT.out (K3.out h1 (by omega)))
      clear h1 XN XT K1 K2 K3
      go_wp2
      go_roundw
      case rel => exact ⟨k + 1, by omega, by go_num, HV, hW⟩
      case measure => simp [intOf]; try omega
    · have HV := Lib.hid (pointB_ok (n := (A.getD 0 []).length) (all_end hlt hv.out))
      obtain ⟨_, _, e, _, _, H⟩ := (SA.out.below hW).open
      cases e
      obtain ⟨b, off, ad0, cap0, rfl, d1, d2, d3, _⟩ := H.out 0 l1
      rw [Nat.add_zero] at d1
      clear H
      generalize A[0].length = n at *
      replace oS := oS.below hW
      obtain ⟨rS, fS⟩ := oS.rules
      have zS := oS.lt
      by_cases hl : x.length = n
      · have b5 : ((x.length : Int) == (n : Int)) = true := by simp [hl]
        have HL : Hid (decide (x.length = n) = true) := by show _ = _; simp [hl]
        clear hl
        go_wp2
        go_ret
        exact ⟨by rw [HV.out, G0.out, HL.out]; try rfl, below_to hy hW⟩
      · have b5 : ((x.length : Int) == (n : Int)) = false := by simp; omega
        have HL : Hid (decide (x.length = n) = false) := by show _ = _; simp [hl]
        clear hl
        go_wp2
        go_ret
        exact ⟨by rw [HV.out, G0.out, HL.out]; try rfl, below_to hy hW⟩
end Go.Proofs.Ytfoemacgmehpiaa

/- What is proved here: slices of known numbers and fractions that were just made. No condition but the sizes. -/
namespace Go.Proofs.Ytfoemacgmehpiaa
open Go.RowKit

theorem si_of_own {w : World} {g : Nat} {T : TypeId} (xs : List Int) (n : Nat) (hn : xs.length = n) (hm : n ≤ 1000) (h : Own w g T (xs.map (Value.int .i64))) : SI w (.slice (some ⟨g, 0, none⟩) n n) xs := by
  unfold SI; rw [hn]
  exact h.sl n (Nat.le_refl _) (by omega) _ ⟨[], by simp⟩
theorem sf_of_own {w : World} {g : Nat} {T : TypeId} (xs : List (Int × Int)) (n : Nat) (hn : xs.length = n) (hm : n ≤ 1000) (h : Own w g T (fcs xs)) : SF w (.slice (some ⟨g, 0, none⟩) n n) xs := by
  unfold SF; rw [hn]
  exact h.sl n (Nat.le_refl _) (by omega) _ ⟨[], by simp⟩
theorem ss_nil (w : World) : SS w (.slice none 0 0) [] := ⟨[], rfl, ⟨none, 0, rfl, Nat.le_refl _, by decide, fun i x hx => by simp at hx⟩, fun i h => by simp at h⟩
theorem si_nil (w : World) : SI w (.slice none 0 0) [] := ⟨none, 0, rfl, Nat.le_refl _, by decide, fun i x hx => by simp at hx⟩
theorem ss_of_own {w : World} {g : Nat} {T : TypeId} (xss : List (List Int)) (vs : List Value) (n : Nat) (hn : xss.length = n) (hv : vs.length = n) (hm : n ≤ 1000) (h : Own w g T vs) (hr : ∀ i (h : i < xss.length) (h' : i < vs.length), SI w vs[i] xss[i]) : SS w (.slice (some ⟨g, 0, none⟩) n n) xss := by
  refine ⟨vs, by omega, ?_, hr⟩
  rw [hn]
  exact h.sl n (Nat.le_refl _) (by omega) _ ⟨[], by simp⟩
theorem fi_of (xs : List (Int × Int)) (h : (xs.all fun p => decide (-9223372036854775808 ≤ p.1) && decide (p.1 ≤ 9223372036854775807) && (decide (-9223372036854775808 ≤ p.2) && decide (p.2 ≤ 9223372036854775807))) = true) : FI xs := by
  intro p hp
  have := List.all_eq_true.1 h p hp
  simp only [Bool.and_eq_true, decide_eq_true_eq] at this
  exact ⟨⟨this.1.1, this.1.2⟩, ⟨this.2.1, this.2.2⟩⟩
theorem own_4th (w : World) (T : TypeId) (cs : List Value) (o1 o2 o3 : Obj) : Own ((((w.alloc o1).alloc o2).alloc o3).alloc (.cells cs.toArray T (0, 0))) (w.heap.size + 1 + 1 + 1) T cs := by
  have h := own_third (w.alloc o1) T cs o2 o3
  rw [show (w.alloc o1).heap.size = w.heap.size + 1 from by simp] at h
  exact h
theorem own_fifth (w : World) (T : TypeId) (cs : List Value) (o1 o2 o3 o4 : Obj) : Own (((((w.alloc o1).alloc o2).alloc o3).alloc o4).alloc (.cells cs.toArray T (0, 0))) (w.heap.size + 1 + 1 + 1 + 1) T cs := by
  have h := own_4th (w.alloc o1) T cs o2 o3 o4
  rw [show (w.alloc o1).heap.size = w.heap.size + 1 from by simp] at h
  exact h
theorem own_sixth (w : World) (T : TypeId) (cs : List Value) (o1 o2 o3 o4 o5 : Obj) : Own ((((((w.alloc o1).alloc o2).alloc o3).alloc o4).alloc o5).alloc (.cells cs.toArray T (0, 0))) (w.heap.size + 1 + 1 + 1 + 1 + 1) T cs := by
  have h := own_fifth (w.alloc o1) T cs o2 o3 o4 o5
  rw [show (w.alloc o1).heap.size = w.heap.size + 1 from by simp] at h
  exact h
theorem ba5 (w : World) (o1 o2 o3 o4 o5 : Obj) : Below w.heap.size w (((((w.alloc o1).alloc o2).alloc o3).alloc o4).alloc o5) := (ba4 w o1 o2 o3 o4).alloc (by simp; omega) _
theorem ba6 (w : World) (o1 o2 o3 o4 o5 o6 : Obj) : Below w.heap.size w ((((((w.alloc o1).alloc o2).alloc o3).alloc o4).alloc o5).alloc o6) := (ba5 w o1 o2 o3 o4 o5).alloc (by simp; omega) _
theorem fr_is {a : FR} {x y z : Int} (h : a.n = x ∧ a.d = y ∧ a.e = z) : a = ⟨x, y, z⟩ := by
  obtain ⟨h1, h2, h3⟩ := h
  cases a; simp_all
/-- A system that a call returns. -/
def sys_post (w : World) (A : List (List Int)) (B : List Int) (e : Ending) (w' : World) : Prop := ∃ va vb, e = .returned (.agg #[va, vb]) ∧ SS w' va A ∧ SI w' vb B ∧ Below w.heap.size w w'
/-- Fractions that a call returns. -/
def fracs_post (w : World) (xs : List (Int × Int)) (e : Ending) (w' : World) : Prop := ∃ u, e = .returned u ∧ SF w' u xs ∧ Below w.heap.size w w'
end Go.Proofs.Ytfoemacgmehpiaa
