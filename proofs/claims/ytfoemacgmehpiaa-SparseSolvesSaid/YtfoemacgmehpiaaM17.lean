/- What is proved here: contracts of functions and plain facts, several texts in one; each one says ahead what it proves, and its conditions. -/
import Derived.Test.YtfoemacgmehpiaaM05
import Derived.Test.YtfoemacgmehpiaaM01
import Derived.Test.YtfoemacgmehpiaaM10
import Derived.Test.YtfoemacgmehpiaaM02
/- What is proved here: the contract of fringeref37.Check. Condition: a system whose lists can be read. -/
namespace Go.Proofs.Ytfoemacgmehpiaa
open Go.RowKit

set_option maxRecDepth 100000 in
set_option maxHeartbeats 4000000 in
theorem rncheck_any (A : List (List Int)) (B : List Int) (va vb : Value) (w : World) (hA : SS w va A) (hB : SI w vb B) :
    Calls Try.prog 30 #[.agg #[va, vb]] w fun e w' => e = .returned (.int .i64 (ncheck A B)) ∧ Below w.heap.size w w' := by
  have hA0 := Lib.hid hA
  have hB0 := Lib.hid hB
  obtain ⟨ada, capa, rfl, ha1, ha2, _⟩ := hA.open
  obtain ⟨adb, capb, rfl, hb1, hb2, _⟩ := hB.open
  clear hA hB
  by_cases h0 : 5 < A.length
  · have HV := Lib.hid (ncheck_4 (B := B) (.inl h0))
    go_enter Try.func30, Try.ntmps30
    have oS := Own.new w 25 [.slice ada A.length capa, .slice adb B.length capb]
    obtain ⟨rS, fS⟩ := oS.rules
    have zS := oS.lt
    go_wp2
    go_ret
    exact ⟨by rw [HV.out]; try rfl, ba1 _ _⟩
  by_cases h0' : 5 < B.length
  · have HV := Lib.hid (ncheck_4 (A := A) (.inr h0'))
    go_enter Try.func30, Try.ntmps30
    have oS := Own.new w 25 [.slice ada A.length capa, .slice adb B.length capb]
    obtain ⟨rS, fS⟩ := oS.rules
    have zS := oS.lt
    go_wp2
    go_ret
    exact ⟨by rw [HV.out]; try rfl, ba1 _ _⟩
  have H0 : Hid (¬ (5 < A.length ∨ 5 < B.length)) := by show ¬ _; omega
  go_enter Try.func30, Try.ntmps30
  have oS := Own.new w 25 [.slice ada A.length capa, .slice adb B.length capb]
  have hy := ba1 w (.cells #[.slice ada A.length capa, .slice adb B.length capb] 25)
  have sA := Lib.hid (hA0.out.below hy)
  have sB := Lib.hid (hB0.out.below hy)
  clear hA0 hB0
  go_wp2_with fail
  generalize w.alloc (.cells #[.slice ada A.length capa, .slice adb B.length capb] 25) = y at *
  obtain ⟨rS, fS⟩ := oS.rules
  have zS := oS.lt
  go_wp2
  go_loop [3] (fun i => ∃ k : Nat, k ≤ A.length ∧ i = .int .i64 k ∧ Hid (((A.take k).all fun r => decide (r.length ≤ 3)) = true)) (fun i => A.length - (intOf i).toNat)
  case atStart => exact ⟨0, Nat.zero_le _, rfl, rfl⟩
  case round =>
    obtain ⟨k, hk, rfl, hv⟩ := hrel
    by_cases hlt : k < A.length
    · obtain ⟨_, _, e, _, _, H⟩ := sA.out.open
      cases e
      obtain ⟨b, off, ad', cap', rfl, c1, c2, c3, _⟩ := H.out k hlt
      clear H
      by_cases hz : 3 < A[k].length
      · have HV := Lib.hid (ncheck_4' H0.out hlt hz)
        generalize A[k].length = m at *
        go_wp2
        go_ret
        exact ⟨by rw [HV.out]; try rfl, hy⟩
      · have HV := Lib.hid (all_take (p := fun r => decide (r.length ≤ 3)) hlt hv.out (by simp; omega))
        generalize A[k].length = m at *
        go_wp2
        go_round
        case rel => exact ⟨k + 1, by omega, by go_num, HV⟩
        case measure => simp [intOf]; try omega
    · have H1 := Lib.hid (all_end hlt hv.out)
      clear hv
      by_cases hz0 : A.length = 0
      · have HV := Lib.hid (ncheck_8 H0.out H1.out (.inl hz0))
        have q1 : ((A.length : Int) == 0) = true := by rw [hz0]; rfl
        clear hz0
        go_wp2
        go_ret
        exact ⟨by rw [HV.out]; try rfl, hy⟩
      have q1 : ((A.length : Int) == 0) = false := by simpa using hz0
      by_cases hz1 : B.length ≠ A.length
      · have HV := Lib.hid (ncheck_8 H0.out H1.out (.inr (.inl hz1)))
        have q2 : ((B.length : Int) != (A.length : Int)) = true := by simp; omega
        clear hz1
        go_wp2
        go_ret
        exact ⟨by rw [HV.out]; try rfl, hy⟩
      have q2 : ((B.length : Int) != (A.length : Int)) = false := by simp; omega
      have l1 : 0 < A.length := by omega
      have l2 : B.length ≤ A.length := by omega
      have l3 : A.length ≤ B.length := by omega
      obtain ⟨_, _, e, _, _, H⟩ := sA.out.open
      cases e
      obtain ⟨b, off, ad0, cap0, rfl, d1, d2, d3, _⟩ := H.out 0 l1
      rw [Nat.add_zero] at d1
      have H := Lib.hid H
      have G0 := Lib.hid (getD_get (d := []) l1)
      by_cases hz2 : A[0].length = 0
      · have HV := Lib.hid (ncheck_8 H0.out H1.out (.inr (.inr (by rw [G0.out]; exact hz2))))
        have q3 : ((A[0].length : Int) == 0) = true := by rw [hz2]; rfl
        clear hz2 hz1 hz0
        generalize A[0].length = m at *
        go_wp2
        go_ret
        exact ⟨by rw [HV.out]; try rfl, hy⟩
      have H2 : Hid (¬ (A.length = 0 ∨ B.length ≠ A.length ∨ (A.getD 0 []).length = 0)) := by
        show ¬ _
        rw [G0.out]; omega
      have q3 : ((A[0].length : Int) == 0) = false := by simpa using hz2
      have G1 : Hid ((A.getD 0 []).length = A[0].length) := by show _ = _; rw [G0.out]
      clear hz2 hz1 hz0 G0
      generalize A[0].length = n at *
      go_wp2
      clear rS fS zS d1 H
      go_loopw [4] (fun i wr => ∃ k : Nat, k ≤ A.length ∧ i = .int .i64 k ∧ Hid (((A.take k).all fun r => rowOk n r) = true) ∧ Hid (((B.take k).all fun b => decide (-50 ≤ b) && decide (b ≤ 50)) = true) ∧ Below y.heap.size y wr) (fun i _ => A.length - (intOf i).toNat)
      case atStart => exact ⟨0, Nat.zero_le _, rfl, rfl, rfl, Below.refl _ _⟩
      case round =>
        obtain ⟨k, hk, rfl, hv, hu, hB⟩ := hrel
        rename World => W
        replace oS := oS.below hB
        have sA' := Lib.hid (sA.out.below hB)
        have sB' := Lib.hid (sB.out.below hB)
        obtain ⟨rS, fS⟩ := oS.rules
        have zS := oS.lt
        by_cases hlt : k < A.length
        · obtain ⟨_, _, e, _, _, H⟩ := sA'.out.open
          cases e
          obtain ⟨_, _, ad0', cap0', e, d1, d2', d3', _⟩ := H.out 0 l1
          cases e
          rw [Nat.add_zero] at d1
          obtain ⟨b', off', ad', cap', e, c1, c2, c3, s1⟩ := H.out k hlt
          cases e
          clear H
          obtain ⟨_, _, e, _, _, HB⟩ := sB'.out.open
          cases e
          have hkB : k < B.length := by omega
          obtain ⟨b2, off2, rfl, c4⟩ := HB.out k hkB
          clear HB
          have X8 := Lib.hid (fun h => ncheck_8' H0.out H1.out H2.out (.inl h))
          have Y8 := Lib.hid (fun h => ncheck_8' H0.out H1.out H2.out (.inr (all_not hkB h)))
          have XT := Lib.hid (fun h => all_take (p := fun r => rowOk n r) hlt hv.out h)
          have YT := Lib.hid (fun h => all_take (p := fun b => decide (-50 ≤ b) && decide (b ≤ 50)) hkB hu.out h)
          have XN := Lib.hid (fun h => all_not (p := fun r => rowOk n r) hlt h)
          have N0 : Hid (A[0].length = n) := by show _ = _; rw [← G1.out, getD_get l1]
          rw [N0.out] at d1 d2' d3'
          by_cases hw : A[k].length = n
          case neg =>
            have HV := Lib.hid (X8.out (by rw [G1.out]; exact XN.out (by simp [rowOk, hw])))
            have q5 : ((A[k].length : Int) != (n : Int)) = true := by simp; omega
            clear hw X8 Y8 XT YT XN s1
            generalize A[k].length = m at *
            go_wp2
            go_quiet (fail)
            go_wp2
            go_ret
            exact ⟨by rw [HV.out]; try rfl, bd (below_to hy hB) _⟩
          have q5 : ((A[k].length : Int) != (n : Int)) = false := by simp; omega
          have HW := Lib.hid hw
          have l4 : A[k].length ≤ n := by omega
          have l5 : n ≤ A[k].length := by omega
          have S1 := Lib.hid s1
          clear hw s1
          generalize A[k] = row at *
          generalize B[k] = bk at *
          by_cases hb1 : bk < -50
          · have HV := Lib.hid (Y8.out (by simp; omega))
            have q6 : decide (bk < -50) = true := by simpa using hb1
            clear X8 Y8 XT YT XN
            go_wp2
            go_quiet (fail)
            go_wp2
            go_ret
            exact ⟨by rw [HV.out]; try rfl, bd (below_to hy hB) _⟩
          have q6 : decide (bk < -50) = false := by simpa using hb1
          by_cases hb2 : 50 < bk
          · have HV := Lib.hid (Y8.out (by simp; omega))
            have q7 : decide (50 < bk) = true := by simpa using hb2
            clear X8 Y8 XT YT XN
            go_wp2
            go_quiet (fail)
            go_wp2
            go_ret
            exact ⟨by rw [HV.out]; try rfl, bd (below_to hy hB) _⟩
          have q7 : decide (50 < bk) = false := by simpa using hb2
          have YT' := Lib.hid (YT.out (by simp; omega))
          clear Y8 YT
          go_wp2
          go_quiet (fail)
          go_wp2
          have hB' := bd hB nq
          have S1' := Lib.hid (S1.out.below (below_drewN W nq))
          have c1' : (W.drewN nq).cell? ⟨b, off + k, none⟩ = some (.slice ad' row.length cap') := c1
          replace oS := oS.drewN nq
          clear rS fS zS S1 c1 c4 d1
          generalize W.drewN nq = W' at *
          obtain ⟨rS, fS⟩ := oS.rules
          have zS := oS.lt
          go_loop [5] (fun i => ∃ j : Nat, j ≤ row.length ∧ i = .int .i64 j ∧ Hid (((row.take j).all fun a => decide (-5 ≤ a) && decide (a ≤ 5)) = true)) (fun i => row.length - (intOf i).toNat)
          case atStart => exact ⟨0, Nat.zero_le _, rfl, rfl⟩
          case round =>
            obtain ⟨j, hj, rfl, hr⟩ := hrel
            by_cases hjl : j < row.length
            · obtain ⟨_, _, e, _, _, HR⟩ := S1'.out.open
              cases e
              obtain ⟨b3, off3, rfl, c5⟩ := HR.out j hjl
              clear HR
              have RT := Lib.hid (fun h => all_take (p := fun a => decide (-5 ≤ a) && decide (a ≤ 5)) hjl hr.out h)
              have RN := Lib.hid (fun h => all_not (p := fun a => decide (-5 ≤ a) && decide (a ≤ 5)) hjl h)
              generalize row[j] = aj at *
              by_cases ha1 : aj < -5
              · have HV := Lib.hid (X8.out (by rw [G1.out]; exact XN.out (by unfold rowOk; rw [RN.out (by simp; omega)]; simp)))
                have q8 : decide (aj < -5) = true := by simpa using ha1
                clear X8 XT XN RT RN
                go_wp2
                go_ret
                exact ⟨by rw [HV.out]; try rfl, below_to hy hB'⟩
              have q8 : decide (aj < -5) = false := by simpa using ha1
              by_cases ha2 : 5 < aj
              · have HV := Lib.hid (X8.out (by rw [G1.out]; exact XN.out (by unfold rowOk; rw [RN.out (by simp; omega)]; simp)))
                have q9 : decide (5 < aj) = true := by simpa using ha2
                clear X8 XT XN RT RN
                go_wp2
                go_ret
                exact ⟨by rw [HV.out]; try rfl, below_to hy hB'⟩
              have q9 : decide (5 < aj) = false := by simpa using ha2
              have HV := Lib.hid (RT.out (by simp; omega))
              clear X8 XT XN RT RN
              go_wp2
              go_round
              case rel => exact ⟨j + 1, by omega, by go_num, HV⟩
              case measure => simp [intOf]; try omega
            · have HV := Lib.hid (XT.out (by unfold rowOk; rw [all_end hjl hr.out, HW.out]; simp))
              clear X8 XT XN
              go_wp2
              go_roundw
              case rel => exact ⟨k + 1, by omega, by go_num, HV, YT', hB'⟩
              case measure => simp [intOf]; try omega
        · have HV := Lib.hid (ncheck_0 H0.out H1.out H2.out (by rw [G1.out]; exact all_end hlt hv.out) (all_end (xs := B) (k := k) (by omega) hu.out))
          go_wp2
          go_ret
          exact ⟨by rw [HV.out]; try rfl, below_to hy hB⟩
end Go.Proofs.Ytfoemacgmehpiaa

/- What is proved here: the contracts of sparse.ready, sparse.whole and fringeref38.Check. Condition: a system whose lists can be read. -/
namespace Go.Proofs.Ytfoemacgmehpiaa
open Go.RowKit

theorem swhole_any (n : Int) (w : World) : Calls Try.prog 60 #[.int .i64 n] w fun e w' => e = .returned (.agg #[.int .i64 n, .int .i64 1]) ∧ Below w.heap.size w w' := by
  go_enter Try.func60, Try.ntmps60
  go_wp2
  have oR := Own.new w 39 [.int .i64 n, .int .i64 1]
  have hB := ba1 w (.cells #[.int .i64 n, .int .i64 1] 39)
  refine bp_gen' (fun W => Own W _ _ _ ∧ Below w.heap.size w W) ⟨oR, hB⟩ ?_
  rintro wz ⟨oz, bz⟩
  obtain ⟨rz, fz⟩ := oz.rules
  clear oz
  refine bodyPost_ret (v := .agg #[.int .i64 n, .int .i64 1]) (by simp [results, Try.results60, go_sem, rz]) rfl ⟨rfl, ?_⟩
  exact bz
set_option maxRecDepth 100000 in
set_option maxHeartbeats 4000000 in
theorem sready_any (A : List (List Int)) (B : List Int) (c : Int) (va vb : Value) (w : World) (hA : SS w va A) (hB : SI w vb B) :
    Calls Try.prog 55 #[.agg #[va, vb], .int .i64 c] w fun e w' => e = .returned (.int .i64 (scheck A B c)) ∧ Below w.heap.size w w' := by
  go_enter Try.func55, Try.ntmps55
  have oS := Own.new w 25 [va, vb]
  have hy := ba1 w (.cells #[va, vb] 25)
  replace hA := hA.below hy
  replace hB := hB.below hy
  obtain ⟨rS, fS⟩ := oS.rules
  have zS := oS.lt
  go_wp2_with fail
  refine (ncheck_any A B _ _ _ hA hB).mono ?_
  rintro e y1 ⟨rfl, hq⟩
  clear rS fS zS
  replace oS := oS.below hq
  replace hA := hA.below hq
  replace hB := hB.below hq
  replace hy := below_to hy hq
  clear hq
  obtain ⟨rS, fS⟩ := oS.rules
  have zS := oS.lt
  by_cases h0 : ncheck A B = 0
  case neg =>
    have HV := Lib.hid (scheck_c (c := c) h0)
    have b1 : (ncheck A B != 0) = true := by simpa using h0
    clear h0 hA hB
    go_wp2
    go_ret
    exact ⟨by rw [HV.out]; try rfl, hy⟩
  have b1 : (ncheck A B != 0) = false := by simp [h0]
  by_cases h1 : c < 0
  · have HV := Lib.hid (scheck_2 h0 (.inl h1))
    have b2 : decide (c < 0) = true := by simpa using h1
    clear h0 hA hB
    go_wp2
    go_ret
    exact ⟨by rw [HV.out]; try rfl, hy⟩
  have b2 : decide (c < 0) = false := by simpa using h1
  by_cases h2 : 1000 < c
  · have HV := Lib.hid (scheck_2 h0 (.inr h2))
    have b3 : decide (1000 < c) = true := by simpa using h2
    clear h0 hA hB
    go_wp2
    go_ret
    exact ⟨by rw [HV.out]; try rfl, hy⟩
  have b3 : decide (1000 < c) = false := by simpa using h2
  have HV := Lib.hid (scheck_0 (c := c) h0 (by omega) (by omega))
  clear h0 hA hB
  go_wp2
  go_ret
  exact ⟨by rw [HV.out]; try rfl, hy⟩
set_option maxRecDepth 100000 in
set_option maxHeartbeats 4000000 in
theorem rscheck_any (A : List (List Int)) (B : List Int) (c : Int) (va vb : Value) (w : World) (hA : SS w va A) (hB : SI w vb B) :
    Calls Try.prog 17 #[.agg #[va, vb], .int .i64 c] w fun e w' => e = .returned (.int .i64 (scheck A B c)) ∧ Below w.heap.size w w' := by
  go_enter Try.func17, Try.ntmps17
  have oS := Own.new w 25 [va, vb]
  have hy := ba1 w (.cells #[va, vb] 25)
  replace hA := hA.below hy
  replace hB := hB.below hy
  obtain ⟨rS, fS⟩ := oS.rules
  have zS := oS.lt
  go_wp2_with fail
  refine (rncheck_any A B _ _ _ hA hB).mono ?_
  rintro e y1 ⟨rfl, hq⟩
  clear rS fS zS
  replace oS := oS.below hq
  replace hA := hA.below hq
  replace hB := hB.below hq
  replace hy := below_to hy hq
  clear hq
  obtain ⟨rS, fS⟩ := oS.rules
  have zS := oS.lt
  by_cases h0 : ncheck A B = 0
  case neg =>
    have HV := Lib.hid (scheck_c (c := c) h0)
    have b1 : (ncheck A B != 0) = true := by simpa using h0
    clear h0 hA hB
    go_wp2
    go_ret
    exact ⟨by rw [HV.out]; try rfl, hy⟩
  have b1 : (ncheck A B != 0) = false := by simp [h0]
  by_cases h1 : c < 0
  · have HV := Lib.hid (scheck_2 h0 (.inl h1))
    have b2 : decide (c < 0) = true := by simpa using h1
    clear h0 hA hB
    go_wp2
    go_ret
    exact ⟨by rw [HV.out]; try rfl, hy⟩
  have b2 : decide (c < 0) = false := by simpa using h1
  by_cases h2 : 1000 < c
  · have HV := Lib.hid (scheck_2 h0 (.inr h2))
    have b3 : decide (1000 < c) = true := by simpa using h2
    clear h0 hA hB
    go_wp2
    go_ret
    exact ⟨by rw [HV.out]; try rfl, hy⟩
  have b3 : decide (1000 < c) = false := by simpa using h2
  have HV := Lib.hid (scheck_0 (c := c) h0 (by omega) (by omega))
  clear h0 hA hB
  go_wp2
  go_ret
  exact ⟨by rw [HV.out]; try rfl, hy⟩
end Go.Proofs.Ytfoemacgmehpiaa

/- What is proved here: the contract of nnls.column. Condition: a list of rows that can be read, of which each has the column. -/
namespace Go.Proofs.Ytfoemacgmehpiaa
open Go.RowKit

def ints_post (w : World) (xs : List Int) (e : Ending) (w' : World) : Prop := ∃ u, e = .returned u ∧ SI w' u xs ∧ Below w.heap.size w w'
set_option maxRecDepth 100000 in
set_option maxHeartbeats 4000000 in
theorem ncol_any (A : List (List Int)) (k : Nat) (va vb : Value) (w : World) (hA : SS w va A) (l1 : A.length ≤ 100) (hk : ∀ i (h : i < A.length), k < A[i].length) :
    Calls Try.prog 70 #[.agg #[va, vb], .int .i64 k] w (ints_post w (colOf A k)) := by
  have HK := Lib.hid hk
  obtain ⟨ada, capa, rfl, ha1, ha2, _⟩ := hA.open
  clear hk
  go_enter Try.func70, Try.ntmps70
  have oS := Own.new w 25 [.slice ada A.length capa, vb]
  have hy := ba1 w (.cells #[.slice ada A.length capa, vb] 25)
  have SA := Lib.hid (hA.below hy)
  clear hA
  have MK := mk_ints A.length (by omega)
  obtain ⟨rS, fS⟩ := oS.rules
  have zS := oS.lt
  go_wp2
  clear MK rS fS zS
  have oC := own_second w 3 (ics (List.replicate A.length 0)) (.cells #[.slice ada A.length capa, vb] 25)
  have hW := ba1 (w.alloc (.cells #[.slice ada A.length capa, vb] 25)) (.cells (ics (List.replicate A.length 0)).toArray 3)
  have zS := oS.lt
  go_loopw [15] (fun i wr => ∃ m : Nat, m ≤ A.length ∧ i = .int .i64 m ∧ Own wr (w.heap.size + 1) 3 (ics ((colOf A k).take m ++ List.replicate (A.length - m) 0)) ∧ Below (w.alloc (.cells #[.slice ada A.length capa, vb] 25)).heap.size (w.alloc (.cells #[.slice ada A.length capa, vb] 25)) wr) (fun i _ => A.length - (intOf i).toNat)
  case atStart => exact ⟨0, Nat.zero_le _, rfl, by simpa using oC, hW⟩
  case round =>
    clear oC hW
    obtain ⟨m, hm, rfl, oC, hW⟩ := hrel
    rename World => W
    by_cases hlt : m < A.length
    · obtain ⟨_, _, e, _, _, H⟩ := (SA.out.below hW).open
      cases e
      obtain ⟨b, off, ad', cap', rfl, c1, c2, c3, sR⟩ := H.out m hlt
      obtain ⟨_, _, e, _, _, H'⟩ := sR.open
      cases e
      have hkm := HK.out m hlt
      obtain ⟨b', off', rfl, c4⟩ := H'.out k hkm
      have CG := Lib.hid (colOf_get (k := k) hlt)
      rw [cel_get hlt hkm] at CG
      clear H H' sR
      generalize A[m][k] = amk at *
      generalize A[m].length = rl at *
      obtain ⟨v1, g1⟩ := ics_some ((colOf A k).take m ++ List.replicate (A.length - m) 0) m (by have := colOf_len A k; simp; omega)
      obtain ⟨rC, fC⟩ := oC.rules
      have zC := oC.lt
      go_wp2
      go_roundw
      case rel =>
        refine ⟨m + 1, by omega, by go_num, ?_, ?_⟩
        · have o2 := oC.set m (.int .i64 amk)
          unfold ics at o2 ⊢
          rw [fill_set (colOf A k) 0 (Value.int .i64) m A.length (colOf_len A k) hlt amk CG.out] at o2
          exact o2
        · exact hW.setCell (p := ⟨w.heap.size + 1, m, none⟩) (by simp) _
      case measure => simp [intOf]; try omega
    · obtain rfl : m = A.length := by omega
      have hsl : SI W (.slice (some ⟨w.heap.size + 1, 0, none⟩) A.length A.length) (colOf A k) := by
        unfold SI
        rw [colOf_len]
        exact oC.sl (n := A.length) A.length (Nat.le_refl _) (by omega) _ ⟨[], by rw [Nat.sub_self, List.take_of_length_le (by rw [colOf_len]; exact Nat.le_refl _)]; simp [ics]⟩
      clear oC
      go_wp2
      go_ret
      exact ⟨_, rfl, hsl, below_to hy hW⟩
end Go.Proofs.Ytfoemacgmehpiaa
