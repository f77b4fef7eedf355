/- What is proved here: the law SparseDark returns true. Condition: a system that can be read, and a cost. -/
import Derived.Test.YtfoemacgmehpiaaC34
import Derived.Test.YtfoemacgmehpiaaC37
import Derived.Test.YtfoemacgmehpiaaC24
import Derived.Test.YtfoemacgmehpiaaC28
import Derived.Test.YtfoemacgmehpiaaC25
import Derived.Deep.DeepCutAuto
namespace Go.Proofs.Ytfoemacgmehpiaa
open Go.RowKit

theorem spdark_as (A : List (List Int)) (B : List Int) (r : Int × Int) (va vb : Value) (w : World) (hA : SS w va A) (hB : SI w vb B) (hr : sDark A B = r) :
    Calls Try.prog 25 #[.agg #[va, vb]] w fun e w' => e = .returned (.tuple #[.int .i64 r.1, .int .i64 r.2]) ∧ Below w.heap.size w w' := by
  subst hr; exact spdark_any A B va vb w hA hB
set_option maxRecDepth 100000 in
set_option maxHeartbeats 16000000 in
theorem sparseDark_any (A : List (List Int)) (B : List Int) (c : Int) (va vb : Value) (w : World) (hA : SS w va A) (hB : SI w vb B) :
    Calls Try.prog 4 #[.agg #[va, vb], .int .i64 c] w fun e w' => e = .returned (.bool true) ∧ Below w.heap.size w w' := by
  go_enter Try.func4, Try.ntmps4
  have oS := Own.new w 25 [va, vb]
  have hy := ba1 w (.cells #[va, vb] 25)
  replace hA := hA.below hy
  replace hB := hB.below hy
  obtain ⟨rS, fS⟩ := oS.rules
  have zS := oS.lt
  go_wp2_with fail
  refine (alive38_any _).mono ?_
  rintro e y1 ⟨rfl, hq⟩
  clear rS fS zS
  replace oS := oS.below hq
  replace hA := hA.below hq
  replace hB := hB.below hq
  replace hy := below_to hy hq
  clear hq
  obtain ⟨rS, fS⟩ := oS.rules
  have zS := oS.lt
  go_wp2_with fail
  refine (rngreat_any A B _ _ _ hA hB).mono ?_
  rintro e y2 ⟨rfl, hq⟩
  clear rS fS zS
  replace oS := oS.below hq
  replace hA := hA.below hq
  replace hB := hB.below hq
  replace hy := below_to hy hq
  clear hq
  obtain ⟨rS, fS⟩ := oS.rules
  have zS := oS.lt
  by_cases g1 : ngreat A B = true
  · rw [g1]
    clear g1 hA hB
    go_wp2
    go_ret
    exact ⟨by first | rfl | simp, hy⟩
  have g1' : ngreat A B = false := by simpa using g1
  rw [g1']
  clear g1 g1'
  go_wp2_with fail
  refine (rscheck_any A B c _ _ _ hA hB).mono ?_
  rintro e y3 ⟨rfl, hq⟩
  clear rS fS zS
  replace oS := oS.below hq
  replace hA := hA.below hq
  replace hB := hB.below hq
  replace hy := below_to hy hq
  clear hq
  obtain ⟨rS, fS⟩ := oS.rules
  have zS := oS.lt
  by_cases h0 : scheck A B c = 0
  case neg =>
    have q0 : (scheck A B c != 0) = true := by simpa using h0
    clear h0 hA hB
    go_wp2
    go_ret
    exact ⟨by first | rfl | simp, hy⟩
  rw [h0]
  obtain ⟨h9, c0, c1⟩ := scheck_of h0
  have HI := Lib.hid (sol_FI (c := c) (fit_of h9) c0 c1)
  have HS : Hid (sSolve A B c = (nsol A B c (A.getD 0 []).length, nS A B c, 0)) := if_pos h0
  have HD : Hid (sDark A B = (dkN A B (A.getD 0 []).length, 0)) := if_pos h9
  have HB : Hid (sBright (nsol A B c (A.getD 0 []).length) = uf (sm (nsx A B c) 3)) := (sol_s h0).bright
  have D1 := Lib.hid (dark_fact h0).1
  have D2 := Lib.hid (dark_fact h0).2
  have d0 := dkN_nn (A := A) (B := B) (A.getD 0 []).length
  clear h0 h9 c0 c1
  generalize dkN A B (A.getD 0 []).length = d at *
  generalize nS A B c = st at *
  generalize nsol A B c (A.getD 0 []).length = X at *
  generalize sm (nsx A B c) 3 = q at *
  have dn : decide (d < 0) = false := by simp; omega
  go_wp2_with fail
  refine (spdark_as A B _ _ _ _ hA hB HD.out).mono ?_
  rintro e y4 ⟨rfl, hq⟩
  clear rS fS zS
  replace oS := oS.below hq
  replace hA := hA.below hq
  replace hB := hB.below hq
  replace hy := below_to hy hq
  clear hq
  obtain ⟨rS, fS⟩ := oS.rules
  have zS := oS.lt
  go_wp2_with fail
  refine (spsolve_as A B c _ _ _ _ hA hB HS.out).mono ?_
  rintro e y5 ⟨u, rfl, sx, hq⟩
  clear rS fS zS
  replace oS := oS.below hq
  replace hy := below_to hy hq
  clear hq
  obtain ⟨rS, fS⟩ := oS.rules
  have zS := oS.lt
  have sx' : SF y5 u X := sx
  clear sx hA hB
  by_cases hd : d ≤ c
  · obtain ⟨e1, e2⟩ := D1.out hd
    subst e1 e2
    have q1 : decide (d ≤ c) = true := by simpa using hd
    have q3 : (((0 : Nat) : Int) == 0) = true := rfl
    have HB0 : Hid (sBright X = ⟨0, 1, 0⟩) := HB.out
    clear D1 D2 HB HS
    go_wp2_with fail
    refine (sbright_as X _ _ _ sx' HI.out HB0.out).mono ?_
    rintro e y6 ⟨rfl, hq⟩
    clear rS fS zS
    replace oS := oS.below hq
    replace hy := below_to hy hq
    clear hq
    obtain ⟨rS, fS⟩ := oS.rules
    have zS := oS.lt
    clear sx'
    go_upto_region 7 with fail
    have oC := Own.new y6 39 [.int .i64 0, .int .i64 1]
    have hq := ba1 y6 (.cells #[.int .i64 0, .int .i64 1] 39)
    clear rS fS zS
    replace oS := oS.below hq
    replace hy := below_to hy hq
    clear hq
    obtain ⟨bC, hbC⟩ : ∃ b, b = y6.heap.size := ⟨_, rfl⟩
    rw [← hbC] at oC ⊢
    clear hbC
    generalize y6.alloc (.cells #[.int .i64 0, .int .i64 1] 39) = y7 at *
    obtain ⟨rS, fS⟩ := oS.rules
    have zS := oS.lt
    obtain ⟨rC, fC⟩ := oC.rules
    have zC := oC.lt
    go_upto_region 10 with fail
    have gl := @grow_lt
    refine wp_region_grow (by kernel_rfl) (by kernel_rfl) ?_
    repeat (go_big_quiet_step (first | (go_at_call 27; exact Calls.grow_of (rof_any 0 _))))
    refine wpQuiet_nil ?_
    rintro _ ⟨ex, rfl⟩
    replace hy := below_to hy (below_grow y7 ex)
    clear gl
    go_wp2
    go_ret
    exact ⟨by first | rfl | simp, hy⟩
  · obtain ⟨e1, e2⟩ := D2.out (by omega)
    have q1 : decide (d ≤ c) = false := by simpa using hd
    have e3 : 0 < (uf q).n := num_pos.2 e2
    have e4 : decide (0 < (uf q).n) = true := by simpa using e3
    have e5 : ((st : Int) != 0) = true := by simpa using e1
    clear D1 D2 HS e1 e2
    go_wp2_with fail
    refine (sbright_as X _ _ _ sx' HI.out HB.out).mono ?_
    rintro e y6 ⟨rfl, hq⟩
    clear rS fS zS
    replace oS := oS.below hq
    replace hy := below_to hy hq
    clear hq
    obtain ⟨rS, fS⟩ := oS.rules
    have zS := oS.lt
    clear sx'
    go_upto_region 7 with fail
    have oC := Own.new y6 39 [.int .i64 (uf q).n, .int .i64 (uf q).d]
    have hq := ba1 y6 (.cells #[.int .i64 (uf q).n, .int .i64 (uf q).d] 39)
    clear rS fS zS
    replace oS := oS.below hq
    replace hy := below_to hy hq
    clear hq
    obtain ⟨bC, hbC⟩ : ∃ b, b = y6.heap.size := ⟨_, rfl⟩
    rw [← hbC] at oC ⊢
    clear hbC
    generalize y6.alloc (.cells #[.int .i64 (uf q).n, .int .i64 (uf q).d] 39) = y7 at *
    obtain ⟨rS, fS⟩ := oS.rules
    have zS := oS.lt
    obtain ⟨rC, fC⟩ := oC.rules
    have zC := oC.lt
    generalize (uf q).n = qn at *
    go_wp2
    go_ret
    exact ⟨by first | rfl | simp, hy⟩
end Go.Proofs.Ytfoemacgmehpiaa
