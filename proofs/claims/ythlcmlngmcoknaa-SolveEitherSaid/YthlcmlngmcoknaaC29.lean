/- What is proved here: contracts of functions and plain facts, several texts in one; each one says ahead what it proves, and its conditions. -/
import Derived.Test.YthlcmlngmcoknaaC27
import Derived.Test.YthlcmlngmcoknaaC28
import Derived.Test.YthlcmlngmcoknaaC16
import Derived.Test.YthlcmlngmcoknaaC01
import Derived.Deep.DeepCutAuto
/- What is proved here: the contract of the reference's Accept of layer 29. Condition: a system and a slice of fractions that can be read. -/
namespace Go.Proofs.Ythlcmlngmcoknaa
open Go.RowKit

set_option maxRecDepth 100000 in
set_option maxHeartbeats 8000000 in
theorem roaccept_any (A : List (List Int)) (B : List Int) (x : List (Int × Int)) (va vb vx : Value) (w : World) (hA : SS w va A) (hB : SI w vb B) (hx : SF w vx x) (ix : FI x) :
    Calls Try.prog 25 #[.agg #[va, vb], vx] w fun e w' => e = .returned (.tuple #[.bool (oaccept A B x).1, .int .i64 (oaccept A B x).2]) ∧ Below w.heap.size w w' := by
  have IX := Lib.hid ix
  clear ix
  go_enter Try.func25, Try.ntmps25
  have oS := Own.new w 25 [va, vb]
  have hy := ba1 w (.cells #[va, vb] 25)
  replace hA := hA.below hy
  replace hB := hB.below hy
  replace hx := hx.below hy
  obtain ⟨rS, fS⟩ := oS.rules
  have zS := oS.lt
  go_wp2_with fail
  refine (rocheck_any A B _ _ _ hA hB).mono ?_
  rintro e y1 ⟨rfl, hq⟩
  clear rS fS zS
  replace oS := oS.below hq
  replace hA := hA.below hq
  replace hB := hB.below hq
  replace hx := hx.below hq
  replace hy := below_to hy hq
  clear hq
  obtain ⟨rS, fS⟩ := oS.rules
  have zS := oS.lt
  by_cases h0 : ocheck A B = 0
  case neg =>
    have HV := Lib.hid (oaccept_c (x := x) h0)
    have b1 : (ocheck A B != 0) = true := by simpa using h0
    clear h0 hx
    go_wp2_with fail
    refine (rocheck_any A B _ _ _ hA hB).mono ?_
    rintro e y1b ⟨rfl, hq⟩
    replace hy := below_to hy hq
    clear hq hA hB rS fS zS oS
    go_wp2
    go_ret2
    exact ⟨by rw [HV.out]; try rfl, hy⟩
  have SY := Lib.hid (sys_of h0)
  have E0 := Lib.hid (fun h => oaccept_f (x := x) h0 h)
  have E1 := Lib.hid (fun h => oaccept_0 (x := x) h0 h)
  rw [h0]
  clear h0
  have r1 := SY.out.rows.1
  have r6 := SY.out.rows.2
  have n1 := SY.out.cols.1
  have n6 := SY.out.cols.2
  have W0 := Lib.hid (SY.out.wide 0 r1)
  have BL := Lib.hid SY.out.right
  obtain ⟨ada, capa, e, ha1, ha2, H⟩ := hA.open
  subst e
  obtain ⟨b, off, ad0, cap0, rfl, d1, d2, d3, _⟩ := H.out 0 r1
  rw [W0.out] at d1 d2 d3
  rw [Nat.add_zero] at d1
  clear H
  have rows1 : (0 : Int) < A.length := by omega
  generalize hn : (A.getD 0 []).length = n at *
  have HN := Lib.hid hn
  clear hn
  go_wp2_with fail
  refine (rofrac_any x n _ _ hx IX.out).mono ?_
  rintro e y2 ⟨rfl, hq⟩
  clear d1
  clear rS fS zS
  replace oS := oS.below hq
  replace hA := hA.below hq
  replace hB := hB.below hq
  replace hx := hx.below hq
  replace hy := below_to hy hq
  clear hq
  obtain ⟨rS, fS⟩ := oS.rules
  have zS := oS.lt
  cases hf : frB x n with
  | false =>
    have HV := Lib.hid (E0.out hf)
    clear hf E0 E1
    go_wp2
    go_ret2
    exact ⟨by rw [HV.out]; try rfl, hy⟩
  | true =>
  have HV := Lib.hid (E1.out hf)
  obtain ⟨f1, f2⟩ := frB_of hf
  have F1 := Lib.hid f1
  have F2 := Lib.hid f2
  clear hf E0 E1 f1 f2
  obtain ⟨adx, capx, rfl, _, _, _⟩ := hx.open
  obtain ⟨adb, capb, rfl, _, _, _⟩ := hB.open
  have SA := Lib.hid hA
  have SB2 := Lib.hid hB
  have SX := Lib.hid hx
  have OS := Lib.hid oS
  clear hA hB hx
  go_wp2
  clear rS fS zS oS
  go_loopw [6] (fun i wr => ∃ k : Nat, k ≤ A.length ∧ i = .int .i64 k ∧ Hid (oacc A B x k = true) ∧ Below y2.heap.size y2 wr) (fun i _ => A.length + 1 - (intOf i).toNat)
  case atStart => exact ⟨0, Nat.zero_le _, rfl, rfl, Below.refl _ _⟩
  case round =>
    obtain ⟨k, hk, rfl, hv, hC⟩ := hrel
    rename World => W
    have oS := OS.out.below hC
    by_cases hlt : k < A.length
    · obtain ⟨_, _, e, _, _, H⟩ := (SA.out.below hC).open
      cases e
      obtain ⟨b', off', ad', cap', e, c1, c2, c3, s1⟩ := H.out k hlt
      cases e
      have hkB : k < B.length := by rw [BL.out]; exact hlt
      obtain ⟨_, _, e, _, _, HB⟩ := (SB2.out.below hC).open
      cases e
      obtain ⟨b2, off2, rfl, c4⟩ := HB.out k hkB
      clear H HB
      have WK : A[k].length = n := SY.out.wide k hlt
      have HS := Lib.hid (fun h => oacc_succ (x := x) hlt hkB hv.out h)
      have HN2 := Lib.hid (fun h => oacc_not (x := x) (n := A.length) hlt hlt hkB h)
      have CF : Hid (∀ i (h : i < A[k].length), -1000 ≤ A[k][i] ∧ A[k][i] ≤ 1000) := fun i h => by have := SY.out.coef k hlt i h; omega
      have WL := Lib.hid WK
      have S1 := Lib.hid s1
      clear s1 WK
      generalize A[k] = row at *
      generalize B[k] = bk at *
      have zb := World.block_lt_of_cell? _ _ c1
      have zb2 := World.block_lt_of_cell? _ _ c4
      simp only at zb zb2
      have gl := @grow_lt
      obtain ⟨rS, fS⟩ := oS.rules
      have zS := oS.lt
      go_wp2
      go_wp2_with fail
      refine wp_region_st [.t [0, 1, 2, 3, 4, 5, 6, 7, 8, 9, 10], .f 11, .f 12] [13] (by kernel_rfl) (by kernel_rfl) (fun _ _ _ _ _ h => h) ?_
      refine wpX_t ?_
      try simp only [opsAt, List.getElem?_toArray, List.getElem?_cons_zero, List.getElem?_cons_succ, Option.getD_some]
      repeat (go_big_quiet_step (fail))
      refine wpQuiet_nil ?_
      refine wpX_f rfl rfl (fun K' hK' => ?_)
      go_simp
      refine (rof_any bk _).mono ?_
      rintro e z1 ⟨rfl, hq1⟩
      refine hK' _ _ (grow_of (below_to ((Below.refl _ _).drew) hq1)) ?_
      clear hK' K'
      refine wpX_f rfl rfl (fun K' hK' => ?_)
      go_simp
      refine (rogives_any row x bk _ _ _ (S1.out.below (below_to ((Below.refl W.heap.size W).drew) hq1)) ((SX.out.below hC).below (below_to ((Below.refl W.heap.size W).drew) hq1)) (by rw [WL.out, F1.out]; exact Nat.le_refl _) CF.out F2.out).mono ?_
      rintro e z2 ⟨rfl, hq2⟩
      refine hK' _ _ (grow_of (below_to (below_to ((Below.refl _ _).drew) hq1) hq2)) ?_
      clear hK' K'
      refine wpX_nil ?_
      try simp only [opsAt, List.getElem?_toArray, List.getElem?_cons_zero, List.getElem?_cons_succ, Option.getD_some]
      have hq := below_to (below_to ((Below.refl W.heap.size W).drew) hq1) hq2
      clear gl rS fS zS oS c1 c4 zb zb2
      replace hC := below_to hC hq
      clear hq hq1 hq2
      cases hs : osums row x bk with
      | false =>
        have HZ := Lib.hid (HN2.out hs)
        clear HS HN2 hs
        go_wp2
        go_ret2
        exact ⟨by rw [HV.out, HZ.out]; try rfl, below_to hy hC⟩
      | true =>
        have HZ := Lib.hid (HS.out hs)
        clear HS HN2 hs
        go_wp2
        go_roundw
        case rel => exact ⟨k + 1, by omega, by go_num, HZ, hC⟩
        case measure => simp [intOf]; try omega
    · obtain rfl : k = A.length := by omega
      obtain ⟨rS, fS⟩ := oS.rules
      have zS := oS.lt
      go_wp2
      go_ret2
      exact ⟨by rw [HV.out, hv.out]; try rfl, below_to hy hC⟩
end Go.Proofs.Ythlcmlngmcoknaa
