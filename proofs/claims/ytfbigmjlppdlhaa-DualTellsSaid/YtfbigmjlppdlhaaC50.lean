/- What is proved here: contracts of functions and plain facts, several texts in one; each one says ahead what it proves, and its conditions. -/
import Derived.Test.YtfbigmjlppdlhaaC44
import Derived.Test.YtfbigmjlppdlhaaC46
import Derived.Test.YtfbigmjlppdlhaaC41
/- What is proved here: the contract of fringeref39.Feasible. Condition: a system and a slice of fractions that can be read. -/
namespace Go.Proofs.Ytfbigmjlppdlhaa
open Go.RowKit

theorem fr_posQ {n d : Int} (h : fchk n d = 0) : 1 ≤ d ∧ d ≤ 9223372036854775807 := by
  have h2 := (Q_ok h).2.2.2
  have h3 := (Q_ok h).2.1
  have h4 := (Rat.divInt n d).den_pos
  omega
set_option maxRecDepth 100000 in
set_option maxHeartbeats 16000000 in
theorem rdfeas_any (A : List (List Int)) (B : List Int) (c : Int) (y : List (Int × Int)) (va vb vy : Value) (w : World) (hA : SS w va A) (hB : SI w vb B) (hx : SF w vy y) (ix : FI y) :
    Calls Try.prog 38 #[.agg #[va, vb], .int .i64 c, vy] w fun e w' => e = .returned (.tuple #[.bool (dfeas A B c y).1, .int .i64 (dfeas A B c y).2]) ∧ Below w.heap.size w w' := by
  have IX := Lib.hid ix
  clear ix
  go_enter Try.func38, Try.ntmps38
  have oS := Own.new w 25 [va, vb]
  have hy := ba1 w (.cells #[va, vb] 25)
  replace hA := hA.below hy
  replace hB := hB.below hy
  replace hx := hx.below hy
  obtain ⟨rS, fS⟩ := oS.rules
  have zS := oS.lt
  go_wp2_with fail
  refine (rdcheck_any A B c y _ _ _ _ hA hB hx IX.out).mono ?_
  rintro e y2 ⟨rfl, hq⟩
  clear rS fS zS
  replace oS := oS.below hq
  replace hA := hA.below hq
  replace hB := hB.below hq
  replace hx := hx.below hq
  replace hy := below_to hy hq
  clear hq
  obtain ⟨rS, fS⟩ := oS.rules
  have zS := oS.lt
  by_cases h0 : dcheck A B c y = 0
  case neg =>
    have HV := Lib.hid (dfeas_c h0)
    have b1 : (dcheck A B c y != 0) = true := by simpa using h0
    clear h0 hA hB hx
    go_wp2
    go_ret2
    exact ⟨by rw [HV.out]; try rfl, hy⟩
  have b1 : (dcheck A B c y != 0) = false := by simp [h0]
  obtain ⟨hs, hw⟩ := dcheck_of h0
  obtain ⟨hn, hc1, hc2⟩ := scheck_of hs
  have D0 := Lib.hid h0
  have FY := Lib.hid (FitY.ofC hn hw)
  clear h0 hs hw hn
  have F1 := Lib.hid (dfeas_1 D0.out)
  have F2 := Lib.hid (dfeas_0 D0.out)
  generalize (A.getD 0 []).length = n at *
  go_wp2_with fail
  refine (rdcol_any A y n _ _ _ _ hA hx FY.out).mono ?_
  rintro e y3 ⟨ul, rfl, sl, hq⟩
  clear rS fS zS
  replace oS := oS.below hq
  replace hA := hA.below hq
  replace hB := hB.below hq
  replace hx := hx.below hq
  replace hy := below_to hy hq
  clear hq
  obtain ⟨rS, fS⟩ := oS.rules
  have zS := oS.lt
  by_cases h2 : (dsums A y n).2 = 0
  case neg =>
    have HV := Lib.hid (F1.out h2)
    have b3 : ((dsums A y n).2 != 0) = true := by simpa using h2
    clear h2 sl hA hB hx F1 F2
    go_wp2
    go_ret2
    exact ⟨by rw [HV.out]; try rfl, hy⟩
  have b3 : ((dsums A y n).2 != 0) = false := by simp [h2]
  have HV := Lib.hid (F2.out h2)
  have DO := Lib.hid (dsums_ok FY.out h2).2
  clear h2 hA hB hx F1 F2
  generalize (dsums A y n).1 = ls at *
  obtain ⟨adl, capl, rfl, hl1, hl2, _⟩ := sl.open
  have SL := Lib.hid sl
  have CK := Lib.hid (fchk_small (a := c) (by omega) hc2)
  have CI : Hid (i64 c) := ⟨by omega, by omega⟩
  clear sl rS fS zS oS
  go_wp2
  go_loopw [11] (fun i wr => ∃ k : Nat, k ≤ ls.length ∧ i = .int .i64 k ∧ Hid (feasB ls c k = true) ∧ Below y3.heap.size y3 wr) (fun i _ => ls.length - (intOf i).toNat)
  case atStart => exact ⟨0, Nat.zero_le _, rfl, rfl, Below.refl _ _⟩
  case round =>
    obtain ⟨k, hk, rfl, hv, hW⟩ := hrel
    rename World => W
    by_cases hlt : k < ls.length
    · obtain ⟨_, _, e, _, _, H⟩ := (SL.out.below hW).open
      cases e
      obtain ⟨b, off, rfl, c1, c2⟩ := H.out k hlt
      clear H
      have VK := Lib.hid (DO.out k hlt)
      have NS := Lib.hid (feasB_succ (c := c) hlt hv.out)
      have NN := Lib.hid (feasB_not (l := ls) (c := c) (n := ls.length) hlt hlt)
      have I1 := Lib.hid (fr_i64 VK.out)
      have IP := Lib.hid (fr_posQ VK.out)
      generalize ls[k].1 = fn at *
      generalize ls[k].2 = fd at *
      have zb := World.block_lt_of_cell? _ _ c1
      simp only at zb
      have gl := @grow_lt
      go_wp2
      go_wp2_with fail
      refine wp_region_st [.t [0, 2, 3, 4, 5], .f 1, .f 6] [] (by kernel_rfl) (by kernel_rfl) (fun _ _ _ _ _ h => h) ?_
      refine wpX_t ?_
      try simp only [opsAt, List.getElem?_toArray, List.getElem?_cons_zero, List.getElem?_cons_succ, Option.getD_some]
      repeat (go_big_quiet_step (fail))
      refine wpQuiet_nil ?_
      refine wpX_f rfl rfl (fun K' hK' => ?_)
      go_simp
      refine (rof_any c _).mono ?_
      rintro e y5 ⟨rfl, hq1⟩
      refine hK' _ _ (grow_of (below_to ((Below.refl _ _).drew) hq1)) ?_
      clear hK' K'
      refine wpX_f rfl rfl (fun K' hK' => ?_)
      go_simp
      refine (less_any c 1 fn fd _ CI.out (by decide) (by decide) I1.out.1 IP.out.1 IP.out.2).mono ?_
      rintro e y6 ⟨rfl, hq2⟩
      refine hK' _ _ (grow_of (below_to (below_to ((Below.refl _ _).drew) hq1) hq2)) ?_
      clear hK' K'
      refine wpX_nil ?_
      try simp only [opsAt, List.getElem?_toArray, List.getElem?_cons_zero, List.getElem?_cons_succ, Option.getD_some]
      have hq : Below W.heap.size W y6 := below_to (below_to ((Below.refl _ _).drew) hq1) hq2
      clear gl hq1 hq2 c1 c2 zb
      replace hW := below_to hW hq
      clear hq
      by_cases h3 : fcmp c 1 fn fd = -1
      · have b4 : decide (fcmp c 1 fn fd = -1) = true := by simpa using h3
        rw [b4]
        have HN := Lib.hid (NN.out h3)
        clear h3 b4 NS NN
        go_wp2
        go_ret2
        exact ⟨by rw [HV.out, HN.out]; try rfl, below_to hy hW⟩
      · have b4 : decide (fcmp c 1 fn fd = -1) = false := by simpa using h3
        rw [b4]
        have HN := Lib.hid (NS.out h3)
        clear h3 b4 NS NN
        go_wp2
        go_roundw
        case rel => exact ⟨k + 1, by omega, by go_num, HN, hW⟩
        case measure => simp [intOf]; try omega
    · obtain rfl : k = ls.length := by omega
      go_wp2
      go_ret2
      exact ⟨by rw [HV.out, hv.out]; try rfl, below_to hy hW⟩
end Go.Proofs.Ytfbigmjlppdlhaa
