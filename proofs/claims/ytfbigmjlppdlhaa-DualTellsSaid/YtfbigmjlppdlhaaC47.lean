/- What is proved here: contracts of functions and plain facts, several texts in one; each one says ahead what it proves, and its conditions. -/
import Derived.Test.YtfbigmjlppdlhaaC40
import Derived.Test.YtfbigmjlppdlhaaC46
import Derived.Test.YtfbigmjlppdlhaaC06
import Derived.Test.YtfbigmjlppdlhaaC41
/- What is proved here: the contract of dual.Feasible. Condition: a system and a slice of fractions that can be read. -/
namespace Go.Proofs.Ytfbigmjlppdlhaa
open Go.RowKit

theorem costQ_of {A : List (List Int)} {B : List Int} {c : Int} (h : ncheck A B = 0) (hc : costB c = true) : scheck A B c = 0 ∧ 0 ≤ c ∧ c ≤ 1000 := by
  simp only [costB, Bool.and_eq_true, decide_eq_true_eq] at hc
  exact ⟨scheck_0 h hc.1 hc.2, hc⟩
theorem costQ_no {A : List (List Int)} {B : List Int} {c : Int} (h : ncheck A B = 0) (hc : costB c = false) : scheck A B c = 2 := by
  refine scheck_2 h ?_
  rcases Int.lt_or_le c 0 with h1 | h1
  · exact .inl h1
  · right
    by_cases h2 : c ≤ 1000
    · simp [costB, h1, h2] at hc
    · omega
set_option maxRecDepth 100000 in
set_option maxHeartbeats 16000000 in
theorem dfeas_any (A : List (List Int)) (B : List Int) (c : Int) (y : List (Int × Int)) (va vb vy : Value) (w : World) (hA : SS w va A) (hB : SI w vb B) (hx : SF w vy y) (ix : FI y) :
    Calls Try.prog 37 #[.agg #[va, vb], .int .i64 c, vy] w fun e w' => e = .returned (.tuple #[.bool (dfeas A B c y).1, .int .i64 (dfeas A B c y).2]) ∧ Below w.heap.size w w' := by
  have IX := Lib.hid ix
  clear ix
  go_enter Try.func37, Try.ntmps37
  have oS := Own.new w 25 [va, vb]
  have hy := ba1 w (.cells #[va, vb] 25)
  replace hA := hA.below hy
  replace hB := hB.below hy
  replace hx := hx.below hy
  obtain ⟨rS, fS⟩ := oS.rules
  have zS := oS.lt
  go_wp2_with fail
  refine (ncheck_any A B _ _ _ hA hB).mono ?_
  rintro e y1 ⟨rfl, hq⟩
  clear rS fS zS
  replace oS := oS.below hq
  replace hA := hA.below hq
  replace hB := hB.below hq
  replace hx := hx.below hq
  replace hy := below_to hy hq
  clear hq
  obtain ⟨rS, fS⟩ := oS.rules
  have zS := oS.lt
  by_cases h0 : ncheck A B = 0
  case neg =>
    have E0 := Lib.hid (scheck_c (c := c) h0)
    have E1 := Lib.hid (dcheck_c (y := y) (show ¬ scheck A B c = 0 by rw [E0.out]; exact h0))
    have HV := Lib.hid (dfeas_c (show ¬ dcheck A B c y = 0 by rw [E1.out, E0.out]; exact h0))
    have b1 : (ncheck A B != 0) = true := by simpa using h0
    clear h0 hA hB hx
    go_wp2
    go_ret2
    exact ⟨by rw [HV.out, E1.out, E0.out]; try rfl, hy⟩
  have b1 : (ncheck A B != 0) = false := by simp [h0]
  go_wp2_with fail
  refine (dcost_any c _).mono ?_
  rintro e _ ⟨rfl, rfl⟩
  by_cases hc : costB c = true
  case neg =>
    have hc' : costB c = false := by simpa using hc
    have E0 := Lib.hid (costQ_no h0 hc')
    have E1 := Lib.hid (dcheck_c (y := y) (show ¬ scheck A B c = 0 by rw [E0.out]; decide))
    have HV := Lib.hid (dfeas_c (show ¬ dcheck A B c y = 0 by rw [E1.out, E0.out]; decide))
    rw [hc']
    clear h0 hc hc' hA hB hx
    go_wp2
    go_ret2
    exact ⟨by rw [HV.out, E1.out, E0.out]; try rfl, hy⟩
  obtain ⟨hs, hc1, hc2⟩ := costQ_of h0 hc
  rw [hc]
  have HS := Lib.hid hs
  have H0 := Lib.hid h0
  clear hc hs h0
  go_wp2_with fail
  refine (dwitB_any A y _ _ _ _ hA hx IX.out).mono ?_
  rintro e y2 ⟨rfl, hq⟩
  clear rS fS zS
  replace oS := oS.below hq
  replace hA := hA.below hq
  replace hB := hB.below hq
  replace hx := hx.below hq
  replace hy := below_to hy hq
  clear hq
  obtain ⟨rS, fS⟩ := oS.rules
  have zS := oS.lt
  by_cases hp : witB A.length y = true
  case neg =>
    have hp' : witB A.length y = false := by simpa using hp
    have E1 := Lib.hid (dcheck_2 HS.out hp')
    have HV := Lib.hid (dfeas_c (show ¬ dcheck A B c y = 0 by rw [E1.out]; decide))
    rw [hp']
    clear hp hp' hA hB hx
    go_wp2
    go_ret2
    exact ⟨by rw [HV.out, E1.out]; try rfl, hy⟩
  have D0 := Lib.hid (dcheck_0 HS.out hp)
  have FY := Lib.hid (FitY.ofC H0.out hp)
  rw [hp]
  clear hp
  have F1 := Lib.hid (dfeas_1 D0.out)
  have F2 := Lib.hid (dfeas_0 D0.out)
  generalize (A.getD 0 []).length = n at *
  go_wp2_with fail
  refine (dsums_any A y n _ _ _ _ hA hx FY.out).mono ?_
  rintro e y3 ⟨ul, rfl, sl, hq⟩
  clear rS fS zS
  replace oS := oS.below hq
  replace hA := hA.below hq
  replace hB := hB.below hq
  replace hx := hx.below hq
  replace hy := below_to hy hq
  clear hq
  obtain ⟨rS, fS⟩ := oS.rules
  have zS := oS.lt
  by_cases h2 : (dsums A y n).2 = 0
  case neg =>
    have HV := Lib.hid (F1.out h2)
    have b3 : ((dsums A y n).2 != 0) = true := by simpa using h2
    clear h2 sl hA hB hx F1 F2
    go_wp2
    go_ret2
    exact ⟨by rw [HV.out]; try rfl, hy⟩
  have b3 : ((dsums A y n).2 != 0) = false := by simp [h2]
  have HV := Lib.hid (F2.out h2)
  have DO := Lib.hid (dsums_ok FY.out h2).2
  clear h2 hA hB hx F1 F2
  generalize (dsums A y n).1 = ls at *
  obtain ⟨adl, capl, rfl, hl1, hl2, _⟩ := sl.open
  have SL := Lib.hid sl
  have CK := Lib.hid (fchk_small (a := c) (by omega) hc2)
  have CI : Hid (i64 c) := ⟨by omega, by omega⟩
  clear sl rS fS zS oS
  go_wp2
  go_loopw [40] (fun i wr => ∃ k : Nat, k ≤ ls.length ∧ i = .int .i64 k ∧ Hid (feasB ls c k = true) ∧ Below y3.heap.size y3 wr) (fun i _ => ls.length - (intOf i).toNat)
  case atStart => exact ⟨0, Nat.zero_le _, rfl, rfl, Below.refl _ _⟩
  case round =>
    obtain ⟨k, hk, rfl, hv, hW⟩ := hrel
    rename World => W
    by_cases hlt : k < ls.length
    · obtain ⟨_, _, e, _, _, H⟩ := (SL.out.below hW).open
      cases e
      obtain ⟨b, off, rfl, c1, c2⟩ := H.out k hlt
      clear H
      have VK := Lib.hid (DO.out k hlt)
      have NS := Lib.hid (feasB_succ (c := c) hlt hv.out)
      have NN := Lib.hid (feasB_not (l := ls) (c := c) (n := ls.length) hlt hlt)
      have I1 := Lib.hid (fr_i64 VK.out)
      have FZ := Lib.hid (fcmpZ_ok VK.out CK.out)
      have F0 := Lib.hid (fboth_of VK.out CK.out)
      have FL := Lib.hid (fcmp_flip (an := ls[k].1) (ad := ls[k].2) (bn := c) (bd := 1))
      generalize ls[k].1 = fn at *
      generalize ls[k].2 = fd at *
      go_wp2_with fail
      have oF := Own.new W 34 [.int .i64 fn, .int .i64 fd]
      have hq0 := ba1 W (.cells #[.int .i64 fn, .int .i64 fd] 34)
      obtain ⟨bF, hbF⟩ : ∃ G, G = W.heap.size := ⟨_, rfl⟩
      rw [← hbF] at oF ⊢
      clear hbF
      generalize W.alloc (.cells #[.int .i64 fn, .int .i64 fd] 34) = W2 at *
      replace hW := below_to hW hq0
      have gl := @grow_lt
      clear hq0 c1 c2
      obtain ⟨rF, fF⟩ := oF.rules
      have zF := oF.lt
      go_wp2_with fail
      refine wp_region_stt [.t [0, 1], .f 2, .f 3] [4, 5, 6] [7, 8] (by kernel_rfl) (by kernel_rfl) (fun _ _ _ _ _ h => h) ?_
      refine wpX_t ?_
      try simp only [opsAt, List.getElem?_toArray, List.getElem?_cons_zero, List.getElem?_cons_succ, Option.getD_some]
      repeat (go_big_quiet_step (fail))
      refine wpQuiet_nil ?_
      refine wpX_f rfl rfl (fun K' hK' => ?_)
      go_simp
      refine (dwhole_any c _).mono ?_
      rintro e y5 ⟨rfl, hq1⟩
      refine hK' _ _ (grow_of (below_to ((Below.refl _ _).drew) hq1)) ?_
      clear hK' K'
      refine wpX_f rfl rfl (fun K' hK' => ?_)
      go_simp
      refine (cmp_any fn fd c 1 _ I1.out.1 I1.out.2 CI.out d_one).mono ?_
      rintro e y6 ⟨rfl, hq2⟩
      refine hK' _ _ (grow_of (below_to (below_to ((Below.refl _ _).drew) hq1) hq2)) ?_
      clear hK' K'
      rw [FZ.out, F0.out]
      refine wpX_nil ?_
      try simp only [opsAt, List.getElem?_toArray, List.getElem?_cons_zero, List.getElem?_cons_succ, Option.getD_some]
      repeat (go_big_quiet_step (fail))
      refine wpQuiet_nil ?_
      try simp only [opsAt, List.getElem?_toArray, List.getElem?_cons_zero, List.getElem?_cons_succ, Option.getD_some]
      have hq : Below W2.heap.size W2 y6 := below_to (below_to ((Below.refl _ _).drew) hq1) hq2
      clear gl hq1 hq2 rF fF zF
      replace hW := below_to hW hq
      clear hq oF
      by_cases h3 : fcmp c 1 fn fd = -1
      · have h4 := FL.out.2 h3
        have b4 : decide (0 < fcmp fn fd c 1) = true := by simpa using h4
        have HN := Lib.hid (NN.out h3)
        clear h3 FL NS NN
        go_wp2
        go_ret2
        exact ⟨by rw [HV.out, HN.out]; try rfl, below_to hy hW⟩
      · have h4 : ¬ 0 < fcmp fn fd c 1 := fun h => h3 (FL.out.1 h)
        have b4 : decide (0 < fcmp fn fd c 1) = false := by simpa using h4
        have HN := Lib.hid (NS.out h3)
        clear h3 FL NS NN
        go_wp2
        go_roundw
        case rel => exact ⟨k + 1, by omega, by go_num, HN, hW⟩
        case measure => simp [intOf]; try omega
    · obtain rfl : k = ls.length := by omega
      go_wp2
      go_ret2
      exact ⟨by rw [HV.out, hv.out]; try rfl, below_to hy hW⟩
end Go.Proofs.Ytfbigmjlppdlhaa
