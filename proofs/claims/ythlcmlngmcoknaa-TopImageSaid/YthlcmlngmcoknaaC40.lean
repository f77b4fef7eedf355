/- What is proved here: contracts of functions and plain facts, several texts in one; each one says ahead what it proves, and its conditions. -/
import Derived.Test.YthlcmlngmcoknaaC39
import Derived.Test.YthlcmlngmcoknaaC29
import Derived.Test.YthlcmlngmcoknaaC11
import Derived.Test.YthlcmlngmcoknaaC33
/- What is proved here: the contract of dual.Make. Condition: a system and a slice of fractions that can be read. -/
namespace Go.Proofs.Ythlcmlngmcoknaa
open Go.RowKit

theorem costB_of {A : List (List Int)} {B : List Int} {c : Int} (h : ncheck A B = 0) (hc : costB c = true) : scheck A B c = 0 ∧ 0 ≤ c ∧ c ≤ 1000 := by
  simp only [costB, Bool.and_eq_true, decide_eq_true_eq] at hc
  exact ⟨scheck_0 h hc.1 hc.2, hc⟩
theorem costB_no {A : List (List Int)} {B : List Int} {c : Int} (h : ncheck A B = 0) (hc : costB c = false) : scheck A B c = 2 := by
  refine scheck_2 h ?_
  rcases Int.lt_or_le c 0 with h1 | h1
  · exact .inl h1
  · right
    by_cases h2 : c ≤ 1000
    · simp [costB, h1, h2] at hc
    · omega
/-- 'l[1:]' of a list that has an element. -/
theorem run_rest {P : Program} (t e : TypeId) (size bytes : Nat) (z : Value) (ht : P.underlying t = some (.slice e)) (hi : (P.info? e).map (fun i => (i.zero, i.size, i.bytes)) = some (some z, size, bytes)) (b off n n1 cap c1 O : Nat) (hn : n = n1 + 1) (hc : cap = c1 + 1) (hO : O = if c1 = 0 then off else off + size) (w : World) :
    (Instr.slice t (.slice (some ⟨b, off, none⟩) n cap) (some (.int .i64 1)) none none).run P w = .ok (.slice (some ⟨b, O, none⟩) n1 c1) w := by
  obtain ⟨i0, hi0, _, hz1, _⟩ := info_parts hi
  subst hn hc hO
  by_cases h0 : c1 = 0
  · subst h0
    simp [Instr.slice, Instr.sliceBounds, Instr.sliceBound, asIntOf, run_underlying ht, sizeOf, typeInfo, hi0]
    omega
  · have h1 : ¬ c1 + 1 = 1 := by omega
    have h2 : (1 : Int) ≤ (n1 : Int) + 1 := by omega
    by_cases hs : size = 0
    · subst hs
      simp [Instr.slice, Instr.sliceBounds, Instr.sliceBound, asIntOf, run_underlying ht, sizeOf, typeInfo, hi0, h0, h2, hz1, Addr.add]
    · simp [Instr.slice, Instr.sliceBounds, Instr.sliceBound, asIntOf, run_underlying ht, sizeOf, typeInfo, hi0, h0, h2, hz1, Addr.add, hs]
set_option maxRecDepth 100000 in
set_option maxHeartbeats 32000000 in
theorem dmake_any (A : List (List Int)) (B : List Int) (c : Int) (x : List (Int × Int)) (va vb vx : Value) (w : World) (hA : SS w va A) (hB : SI w vb B) (hx : SF w vx x) (ix : FI x) :
    Calls Try.prog 95 #[.agg #[va, vb], .int .i64 c, vx] w (rows_post w (dMake A B c x)) := by
  have IX := Lib.hid ix
  clear ix
  go_enter Try.func95, Try.ntmps95
  have oS := Own.new w 25 [va, vb]
  have hy := ba1 w (.cells #[va, vb] 25)
  replace hA := hA.below hy
  replace hB := hB.below hy
  replace hx := hx.below hy
  obtain ⟨rS, fS⟩ := oS.rules
  have zS := oS.lt
  go_wp2_with fail
  refine (ncheck_any A B _ _ _ hA hB).mono ?_
  rintro e y1 ⟨rfl, hq⟩
  clear rS fS zS
  replace oS := oS.below hq
  replace hA := hA.below hq
  replace hB := hB.below hq
  replace hx := hx.below hq
  replace hy := below_to hy hq
  clear hq
  obtain ⟨rS, fS⟩ := oS.rules
  have zS := oS.lt
  by_cases h0 : ncheck A B = 0
  case neg =>
    have E0 := Lib.hid (scheck_c (c := c) h0)
    have HV := Lib.hid (dMake_c (x := x) (show ¬ scheck A B c = 0 by rw [E0.out]; exact h0))
    have b1 : (ncheck A B != 0) = true := by simpa using h0
    clear h0 hA hB hx
    go_wp2
    go_ret2
    exact ⟨.slice none 0 0, by rw [HV.out, E0.out]; try rfl, by rw [HV.out]; exact sf_nil _, hy⟩
  have b1 : (ncheck A B != 0) = false := by simp [h0]
  have l0 := ncheck_len h0
  go_wp2_with fail
  refine (dcost_any c _).mono ?_
  rintro e _ ⟨rfl, rfl⟩
  by_cases hc : costB c = true
  case neg =>
    have hc' : costB c = false := by simpa using hc
    have E0 := Lib.hid (costB_no h0 hc')
    have HV := Lib.hid (dMake_c (x := x) (show ¬ scheck A B c = 0 by rw [E0.out]; decide))
    rw [hc']
    clear h0 hc hc' hA hB hx
    go_wp2
    go_ret2
    exact ⟨.slice none 0 0, by rw [HV.out, E0.out]; try rfl, by rw [HV.out]; exact sf_nil _, hy⟩
  obtain ⟨hs, hc1, hc2⟩ := costB_of h0 hc
  rw [hc]
  have HS := Lib.hid hs
  have H0 := Lib.hid h0
  clear hc hs h0
  go_wp2_with fail
  refine (dpt_any A x _ _ _ _ hA hx IX.out l0).mono ?_
  rintro e y2 ⟨rfl, hq⟩
  clear rS fS zS
  replace oS := oS.below hq
  replace hA := hA.below hq
  replace hB := hB.below hq
  replace hx := hx.below hq
  replace hy := below_to hy hq
  clear hq
  obtain ⟨rS, fS⟩ := oS.rules
  have zS := oS.lt
  by_cases hp : pointB (A.getD 0 []).length x = true
  case neg =>
    have hp' : pointB (A.getD 0 []).length x = false := by simpa using hp
    have HV := Lib.hid (dMake_p HS.out hp')
    rw [hp']
    clear hp hp' hA hB hx
    go_wp2
    go_ret2
    exact ⟨.slice none 0 0, by rw [HV.out]; try rfl, by rw [HV.out]; exact sf_nil _, hy⟩
  have HP := Lib.hid (npoint_0 H0.out hp)
  rw [hp]
  clear hp
  have zS2 := zS
  have oS2 := Lib.hid oS
  go_wp2_with fail
  refine (nresid_own A B x _ _ _ _ hA hB hx IX.out).mono ?_
  rintro e y3 ⟨u, rfl, su, hq⟩
  have hW := hq
  clear hq rS fS zS oS
  by_cases h1 : (nResidual A B x).2 = 0
  case neg =>
    have HV := Lib.hid (dMake_r HS.out h1)
    have b2 : ((nResidual A B x).2 != 0) = true := by simpa using h1
    clear h1 hA hB hx su
    go_wp2
    go_ret2
    exact ⟨.slice none 0 0, by rw [HV.out]; try rfl, by rw [HV.out]; exact sf_nil _, below_to hy hW⟩
  have b2 : ((nResidual A B x).2 != 0) = false := by simp [h1]
  have HV := Lib.hid (dMake_0 HS.out h1)
  obtain ⟨_, hpe⟩ := nresid_parts h1
  have RO := Lib.hid (resid_ok (FitX.of HP.out) (by rw [← hpe]; exact h1))
  rw [← hpe] at RO
  clear h1 hpe
  generalize (nResidual A B x).1 = rs at *
  have l3 : rs.length ≤ 100 := by rw [RO.out.1]; exact (FitX.of HP.out).few.1
  have l4 : 0 < rs.length := by rw [RO.out.1]; exact l0
  have FY := Lib.hid (FitY.of HP.out (r := negs rs) (by rw [negs_len]; exact RO.out.1) (negs_val RO.out.2))
  have SA := Lib.hid hA
  obtain ⟨G, cap, rest, rfl, hG, oG, hc3, hc4, hc5⟩ := owns_open su l4
  have HC5 := Lib.hid hc5
  unfold maxLen at hc4
  clear su hc5 hA hB hx
  go_wp2
  go_loopw [47] (fun i wr => ∃ m : Nat, m ≤ rs.length ∧ i = .int .i64 m ∧ Own wr G 78 (fcs ((negs rs).take m ++ rs.drop m) ++ rest) ∧ Below y2.heap.size y2 wr) (fun i _ => rs.length - (intOf i).toNat)
  case atStart => exact ⟨0, Nat.zero_le _, rfl, oG, hW⟩
  case round =>
    clear oG hW
    obtain ⟨m, hm, rfl, oG, hW⟩ := hrel
    rename World => W
    by_cases hlt : m < rs.length
    · have NL := Lib.hid (neg_len (r := rs) (m := m) (by omega))
      have ng := neg_get hlt
      obtain ⟨g1, g2⟩ := fcs_at (xs := (negs rs).take m ++ rs.drop m) (k := m) rest (by rw [NL.out]; exact hlt)
      have hput := fcs_put1 (xs := (negs rs).take m ++ rs.drop m) (k := m) rest (by rw [NL.out]; exact hlt) (-rs[m].1)
      rw [ng] at g1 g2 hput
      rw [neg_set hlt] at hput
      obtain ⟨n1, n2⟩ := fr_neg (RO.out.2 m hlt)
      have HPUT := Lib.hid hput
      clear ng hput
      generalize rs[m].1 = rn at *
      generalize rs[m].2 = rd at *
      obtain ⟨L, hL⟩ : ∃ L, L = fcs ((negs rs).take m ++ rs.drop m) ++ rest := ⟨_, rfl⟩
      rw [← hL] at oG g1 g2 HPUT
      clear hL
      have o2 := oG.set (m * 2) (.int .i64 (-rn))
      rw [HPUT.out] at o2
      have O2 := Lib.hid o2
      have hW2 := hW.setCell (p := ⟨G, m * 2, none⟩) hG (.int .i64 (-rn))
      clear o2
      have zG := oG.lt
      obtain ⟨rG, fG⟩ := oG.rules
      go_wp2
      go_roundw
      case rel => exact ⟨m + 1, by omega, by go_num, O2.out, hW2⟩
      case measure => simp [intOf]; try omega
    · obtain rfl : m = rs.length := by omega
      have oN : Own W G 78 (fcs (negs rs) ++ rest) := by
        have h1 := oG
        rw [List.drop_length, List.append_nil, List.take_of_length_le (by rw [negs_len]; exact Nat.le_refl _)] at h1
        exact h1
      clear oG
      have NN := Lib.hid (negs_len rs)
      have NV := Lib.hid (negs_val RO.out.2)
      have SN : SF W (.slice (some ⟨G, 0, none⟩) rs.length cap) (negs rs) := by
        unfold SF
        rw [NN.out]
        exact oN.sl cap hc3 (by omega) _ ⟨rest, rfl⟩
      have oS := oS2.out.below hW
      obtain ⟨rS, fS⟩ := oS.rules
      have zS := oS.lt
      go_wp2_with fail
      refine (dsums_any A (negs rs) x.length _ _ _ _ (SA.out.below hW) SN FY.out).mono ?_
      rintro e y4 ⟨ul, rfl, sl, hq⟩
      clear rS fS zS
      replace oS := oS.below hq
      replace oN := oN.below hq
      replace hW := below_to hW hq
      clear hq SN
      by_cases h2 : (dsums A (negs rs) x.length).2 = 0
      case neg =>
        have HV2 := Lib.hid (dwit_1 (c := c) h2)
        have b3 : ((dsums A (negs rs) x.length).2 != 0) = true := by simpa using h2
        clear h2 sl
        go_wp2
        go_ret2
        exact ⟨.slice none 0 0, by rw [HV.out, HV2.out]; try rfl, by rw [HV.out, HV2.out]; exact sf_nil _, below_to hy hW⟩
      have b3 : ((dsums A (negs rs) x.length).2 != 0) = false := by simp [h2]
      have HV2 := Lib.hid (dwit_0 (c := c) h2)
      have DO := Lib.hid (dsums_ok FY.out h2)
      clear h2
      generalize (dsums A (negs rs) x.length).1 = ls at *
      have XL : 0 < x.length ∧ x.length ≤ 3 := (point_of HP.out).1.cols
      obtain ⟨xl1, xl2⟩ := XL
      have DL := Lib.hid DO.out.1
      have l5 : 0 < ls.length := by rw [DL.out]; exact xl1
      have l6 : ls.length ≤ 3 := by rw [DL.out]; exact xl2
      have SL := Lib.hid sl
      obtain ⟨_, capl, e, hl1, hl2, H⟩ := sl.open
      subst e
      obtain ⟨bl, offl, rfl, e1, e2⟩ := H.out 0 l5
      rw [Nat.zero_mul, Nat.add_zero] at e1 e2
      clear H
      have V0 := Lib.hid (DO.out.2 0 l5)
      have M0 : Hid ((mostN ls 0).1 = ls[0].1 ∧ (mostN ls 0).2 = ls[0].2) := by have h9 : mostN ls 0 = ls[0] := getD_get l5; rw [h9]; exact ⟨rfl, rfl⟩
      clear sl
      generalize ls[0].1 = n0 at *
      generalize ls[0].2 = d0 at *
      obtain ⟨N1, hN1⟩ : ∃ N1, N1 + 1 = ls.length := ⟨ls.length - 1, by omega⟩
      obtain ⟨C1, hC1⟩ : ∃ C1, C1 + 1 = capl := ⟨capl - 1, by omega⟩
      obtain ⟨O, hO⟩ : ∃ O, O = if C1 = 0 then offl else offl + 2 := ⟨_, rfl⟩
      have HO : Hid (1 < ls.length → O = offl + 2) := fun h => by rw [hO, if_neg (by omega)]
      have SLC := run_rest (P := Try.prog) 28 78 2 16 (.agg #[.int .i64 0, .int .i64 0]) Try.underlying28 Try.infoFrac bl offl ls.length N1 capl C1 O hN1.symm hC1.symm hO
      have l7 : N1 + 1 ≤ ls.length := by omega
      have l8 : ls.length ≤ N1 + 1 := by omega
      have XN : Hid (x.length - 1 = N1) := by show _ = _; have := DL.out; omega
      rw [XN.out] at HV2
      clear hN1 hC1 hO
      go_wp2
      clear SLC e1 e2
      have oC := Own.new y4 78 [.int .i64 n0, .int .i64 d0]
      have hU := ba1 y4 (.cells #[.int .i64 n0, .int .i64 d0] 78)
      have zG4 := oN.lt
      have zS4 := oS.lt
      obtain ⟨GC, hGC⟩ : ∃ G, G = y4.heap.size := ⟨_, rfl⟩
      have zC1 : y4.heap.size ≤ GC := by rw [hGC]; exact Nat.le_refl _
      rw [← hGC] at oC ⊢
      clear hGC
      have MN := Lib.hid (most_val DO.out.2)
      have oC0 : Own (y4.alloc (.cells #[.int .i64 n0, .int .i64 d0] 78)) GC 78 [.int .i64 (mostN ls 0).1, .int .i64 (mostN ls 0).2] := by rw [M0.out.1, M0.out.2]; exact oC
      clear oC
      go_loopw [76] (fun i wr => ∃ k : Nat, k ≤ N1 ∧ i = .int .i64 k ∧ Own wr GC 78 [.int .i64 (mostN ls k).1, .int .i64 (mostN ls k).2] ∧ Below y4.heap.size y4 wr) (fun i _ => N1 - (intOf i).toNat)
      case atStart => exact ⟨0, Nat.zero_le _, rfl, oC0, hU⟩
      case round =>
        clear oC0 hU
        obtain ⟨k, hk, rfl, oC, hU⟩ := hrel
        rename World => Y
        by_cases hkN : k < N1
        · have hk1 : k + 1 < ls.length := by omega
          obtain ⟨_, _, e, _, _, H⟩ := (SL.out.below hU).open
          cases e
          obtain ⟨_, _, e, e1, e2⟩ := H.out (k + 1) hk1
          cases e
          rw [show offl + (k + 1) * 2 = O + k * 2 by rw [HO.out (by omega)]; omega] at e1 e2
          clear H
          have VK := Lib.hid (DO.out.2 (k + 1) hk1)
          have MK' := Lib.hid (MN.out k (by omega))
          have M1 := Lib.hid (most_1 (c := ls) hk1)
          have M9 := Lib.hid (most_0 (c := ls) hk1)
          have I1 := Lib.hid (fr_i64 VK.out)
          have I2 := Lib.hid (fr_i64 MK'.out)
          have FZ := Lib.hid (fcmpZ_ok VK.out MK'.out)
          have F0 := Lib.hid (fboth_of VK.out MK'.out)
          have FL := Lib.hid (fcmp_flip (an := ls[k + 1].1) (ad := ls[k + 1].2) (bn := (mostN ls k).1) (bd := (mostN ls k).2))
          have Q1 : Hid (∀ p, p = ls[k + 1] → p.1 = ls[k + 1].1 ∧ p.2 = ls[k + 1].2) := fun p hp => by rw [hp]; exact ⟨rfl, rfl⟩
          generalize ls[k + 1] = q at *
          obtain ⟨fn, fd⟩ := q
          simp only at e1 e2 M1 M9 I1 FZ F0 FL VK
          generalize hmk : mostN ls k = mk at *
          obtain ⟨mn, md⟩ := mk
          have HMK := Lib.hid hmk
          clear hmk Q1
          simp only at oC M1 M9 I2 FZ F0 FL MK'
          obtain ⟨rC, fC⟩ := oC.rules
          have zC := oC.lt
          go_wp2_with fail
          refine (cmp_any fn fd mn md _ I1.out.1 I1.out.2 I2.out.1 I2.out.2).mono ?_
          rintro e y5 ⟨rfl, hq⟩
          rw [FZ.out, F0.out]
          have oF := (Own.new Y 78 [.int .i64 fn, .int .i64 fd]).below hq
          replace hq := below_to (ba1 Y (.cells #[.int .i64 fn, .int .i64 fd] 78)) hq
          obtain ⟨bF, hbF⟩ : ∃ G, G = Y.heap.size := ⟨_, rfl⟩
          rw [← hbF] at oF ⊢
          have zF0 : Y.heap.size ≤ bF := by rw [hbF]; exact Nat.le_refl _
          have zCF : GC < bF := by rw [hbF]; exact zC
          clear hbF
          clear rC fC zC
          replace oC := oC.below hq
          replace hU := below_to hU hq
          clear hq
          obtain ⟨rC, fC⟩ := oC.rules
          have zC := oC.lt
          obtain ⟨rF, fF⟩ := oF.rules
          have zF := oF.lt
          by_cases h3 : fcmp mn md fn fd = -1
          · have h4 := FL.out.2 h3
            have b4 : decide (0 < fcmp fn fd mn md) = true := by simpa using h4
            have MM := Lib.hid (M1.out h3)
            clear h3 h4 FL M1 M9
            go_wp2
            go_roundw
            case rel => exact ⟨k + 1, by omega, by go_num, by rw [MM.out]; exact (oC.set 0 (.int .i64 fn)).set 1 (.int .i64 fd), (hU.setCell (p := ⟨GC, 0, none⟩) zC1 _).setCell (p := ⟨GC, 1, none⟩) zC1 _⟩
            case measure => simp [intOf]; try omega
          · have h4 : ¬ 0 < fcmp fn fd mn md := fun h => h3 (FL.out.1 h)
            have b4 : decide (0 < fcmp fn fd mn md) = false := by simpa using h4
            have MM := Lib.hid (M9.out h3)
            clear h3 h4 FL M1 M9
            go_wp2
            go_roundw
            case rel => exact ⟨k + 1, by omega, by go_num, by rw [MM.out]; exact oC, hU⟩
            case measure => simp [intOf]; try omega
        · obtain rfl : k = N1 := by omega
          have MV := Lib.hid (MN.out k (by omega))
          have MP := Lib.hid (fun h => most_pos (c := c) hc1 MV.out h)
          have IM := Lib.hid (fr_i64 MV.out)
          have CK := Lib.hid (fchk_small (a := c) (by omega) hc2)
          have CI : Hid (i64 c) := ⟨by omega, by omega⟩
          have FZ := Lib.hid (fcmpZ_ok MV.out CK.out)
          have F0 := Lib.hid (fboth_of MV.out CK.out)
          have FL := Lib.hid (fcmp_flip (an := (mostN ls k).1) (ad := (mostN ls k).2) (bn := c) (bd := 1))
          have D0 := Lib.hid (dpart_0 (c := c) (r := negs rs) (m := mostN ls k))
          have D1 := Lib.hid (dpart_1 (c := c) (r := negs rs) (m := mostN ls k))
          have D2 := Lib.hid (dpart_2 (c := c) (r := negs rs) (m := mostN ls k))
          have FD := Lib.hid (fun hz => fdiv_FOk CK.out MV.out hz)
          replace oN := oN.below hU
          replace hW := below_to hW hU
          clear oS hU
          generalize hmk : mostN ls k = mk at *
          obtain ⟨mn, md⟩ := mk
          clear hmk
          simp only at oC MP IM FZ F0 FL D0 D1 D2 FD
          have gl := @grow_lt
          obtain ⟨rC, fC⟩ := oC.rules
          have zC := oC.lt
          go_wp2
          go_wp2_with fail
          refine wp_region_stt [.t [0, 1], .f 2, .f 3] [4, 5, 6] [7, 8] (by kernel_rfl) (by kernel_rfl) (fun _ _ _ _ _ h => h) ?_
          refine wpX_t ?_
          try simp only [opsAt, List.getElem?_toArray, List.getElem?_cons_zero, List.getElem?_cons_succ, Option.getD_some]
          repeat (go_big_quiet_step (fail))
          refine wpQuiet_nil ?_
          refine wpX_f rfl rfl (fun K' hK' => ?_)
          go_simp
          refine (dwhole_any c _).mono ?_
          rintro e y5 ⟨rfl, hq1⟩
          refine hK' _ _ (grow_of (below_to ((Below.refl _ _).drew) hq1)) ?_
          clear hK' K'
          refine wpX_f rfl rfl (fun K' hK' => ?_)
          go_simp
          refine (cmp_any mn md c 1 _ IM.out.1 IM.out.2 CI.out d_one).mono ?_
          rintro e y6 ⟨rfl, hq2⟩
          refine hK' _ _ (grow_of (below_to (below_to ((Below.refl _ _).drew) hq1) hq2)) ?_
          clear hK' K'
          rw [FZ.out, F0.out]
          refine wpX_nil ?_
          try simp only [opsAt, List.getElem?_toArray, List.getElem?_cons_zero, List.getElem?_cons_succ, Option.getD_some]
          repeat (go_big_quiet_step (fail))
          refine wpQuiet_nil ?_
          try simp only [opsAt, List.getElem?_toArray, List.getElem?_cons_zero, List.getElem?_cons_succ, Option.getD_some]
          have hq : Below Y.heap.size Y y6 := below_to (below_to ((Below.refl _ _).drew) hq1) hq2
          clear gl hq1 hq2 rC fC zC
          replace oC := oC.below hq
          replace oN := oN.below hq
          replace hW := below_to hW hq
          clear hq
          by_cases h3 : fcmp c 1 mn md = -1
          case neg =>
            have h4 : ¬ 0 < fcmp mn md c 1 := fun h => h3 (FL.out.1 h)
            have b4 : decide (fcmp mn md c 1 ≤ 0) = true := by simp; omega
            have b5 : fcmp mn md c 1 ≤ 0 := by omega
            have HV3 := Lib.hid (D0.out h3)
            have hsl : SF y6 (.slice (some ⟨G, 0, none⟩) rs.length cap) (negs rs) := by
              unfold SF
              rw [NN.out]
              exact oN.sl cap hc3 (by omega) _ ⟨rest, rfl⟩
            clear h3 h4 FL D0 D1 D2
            go_wp2
            go_ret2
            exact ⟨_, by rw [HV.out, HV2.out, HV3.out]; try rfl, by rw [HV.out, HV2.out, HV3.out]; exact hsl, below_to hy hW⟩
          have h4 := FL.out.2 h3
          have b4 : decide (fcmp mn md c 1 ≤ 0) = false := by simp; omega
          have b5 : ¬ fcmp mn md c 1 ≤ 0 := by omega
          have MP' := MP.out h3
          have FD' := Lib.hid (FD.out (by omega))
          have D1' := Lib.hid (D1.out h3)
          have D2' := Lib.hid (D2.out h3)
          have DI := Lib.hid (fdiv_i64 c 1 mn md)
          clear h3 h4 FL D0 D1 D2 FD MP
          obtain ⟨rC, fC⟩ := oC.rules
          have zC := oC.lt
          go_wp2
          go_wp2_with fail
          have gl := @grow_lt
          refine wp_region_fs [(7, ⟨78, [.int .i64 0, .int .i64 0], fun b => .pointer (some ⟨b, 0, none⟩)⟩)] [0, 2] [.op 1, .op 3, .tk 4, .tk 5, .tk 6, .fl 7, .op 8] [9] (by kernel_rfl) (by kernel_rfl) ⟨fun ρ W => by kernel_rfl, trivial⟩ (fun _ _ _ _ _ h => h) (fun _ _ _ _ _ h => h) ?_
          try simp only [opsAt, List.getElem?_toArray, List.getElem?_cons_zero, List.getElem?_cons_succ, Option.getD_some]
          repeat (go_big_quiet_step (fail))
          refine wpQuiet_nil ?_
          clear gl
          refine wpFl_op rfl ?_
          intro w3 hb3 K' hK'
          go_simp
          refine (dwhole_any c _).mono ?_
          rintro e w5 ⟨rfl, hq⟩
          refine hK' _ _ (Mod.of_below hq) ?_
          clear hK' K'
          have hF := below_to hb3 hq
          clear hb3 hq
          refine wpFl_op rfl ?_
          intro w3 hb3 K' hK'
          go_simp
          refine (fdiv_any c 1 mn md _ CI.out d_one IM.out.1 IM.out.2).mono ?_
          rintro e w5 ⟨rfl, hq⟩
          refine hK' _ _ (Mod.of_below hq) ?_
          clear hK' K'
          replace hF := below_to hF (below_to hb3 hq)
          clear hb3 hq
          refine wpFl_tk ?_
          try simp only [opsAt, List.getElem?_toArray, List.getElem?_cons_zero, List.getElem?_cons_succ, Option.getD_some]
          repeat (go_big_quiet_step (fail))
          refine wpQuiet_nil ?_
          refine wpFl_tk ?_
          try simp only [opsAt, List.getElem?_toArray, List.getElem?_cons_zero, List.getElem?_cons_succ, Option.getD_some]
          repeat (go_big_quiet_step (fail))
          refine wpQuiet_nil ?_
          refine wpFl_tk ?_
          try simp only [opsAt, List.getElem?_toArray, List.getElem?_cons_zero, List.getElem?_cons_succ, Option.getD_some]
          repeat (go_big_quiet_step (fail))
          refine wpQuiet_nil ?_
          refine wpFl_fl rfl ?_
          intro bP w6 hb6 oP zP0 _
          go_simp
          replace hF := below_to hF hb6
          refine wpFl_op rfl ?_
          intro w7 hb7 K' hK'
          replace oP := oP.below hb7
          replace hF := below_to hF hb7
          clear hb6 hb7
          obtain ⟨rP, fP⟩ := oP.rules
          have zP := oP.lt
          go_wp2_with fail
          refine hK' _ _ (((Mod.refl _ _).set (by simp) _).set (by simp) _) ?_
          clear hK' K' rP fP zP
          replace oP := (oP.set 0 (.int .i64 (fdiv c 1 mn md).n)).set 1 (.int .i64 (fdiv c 1 mn md).d)
          replace hF := (hF.setCell (p := ⟨bP, 0, none⟩) zP0 (.int .i64 (fdiv c 1 mn md).n)).setCell (p := ⟨bP, 1, none⟩) zP0 (.int .i64 (fdiv c 1 mn md).d)
          refine wpFl_nil (fun w8 hb8 => ?_)
          replace oP := oP.below hb8
          replace hF := below_to hF hb8
          clear hb8
          try simp only [opsAt, List.getElem?_toArray, List.getElem?_cons_zero, List.getElem?_cons_succ, Option.getD_some]
          clear rC fC zC oC
          have zN6 := oN.lt
          replace oN := oN.below hF
          replace hW := below_to hW hF
          clear hF
          generalize fdiv c 1 mn md = pt at *
          by_cases h5 : pt.e = 0
          case neg =>
            have b6 : (pt.e != 0) = true := by simpa using h5
            have HV3 := Lib.hid (D1'.out h5)
            clear h5 oN oP
            go_wp2
            go_ret2
            exact ⟨.slice none 0 0, by rw [HV.out, HV2.out, HV3.out]; try rfl, by rw [HV.out, HV2.out, HV3.out]; exact sf_nil _, below_to hy hW⟩
          have b6 : (pt.e != 0) = false := by simp [h5]
          have HV3 := Lib.hid (D2'.out h5)
          have PV := Lib.hid (FD'.out.v h5)
          have zPG : G < bP := by omega
          clear h5 D1' D2' FD'
          go_wp2
          go_loopw [111] (fun i wr => ∃ m : Nat, m ≤ (negs rs).length ∧ i = .int .i64 m ∧ Hid ((rowsOf (dmulN (negs rs) pt) m).2 = 0) ∧ Own wr G 78 (fcs ((rowsOf (dmulN (negs rs) pt) m).1 ++ (negs rs).drop m) ++ rest) ∧ Own wr bP 78 [.int .i64 pt.n, .int .i64 pt.d] ∧ Below y2.heap.size y2 wr) (fun i _ => (negs rs).length - (intOf i).toNat)
          case atStart => exact ⟨0, Nat.zero_le _, rfl, rfl, oN, oP, hW⟩
          case round =>
            clear oN oP hW
            obtain ⟨m, hm, rfl, hr, oN, oP, hW⟩ := hrel
            rename World => Z
            have NNe := NN.out
            have l9 : (negs rs).length ≤ rs.length := by omega
            have l10 : rs.length ≤ (negs rs).length := by omega
            clear NNe
            by_cases hlt2 : m < (negs rs).length
            · have RL := Lib.hid (rows_len m hr.out)
              have OL := Lib.hid (over_len (g := negs rs) RL.out (by omega))
              have og := over_get (g := negs rs) RL.out hlt2
              obtain ⟨g1, g2⟩ := fcs_at (xs := (rowsOf (dmulN (negs rs) pt) m).1 ++ (negs rs).drop m) (k := m) rest (by rw [OL.out]; exact hlt2)
              rw [og] at g1 g2
              have HPU := Lib.hid (fun p => fcs_put (xs := (rowsOf (dmulN (negs rs) pt) m).1 ++ (negs rs).drop m) (k := m) rest (by rw [OL.out]; exact hlt2) p)
              have HOS := Lib.hid (fun p => over_set (g := negs rs) p RL.out hlt2)
              have HN := Lib.hid (dmulN_get (b := pt) hlt2)
              have F1 := Lib.hid (dmulN_FOk (b := pt) NV.out PV.out hlt2)
              have I1 := Lib.hid (fr_i64 (NV.out m hlt2))
              have I2 := Lib.hid (fr_i64 PV.out)
              have RE := Lib.hid (fun h => rows_end (f := dmulN (negs rs) pt) (N := (negs rs).length) hr.out hlt2 h)
              have RS := Lib.hid (fun h => rows_succ (f := dmulN (negs rs) pt) hr.out h)
              clear og
              generalize (negs rs)[m].1 = gn at *
              generalize (negs rs)[m].2 = gd at *
              generalize dmulN (negs rs) pt m = p at *
              have a9 : (m : Int) < (rs.length : Int) := by omega
              have gl := @grow_lt
              obtain ⟨rN, fN⟩ := oN.rules
              have zN := oN.lt
              obtain ⟨rP, fP⟩ := oP.rules
              have zP := oP.lt
              go_wp2
              go_wp2_with fail
              refine wp_region_pstt [0, 1] [.t [2, 3, 4, 5, 6], .f 7] [8, 9, 10] [11, 12, 13] (by kernel_rfl) (by kernel_rfl) (fun _ _ _ _ _ h => h) ?_
              try simp only [opsAt, List.getElem?_toArray, List.getElem?_cons_zero, List.getElem?_cons_succ, Option.getD_some]
              repeat (go_big_quiet_step (fail))
              refine wpQuiet_nil ?_
              refine wpX_t ?_
              try simp only [opsAt, List.getElem?_toArray, List.getElem?_cons_zero, List.getElem?_cons_succ, Option.getD_some]
              repeat (go_big_quiet_step (fail))
              refine wpQuiet_nil ?_
              refine wpX_f rfl rfl (fun K' hK' => ?_)
              go_simp
              refine (fmul_any gn gd pt.n pt.d _ I1.out.1 I1.out.2 I2.out.1 I2.out.2).mono ?_
              rintro e z4 ⟨rfl, hq2⟩
              refine hK' _ _ (grow_of (below_to ((Below.refl _ _).drew) hq2)) ?_
              clear hK' K'
              rw [← HN.out]
              refine wpX_nil ?_
              try simp only [opsAt, List.getElem?_toArray, List.getElem?_cons_zero, List.getElem?_cons_succ, Option.getD_some]
              repeat (go_big_quiet_step (fail))
              refine wpQuiet_nil ?_
              try simp only [opsAt, List.getElem?_toArray, List.getElem?_cons_zero, List.getElem?_cons_succ, Option.getD_some]
              have hq : Below Z.heap.size Z z4 := below_to ((Below.refl _ _).drew) hq2
              clear gl hq2 rN fN zN rP fP zP
              replace oN := oN.below hq
              replace oP := oP.below hq
              replace hW := below_to hW hq
              clear hq
              have o2 := (oN.set (m * 2) (.int .i64 p.n)).set (m * 2 + 1) (.int .i64 p.d)
              rw [HPU.out (p.n, p.d), HOS.out] at o2
              have O2 := Lib.hid o2
              have oP2 := (oP.other (g' := G) (by omega) (m * 2) (.int .i64 p.n)).other (g' := G) (by omega) (m * 2 + 1) (.int .i64 p.d)
              have hW2 := (hW.setCell (p := ⟨G, m * 2, none⟩) hG (.int .i64 p.n)).setCell (p := ⟨G, m * 2 + 1, none⟩) hG (.int .i64 p.d)
              clear o2 HPU HOS
              obtain ⟨rN, fN⟩ := oN.rules
              have zN := oN.lt
              by_cases h6 : p.e = 0
              · have b7 : (p.e != 0) = false := by simp [h6]
                have HF := Lib.hid (RS.out h6)
                have HE2 := Lib.hid (congrArg Prod.snd HF.out)
                have HE1 := Lib.hid (congrArg Prod.fst HF.out)
                clear h6 RE RS HF
                go_wp2
                go_roundw
                case rel => exact ⟨m + 1, by omega, by go_num, HE2, by rw [HE1.out]; exact O2.out, oP2, hW2⟩
                case measure => simp [intOf]; try omega
              · have b7 : (p.e != 0) = true := by simpa using h6
                have HV4 : Hid (rowsOf (dmulN (negs rs) pt) (negs rs).length = ([], 16)) := by
                  show _ = _
                  rw [RE.out h6, F1.out.e h6]
                clear h6 RE RS
                go_wp2
                go_ret2
                exact ⟨.slice none 0 0, by rw [HV.out, HV2.out, HV3.out, HV4.out]; try rfl, by rw [HV.out, HV2.out, HV3.out, HV4.out]; exact sf_nil _, below_to hy hW2⟩
            · obtain rfl : m = (negs rs).length := by omega
              have RL := Lib.hid (rows_len (negs rs).length hr.out)
              have hsl : SF Z (.slice (some ⟨G, 0, none⟩) rs.length cap) (rowsOf (dmulN (negs rs) pt) (negs rs).length).1 := by
                unfold SF
                rw [RL.out, NN.out]
                refine oN.sl cap hc3 (by omega) _ ?_
                rw [NN.out, List.drop_of_length_le (by rw [NN.out]; exact Nat.le_refl _), List.append_nil]
                exact ⟨rest, rfl⟩
              clear oN oP
              go_wp2
              go_ret2
              exact ⟨_, by rw [HV.out, HV2.out, HV3.out, hr.out]; try rfl, by rw [HV.out, HV2.out, HV3.out]; exact hsl, below_to hy hW⟩
end Go.Proofs.Ythlcmlngmcoknaa

/- What is proved here: the contract of dual.Feasible. Condition: a system and a slice of fractions that can be read. -/
namespace Go.Proofs.Ythlcmlngmcoknaa
open Go.RowKit

theorem costQ_of {A : List (List Int)} {B : List Int} {c : Int} (h : ncheck A B = 0) (hc : costB c = true) : scheck A B c = 0 ∧ 0 ≤ c ∧ c ≤ 1000 := by
  simp only [costB, Bool.and_eq_true, decide_eq_true_eq] at hc
  exact ⟨scheck_0 h hc.1 hc.2, hc⟩
theorem costQ_no {A : List (List Int)} {B : List Int} {c : Int} (h : ncheck A B = 0) (hc : costB c = false) : scheck A B c = 2 := by
  refine scheck_2 h ?_
  rcases Int.lt_or_le c 0 with h1 | h1
  · exact .inl h1
  · right
    by_cases h2 : c ≤ 1000
    · simp [costB, h1, h2] at hc
    · omega
set_option maxRecDepth 100000 in
set_option maxHeartbeats 16000000 in
theorem dfeas_any (A : List (List Int)) (B : List Int) (c : Int) (y : List (Int × Int)) (va vb vy : Value) (w : World) (hA : SS w va A) (hB : SI w vb B) (hx : SF w vy y) (ix : FI y) :
    Calls Try.prog 143 #[.agg #[va, vb], .int .i64 c, vy] w fun e w' => e = .returned (.tuple #[.bool (dfeas A B c y).1, .int .i64 (dfeas A B c y).2]) ∧ Below w.heap.size w w' := by
  have IX := Lib.hid ix
  clear ix
  go_enter Try.func143, Try.ntmps143
  have oS := Own.new w 25 [va, vb]
  have hy := ba1 w (.cells #[va, vb] 25)
  replace hA := hA.below hy
  replace hB := hB.below hy
  replace hx := hx.below hy
  obtain ⟨rS, fS⟩ := oS.rules
  have zS := oS.lt
  go_wp2_with fail
  refine (ncheck_any A B _ _ _ hA hB).mono ?_
  rintro e y1 ⟨rfl, hq⟩
  clear rS fS zS
  replace oS := oS.below hq
  replace hA := hA.below hq
  replace hB := hB.below hq
  replace hx := hx.below hq
  replace hy := below_to hy hq
  clear hq
  obtain ⟨rS, fS⟩ := oS.rules
  have zS := oS.lt
  by_cases h0 : ncheck A B = 0
  case neg =>
    have E0 := Lib.hid (scheck_c (c := c) h0)
    have E1 := Lib.hid (dcheck_c (y := y) (show ¬ scheck A B c = 0 by rw [E0.out]; exact h0))
    have HV := Lib.hid (dfeas_c (show ¬ dcheck A B c y = 0 by rw [E1.out, E0.out]; exact h0))
    have b1 : (ncheck A B != 0) = true := by simpa using h0
    clear h0 hA hB hx
    go_wp2
    go_ret2
    exact ⟨by rw [HV.out, E1.out, E0.out]; try rfl, hy⟩
  have b1 : (ncheck A B != 0) = false := by simp [h0]
  go_wp2_with fail
  refine (dcost_any c _).mono ?_
  rintro e _ ⟨rfl, rfl⟩
  by_cases hc : costB c = true
  case neg =>
    have hc' : costB c = false := by simpa using hc
    have E0 := Lib.hid (costQ_no h0 hc')
    have E1 := Lib.hid (dcheck_c (y := y) (show ¬ scheck A B c = 0 by rw [E0.out]; decide))
    have HV := Lib.hid (dfeas_c (show ¬ dcheck A B c y = 0 by rw [E1.out, E0.out]; decide))
    rw [hc']
    clear h0 hc hc' hA hB hx
    go_wp2
    go_ret2
    exact ⟨by rw [HV.out, E1.out, E0.out]; try rfl, hy⟩
  obtain ⟨hs, hc1, hc2⟩ := costQ_of h0 hc
  rw [hc]
  have HS := Lib.hid hs
  have H0 := Lib.hid h0
  clear hc hs h0
  go_wp2_with fail
  refine (dwitB_any A y _ _ _ _ hA hx IX.out).mono ?_
  rintro e y2 ⟨rfl, hq⟩
  clear rS fS zS
  replace oS := oS.below hq
  replace hA := hA.below hq
  replace hB := hB.below hq
  replace hx := hx.below hq
  replace hy := below_to hy hq
  clear hq
  obtain ⟨rS, fS⟩ := oS.rules
  have zS := oS.lt
  by_cases hp : witB A.length y = true
  case neg =>
    have hp' : witB A.length y = false := by simpa using hp
    have E1 := Lib.hid (dcheck_2 HS.out hp')
    have HV := Lib.hid (dfeas_c (show ¬ dcheck A B c y = 0 by rw [E1.out]; decide))
    rw [hp']
    clear hp hp' hA hB hx
    go_wp2
    go_ret2
    exact ⟨by rw [HV.out, E1.out]; try rfl, hy⟩
  have D0 := Lib.hid (dcheck_0 HS.out hp)
  have FY := Lib.hid (FitY.ofC H0.out hp)
  rw [hp]
  clear hp
  have F1 := Lib.hid (dfeas_1 D0.out)
  have F2 := Lib.hid (dfeas_0 D0.out)
  generalize (A.getD 0 []).length = n at *
  go_wp2_with fail
  refine (dsums_any A y n _ _ _ _ hA hx FY.out).mono ?_
  rintro e y3 ⟨ul, rfl, sl, hq⟩
  clear rS fS zS
  replace oS := oS.below hq
  replace hA := hA.below hq
  replace hB := hB.below hq
  replace hx := hx.below hq
  replace hy := below_to hy hq
  clear hq
  obtain ⟨rS, fS⟩ := oS.rules
  have zS := oS.lt
  by_cases h2 : (dsums A y n).2 = 0
  case neg =>
    have HV := Lib.hid (F1.out h2)
    have b3 : ((dsums A y n).2 != 0) = true := by simpa using h2
    clear h2 sl hA hB hx F1 F2
    go_wp2
    go_ret2
    exact ⟨by rw [HV.out]; try rfl, hy⟩
  have b3 : ((dsums A y n).2 != 0) = false := by simp [h2]
  have HV := Lib.hid (F2.out h2)
  have DO := Lib.hid (dsums_ok FY.out h2).2
  clear h2 hA hB hx F1 F2
  generalize (dsums A y n).1 = ls at *
  obtain ⟨adl, capl, rfl, hl1, hl2, _⟩ := sl.open
  have SL := Lib.hid sl
  have CK := Lib.hid (fchk_small (a := c) (by omega) hc2)
  have CI : Hid (i64 c) := ⟨by omega, by omega⟩
  clear sl rS fS zS oS
  go_wp2
  go_loopw [40] (fun i wr => ∃ k : Nat, k ≤ ls.length ∧ i = .int .i64 k ∧ Hid (feasB ls c k = true) ∧ Below y3.heap.size y3 wr) (fun i _ => ls.length - (intOf i).toNat)
  case atStart => exact ⟨0, Nat.zero_le _, rfl, rfl, Below.refl _ _⟩
  case round =>
    obtain ⟨k, hk, rfl, hv, hW⟩ := hrel
    rename World => W
    by_cases hlt : k < ls.length
    · obtain ⟨_, _, e, _, _, H⟩ := (SL.out.below hW).open
      cases e
      obtain ⟨b, off, rfl, c1, c2⟩ := H.out k hlt
      clear H
      have VK := Lib.hid (DO.out k hlt)
      have NS := Lib.hid (feasB_succ (c := c) hlt hv.out)
      have NN := Lib.hid (feasB_not (l := ls) (c := c) (n := ls.length) hlt hlt)
      have I1 := Lib.hid (fr_i64 VK.out)
      have FZ := Lib.hid (fcmpZ_ok VK.out CK.out)
      have F0 := Lib.hid (fboth_of VK.out CK.out)
      have FL := Lib.hid (fcmp_flip (an := ls[k].1) (ad := ls[k].2) (bn := c) (bd := 1))
      generalize ls[k].1 = fn at *
      generalize ls[k].2 = fd at *
      go_wp2_with fail
      have oF := Own.new W 78 [.int .i64 fn, .int .i64 fd]
      have hq0 := ba1 W (.cells #[.int .i64 fn, .int .i64 fd] 78)
      obtain ⟨bF, hbF⟩ : ∃ G, G = W.heap.size := ⟨_, rfl⟩
      rw [← hbF] at oF ⊢
      clear hbF
      generalize W.alloc (.cells #[.int .i64 fn, .int .i64 fd] 78) = W2 at *
      replace hW := below_to hW hq0
      have gl := @grow_lt
      clear hq0 c1 c2
      obtain ⟨rF, fF⟩ := oF.rules
      have zF := oF.lt
      go_wp2_with fail
      refine wp_region_stt [.t [0, 1], .f 2, .f 3] [4, 5, 6] [7, 8] (by kernel_rfl) (by kernel_rfl) (fun _ _ _ _ _ h => h) ?_
      refine wpX_t ?_
      try simp only [opsAt, List.getElem?_toArray, List.getElem?_cons_zero, List.getElem?_cons_succ, Option.getD_some]
      repeat (go_big_quiet_step (fail))
      refine wpQuiet_nil ?_
      refine wpX_f rfl rfl (fun K' hK' => ?_)
      go_simp
      refine (dwhole_any c _).mono ?_
      rintro e y5 ⟨rfl, hq1⟩
      refine hK' _ _ (grow_of (below_to ((Below.refl _ _).drew) hq1)) ?_
      clear hK' K'
      refine wpX_f rfl rfl (fun K' hK' => ?_)
      go_simp
      refine (cmp_any fn fd c 1 _ I1.out.1 I1.out.2 CI.out d_one).mono ?_
      rintro e y6 ⟨rfl, hq2⟩
      refine hK' _ _ (grow_of (below_to (below_to ((Below.refl _ _).drew) hq1) hq2)) ?_
      clear hK' K'
      rw [FZ.out, F0.out]
      refine wpX_nil ?_
      try simp only [opsAt, List.getElem?_toArray, List.getElem?_cons_zero, List.getElem?_cons_succ, Option.getD_some]
      repeat (go_big_quiet_step (fail))
      refine wpQuiet_nil ?_
      try simp only [opsAt, List.getElem?_toArray, List.getElem?_cons_zero, List.getElem?_cons_succ, Option.getD_some]
      have hq : Below W2.heap.size W2 y6 := below_to (below_to ((Below.refl _ _).drew) hq1) hq2
      clear gl hq1 hq2 rF fF zF
      replace hW := below_to hW hq
      clear hq oF
      by_cases h3 : fcmp c 1 fn fd = -1
      · have h4 := FL.out.2 h3
        have b4 : decide (0 < fcmp fn fd c 1) = true := by simpa using h4
        have HN := Lib.hid (NN.out h3)
        clear h3 FL NS NN
        go_wp2
        go_ret2
        exact ⟨by rw [HV.out, HN.out]; try rfl, below_to hy hW⟩
      · have h4 : ¬ 0 < fcmp fn fd c 1 := fun h => h3 (FL.out.1 h)
        have b4 : decide (0 < fcmp fn fd c 1) = false := by simpa using h4
        have HN := Lib.hid (NS.out h3)
        clear h3 FL NS NN
        go_wp2
        go_roundw
        case rel => exact ⟨k + 1, by omega, by go_num, HN, hW⟩
        case measure => simp [intOf]; try omega
    · obtain rfl : k = ls.length := by omega
      go_wp2
      go_ret2
      exact ⟨by rw [HV.out, hv.out]; try rfl, below_to hy hW⟩
end Go.Proofs.Ythlcmlngmcoknaa

/- What is proved here: the contract of nnls.Value. Condition: a system and a slice of fractions that can be read. -/
namespace Go.Proofs.Ythlcmlngmcoknaa
open Go.RowKit

set_option maxRecDepth 100000 in
set_option maxHeartbeats 16000000 in
theorem nval_any (A : List (List Int)) (B : List Int) (x : List (Int × Int)) (va vb vx : Value) (w : World) (hA : SS w va A) (hB : SI w vb B) (hx : SF w vx x) (ix : FI x) :
    Calls Try.prog 55 #[.agg #[va, vb], vx] w fun e w' => e = .returned (.tuple #[.agg #[.int .i64 (nValue A B x).n, .int .i64 (nValue A B x).d], .int .i64 (nValue A B x).e]) ∧ Below w.heap.size w w' := by
  have IX := Lib.hid ix
  clear ix
  go_enter Try.func55, Try.ntmps55
  have oS := own_first w 25 [va, vb] (.cells #[.int .i64 0, .int .i64 0] 78)
  have oR := own_second w 78 [.int .i64 0, .int .i64 0] (.cells #[va, vb] 25)
  have hB' := ba2 w (.cells #[va, vb] 25) (.cells #[.int .i64 0, .int .i64 0] 78)
  replace hA := hA.below hB'
  replace hB := hB.below hB'
  replace hx := hx.below hB'
  obtain ⟨rS, fS⟩ := oS.rules
  have zS := oS.lt
  obtain ⟨rR, fR⟩ := oR.rules
  have zR := oR.lt
  go_wp2_with fail
  refine (nresid_any A B x _ _ _ _ hA hB hx IX.out).mono ?_
  rintro e y1 ⟨u, rfl, su, hq⟩
  clear rS fS zS rR fR zR
  replace oS := oS.below hq
  replace oR := oR.below hq
  replace hA := hA.below hq
  replace hB := hB.below hq
  replace hx := hx.below hq
  replace hB' := below_to hB' hq
  clear hq
  obtain ⟨rS, fS⟩ := oS.rules
  have zS := oS.lt
  obtain ⟨rR, fR⟩ := oR.rules
  have zR := oR.lt
  by_cases h0 : (nResidual A B x).2 = 0
  case neg =>
    have HV := Lib.hid (nVal_1 h0)
    have b1 : ((nResidual A B x).2 != 0) = true := by simpa using h0
    clear h0 hA hB hx su
    have hB := hB'
    clear hB'
    go_wp2
    replace oR := ((oR).set 0 (.int .i64 0)).set 1 (.int .i64 0)
    replace hB := ((hB).setCell (p := ⟨w.heap.size + 1, 0, none⟩) (by first | omega | (simp; done) | (simp; omega)) (.int .i64 0)).setCell (p := ⟨w.heap.size + 1, 1, none⟩) (by first | omega | (simp; done) | (simp; omega)) (.int .i64 0)
    refine bp_gen' (fun W => Own W _ _ _ ∧ Below w.heap.size w W) ⟨oR, hB⟩ ?_
    rintro wz ⟨oz, bz⟩
    obtain ⟨rz, fz⟩ := oz.rules
    clear oz
    refine bodyPost_ret (v := .tuple #[.agg #[.int .i64 0, .int .i64 0], .int .i64 (nResidual A B x).2]) (by simp [results, Try.results55, go_sem, rz]) rfl ⟨by rw [HV.out], ?_⟩
    exact bz
  have b1 : ((nResidual A B x).2 != 0) = false := by simp [h0]
  have HV := Lib.hid (nVal_0 h0)
  obtain ⟨hp, hpe⟩ := nresid_parts h0
  have FX := Lib.hid (FitX.of hp)
  have RO := Lib.hid (resid_ok FX.out (by rw [← hpe]; exact h0))
  rw [← hpe] at RO
  have l1 : A.length ≤ 100 := FX.out.few.1
  have RL := Lib.hid RO.out.1
  clear h0 hp hpe
  generalize (nResidual A B x).1 = rs at *
  have l3 : rs.length ≤ 100 := by rw [RL.out]; exact l1
  obtain ⟨adu, capu, rfl, hu1, hu2, _⟩ := su.open
  have SU := Lib.hid su
  clear hA hB hx su
  have hB := hB'
  clear hB'
  go_wp2_with fail
  have oV := Own.new y1 78 [.int .i64 0, .int .i64 1]
  have hW := ba1 y1 (.cells #[.int .i64 0, .int .i64 1] 78)
  have oR1 := oR
  have zR1 := oR.lt
  replace oR := oR.below hW
  clear rS fS zS rR fR zR oS
  have zR := oR.lt
  have zR0 : w.heap.size + 1 < y1.heap.size := zR1
  have zy := hB.size
  obtain ⟨GV, hG⟩ : ∃ G, G = y1.heap.size := ⟨_, rfl⟩
  have zG : w.heap.size + 1 < GV := by rw [hG]; exact zR0
  have zG1 : y1.heap.size ≤ GV := by rw [hG]; exact Nat.le_refl _
  have zG2 : w.heap.size ≤ GV := by omega
  rw [← hG] at oV ⊢
  have oR0 := Lib.hid oR1
  clear hG zR oR oR1
  go_loopw [26] (fun i wr => ∃ k : Nat, k ≤ rs.length ∧ i = .int .i64 k ∧ Hid ((gsum (sqT rs) k).e = 0) ∧ Own wr GV 78 [.int .i64 (gsum (sqT rs) k).n, .int .i64 (gsum (sqT rs) k).d] ∧ Below y1.heap.size y1 wr) (fun i _ => rs.length - (intOf i).toNat)
  case atStart => exact ⟨0, Nat.zero_le _, rfl, rfl, oV, hW⟩
  case round =>
    clear oV hW
    obtain ⟨k, hk, rfl, he, oV, hW⟩ := hrel
    rename World => W
    have oR := oR0.out.below hW
    by_cases hlt : k < rs.length
    · obtain ⟨_, _, e, _, _, H⟩ := (SU.out.below hW).open
      cases e
      obtain ⟨b, off, rfl, c1, c2⟩ := H.out k hlt
      clear H
      have J1 := Lib.hid (gsum_i64 (sqT rs) k)
      have J3 := Lib.hid (fr_i64 (RO.out.2 k hlt))
      have F1 := Lib.hid (fmul_FOk (RO.out.2 k hlt) (RO.out.2 k hlt))
      have F2 := Lib.hid (sq_ok (k := k + 1) hlt RO.out.2)
      have HP := Lib.hid (sq_succ hlt he.out)
      have HE := Lib.hid (fun h => gsum_end (t := sqT rs) hlt h F2.out)
      generalize rs[k].1 = rn at *
      generalize rs[k].2 = rd at *
      generalize (gsum (sqT rs) k).n = sn at *
      generalize (gsum (sqT rs) k).d = sd at *
      generalize hpp : gsum (sqT rs) (k + 1) = p at *
      have HPP := Lib.hid hpp
      clear hpp
      obtain ⟨rR, fR⟩ := oR.rules
      have zR := oR.lt
      obtain ⟨rV, fV⟩ := oV.rules
      have zV := oV.lt
      go_wp2_with fail
      refine (fmul_any rn rd rn rd _ J3.out.1 J3.out.2 J3.out.1 J3.out.2).mono ?_
      rintro e y2 ⟨rfl, hq⟩
      replace hq := below_to (ba1 W _) hq
      clear rR fR zR rV fV zV
      replace oR := oR.below hq
      replace oV := oV.below hq
      replace hW := below_to hW hq
      clear hq
      obtain ⟨rR, fR⟩ := oR.rules
      have zR := oR.lt
      obtain ⟨rV, fV⟩ := oV.rules
      have zV := oV.lt
      have M2 := Lib.hid (fmul_i64 rn rd rn rd)
      have P0 := Lib.hid (fplus_0 (sn := sn) (sd := sd) (an := rn) (ad := rd) (bn := rn) (bd := rd))
      have P1 := Lib.hid (fplus_1 (sn := sn) (sd := sd) (an := rn) (ad := rd) (bn := rn) (bd := rd))
      generalize fmul rn rd rn rd = m at *
      by_cases h1 : m.e = 0
      · have b2 : (m.e != 0) = false := by simp [h1]
        have HQ : Hid (p = fadd sn sd m.n m.d) := HP.out.trans (P0.out h1)
        clear h1 P0 P1 HP F1
        go_wp2_with fail
        refine (fadd_any sn sd m.n m.d _ J1.out.1 J1.out.2 M2.out.1 M2.out.2).mono ?_
        rintro e y3 ⟨rfl, hq⟩
        replace hq := below_to (ba1 y2 _) hq
        clear rR fR zR rV fV zV
        replace oR := oR.below hq
        replace oV := oV.below hq
        replace hW := below_to hW hq
        clear hq
        obtain ⟨rR, fR⟩ := oR.rules
        have zR := oR.lt
        obtain ⟨rV, fV⟩ := oV.rules
        have zV := oV.lt
        rw [← HQ.out]
        by_cases h2 : p.e = 0
        · have b3 : (p.e != 0) = false := by simp [h2]
          have E2 := Lib.hid h2
          clear h2
          go_wp2
          go_roundw
          replace oV := ((oV).set 0 (.int .i64 p.n)).set 1 (.int .i64 p.d)
          replace hW := ((hW).setCell (p := ⟨GV, 0, none⟩) (by first | omega | (simp; done) | (simp; omega)) (.int .i64 p.n)).setCell (p := ⟨GV, 1, none⟩) (by first | omega | (simp; done) | (simp; omega)) (.int .i64 p.d)
          case rel => exact ⟨k + 1, by omega, by go_num, by rw [HPP.out]; exact E2, by rw [HPP.out]; exact oV, hW⟩
          case measure => simp [intOf]; try omega
        · have b3 : (p.e != 0) = true := by simpa using h2
          have HV2 := Lib.hid (HE.out h2)
          replace hB := below_to hB hW
          clear h2 hW
          go_wp2
          replace oR := ((((oR).other (g' := GV) (by first | omega | (simp; done) | (simp; omega)) 0 (.int .i64 p.n)).other (g' := GV) (by first | omega | (simp; done) | (simp; omega)) 1 (.int .i64 p.d)).set 0 (.int .i64 0)).set 1 (.int .i64 0)
          replace hB := ((((hB).setCell (p := ⟨GV, 0, none⟩) (by first | omega | (simp; done) | (simp; omega)) (.int .i64 p.n)).setCell (p := ⟨GV, 1, none⟩) (by first | omega | (simp; done) | (simp; omega)) (.int .i64 p.d)).setCell (p := ⟨w.heap.size + 1, 0, none⟩) (by first | omega | (simp; done) | (simp; omega)) (.int .i64 0)).setCell (p := ⟨w.heap.size + 1, 1, none⟩) (by first | omega | (simp; done) | (simp; omega)) (.int .i64 0)
          refine bp_gen' (fun W => Own W _ _ _ ∧ Below w.heap.size w W) ⟨oR, hB⟩ ?_
          rintro wz ⟨oz, bz⟩
          obtain ⟨rz, fz⟩ := oz.rules
          clear oz
          refine bodyPost_ret (v := .tuple #[.agg #[.int .i64 0, .int .i64 0], .int .i64 16]) (by simp [results, Try.results55, go_sem, rz]) rfl ⟨by rw [HV.out, HV2.out], ?_⟩
          exact bz
      · have b2 : (m.e != 0) = true := by simpa using h1
        have HV2 : Hid (gsum (sqT rs) rs.length = ⟨0, 0, 16⟩) := by
          have e1 := HP.out.trans (P1.out h1)
          refine HE.out ?_
          rw [e1]; exact h1
        replace hB := below_to hB hW
        clear h1 P0 P1 HP F1 hW
        go_wp2
        replace oR := (((oR).set 0 (.int .i64 0)).set 1 (.int .i64 0)).alloc (.cells #[.int .i64 m.n, .int .i64 m.d] 78)
        replace hB := (((hB).setCell (p := ⟨w.heap.size + 1, 0, none⟩) (by first | omega | (simp; done) | (simp; omega)) (.int .i64 0)).setCell (p := ⟨w.heap.size + 1, 1, none⟩) (by first | omega | (simp; done) | (simp; omega)) (.int .i64 0)).alloc (by first | omega | (simp; done) | (simp; omega)) (.cells #[.int .i64 m.n, .int .i64 m.d] 78)
        refine bp_gen' (fun W => Own W _ _ _ ∧ Below w.heap.size w W) ⟨oR, hB⟩ ?_
        rintro wz ⟨oz, bz⟩
        obtain ⟨rz, fz⟩ := oz.rules
        clear oz
        refine bodyPost_ret (v := .tuple #[.agg #[.int .i64 0, .int .i64 0], .int .i64 16]) (by simp [results, Try.results55, go_sem, rz]) rfl ⟨by rw [HV.out, HV2.out], ?_⟩
        exact bz
    · obtain rfl : k = rs.length := by omega
      obtain ⟨p, hp⟩ : ∃ p, p = gsum (sqT rs) rs.length := ⟨_, rfl⟩
      rw [← hp] at he oV
      have HP := Lib.hid hp
      replace hB := below_to hB hW
      clear hp hW
      obtain ⟨rR, fR⟩ := oR.rules
      have zR := oR.lt
      obtain ⟨rV, fV⟩ := oV.rules
      have zV := oV.lt
      go_wp2
      replace oR := ((oR).set 0 (.int .i64 p.n)).set 1 (.int .i64 p.d)
      replace hB := ((hB).setCell (p := ⟨w.heap.size + 1, 0, none⟩) (by first | omega | (simp; done) | (simp; omega)) (.int .i64 p.n)).setCell (p := ⟨w.heap.size + 1, 1, none⟩) (by first | omega | (simp; done) | (simp; omega)) (.int .i64 p.d)
      refine bp_gen' (fun W => Own W _ _ _ ∧ Below w.heap.size w W) ⟨oR, hB⟩ ?_
      rintro wz ⟨oz, bz⟩
      obtain ⟨rz, fz⟩ := oz.rules
      clear oz
      refine bodyPost_ret (v := .tuple #[.agg #[.int .i64 p.n, .int .i64 p.d], .int .i64 0]) (by simp [results, Try.results55, go_sem, rz]) rfl ⟨by rw [HV.out, ← HP.out, he.out], ?_⟩
      exact bz
end Go.Proofs.Ythlcmlngmcoknaa
