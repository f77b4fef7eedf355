/- What is proved here: the law NnlsExact returns true. Condition: a list of rows and a list of numbers that can be read. -/
import Derived.Test.YtfbigmjlppdlhaaC56
import Derived.Test.YtfbigmjlppdlhaaC58
import Derived.Test.YtfbigmjlppdlhaaC41
import Derived.Test.YtfbigmjlppdlhaaC06
import Derived.Deep.DeepCutAuto
namespace Go.Proofs.Ytfbigmjlppdlhaa
open Go.RowKit

set_option maxRecDepth 100000 in
set_option maxHeartbeats 16000000 in
theorem nnlsExact_any (A : List (List Int)) (p : List Int) (va vp : Value) (w : World) (hA : SS w va A) (hp : SI w vp p) :
    Calls Try.prog 14 #[va, vp] w fun e w' => e = .returned (.bool true) ∧ Below w.heap.size w w' := by
  obtain ⟨ada, capa, rfl, ha1, ha2, _⟩ := hA.open
  obtain ⟨adp, capp, rfl, hp1, hp2, _⟩ := hp.open
  go_enter Try.func14, Try.ntmps14
  have hy := Below.refl w.heap.size w
  go_wp2_with fail
  refine (alive37_any _).mono ?_
  rintro e y1 ⟨rfl, hq⟩
  replace hA := hA.below hq
  replace hp := hp.below hq
  replace hy := below_to hy hq
  clear hq
  by_cases g1 : (A.length : Int) < 1
  · have q1 : decide ((A.length : Int) < 1) = true := by simpa using g1
    clear hA hp
    go_wp2
    go_ret
    exact ⟨rfl, hy⟩
  have q1 : decide ((A.length : Int) < 1) = false := by simpa using g1
  by_cases g2 : 5 < (A.length : Int)
  · have q2 : decide (5 < (A.length : Int)) = true := by simpa using g2
    clear hA hp
    go_wp2
    go_ret
    exact ⟨rfl, hy⟩
  have q2 : decide (5 < (A.length : Int)) = false := by simpa using g2
  by_cases g3 : (p.length : Int) < 1
  · have q3 : decide ((p.length : Int) < 1) = true := by simpa using g3
    clear hA hp
    go_wp2
    go_ret
    exact ⟨rfl, hy⟩
  have q3 : decide ((p.length : Int) < 1) = false := by simpa using g3
  by_cases g4 : 3 < (p.length : Int)
  · have q4 : decide (3 < (p.length : Int)) = true := by simpa using g4
    clear hA hp
    go_wp2
    go_ret
    exact ⟨rfl, hy⟩
  have q4 : decide (3 < (p.length : Int)) = false := by simpa using g4
  have l1 : A.length ≤ 5 := by omega
  have l2 : p.length ≤ 3 := by omega
  have l3 : 0 < A.length := by omega
  clear g1 g2 g3 g4
  have oS := Own.new y1 25 [.slice ada A.length capa, .slice none 0 0]
  have hq := ba1 y1 (.cells #[.slice ada A.length capa, .slice none 0 0] 25)
  have HA := Lib.hid hA
  have HP := Lib.hid hp
  have HY := Lib.hid hy
  clear hA hp hy
  go_wp2
  clear q1 q2 q3 q4
  go_loopw [7] (fun i wr => ∃ (r : Nat) (ov : Value), r ≤ A.length ∧ i = .int .i64 r ∧ Own wr y1.heap.size 25 [.slice ada A.length capa, ov] ∧ wr.ownsRow (y1.heap.size + 1) 3 1 ov r (ics (exB A p r)) ∧ Hid (∀ r', r' < r → ∀ j, j < (A.getD r' []).length → j < p.length → exOk ((A.getD r' []).getD j 0) (p.getD j 0) = true) ∧ Below y1.heap.size y1 wr) (fun i _ => A.length - (intOf i).toNat)
  case atStart => exact ⟨0, _, Nat.zero_le _, rfl, oS, World.ownsRow_nil _ _ _ _, fun r' h => absurd h (Nat.not_lt_zero r'), hq⟩
  case round =>
    clear oS hq
    obtain ⟨r, ov, hr, rfl, oS, ow, hv, hW⟩ := hrel
    rename World => W
    by_cases hlt : r < A.length
    · obtain ⟨_, _, e, _, _, H⟩ := (HA.out.below hW).open
      cases e
      obtain ⟨b, off, ad', cap', rfl, c1, c2, c3, sR⟩ := H.out r hlt
      clear H
      have G0 : Hid (A.getD r [] = A[r]) := getD_get hlt
      have EB := Lib.hid (exB_succ A p r)
      have HVS : Hid ((∀ j, j < A[r].length → j < p.length → exOk (A[r].getD j 0) (p.getD j 0) = true) → ∀ r', r' < r + 1 → ∀ j, j < (A.getD r' []).length → j < p.length → exOk ((A.getD r' []).getD j 0) (p.getD j 0) = true) := fun h r' hr' => by
        rcases Nat.lt_or_ge r' r with h1 | h1
        · exact hv.out r' h1
        · obtain rfl : r' = r := by omega
          rw [G0.out]; exact h
      rw [G0.out] at EB
      clear hv G0
      generalize A[r] = row at *
      go_wp2
      go_loopw [8, 9] (fun s i wr => ∃ k : Nat, k ≤ row.length ∧ k ≤ p.length ∧ i = .int .i64 k ∧ s = .int .i64 (dsum row p k) ∧ Hid (∀ j, j < k → exOk (row.getD j 0) (p.getD j 0) = true) ∧ Below W.heap.size W wr) (fun _ i _ => row.length - (intOf i).toNat)
      case atStart => exact ⟨0, Nat.zero_le _, Nat.zero_le _, rfl, rfl, fun j hj => absurd hj (Nat.not_lt_zero j), Below.refl _ _⟩
      case round =>
        obtain ⟨k, hk1, hk2, rfl, rfl, hx, hQ⟩ := hrel
        rename World => W1
        have c1' : W1.cell? ⟨b, off + r, none⟩ = some (.slice ad' row.length cap') := below_cell hQ c1
        have hlt' : r < A.length := hlt
        by_cases ha : k < row.length
        · by_cases hb : k < p.length
          · obtain ⟨_, _, e, _, _, H⟩ := (sR.below hQ).open
            cases e
            obtain ⟨b1, o1, rfl, d1⟩ := H.out k ha
            clear H
            obtain ⟨_, _, e, _, _, H⟩ := (HP.out.below (below_to hW hQ)).open
            cases e
            obtain ⟨b2, o2, rfl, d2⟩ := H.out k hb
            clear H
            have hz := below_to HY.out (below_to hW hQ)
            have f1 : row.getD k 0 = row[k] := getD_get ha
            have f2 : p.getD k 0 = p[k] := getD_get hb
            have DS := Lib.hid (dsum_succ row p k)
            have DB := Lib.hid (fun h => dsum_bd (a := row) (p := p) (k := k) (by omega) h)
            have HXS := Lib.hid (fun (h : exOk (row.getD k 0) (p.getD k 0) = true) (j : Nat) (hj : j < k + 1) => show exOk (row.getD j 0) (p.getD j 0) = true from (by
              rcases Nat.lt_or_ge j k with h1 | h1
              · exact hx.out j h1
              · obtain rfl : j = k := by omega
                exact h))
            rw [f1, f2] at DS HXS
            clear f1 f2
            have z1 := World.block_lt_of_cell? W1 _ d1
            have z2 := World.block_lt_of_cell? W1 _ d2
            have z3 := World.block_lt_of_cell? W1 _ c1'
            generalize row[k] = rk at *
            generalize p[k] = pk at *
            by_cases t1 : rk < -5
            · have q1 : decide (rk < -5) = true := by simpa using t1
              clear DB
              go_wp2
              go_ret
              exact ⟨rfl, hz⟩
            have q1 : decide (rk < -5) = false := by simpa using t1
            by_cases t2 : 5 < rk
            · have q2 : decide (5 < rk) = true := by simpa using t2
              clear DB
              go_wp2
              go_ret
              exact ⟨rfl, hz⟩
            have q2 : decide (5 < rk) = false := by simpa using t2
            by_cases t3 : pk < 0
            · have q3 : decide (pk < 0) = true := by simpa using t3
              clear DB
              go_wp2
              go_ret
              exact ⟨rfl, hz⟩
            have q3 : decide (pk < 0) = false := by simpa using t3
            by_cases t4 : 50 < pk
            · have q4 : decide (50 < pk) = true := by simpa using t4
              clear DB
              go_wp2
              go_ret
              exact ⟨rfl, hz⟩
            have q4 : decide (50 < pk) = false := by simpa using t4
            have HX2 := Lib.hid (HXS.out (by unfold exOk; rw [q1, q2, q3, q4]; rfl))
            have ES : Hid (wrap64 (dsum row p k + wrap64 (rk * pk)) = dsum row p (k + 1)) := by
              show _ = _
              rw [DS.out]
              exact wr_more' (X := 5) (Y := 50) (DB.out hx.out) (by unfold wi; omega) (by unfold wi; omega) (by decide) (by decide)
            clear DB HXS DS t1 t2 t3 t4 hz hx
            go_wp2_with fail
            have gl := @grow_lt
            refine wp_region_st [.t [0, 1, 2, 3, 4, 5, 6, 7, 8, 9, 10, 11, 12, 13]] [14] (by kernel_rfl) (by kernel_rfl) (fun _ _ _ _ _ h => h) ?_
            refine wpX_t ?_
            try simp only [opsAt, List.getElem?_toArray, List.getElem?_cons_zero, List.getElem?_cons_succ, Option.getD_some]
            repeat (go_big_quiet_step (fail))
            refine wpQuiet_nil ?_
            refine wpX_nil ?_
            try simp only [opsAt, List.getElem?_toArray, List.getElem?_cons_zero, List.getElem?_cons_succ, Option.getD_some]
            clear gl
            go_wp2
            rw [ES.out]
            go_roundw
            case rel => exact ⟨k + 1, by omega, by omega, by go_num, rfl, HX2, hQ.drew⟩
            case measure => simp [intOf]; try omega
          · have hmn : min row.length p.length = k := by omega
            have HV2 := Lib.hid (HVS.out fun j h1 h2 => hx.out j (by omega))
            rw [hmn] at EB
            replace oS := oS.below hQ
            replace ow := owns_at ow hQ
            have hWW := below_to hW hQ
            have zr := hWW.size
            have zS := oS.lt
            clear hmn hx HVS hW hQ c1
            generalize hds : dsum row p k = ds at *
            clear hds
            obtain ⟨rS, fS⟩ := oS.rules
            have zS := oS.lt
            go_wp2_with (at_builtin; refine wpList_app _ rfl _ _ _ rfl (y1.heap.size + 1) 3 1 8 (.int .i64 0) Try.underlying23 Try.infoInt rfl (by omega) (by omega) ov r _ rfl (ow.alloc _) (by omega) (by simp; omega) W1.heap.size [.int .i64 ds] (0, 0) rfl (heap_alloc_new W1 _) rfl (by simp [Value.oneCell']) ?_; intro gq cap2 w2 hown hgq hbw; have hoS := (oS.alloc (.cells #[.int .i64 ds] 3)).at hbw (by omega); obtain ⟨rT, fT⟩ := hoS.rules; have zT := hoS.lt)
            go_roundw
            case rel =>
              refine ⟨r + 1, _, by omega, by go_num, hoS.set 1 (.slice (some ⟨gq, 0, none⟩) (r + 1) cap2), ?_, HV2, ((hWW.alloc zr _).trans (hbw.mono (Nat.le_succ _))).setCell (p := ⟨y1.heap.size, 1, none⟩) (Nat.le_refl _) _⟩
              rw [EB.out]
              have h2 := owns_set_low hown (p := ⟨y1.heap.size, 1, none⟩) (Nat.lt_succ_self _) (.slice (some ⟨gq, 0, none⟩) (r + 1) cap2)
              simpa [ics] using h2
            case measure => simp [intOf]; try omega
        · have hmn : min row.length p.length = k := by omega
          have HV2 := Lib.hid (HVS.out fun j h1 h2 => hx.out j (by omega))
          rw [hmn] at EB
          replace oS := oS.below hQ
          replace ow := owns_at ow hQ
          have hWW := below_to hW hQ
          have zr := hWW.size
          have zS := oS.lt
          clear hmn hx HVS hW hQ c1
          generalize hds : dsum row p k = ds at *
          clear hds
          obtain ⟨rS, fS⟩ := oS.rules
          have zS := oS.lt
          go_wp2_with (at_builtin; refine wpList_app _ rfl _ _ _ rfl (y1.heap.size + 1) 3 1 8 (.int .i64 0) Try.underlying23 Try.infoInt rfl (by omega) (by omega) ov r _ rfl (ow.alloc _) (by omega) (by simp; omega) W1.heap.size [.int .i64 ds] (0, 0) rfl (heap_alloc_new W1 _) rfl (by simp [Value.oneCell']) ?_; intro gq cap2 w2 hown hgq hbw; have hoS := (oS.alloc (.cells #[.int .i64 ds] 3)).at hbw (by omega); obtain ⟨rT, fT⟩ := hoS.rules; have zT := hoS.lt)
          go_roundw
          case rel =>
            refine ⟨r + 1, _, by omega, by go_num, hoS.set 1 (.slice (some ⟨gq, 0, none⟩) (r + 1) cap2), ?_, HV2, ((hWW.alloc zr _).trans (hbw.mono (Nat.le_succ _))).setCell (p := ⟨y1.heap.size, 1, none⟩) (Nat.le_refl _) _⟩
            rw [EB.out]
            have h2 := owns_set_low hown (p := ⟨y1.heap.size, 1, none⟩) (Nat.lt_succ_self _) (.slice (some ⟨gq, 0, none⟩) (r + 1) cap2)
            simpa [ics] using h2
          case measure => simp [intOf]; try omega
    · obtain rfl : r = A.length := by omega
      have sB : SI W ov (exB A p A.length) := by
        have h := owns_sl ow (by omega)
        unfold SI
        rw [exB_len]; exact h
      have hA := HA.out.below hW
      have hp := HP.out.below hW
      have hy := below_to HY.out hW
      clear HA HP HY hW ow
      obtain ⟨rS, fS⟩ := oS.rules
      have zS := oS.lt
      go_wp2_with fail
      refine (rncheck_any A (exB A p A.length) _ _ _ hA sB).mono ?_
      rintro e y3 ⟨rfl, hq⟩
      clear rS fS zS
      replace oS := oS.below hq
      replace hA := hA.below hq
      replace sB := sB.below hq
      replace hp := hp.below hq
      replace hy := below_to hy hq
      clear hq
      obtain ⟨rS, fS⟩ := oS.rules
      have zS := oS.lt
      by_cases h0 : ncheck A (exB A p A.length) = 0
      case neg =>
        have q0 : (ncheck A (exB A p A.length) != 0) = true := by simpa using h0
        clear h0 hA sB hp
        go_wp2
        go_ret
        exact ⟨rfl, hy⟩
      rw [h0]
      have H0 := Lib.hid h0
      clear h0
      obtain ⟨_, _, e, _, _, H⟩ := hA.open
      cases e
      obtain ⟨b0, o0, ad0, cap0, rfl, c1, c2, c3, _⟩ := H.out 0 l3
      clear H
      rw [Nat.add_zero] at c1
      have G0 : Hid ((A.getD 0 []).length = A[0].length) := by show _ = _; rw [getD_get l3]
      by_cases hl : A[0].length = p.length
      case neg =>
        have q1 : ((A[0].length : Int) != (p.length : Int)) = true := by simp; omega
        clear hl G0 hA sB hp
        generalize A[0].length = n at *
        go_wp2
        go_ret
        exact ⟨rfl, hy⟩
      rw [hl] at c1 c2 c3
      have HLn : Hid ((A.getD 0 []).length = p.length) := by show _ = _; rw [G0.out, hl]
      clear hl G0
      have EF := exact_fact H0.out HLn.out (fun j hj => by
        have h1 := hv.out 0 l3 j (by rw [HLn.out]; exact hj) hj
        unfold exOk at h1
        simp only [Bool.and_eq_true, Bool.not_eq_true', decide_eq_false_iff_not] at h1
        omega)
      have EF1 := Lib.hid EF.1
      have EF2 := Lib.hid EF.2
      clear EF hv
      have HF := Lib.hid (fit_of H0.out)
      have so := Lib.hid (sol_ok H0.out (Int.le_refl 0) (by decide : (0 : Int) ≤ 1000))
      have HI := Lib.hid (sol_FI (c := 0) HF.out (Int.le_refl 0) (by decide))
      have HS := Lib.hid (nsolve_0 (c := 0) H0.out)
      have PX := Lib.hid ((pointB_iff (x := nsol A (exB A p A.length) 0 (A.getD 0 []).length) H0.out).1 so.out.point)
      have k1 : CellIs y3 ⟨b0, o0, none⟩ (.slice ad0 p.length cap0) := c1
      go_wp2_with fail
      clear c1
      refine (nsolve_as A (exB A p A.length) _ _ _ _ hA sB HS.out).mono ?_
      rintro e y4 ⟨u, rfl, sx, hq⟩
      clear rS fS zS
      replace oS := oS.below hq
      replace hA := hA.below hq
      replace sB := sB.below hq
      replace hp := hp.below hq
      replace hy := below_to hy hq
      clear hq k1
      have sx' : SF y4 u (nsol A (exB A p A.length) 0 (A.getD 0 []).length) := sx
      clear sx
      obtain ⟨X, hX⟩ : ∃ X, X = nsol A (exB A p A.length) 0 (A.getD 0 []).length := ⟨_, rfl⟩
      rw [← hX] at sx' HI PX EF1 EF2
      clear hX so HS HF
      generalize exB A p A.length = B at *
      obtain ⟨rS, fS⟩ := oS.rules
      have zS := oS.lt
      go_wp2_with fail
      refine (rnpt_as A X true _ _ _ _ hA sx' HI.out l3 PX.out).mono ?_
      rintro e y5 ⟨rfl, hq⟩
      clear rS fS zS
      replace oS := oS.below hq
      replace hA := hA.below hq
      replace sB := sB.below hq
      replace hp := hp.below hq
      replace sx' := sx'.below hq
      replace hy := below_to hy hq
      clear hq
      obtain ⟨rS, fS⟩ := oS.rules
      have zS := oS.lt
      go_wp2_with fail
      refine (nval_as A B X _ _ _ _ _ hA sB sx' HI.out EF1.out).mono ?_
      rintro e y6 ⟨rfl, hq⟩
      clear rS fS zS
      replace oS := oS.below hq
      replace hA := hA.below hq
      replace sB := sB.below hq
      replace hp := hp.below hq
      replace sx' := sx'.below hq
      replace hy := below_to hy hq
      clear hq
      obtain ⟨rS, fS⟩ := oS.rules
      have zS := oS.lt
      go_upto_region 22 with fail
      have oP := Own.new y6 34 [.int .i64 0, .int .i64 1]
      have hq := ba1 y6 (.cells #[.int .i64 0, .int .i64 1] 34)
      clear rS fS zS
      replace oS := oS.below hq
      replace hA := hA.below hq
      replace sB := sB.below hq
      replace sx' := sx'.below hq
      replace hy := below_to hy hq
      clear hq
      obtain ⟨bP, hbP⟩ : ∃ b, b = y6.heap.size := ⟨_, rfl⟩
      rw [← hbP] at oP ⊢
      clear hbP hp
      generalize y6.alloc (.cells #[.int .i64 0, .int .i64 1] 34) = y7 at *
      obtain ⟨rS, fS⟩ := oS.rules
      have zS := oS.lt
      obtain ⟨rP, fP⟩ := oP.rules
      have zP := oP.lt
      go_wp2_with fail
      refine (ngrad_as A B X _ _ _ _ _ hA sB sx' HI.out EF2.out).mono ?_
      rintro e y8 ⟨ug, rfl, sg, hq⟩
      clear rS fS zS rP fP zP
      replace oS := oS.below hq
      replace oP := oP.below hq
      replace hy := below_to hy hq
      clear hq
      obtain ⟨rS, fS⟩ := oS.rules
      have zS := oS.lt
      obtain ⟨rP, fP⟩ := oP.rules
      have zP := oP.lt
      have sg' : SF y8 ug ((List.range p.length).map fun _ => ((0, 1) : Int × Int)) := sg
      clear sg hA sB sx' EF1 EF2
      obtain ⟨adg, capg, e, hg1, hg2, _⟩ := sg'.open
      subst e
      have GL : Hid (((List.range p.length).map fun _ => ((0, 1) : Int × Int)).length = p.length) := by show _ = _; simp
      have sg := sg'
      clear sg'
      rw [GL.out] at hg1 hg2 sg ⊢
      have HG : Hid (∀ k, k < p.length → ((List.range p.length).map fun _ => ((0, 1) : Int × Int))[k]? = some (0, 1)) := fun k hk => by simp [hk]
      generalize ((List.range p.length).map fun _ => ((0, 1) : Int × Int)) = G at *
      have SG := Lib.hid sg
      clear sg
      go_wp2_with fail
      have gl := @grow_lt
      refine wp_region_grow (by kernel_rfl) (by kernel_rfl) ?_
      repeat (go_big_quiet_step (first | (go_at_call 55; exact Calls.grow_of (rof_any 0 _))))
      refine wpQuiet_nil ?_
      rintro _ ⟨ex, rfl⟩
      clear gl rS fS zS rP fP zP oS oP
      have hq := below_grow y8 ex
      generalize grow y8 ex = y9 at *
      have SG9 := Lib.hid (SG.out.below hq)
      replace hy := below_to hy hq
      clear hq SG
      go_wp2
      go_loopw [17] (fun i wr => ∃ k : Nat, k ≤ p.length ∧ i = .int .i64 k ∧ Below y9.heap.size y9 wr) (fun i _ => p.length - (intOf i).toNat)
      case atStart => exact ⟨0, Nat.zero_le _, rfl, Below.refl _ _⟩
      case round =>
        obtain ⟨k, hk, rfl, hQ⟩ := hrel
        rename World => W9
        by_cases hkp : k < p.length
        · have hkG : k < G.length := by rw [GL.out]; exact hkp
          obtain ⟨_, _, e, _, _, H⟩ := (SG9.out.below hQ).open
          rw [GL.out] at e
          cases e
          obtain ⟨b1, o1, rfl, d1, d2⟩ := H.out k hkG
          clear H
          rw [show G[k] = (0, 1) by simpa [hkG] using HG.out k hkp] at d1 d2
          simp only at d1 d2
          have z1 := World.block_lt_of_cell? W9 _ d1
          simp only at z1
          clear hkG
          go_wp2_with fail
          have gl := @grow_lt
          refine wp_region_grow (by kernel_rfl) (by kernel_rfl) ?_
          repeat (go_big_quiet_step (first | (go_at_call 55; exact Calls.grow_of (rof_any 0 _))))
          refine wpQuiet_nil ?_
          rintro _ ⟨ex, rfl⟩
          have hq := below_grow W9 ex
          go_wp2
          go_roundw
          case rel => exact ⟨k + 1, by omega, by go_num, below_to hQ hq⟩
          case measure => simp [intOf]; try omega
        · obtain rfl : k = p.length := by omega
          go_wp2
          go_ret
          exact ⟨rfl, below_to hy hQ⟩
end Go.Proofs.Ytfbigmjlppdlhaa
