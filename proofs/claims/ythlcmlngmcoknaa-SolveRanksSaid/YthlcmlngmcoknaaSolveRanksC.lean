/- What is proved here: the law SolveRanks returns true. Condition: a system that can be read. -/
import Derived.Test.YthlcmlngmcoknaaC46
import Derived.Test.YthlcmlngmcoknaaC47
import Derived.Test.YthlcmlngmcoknaaC49
import Derived.Test.YthlcmlngmcoknaaC01
namespace Go.Proofs.Ythlcmlngmcoknaa
open Go.RowKit

set_option maxRecDepth 100000 in
set_option maxHeartbeats 16000000 in
theorem solveRanks_any (A : List (List Int)) (B : List Int) (va vb : Value) (w : World) (hA : SS w va A) (hB : SI w vb B) :
    Calls Try.prog 5 #[.agg #[va, vb]] w fun e w' => e = .returned (.bool true) ∧ Below w.heap.size w w' := by
  go_enter Try.func5, Try.ntmps5
  have oS := Own.new w 25 [va, vb]
  have hy := ba1 w (.cells #[va, vb] 25)
  replace hA := hA.below hy
  replace hB := hB.below hy
  obtain ⟨rS, fS⟩ := oS.rules
  have zS := oS.lt
  go_wp2_with fail
  refine (alive29_any _).mono ?_
  rintro e y1 ⟨rfl, hq⟩
  clear rS fS zS
  replace oS := oS.below hq
  replace hA := hA.below hq
  replace hB := hB.below hq
  replace hy := below_to hy hq
  clear hq
  obtain ⟨rS, fS⟩ := oS.rules
  have zS := oS.lt
  go_wp2_with fail
  refine (rocheck_any A B _ _ _ hA hB).mono ?_
  rintro e y2 ⟨rfl, hq⟩
  clear rS fS zS
  replace oS := oS.below hq
  replace hA := hA.below hq
  replace hB := hB.below hq
  replace hy := below_to hy hq
  clear hq
  obtain ⟨rS, fS⟩ := oS.rules
  have zS := oS.lt
  by_cases h0 : ocheck A B = 0
  case neg =>
    have b1 : (ocheck A B != 0) = true := by simpa using h0
    clear h0 hA hB
    go_wp2
    go_ret
    exact ⟨rfl, hy⟩
  have SY := Lib.hid (sys_of h0)
  have RK := Lib.hid (oRank_0 h0)
  have RC := Lib.hid (oRank_cols h0)
  have ZB := Lib.hid (zero_basis h0)
  have RM := Lib.hid (rank_min h0)
  have CC : Hid (colsA A = (List.range (A.getD 0 []).length).map (ocol A) ∧ colsB A = List.replicate (A.getD 0 []).length 0) := ⟨rfl, rfl⟩
  rw [h0]
  clear h0
  go_wp2_with fail
  refine (orank_any A B _ _ _ hA hB).mono ?_
  rintro e y3 ⟨rfl, hq⟩
  rw [RK.out]
  clear rS fS zS
  replace oS := oS.below hq
  replace hA := hA.below hq
  replace hB := hB.below hq
  replace hy := below_to hy hq
  clear hq
  obtain ⟨rS, fS⟩ := oS.rules
  have zS := oS.lt
  have SA := Lib.hid hA
  have SB2 := Lib.hid hB
  have OS := Lib.hid oS
  have r1 := SY.out.rows.1
  have r6 := SY.out.rows.2
  have n1 := SY.out.cols.1
  have n6 := SY.out.cols.2
  have BL := Lib.hid SY.out.right
  have W0 := Lib.hid (SY.out.wide 0 r1)
  obtain ⟨ada, capa, e, ha1, ha2, _⟩ := hA.open
  subst e
  obtain ⟨adb, capb, e, hb1, hb2, _⟩ := hB.open
  subst e
  clear hA hB
  generalize hk : (ored A B).bnd.length = rk at *
  clear hk
  generalize hn : (A.getD 0 []).length = n at *
  have HN := Lib.hid hn
  clear hn
  have oT := Own.new y3 25 [.slice none 0 0, .slice none 0 0]
  have hq := ba1 y3 (.cells #[.slice none 0 0, .slice none 0 0] 25)
  go_upto_region 6 with fail
  have T0 := Tn.nil (Ti := 3) (Tr := 23) (R := ocol A) oT (Nat.le_refl _) hq
  obtain ⟨b0, hb0⟩ : ∃ b, b = y3.heap.size := ⟨_, rfl⟩
  rw [← hb0] at T0 ⊢
  have HB0 := Lib.hid hb0
  clear hb0 oT hq rS fS zS oS
  generalize y3.alloc (.cells #[.slice none 0 0, .slice none 0 0] 25) = y4 at *
  go_wp2
  go_loopw [7] (fun i wr => ∃ (k : Nat) (av bv : Value) (vs : List Value), k ≤ n ∧ i = .int .i64 k ∧ Tn y3 b0 3 23 25 (ocol A) wr av k vs bv k (List.replicate k 0) av bv) (fun i _ => n + 1 - (intOf i).toNat)
  case atStart => exact ⟨0, _, _, [], Nat.zero_le _, rfl, T0⟩
  case round =>
    obtain ⟨k, av, bv, vs, hk, rfl, TN⟩ := hrel
    rename World => W
    obtain ⟨ad4, cap4, e4⟩ := oslice TN.rows.1
    subst e4
    obtain ⟨ad5, cap5, e5⟩ := oslice TN.side
    subst e5
    have oS := OS.out.below TN.bel
    obtain ⟨_, _, e, _, _, H⟩ := (SA.out.below TN.bel).open
    cases e
    obtain ⟨b, off, ad0, cap0, rfl, d1, d2, d3, _⟩ := H.out 0 r1
    rw [W0.out] at d1 d2 d3
    rw [Nat.add_zero] at d1
    clear H
    by_cases hlt : k < n
    · obtain ⟨rS, fS⟩ := oS.rules
      have zS := oS.lt
      go_wp2
      clear rS fS zS oS d1
      go_loopw [8, 9] (fun cv i wr => ∃ m : Nat, m ≤ A.length ∧ i = .int .i64 m ∧ wr.ownsRow W.heap.size 3 1 cv m (ics ((ocol A k).take m)) ∧ Below W.heap.size W wr) (fun _ i _ => A.length + 1 - (intOf i).toNat)
      case atStart => exact ⟨0, Nat.zero_le _, rfl, World.ownsRow_nil _ _ _ _, Below.refl _ _⟩
      case round =>
        obtain ⟨m, hm, rfl, og, hD⟩ := hrel
        rename World => Y
        have oS := OS.out.below (below_to TN.bel hD)
        by_cases hml : m < A.length
        · obtain ⟨_, _, e, _, _, H⟩ := (SA.out.below (below_to TN.bel hD)).open
          cases e
          obtain ⟨b', off', ad', cap', e, c1, c2, c3, s1⟩ := H.out m hml
          cases e
          have WK : A[m].length = n := SY.out.wide m hml
          have hkm : k < A[m].length := by omega
          have OT := Lib.hid (ocol_take hml hkm)
          obtain ⟨_, _, e, _, _, HR⟩ := s1.open
          cases e
          obtain ⟨b3, off3, rfl, c4⟩ := HR.out k hkm
          clear H HR s1
          generalize A[m][k] = z at *
          rw [WK] at c1 c2 c3
          clear WK hkm
          have zD := hD.size
          have zb := World.block_lt_of_cell? _ _ c1
          have zb2 := World.block_lt_of_cell? _ _ c4
          simp only at zb zb2
          obtain ⟨rS, fS⟩ := oS.rules
          have zS := oS.lt
          go_wp2_with (at_builtin; refine wpList_app _ rfl _ _ _ rfl W.heap.size 3 1 8 (.int .i64 0) Try.underlying23 oint_info rfl (by omega) (by omega) _ _ _ rfl (og.alloc _) (by omega) (by simp; omega) Y.heap.size [.int .i64 z] (0, 0) rfl (heap_alloc_new Y _) rfl (by simp [Value.oneCell']) ?_; intro g cap2 w2 hown hg hbw)
          go_roundw
          case rel =>
            refine ⟨m + 1, by omega, by go_num, ?_, ?_⟩
            · rw [OT.out, ics_app]; exact hown
            · exact (below_to hD (ba1 Y _)).trans (hbw.mono (Nat.le_refl _))
          case measure => simp [intOf]; try omega
        · obtain rfl : m = A.length := by omega
          have e0 : (ocol A k).take A.length = ocol A k := List.take_of_length_le (by rw [ocol_len]; exact Nat.le_refl _)
          rw [e0] at og
          obtain ⟨adr, capr, e7⟩ := oslice og
          subst e7
          have OG := Lib.hid og
          clear e0 hm og
          obtain ⟨rS, fS⟩ := oS.rules
          have zS := oS.lt
          go_upto_region 14 with fail
          have TY := TN.below hD
          have hbW : b0 + 1 ≤ W.heap.size := TN.sz
          have hall : ∀ u ∈ (Value.slice ad4 k cap4) :: (Value.slice ad5 k cap5) :: vs, Apart u (.slice adr A.length capr) := fun u hu => by
            rcases List.mem_cons.1 hu with rfl | hu
            · exact apart_new TN.rows.1 OG.out
            rcases List.mem_cons.1 hu with rfl | hu
            · exact apart_new TN.side OG.out
            · obtain ⟨i, hi, e⟩ := List.getElem_of_mem hu
              obtain ⟨u2, e1, e2, _⟩ := TN.rows.2 i (by have := TN.rows.1.1; omega)
              rw [List.getElem?_eq_getElem hi, e] at e1; cases e1; exact apart_new e2 OG.out
          have OGU : Y.ownsRow W.heap.size 3 1 (.slice adr A.length capr) (ocol A k).length (ics (ocol A k)) := by rw [ocol_len]; exact OG.out
          clear OG rS fS zS oS
          have hR : Below Y.heap.size Y Y.drew := (Below.refl _ _).drew
          replace OGU := owns_at OGU hR
          have TU := TY.below hR
          clear TY hR TN
          have kS : (fun W' : World => W'.cell? ⟨b0, 0, none⟩ = some (.slice ad4 k cap4) ∧ W'.cell? ⟨b0, 1, none⟩ = some (.slice ad5 k cap5)) Y.drew := ⟨by rw [(TU.box.rules).1]; rfl, by rw [(TU.box.rules).1]; rfl⟩
          have mS0 := fun e => (keepW_is (S := fun W' : World => W'.cell? ⟨b0, 0, none⟩ = some (.slice ad4 k cap4) ∧ W'.cell? ⟨b0, 1, none⟩ = some (.slice ad5 k cap5)) kS e).1
          have mS1 := fun e => (keepW_is (S := fun W' : World => W'.cell? ⟨b0, 0, none⟩ = some (.slice ad4 k cap4) ∧ W'.cell? ⟨b0, 1, none⟩ = some (.slice ad5 k cap5)) kS e).2
          refine wp_region_tree (fun W' => ∃ e, W' = keepW (fun W' : World => W'.cell? ⟨b0, 0, none⟩ = some (.slice ad4 k cap4) ∧ W'.cell? ⟨b0, 1, none⟩ = some (.slice ad5 k cap5)) Y.drew e) (.t [0, 1, 2, 5, 6] (.two 3 (.two 4 (.t [9] (.f 7 (.f 8 (.nil [10, 11, 12])))) 7 (.f 4 (.t [9] (.f 8 (.nil [10, 11, 12]))))) 7 (.f 3 (.f 4 (.t [9] (.f 8 (.nil [10, 11, 12]))))))) (by kernel_rfl) (by kernel_rfl) (fun _ _ _ _ _ h => h) (keepW_of kS) ?_
          refine wpT_t ?_
          try simp only [opsAt, List.getElem?_toArray, List.getElem?_cons_zero, List.getElem?_cons_succ, Option.getD_some]
          repeat (go_big_quiet_step (fail))
          refine wpQuiet_nil ?_
          clear mS0 mS1 kS
          generalize hU : Y.drew = U at *
          clear hU
          refine wpT_two ?_ ?_
          · refine wpT_f rfl rfl (fun K' hK' => ?_)
            go_simp
            have oP3 := Own.new U 23 [.slice adr A.length capr]
            have hq := ba1 U (.cells #[.slice adr A.length capr] 23)
            have nA3 := row_not TU.rows.1 (Nat.le_refl _)
            have nB3 := row_not TU.side (Nat.le_refl _)
            replace OGU := owns_at OGU hq
            have T1 := TU.below hq
            refine hK' _ _ (keepW_of ⟨by rw [((T1).box.rules).1]; rfl, by rw [((T1).box.rules).1]; rfl⟩) ?_
            clear hK' K' hq
            clear TU
            obtain ⟨p3, hp3⟩ : ∃ p, p = U.heap.size := ⟨_, rfl⟩
            rw [← hp3] at oP3 nA3 nB3 ⊢
            clear hp3
            generalize U.alloc (.cells #[.slice adr A.length capr] 23) = U1 at *
            refine wpT_two ?_ ?_
            · refine wpT_f rfl rfl (fun K' hK' => ?_)
              refine wp_apps U1 _ _ rfl (b0 + 1) 23 1 24 (.slice none 0 0) Try.underlying22 orow_info rfl (by omega) (by omega) _ k vs rfl T1.rows.1 T1.sz _ 1 [.slice adr A.length capr] rfl (sl_one oP3) rfl (by simp [Value.oneCell']) (by omega) ?_
              intro va4 U2 hown hkp
              obtain ⟨g4, c4, rfl⟩ := own_slice hown
              have T2 := T1.pushA hbW hall OGU hown hkp
              refine hK' _ _ (keepW_of ⟨by rw [((T2).box.rules).1]; rfl, by rw [((T2).box.rules).1]; rfl⟩) ?_
              clear hK' K' hown hkp T1 OGU oP3 nA3 nB3
              try go_simp
              refine wpT_t ?_
              try simp only [opsAt, List.getElem?_toArray, List.getElem?_cons_zero, List.getElem?_cons_succ, Option.getD_some]
              repeat (go_big_quiet_step (fail))
              refine wpQuiet_nil ?_
              refine wpT_f rfl rfl (fun K' hK' => ?_)
              go_simp
              have oP7 := Own.new U2 3 [.int .i64 0]
              have hq := ba1 U2 (.cells #[.int .i64 0] 3)
              have nA7 := row_not T2.rows.1 (Nat.le_refl _)
              have nB7 := row_not T2.side (Nat.le_refl _)
              have T3 := T2.below hq
              refine hK' _ _ (keepW_of ⟨by rw [((T3).box.rules).1]; rfl, by rw [((T3).box.rules).1]; rfl⟩) ?_
              clear hK' K' hq
              clear T2
              obtain ⟨p7, hp7⟩ : ∃ p, p = U2.heap.size := ⟨_, rfl⟩
              rw [← hp7] at oP7 nA7 nB7 ⊢
              clear hp7
              generalize U2.alloc (.cells #[.int .i64 0] 3) = U3 at *
              refine wpT_f rfl rfl (fun K' hK' => ?_)
              refine wp_apps U3 _ _ rfl (b0 + 1) 3 1 8 (.int .i64 0) Try.underlying23 oint_info rfl (by omega) (by omega) _ k (ics (List.replicate k 0)) rfl T3.side T3.sz _ 1 [.int .i64 0] rfl (sl_one oP7) rfl (by simp [Value.oneCell']) (by omega) ?_
              intro va8 U4 hown hkp
              obtain ⟨g8, c8, rfl⟩ := own_slice hown
              have T4 := T3.pushB (z := 0) hown hkp
              refine hK' _ _ (keepW_of ⟨by rw [((T4).box.rules).1]; rfl, by rw [((T4).box.rules).1]; rfl⟩) ?_
              clear hK' K' hown hkp T3 oP7 nA7 nB7
              refine wpT_nil ?_
              try simp only [opsAt, List.getElem?_toArray, List.getElem?_cons_zero, List.getElem?_cons_succ, Option.getD_some]
              obtain ⟨rT, fT⟩ := T4.box.rules
              have zT := T4.box.lt
              go_wp2
              go_roundw
              case rel => exact ⟨k + 1, _, _, _, by omega, by go_num, by rw [List.replicate_succ']; exact (T4.set0 _).set1 _⟩
              case measure => simp [intOf]; try omega
            · refine wpT_f rfl rfl (fun K' hK' => ?_)
              go_simp
              have oP7 := Own.new U1 3 [.int .i64 0]
              have hq := ba1 U1 (.cells #[.int .i64 0] 3)
              have nA7 := row_not T1.rows.1 (Nat.le_refl _)
              have nB7 := row_not T1.side (Nat.le_refl _)
              replace oP3 := oP3.below hq
              replace OGU := owns_at OGU hq
              have T2 := T1.below hq
              refine hK' _ _ (keepW_of ⟨by rw [((T2).box.rules).1]; rfl, by rw [((T2).box.rules).1]; rfl⟩) ?_
              clear hK' K' hq
              clear T1
              obtain ⟨p7, hp7⟩ : ∃ p, p = U1.heap.size := ⟨_, rfl⟩
              rw [← hp7] at oP7 nA7 nB7 ⊢
              clear hp7
              generalize U1.alloc (.cells #[.int .i64 0] 3) = U2 at *
              refine wpT_f rfl rfl (fun K' hK' => ?_)
              refine wp_apps U2 _ _ rfl (b0 + 1) 23 1 24 (.slice none 0 0) Try.underlying22 orow_info rfl (by omega) (by omega) _ k vs rfl T2.rows.1 T2.sz _ 1 [.slice adr A.length capr] rfl (sl_one oP3) rfl (by simp [Value.oneCell']) (by omega) ?_
              intro va4 U3 hown hkp
              obtain ⟨g4, c4, rfl⟩ := own_slice hown
              have T3 := T2.pushA hbW hall OGU hown hkp
              replace oP7 := hkp.own oP7 nA7
              refine hK' _ _ (keepW_of ⟨by rw [((T3).box.rules).1]; rfl, by rw [((T3).box.rules).1]; rfl⟩) ?_
              clear hK' K' hown hkp T2 OGU oP3 nA3 nB3
              try go_simp
              refine wpT_t ?_
              try simp only [opsAt, List.getElem?_toArray, List.getElem?_cons_zero, List.getElem?_cons_succ, Option.getD_some]
              repeat (go_big_quiet_step (fail))
              refine wpQuiet_nil ?_
              refine wpT_f rfl rfl (fun K' hK' => ?_)
              refine wp_apps U3 _ _ rfl (b0 + 1) 3 1 8 (.int .i64 0) Try.underlying23 oint_info rfl (by omega) (by omega) _ k (ics (List.replicate k 0)) rfl T3.side T3.sz _ 1 [.int .i64 0] rfl (sl_one oP7) rfl (by simp [Value.oneCell']) (by omega) ?_
              intro va8 U4 hown hkp
              obtain ⟨g8, c8, rfl⟩ := own_slice hown
              have T4 := T3.pushB (z := 0) hown hkp
              refine hK' _ _ (keepW_of ⟨by rw [((T4).box.rules).1]; rfl, by rw [((T4).box.rules).1]; rfl⟩) ?_
              clear hK' K' hown hkp T3 oP7 nA7 nB7
              refine wpT_nil ?_
              try simp only [opsAt, List.getElem?_toArray, List.getElem?_cons_zero, List.getElem?_cons_succ, Option.getD_some]
              obtain ⟨rT, fT⟩ := T4.box.rules
              have zT := T4.box.lt
              go_wp2
              go_roundw
              case rel => exact ⟨k + 1, _, _, _, by omega, by go_num, by rw [List.replicate_succ']; exact (T4.set0 _).set1 _⟩
              case measure => simp [intOf]; try omega
          · refine wpT_f rfl rfl (fun K' hK' => ?_)
            go_simp
            have oP7 := Own.new U 3 [.int .i64 0]
            have hq := ba1 U (.cells #[.int .i64 0] 3)
            have nA7 := row_not TU.rows.1 (Nat.le_refl _)
            have nB7 := row_not TU.side (Nat.le_refl _)
            replace OGU := owns_at OGU hq
            have T1 := TU.below hq
            refine hK' _ _ (keepW_of ⟨by rw [((T1).box.rules).1]; rfl, by rw [((T1).box.rules).1]; rfl⟩) ?_
            clear hK' K' hq
            clear TU
            obtain ⟨p7, hp7⟩ : ∃ p, p = U.heap.size := ⟨_, rfl⟩
            rw [← hp7] at oP7 nA7 nB7 ⊢
            clear hp7
            generalize U.alloc (.cells #[.int .i64 0] 3) = U1 at *
            refine wpT_f rfl rfl (fun K' hK' => ?_)
            go_simp
            have oP3 := Own.new U1 23 [.slice adr A.length capr]
            have hq := ba1 U1 (.cells #[.slice adr A.length capr] 23)
            have nA3 := row_not T1.rows.1 (Nat.le_refl _)
            have nB3 := row_not T1.side (Nat.le_refl _)
            replace oP7 := oP7.below hq
            replace OGU := owns_at OGU hq
            have T2 := T1.below hq
            refine hK' _ _ (keepW_of ⟨by rw [((T2).box.rules).1]; rfl, by rw [((T2).box.rules).1]; rfl⟩) ?_
            clear hK' K' hq
            clear T1
            obtain ⟨p3, hp3⟩ : ∃ p, p = U1.heap.size := ⟨_, rfl⟩
            rw [← hp3] at oP3 nA3 nB3 ⊢
            clear hp3
            generalize U1.alloc (.cells #[.slice adr A.length capr] 23) = U2 at *
            refine wpT_f rfl rfl (fun K' hK' => ?_)
            refine wp_apps U2 _ _ rfl (b0 + 1) 23 1 24 (.slice none 0 0) Try.underlying22 orow_info rfl (by omega) (by omega) _ k vs rfl T2.rows.1 T2.sz _ 1 [.slice adr A.length capr] rfl (sl_one oP3) rfl (by simp [Value.oneCell']) (by omega) ?_
            intro va4 U3 hown hkp
            obtain ⟨g4, c4, rfl⟩ := own_slice hown
            have T3 := T2.pushA hbW hall OGU hown hkp
            replace oP7 := hkp.own oP7 nA7
            refine hK' _ _ (keepW_of ⟨by rw [((T3).box.rules).1]; rfl, by rw [((T3).box.rules).1]; rfl⟩) ?_
            clear hK' K' hown hkp T2 OGU oP3 nA3 nB3
            try go_simp
            refine wpT_t ?_
            try simp only [opsAt, List.getElem?_toArray, List.getElem?_cons_zero, List.getElem?_cons_succ, Option.getD_some]
            repeat (go_big_quiet_step (fail))
            refine wpQuiet_nil ?_
            refine wpT_f rfl rfl (fun K' hK' => ?_)
            refine wp_apps U3 _ _ rfl (b0 + 1) 3 1 8 (.int .i64 0) Try.underlying23 oint_info rfl (by omega) (by omega) _ k (ics (List.replicate k 0)) rfl T3.side T3.sz _ 1 [.int .i64 0] rfl (sl_one oP7) rfl (by simp [Value.oneCell']) (by omega) ?_
            intro va8 U4 hown hkp
            obtain ⟨g8, c8, rfl⟩ := own_slice hown
            have T4 := T3.pushB (z := 0) hown hkp
            refine hK' _ _ (keepW_of ⟨by rw [((T4).box.rules).1]; rfl, by rw [((T4).box.rules).1]; rfl⟩) ?_
            clear hK' K' hown hkp T3 oP7 nA7 nB7
            refine wpT_nil ?_
            try simp only [opsAt, List.getElem?_toArray, List.getElem?_cons_zero, List.getElem?_cons_succ, Option.getD_some]
            obtain ⟨rT, fT⟩ := T4.box.rules
            have zT := T4.box.lt
            go_wp2
            go_roundw
            case rel => exact ⟨k + 1, _, _, _, by omega, by go_num, by rw [List.replicate_succ']; exact (T4.set0 _).set1 _⟩
            case measure => simp [intOf]; try omega
    · obtain rfl : k = n := by omega
      have SC : SS W (.slice ad4 k cap4) (colsA A) := by
        rw [CC.out.1]; exact TN.rows.ss (by omega) (fun i _ => by rw [ocol_len]; omega)
      have SD : SI W (.slice ad5 k cap5) (colsB A) := by
        rw [CC.out.2]; exact owns_SI (xs := List.replicate k 0) TN.side (by simp) (by omega)
      obtain ⟨rT, fT⟩ := TN.box.rules
      have zT := TN.box.lt
      have hC := TN.bel
      clear TN
      obtain ⟨rS, fS⟩ := oS.rules
      have zS := oS.lt
      go_wp2_with fail
      refine (orank_any (colsA A) (colsB A) _ _ _ SC SD).mono ?_
      rintro e y5 ⟨rfl, hq⟩
      rw [RC.out]
      clear SC SD rT fT zT rS fS zS
      replace hC := below_to hC hq
      replace oS := oS.below hq
      replace d1 := below_cell (below_to (Below.refl _ _) hq) d1
      clear hq
      obtain ⟨zx, zb, hzb, hzl⟩ := ZB.out
      have HZB := Lib.hid hzb
      clear hzb
      have hrk := RM.out
      have hzl' : (zb.length : Int) = (k : Int) - (rk : Int) := by omega
      clear hzl
      rw [BL.out] at hb1 hb2 HZB
      have gl := @grow_lt
      have zq := World.block_lt_of_cell? _ _ d1
      simp only at zq
      obtain ⟨rS, fS⟩ := oS.rules
      have zS := oS.lt
      go_wp2
      go_wp2_with fail
      refine wp_region_stt [.t [0, 1, 2, 3, 4], .f 5, .t [6], .f 7] [8, 9, 10, 11] [12, 13, 14] (by kernel_rfl) (by kernel_rfl) (fun _ _ _ _ _ h => h) ?_
      refine wpX_t ?_
      try simp only [opsAt, List.getElem?_toArray, List.getElem?_cons_zero, List.getElem?_cons_succ, Option.getD_some]
      repeat (go_big_quiet_step (fail))
      refine wpQuiet_nil ?_
      have hD := (Below.refl y5.heap.size y5).drew
      refine wpX_f rfl rfl (fun K' hK' => ?_)
      have MK := mk_ints A.length (by omega) y5.drew
      have e0 : (B.length : Int) = (A.length : Int) := by rw [BL.out]
      rw [e0]
      go_simp
      have oM := Own.new y5.drew 3 (ics (List.replicate A.length 0))
      have hM := ba1 y5.drew (.cells (ics (List.replicate A.length 0)).toArray 3)
      have hD1 := below_to hD hM
      have SM : SI (y5.drew.alloc (.cells (ics (List.replicate A.length 0)).toArray 3)) (.slice (some ⟨y5.drew.heap.size, 0, none⟩) A.length A.length) (List.replicate A.length 0) := si_of_own (List.replicate A.length 0) A.length (by simp) (by omega) oM
      refine hK' _ _ (grow_of hD1) ?_
      clear hK' K' MK e0 oM
      refine wpX_t ?_
      try simp only [opsAt, List.getElem?_toArray, List.getElem?_cons_zero, List.getElem?_cons_succ, Option.getD_some]
      repeat (go_big_quiet_step (fail))
      refine wpQuiet_nil ?_
      refine wpX_f rfl rfl (fun K' hK' => ?_)
      go_simp
      refine (osolve_any A (List.replicate A.length 0) _ _ _ (SA.out.below (below_to hC hD1)) SM).mono ?_
      rintro e y6 ⟨u1, u2, rfl, _, sb, hq⟩
      rw [HZB.out] at sb ⊢
      have hE := below_to hD1 hq
      refine hK' _ _ (grow_of hE) ?_
      clear hK' K' SM hM
      obtain ⟨ad8, cap8, e, _, _, _⟩ := sb.open
      cases e
      clear sb
      refine wpX_nil ?_
      repeat (go_big_quiet_step (fail))
      refine wpQuiet_nil ?_
      clear gl rS fS zS
      replace hC := below_to hC hE
      replace oS := oS.below hE
      replace d1 := below_cell (below_to (Below.refl _ _) hE) d1
      clear hE hD hq
      obtain ⟨rS, fS⟩ := oS.rules
      have zS := oS.lt
      have c1 : (rk : Int) ≤ min (A.length : Int) (k : Int) := by omega
      have c2 : decide ((rk : Int) ≤ min (A.length : Int) (k : Int)) = true := decide_eq_true c1
      go_wp2
      go_quiet (fail)
      go_wp2
      go_ret
      exact ⟨by simp, bd (below_to hy hC) _⟩
end Go.Proofs.Ythlcmlngmcoknaa
