/- What is proved here: contracts of functions and plain facts, several texts in one; each one says ahead what it proves, and its conditions. -/
import Derived.Test.YtfoemacgmehpiaaC41
import Derived.Test.YtfoemacgmehpiaaC15
import Derived.Test.YtfoemacgmehpiaaC20
import Derived.Test.YtfoemacgmehpiaaC28
import Derived.Test.YtfoemacgmehpiaaC30
import Derived.Test.YtfoemacgmehpiaaC01
import Derived.IntWalk
import Derived.Test.YtfoemacgmehpiaaC39
import Derived.Test.YtfoemacgmehpiaaC10
/- What is proved here: the contract of dual.sums. Condition: a system that can be read, with small numbers, and a valid fraction for each equation. -/
namespace Go.Proofs.Ytfoemacgmehpiaa
open Go.RowKit

theorem d_one : i64 1 := ⟨by decide, by decide⟩
theorem d_small {a : Int} (h1 : -1000 ≤ a) (h2 : a ≤ 1000) : i64 a := ⟨by omega, by omega⟩
theorem mid_get {rs t : List (Int × Int)} {p : Int × Int} {m : Nat} (h : rs.length = m) : (fcs ((rs ++ [p]) ++ t))[m * 2]? = some (.int .i64 p.1) ∧ (fcs ((rs ++ [p]) ++ t))[m * 2 + 1]? = some (.int .i64 p.2) := by
  have h1 : m < ((rs ++ [p]) ++ t).length := by simp; omega
  have h2 := fcs_get ((rs ++ [p]) ++ t) m h1
  have h3 : ((rs ++ [p]) ++ t)[m] = p := by simp [h]
  rw [h3] at h2
  exact h2
theorem mid_set {rs t : List (Int × Int)} {p : Int × Int} {m : Nat} (h : rs.length = m) (q : Int × Int) : ((fcs ((rs ++ [p]) ++ t)).set (m * 2) (.int .i64 q.1)).set (m * 2 + 1) (.int .i64 q.2) = fcs ((rs ++ [q]) ++ t) := by
  rw [fcs_set]; congr 1
  rw [List.append_assoc, List.set_append_right _ _ (by omega), h, Nat.sub_self]
  simp
set_option maxRecDepth 100000 in
set_option maxHeartbeats 16000000 in
theorem dsums_any (A : List (List Int)) (y : List (Int × Int)) (n : Nat) (va vb vy : Value) (w : World) (hA : SS w va A) (hy : SF w vy y) (fy : FitY A y n) :
    Calls Try.prog 76 #[.agg #[va, vb], vy] w (rows_post w (dsums A y n)) := by
  have FY := Lib.hid fy
  obtain ⟨ada, capa, rfl, ha1, ha2, _⟩ := hA.open
  obtain ⟨ady, capy, rfl, hy1, hy2, _⟩ := hy.open
  have l0 : 0 < A.length := FY.out.rows
  have l1 : A.length ≤ 100 := FY.out.few.1
  have l2 : n ≤ 100 := FY.out.few.2
  have l3 : A.length ≤ y.length := by rw [FY.out.len]; exact Nat.le_refl _
  have HV : Hid (dsums A y n = rowsOf (fun k => gsum (colT A y k) A.length) n) := rfl
  have W0 := Lib.hid (FY.out.wide 0 l0)
  clear fy
  go_enter Try.func76, Try.ntmps76
  have oS := Own.new w 25 [.slice ada A.length capa, vb]
  have hz := ba1 w (.cells #[.slice ada A.length capa, vb] 25)
  have SA := Lib.hid (hA.below hz)
  have SY := Lib.hid (hy.below hz)
  clear hA hy
  go_upto_region 1 with fail
  obtain ⟨GS, hGS⟩ : ∃ G, G = w.heap.size := ⟨_, rfl⟩
  rw [← hGS] at oS ⊢
  have hGS' := Lib.hid hGS
  clear hGS
  generalize w.alloc (.cells #[.slice ada A.length capa, vb] 25) = y1 at *
  obtain ⟨_, _, e, _, _, H⟩ := SA.out.open
  cases e
  obtain ⟨b, off, ad0, cap0, rfl, d1, d2, d3, _⟩ := H.out 0 l0
  rw [Nat.add_zero, W0.out] at d1
  clear H
  have MK := mk_fracs n (n : Int) rfl (by omega)
  obtain ⟨rS, fS⟩ := oS.rules
  have zS := oS.lt
  go_wp2
  clear MK rS fS zS d1
  have oO := Own.new y1 39 (fcs (List.replicate n (0, 0)))
  have hW := ba1 y1 (.cells (fcs (List.replicate n (0, 0))).toArray 39)
  have zS1 := oS.lt
  obtain ⟨GO, hG⟩ : ∃ G, G = y1.heap.size := ⟨_, rfl⟩
  have zO1 : y1.heap.size ≤ GO := by rw [hG]; exact Nat.le_refl _
  rw [← hG] at oO ⊢
  clear hG
  go_loopw [20] (fun i wr => ∃ m : Nat, m ≤ n ∧ i = .int .i64 m ∧ Hid ((rowsOf (fun k => gsum (colT A y k) A.length) m).2 = 0) ∧ Own wr GO 39 (fcs ((rowsOf (fun k => gsum (colT A y k) A.length) m).1 ++ List.replicate (n - m) (0, 0))) ∧ Below y1.heap.size y1 wr) (fun i _ => n - (intOf i).toNat)
  case atStart => exact ⟨0, Nat.zero_le _, rfl, rfl, by simpa [rowsOf] using oO, hW⟩
  case round =>
    clear oO hW
    obtain ⟨m, hm, rfl, hr, oO, hW⟩ := hrel
    rename World => W
    replace oS := oS.below hW
    have RL := Lib.hid (rows_len m hr.out)
    by_cases hlt : m < n
    · generalize hrs : (rowsOf (fun k => gsum (colT A y k) A.length) m).1 = rs at *
      have HRS := Lib.hid hrs
      clear hrs
      have LL : Hid ((rs ++ List.replicate (n - m) (0, 0)).length = n) := by show _ = _; have := RL.out; simp; omega
      go_wp2_with fail
      refine (dwhole_any 0 _).mono ?_
      rintro e y2 ⟨rfl, hq⟩
      replace oS := oS.below hq
      replace oO := oO.below hq
      replace hW := below_to hW hq
      clear hq
      obtain ⟨v1, v2, g1, g2⟩ := fcs_some (rs ++ List.replicate (n - m) (0, 0)) m (by rw [LL.out]; exact hlt)
      have o2 := (oO.set (m * 2) (.int .i64 0)).set (m * 2 + 1) (.int .i64 1)
      rw [fcs_set _ m (0, 1), fill_rows _ m n (0, 1) RL.out hlt] at o2
      have O2 := Lib.hid o2
      have zO := oO.lt
      have zw := hW.size
      have hW2 := (hW.setCell (p := ⟨GO, m * 2, none⟩) zO1 (.int .i64 0)).setCell (p := ⟨GO, m * 2 + 1, none⟩) zO1 (.int .i64 1)
      have oS2 := (oS.other (g' := GO) (by omega) (m * 2) (.int .i64 0)).other (g' := GO) (by omega) (m * 2 + 1) (.int .i64 1)
      clear o2
      obtain ⟨rO, fO⟩ := oO.rules
      obtain ⟨rS, fS⟩ := oS.rules
      have zS := oS.lt
      go_wp2
      clear rO fO rS fS zS g1 g2 oO hW oS oS2
      have oO := O2.out
      clear O2
      have hW := hW2
      clear hW2
      go_loopw [30] (fun q wq => ∃ j : Nat, j ≤ A.length ∧ q = .int .i64 j ∧ Hid ((gsum (colT A y m) j).e = 0) ∧ Own wq GO 39 (fcs ((rs ++ [((gsum (colT A y m) j).n, (gsum (colT A y m) j).d)]) ++ List.replicate (n - (m + 1)) (0, 0))) ∧ Below y1.heap.size y1 wq) (fun q _ => A.length - (intOf q).toNat)
      case atStart => exact ⟨0, Nat.zero_le _, rfl, rfl, oO, hW⟩
      case round =>
        clear oO hW zO zw
        obtain ⟨j, hj, rfl, he, oO, hW⟩ := hrel
        rename World => Y
        by_cases hjA : j < A.length
        · have hjy : j < y.length := by omega
          obtain ⟨_, _, e, _, _, H⟩ := (SA.out.below hW).open
          cases e
          obtain ⟨b5, off5, ad', cap', e, c1, c2, c3, sR⟩ := H.out j hjA
          cases e
          obtain ⟨_, _, e, _, _, H'⟩ := sR.open
          cases e
          have hwd := FY.out.wide j hjA
          have hja : m < A[j].length := by rw [hwd]; exact hlt
          obtain ⟨b', off', rfl, c4⟩ := H'.out m hja
          obtain ⟨_, _, e, _, _, H''⟩ := (SY.out.below hW).open
          cases e
          obtain ⟨b'', off'', rfl, c5, c6⟩ := H''.out j hjy
          clear H H' H'' sR
          have J1 := Lib.hid (gsum_i64 (colT A y m) j)
          have J2 := Lib.hid (d_small (FY.out.coef j hjA m hja).1 (FY.out.coef j hjA m hja).2)
          have J3 := Lib.hid (fr_i64 (FY.out.val j hjy))
          have HP := Lib.hid (col_succ hjA hja hjy he.out)
          have F2 := Lib.hid (FY.out.col_ok (j := j + 1) hlt hjA)
          have HE := Lib.hid (fun h => gsum_end (t := colT A y m) hjA h F2.out)
          have RE := Lib.hid (fun h => rows_end (f := fun k => gsum (colT A y k) A.length) (N := n) hr.out hlt h)
          have HWD := Lib.hid hwd
          have l4 : A[j].length ≤ n := by rw [HWD.out]; exact Nat.le_refl _
          have l5 : n ≤ A[j].length := by rw [HWD.out]; exact Nat.le_refl _
          clear hwd
          generalize A[j][m] = amj at *
          generalize A[j].length = rl at *
          generalize y[j].1 = xn at *
          generalize y[j].2 = xd at *
          generalize (gsum (colT A y m) j).n = sn at *
          generalize (gsum (colT A y m) j).d = sd at *
          generalize hpp : gsum (colT A y m) (j + 1) = p at *
          have HPP := Lib.hid hpp
          clear hpp
          have M2 := Lib.hid (fmul_i64 amj 1 xn xd)
          have P0 := Lib.hid (fplus_0 (sn := sn) (sd := sd) (an := amj) (ad := 1) (bn := xn) (bd := xd))
          have P1 := Lib.hid (fplus_1 (sn := sn) (sd := sd) (an := amj) (ad := 1) (bn := xn) (bd := xd))
          have zb := World.block_lt_of_cell? _ _ c1
          have zb2 := World.block_lt_of_cell? _ _ c4
          have zb3 := World.block_lt_of_cell? _ _ c5
          simp only at zb zb2 zb3
          go_wp2
          go_wp2_with fail
          have gl := @grow_lt
          refine wp_region_fs [(13, ⟨39, [.int .i64 0, .int .i64 0], fun b => .pointer (some ⟨b, 0, none⟩)⟩)] [0, 1, 2, 3, 5, 6, 7, 8] [.op 4, .op 9, .tk 10, .tk 11, .tk 12, .fl 13, .op 14] [15] (by kernel_rfl) (by kernel_rfl) ⟨fun ρ W => by kernel_rfl, trivial⟩ (fun _ _ _ _ _ h => h) (fun _ _ _ _ _ h => h) ?_
          try simp only [opsAt, List.getElem?_toArray, List.getElem?_cons_zero, List.getElem?_cons_succ, Option.getD_some]
          repeat (go_big_quiet_step (fail))
          refine wpQuiet_nil ?_
          clear gl
          refine wpFl_op rfl ?_
          intro w3 hb3 K' hK'
          go_simp
          refine (dwhole_any amj _).mono ?_
          rintro e w5 ⟨rfl, hq⟩
          refine hK' _ _ (Mod.of_below hq) ?_
          clear hK' K'
          have hF := below_to hb3 hq
          clear hb3 hq
          refine wpFl_op rfl ?_
          intro w3 hb3 K' hK'
          go_simp
          refine (fmul_any amj 1 xn xd _ J2.out d_one J3.out.1 J3.out.2).mono ?_
          rintro e w5 ⟨rfl, hq⟩
          refine hK' _ _ (Mod.of_below hq) ?_
          clear hK' K'
          replace hF := below_to hF (below_to hb3 hq)
          clear hb3 hq
          refine wpFl_tk ?_
          try simp only [opsAt, List.getElem?_toArray, List.getElem?_cons_zero, List.getElem?_cons_succ, Option.getD_some]
          repeat (go_big_quiet_step (fail))
          refine wpQuiet_nil ?_
          refine wpFl_tk ?_
          try simp only [opsAt, List.getElem?_toArray, List.getElem?_cons_zero, List.getElem?_cons_succ, Option.getD_some]
          repeat (go_big_quiet_step (fail))
          refine wpQuiet_nil ?_
          refine wpFl_tk ?_
          try simp only [opsAt, List.getElem?_toArray, List.getElem?_cons_zero, List.getElem?_cons_succ, Option.getD_some]
          repeat (go_big_quiet_step (fail))
          refine wpQuiet_nil ?_
          refine wpFl_fl rfl ?_
          intro bD w6 hb6 oD zD0 _
          go_simp
          replace hF := below_to hF hb6
          refine wpFl_op rfl ?_
          intro w7 hb7 K' hK'
          replace oD := oD.below hb7
          replace hF := below_to hF hb7
          clear hb6 hb7
          obtain ⟨rD, fD⟩ := oD.rules
          have zD := oD.lt
          go_wp2_with fail
          refine hK' _ _ (((Mod.refl _ _).set (by simp) _).set (by simp) _) ?_
          clear hK' K' rD fD zD
          replace oD := (oD.set 0 (.int .i64 (fmul amj 1 xn xd).n)).set 1 (.int .i64 (fmul amj 1 xn xd).d)
          replace hF := (hF.setCell (p := ⟨bD, 0, none⟩) zD0 (.int .i64 (fmul amj 1 xn xd).n)).setCell (p := ⟨bD, 1, none⟩) zD0 (.int .i64 (fmul amj 1 xn xd).d)
          refine wpFl_nil (fun w8 hb8 => ?_)
          replace oD := oD.below hb8
          replace hF := below_to hF hb8
          clear hb8
          try simp only [opsAt, List.getElem?_toArray, List.getElem?_cons_zero, List.getElem?_cons_succ, Option.getD_some]
          clear c1 c4 c5 c6 zb zb2 zb3
          replace oO := oO.below hF
          replace hW := below_to hW hF
          clear hF
          generalize fmul amj 1 xn xd = mu at *
          have zy := hz.size
          by_cases h1 : mu.e = 0
          case neg =>
            have b2 : (mu.e != 0) = true := by simpa using h1
            have HV2 : Hid (rowsOf (fun k => gsum (colT A y k) A.length) n = ([], 16)) := by
              have e1 := HP.out.trans (P1.out h1)
              have e2 := HE.out (by rw [e1]; exact h1)
              show _ = _
              rw [RE.out (by show ¬ (gsum (colT A y m) A.length).e = 0; rw [e2]; decide)]
              show ([], (gsum (colT A y m) A.length).e) = _
              rw [e2]
            clear h1 P0 P1 HP HE RE F2 oO
            go_wp2
            go_ret2
            exact ⟨.slice none 0 0, by rw [HV.out, HV2.out]; try rfl, by rw [HV.out, HV2.out]; exact sf_nil _, below_to hz hW⟩
          have b2 : (mu.e != 0) = false := by simp [h1]
          have HQ : Hid (p = fadd sn sd mu.n mu.d) := HP.out.trans (P0.out h1)
          clear h1 P0 P1 HP
          obtain ⟨g1, g2⟩ := mid_get (t := List.replicate (n - (m + 1)) (0, 0)) (p := (sn, sd)) RL.out
          have hm2 := fun q => mid_set (t := List.replicate (n - (m + 1)) (0, 0)) (p := (sn, sd)) RL.out q
          obtain ⟨L, hL⟩ : ∃ L, L = fcs ((rs ++ [(sn, sd)]) ++ List.replicate (n - (m + 1)) (0, 0)) := ⟨_, rfl⟩
          rw [← hL] at oO g1 g2 hm2
          have HM := Lib.hid hm2
          clear hL hm2
          simp only at g1 g2
          have a4 : (m : Int) < (n : Int) := by omega
          have zO := oO.lt
          have zD := oD.lt
          have gl := @grow_lt
          obtain ⟨rO, fO⟩ := oO.rules
          obtain ⟨rD, fD⟩ := oD.rules
          go_wp2_with fail
          refine wp_region_pstt [0, 1] [.t [2, 3, 4, 5, 6], .f 7] [8, 9, 10] [11, 12, 13] (by kernel_rfl) (by kernel_rfl) (fun _ _ _ _ _ h => h) ?_
          try simp only [opsAt, List.getElem?_toArray, List.getElem?_cons_zero, List.getElem?_cons_succ, Option.getD_some]
          repeat (go_big_quiet_step (fail))
          refine wpQuiet_nil ?_
          refine wpX_t ?_
          try simp only [opsAt, List.getElem?_toArray, List.getElem?_cons_zero, List.getElem?_cons_succ, Option.getD_some]
          repeat (go_big_quiet_step (fail))
          refine wpQuiet_nil ?_
          refine wpX_f rfl rfl (fun K' hK' => ?_)
          go_simp
          refine (fadd_any sn sd mu.n mu.d _ J1.out.1 J1.out.2 M2.out.1 M2.out.2).mono ?_
          rintro e y4 ⟨rfl, hq2⟩
          refine hK' _ _ (grow_of (below_to ((Below.refl _ _).drew) hq2)) ?_
          clear hK' K'
          rw [← HQ.out]
          refine wpX_nil ?_
          try simp only [opsAt, List.getElem?_toArray, List.getElem?_cons_zero, List.getElem?_cons_succ, Option.getD_some]
          repeat (go_big_quiet_step (fail))
          refine wpQuiet_nil ?_
          try simp only [opsAt, List.getElem?_toArray, List.getElem?_cons_zero, List.getElem?_cons_succ, Option.getD_some]
          have hq : Below w8.heap.size w8 y4 := below_to ((Below.refl _ _).drew) hq2
          clear gl hq2 rO fO rD fD zO zD oD
          replace oO := oO.below hq
          replace hW := below_to hW hq
          clear hq
          have o2 := (oO.set (m * 2) (.int .i64 p.n)).set (m * 2 + 1) (.int .i64 p.d)
          rw [HM.out (p.n, p.d)] at o2
          have O2 := Lib.hid o2
          have hW2 := (hW.setCell (p := ⟨GO, m * 2, none⟩) zO1 (.int .i64 p.n)).setCell (p := ⟨GO, m * 2 + 1, none⟩) zO1 (.int .i64 p.d)
          clear o2
          have zO := oO.lt
          obtain ⟨rO, fO⟩ := oO.rules
          by_cases h2 : p.e = 0
          · have b3 : (p.e != 0) = false := by simp [h2]
            have E2 := Lib.hid h2
            clear h2 HE RE
            go_wp2
            go_roundw
            case rel => exact ⟨j + 1, by omega, by go_num, by rw [HPP.out]; exact E2, by rw [HPP.out]; exact O2.out, hW2⟩
            case measure => simp [intOf]; try omega
          · have b3 : (p.e != 0) = true := by simpa using h2
            have HV2 : Hid (rowsOf (fun k => gsum (colT A y k) A.length) n = ([], 16)) := by
              have e2 := HE.out h2
              show _ = _
              rw [RE.out (by show ¬ (gsum (colT A y m) A.length).e = 0; rw [e2]; decide)]
              show ([], (gsum (colT A y m) A.length).e) = _
              rw [e2]
            clear h2 HE RE
            go_wp2
            go_ret2
            exact ⟨.slice none 0 0, by rw [HV.out, HV2.out]; try rfl, by rw [HV.out, HV2.out]; exact sf_nil _, below_to hz hW2⟩
        · obtain rfl : j = A.length := by omega
          have RS := Lib.hid (rows_succ (f := fun k => gsum (colT A y k) A.length) hr.out he.out)
          have HE2 := Lib.hid (congrArg Prod.snd RS.out)
          have HE1 := Lib.hid (congrArg Prod.fst RS.out)
          clear RS
          go_wp2
          go_roundw
          case rel => exact ⟨m + 1, by omega, by go_num, HE2, by rw [HE1.out, HRS.out]; exact oO, hW⟩
          case measure => simp [intOf]; try omega
    · obtain rfl : m = n := by omega
      have hsl : SF W (.slice (some ⟨GO, 0, none⟩) m m) (rowsOf (fun k => gsum (colT A y k) A.length) m).1 := by
        unfold SF
        rw [RL.out]
        exact oO.sl (n := m) m (Nat.le_refl _) (by omega) _ ⟨[], by rw [Nat.sub_self]; simp⟩
      clear oO
      go_wp2
      go_ret2
      exact ⟨_, by rw [HV.out, hr.out]; try rfl, by rw [HV.out]; exact hsl, below_to hz hW⟩
end Go.Proofs.Ytfoemacgmehpiaa

/- What is proved here: the contract of dual.Feasible. Condition: a system and a slice of fractions that can be read. -/
namespace Go.Proofs.Ytfoemacgmehpiaa
open Go.RowKit

theorem costQ_of {A : List (List Int)} {B : List Int} {c : Int} (h : ncheck A B = 0) (hc : costB c = true) : scheck A B c = 0 ∧ 0 ≤ c ∧ c ≤ 1000 := by
  simp only [costB, Bool.and_eq_true, decide_eq_true_eq] at hc
  exact ⟨scheck_0 h hc.1 hc.2, hc⟩
theorem costQ_no {A : List (List Int)} {B : List Int} {c : Int} (h : ncheck A B = 0) (hc : costB c = false) : scheck A B c = 2 := by
  refine scheck_2 h ?_
  rcases Int.lt_or_le c 0 with h1 | h1
  · exact .inl h1
  · right
    by_cases h2 : c ≤ 1000
    · simp [costB, h1, h2] at hc
    · omega
set_option maxRecDepth 100000 in
set_option maxHeartbeats 16000000 in
theorem dfeas_any (A : List (List Int)) (B : List Int) (c : Int) (y : List (Int × Int)) (va vb vy : Value) (w : World) (hA : SS w va A) (hB : SI w vb B) (hx : SF w vy y) (ix : FI y) :
    Calls Try.prog 37 #[.agg #[va, vb], .int .i64 c, vy] w fun e w' => e = .returned (.tuple #[.bool (dfeas A B c y).1, .int .i64 (dfeas A B c y).2]) ∧ Below w.heap.size w w' := by
  have IX := Lib.hid ix
  clear ix
  go_enter Try.func37, Try.ntmps37
  have oS := Own.new w 25 [va, vb]
  have hy := ba1 w (.cells #[va, vb] 25)
  replace hA := hA.below hy
  replace hB := hB.below hy
  replace hx := hx.below hy
  obtain ⟨rS, fS⟩ := oS.rules
  have zS := oS.lt
  go_wp2_with fail
  refine (ncheck_any A B _ _ _ hA hB).mono ?_
  rintro e y1 ⟨rfl, hq⟩
  clear rS fS zS
  replace oS := oS.below hq
  replace hA := hA.below hq
  replace hB := hB.below hq
  replace hx := hx.below hq
  replace hy := below_to hy hq
  clear hq
  obtain ⟨rS, fS⟩ := oS.rules
  have zS := oS.lt
  by_cases h0 : ncheck A B = 0
  case neg =>
    have E0 := Lib.hid (scheck_c (c := c) h0)
    have E1 := Lib.hid (dcheck_c (y := y) (show ¬ scheck A B c = 0 by rw [E0.out]; exact h0))
    have HV := Lib.hid (dfeas_c (show ¬ dcheck A B c y = 0 by rw [E1.out, E0.out]; exact h0))
    have b1 : (ncheck A B != 0) = true := by simpa using h0
    clear h0 hA hB hx
    go_wp2
    go_ret2
    exact ⟨by rw [HV.out, E1.out, E0.out]; try rfl, hy⟩
  have b1 : (ncheck A B != 0) = false := by simp [h0]
  go_wp2_with fail
  refine (dcost_any c _).mono ?_
  rintro e _ ⟨rfl, rfl⟩
  by_cases hc : costB c = true
  case neg =>
    have hc' : costB c = false := by simpa using hc
    have E0 := Lib.hid (costQ_no h0 hc')
    have E1 := Lib.hid (dcheck_c (y := y) (show ¬ scheck A B c = 0 by rw [E0.out]; decide))
    have HV := Lib.hid (dfeas_c (show ¬ dcheck A B c y = 0 by rw [E1.out, E0.out]; decide))
    rw [hc']
    clear h0 hc hc' hA hB hx
    go_wp2
    go_ret2
    exact ⟨by rw [HV.out, E1.out, E0.out]; try rfl, hy⟩
  obtain ⟨hs, hc1, hc2⟩ := costQ_of h0 hc
  rw [hc]
  have HS := Lib.hid hs
  have H0 := Lib.hid h0
  clear hc hs h0
  go_wp2_with fail
  refine (dwitB_any A y _ _ _ _ hA hx IX.out).mono ?_
  rintro e y2 ⟨rfl, hq⟩
  clear rS fS zS
  replace oS := oS.below hq
  replace hA := hA.below hq
  replace hB := hB.below hq
  replace hx := hx.below hq
  replace hy := below_to hy hq
  clear hq
  obtain ⟨rS, fS⟩ := oS.rules
  have zS := oS.lt
  by_cases hp : witB A.length y = true
  case neg =>
    have hp' : witB A.length y = false := by simpa using hp
    have E1 := Lib.hid (dcheck_2 HS.out hp')
    have HV := Lib.hid (dfeas_c (show ¬ dcheck A B c y = 0 by rw [E1.out]; decide))
    rw [hp']
    clear hp hp' hA hB hx
    go_wp2
    go_ret2
    exact ⟨by rw [HV.out, E1.out]; try rfl, hy⟩
  have D0 := Lib.hid (dcheck_0 HS.out hp)
  have FY := Lib.hid (FitY.ofC H0.out hp)
  rw [hp]
  clear hp
  have F1 := Lib.hid (dfeas_1 D0.out)
  have F2 := Lib.hid (dfeas_0 D0.out)
  generalize (A.getD 0 []).length = n at *
  go_wp2_with fail
  refine (dsums_any A y n _ _ _ _ hA hx FY.out).mono ?_
  rintro e y3 ⟨ul, rfl, sl, hq⟩
  clear rS fS zS
  replace oS := oS.below hq
  replace hA := hA.below hq
  replace hB := hB.below hq
  replace hx := hx.below hq
  replace hy := below_to hy hq
  clear hq
  obtain ⟨rS, fS⟩ := oS.rules
  have zS := oS.lt
  by_cases h2 : (dsums A y n).2 = 0
  case neg =>
    have HV := Lib.hid (F1.out h2)
    have b3 : ((dsums A y n).2 != 0) = true := by simpa using h2
    clear h2 sl hA hB hx F1 F2
    go_wp2
    go_ret2
    exact ⟨by rw [HV.out]; try rfl, hy⟩
  have b3 : ((dsums A y n).2 != 0) = false := by simp [h2]
  have HV := Lib.hid (F2.out h2)
  have DO := Lib.hid (dsums_ok FY.out h2).2
  clear h2 hA hB hx F1 F2
  generalize (dsums A y n).1 = ls at *
  obtain ⟨adl, capl, rfl, hl1, hl2, _⟩ := sl.open
  have SL := Lib.hid sl
  have CK := Lib.hid (fchk_small (a := c) (by omega) hc2)
  have CI : Hid (i64 c) := ⟨by omega, by omega⟩
  clear sl rS fS zS oS
  go_wp2
  go_loopw [40] (fun i wr => ∃ k : Nat, k ≤ ls.length ∧ i = .int .i64 k ∧ Hid (feasB ls c k = true) ∧ Below y3.heap.size y3 wr) (fun i _ => ls.length - (intOf i).toNat)
  case atStart => exact ⟨0, Nat.zero_le _, rfl, rfl, Below.refl _ _⟩
  case round =>
    obtain ⟨k, hk, rfl, hv, hW⟩ := hrel
    rename World => W
    by_cases hlt : k < ls.length
    · obtain ⟨_, _, e, _, _, H⟩ := (SL.out.below hW).open
      cases e
      obtain ⟨b, off, rfl, c1, c2⟩ := H.out k hlt
      clear H
      have VK := Lib.hid (DO.out k hlt)
      have NS := Lib.hid (feasB_succ (c := c) hlt hv.out)
      have NN := Lib.hid (feasB_not (l := ls) (c := c) (n := ls.length) hlt hlt)
      have I1 := Lib.hid (fr_i64 VK.out)
      have FZ := Lib.hid (fcmpZ_ok VK.out CK.out)
      have F0 := Lib.hid (fboth_of VK.out CK.out)
      have FL := Lib.hid (fcmp_flip (an := ls[k].1) (ad := ls[k].2) (bn := c) (bd := 1))
      generalize ls[k].1 = fn at *
      generalize ls[k].2 = fd at *
      go_wp2_with fail
      have oF := Own.new W 39 [.int .i64 fn, .int .i64 fd]
      have hq0 := ba1 W (.cells #[.int .i64 fn, .int .i64 fd] 39)
      obtain ⟨bF, hbF⟩ : ∃ G, G = W.heap.size := ⟨_, rfl⟩
      rw [← hbF] at oF ⊢
      clear hbF
      generalize W.alloc (.cells #[.int .i64 fn, .int .i64 fd] 39) = W2 at *
      replace hW := below_to hW hq0
      have gl := @grow_lt
      clear hq0 c1 c2
      obtain ⟨rF, fF⟩ := oF.rules
      have zF := oF.lt
      go_wp2_with fail
      refine wp_region_stt [.t [0, 1], .f 2, .f 3] [4, 5, 6] [7, 8] (by kernel_rfl) (by kernel_rfl) (fun _ _ _ _ _ h => h) ?_
      refine wpX_t ?_
      try simp only [opsAt, List.getElem?_toArray, List.getElem?_cons_zero, List.getElem?_cons_succ, Option.getD_some]
      repeat (go_big_quiet_step (fail))
      refine wpQuiet_nil ?_
      refine wpX_f rfl rfl (fun K' hK' => ?_)
      go_simp
      refine (dwhole_any c _).mono ?_
      rintro e y5 ⟨rfl, hq1⟩
      refine hK' _ _ (grow_of (below_to ((Below.refl _ _).drew) hq1)) ?_
      clear hK' K'
      refine wpX_f rfl rfl (fun K' hK' => ?_)
      go_simp
      refine (cmp_any fn fd c 1 _ I1.out.1 I1.out.2 CI.out d_one).mono ?_
      rintro e y6 ⟨rfl, hq2⟩
      refine hK' _ _ (grow_of (below_to (below_to ((Below.refl _ _).drew) hq1) hq2)) ?_
      clear hK' K'
      rw [FZ.out, F0.out]
      refine wpX_nil ?_
      try simp only [opsAt, List.getElem?_toArray, List.getElem?_cons_zero, List.getElem?_cons_succ, Option.getD_some]
      repeat (go_big_quiet_step (fail))
      refine wpQuiet_nil ?_
      try simp only [opsAt, List.getElem?_toArray, List.getElem?_cons_zero, List.getElem?_cons_succ, Option.getD_some]
      have hq : Below W2.heap.size W2 y6 := below_to (below_to ((Below.refl _ _).drew) hq1) hq2
      clear gl hq1 hq2 rF fF zF
      replace hW := below_to hW hq
      clear hq oF
      by_cases h3 : fcmp c 1 fn fd = -1
      · have h4 := FL.out.2 h3
        have b4 : decide (0 < fcmp fn fd c 1) = true := by simpa using h4
        have HN := Lib.hid (NN.out h3)
        clear h3 FL NS NN
        go_wp2
        go_ret2
        exact ⟨by rw [HV.out, HN.out]; try rfl, below_to hy hW⟩
      · have h4 : ¬ 0 < fcmp fn fd c 1 := fun h => h3 (FL.out.1 h)
        have b4 : decide (0 < fcmp fn fd c 1) = false := by simpa using h4
        have HN := Lib.hid (NS.out h3)
        clear h3 FL NS NN
        go_wp2
        go_roundw
        case rel => exact ⟨k + 1, by omega, by go_num, HN, hW⟩
        case measure => simp [intOf]; try omega
    · obtain rfl : k = ls.length := by omega
      go_wp2
      go_ret2
      exact ⟨by rw [HV.out, hv.out]; try rfl, below_to hy hW⟩
end Go.Proofs.Ytfoemacgmehpiaa
