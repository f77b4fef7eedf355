/- What is proved here: contracts of functions and plain facts, several texts in one; each one says ahead what it proves, and its conditions. -/
import Derived.Test.YthlcmlngmcoknaaC33
import Derived.Test.YthlcmlngmcoknaaC38
import Derived.Test.YthlcmlngmcoknaaC29
import Derived.Test.YthlcmlngmcoknaaC24
import Derived.Test.YthlcmlngmcoknaaC01
import Derived.IntWalk
import Derived.Test.YthlcmlngmcoknaaC11
import Derived.Deep.DeepCutAuto
/- What is proved here: the contract of dual.sums. Condition: a system that can be read, with small numbers, and a valid fraction for each equation. -/
namespace Go.Proofs.Ythlcmlngmcoknaa
open Go.RowKit

theorem d_one : i64 1 := ⟨by decide, by decide⟩
theorem d_small {a : Int} (h1 : -1000 ≤ a) (h2 : a ≤ 1000) : i64 a := ⟨by omega, by omega⟩
theorem mid_get {rs t : List (Int × Int)} {p : Int × Int} {m : Nat} (h : rs.length = m) : (fcs ((rs ++ [p]) ++ t))[m * 2]? = some (.int .i64 p.1) ∧ (fcs ((rs ++ [p]) ++ t))[m * 2 + 1]? = some (.int .i64 p.2) := by
  have h1 : m < ((rs ++ [p]) ++ t).length := by simp; omega
  have h2 := fcs_get ((rs ++ [p]) ++ t) m h1
  have h3 : ((rs ++ [p]) ++ t)[m] = p := by simp [h]
  rw [h3] at h2
  exact h2
theorem mid_set {rs t : List (Int × Int)} {p : Int × Int} {m : Nat} (h : rs.length = m) (q : Int × Int) : ((fcs ((rs ++ [p]) ++ t)).set (m * 2) (.int .i64 q.1)).set (m * 2 + 1) (.int .i64 q.2) = fcs ((rs ++ [q]) ++ t) := by
  rw [fcs_set]; congr 1
  rw [List.append_assoc, List.set_append_right _ _ (by omega), h, Nat.sub_self]
  simp
set_option maxRecDepth 100000 in
set_option maxHeartbeats 16000000 in
theorem dsums_any (A : List (List Int)) (y : List (Int × Int)) (n : Nat) (va vb vy : Value) (w : World) (hA : SS w va A) (hy : SF w vy y) (fy : FitY A y n) :
    Calls Try.prog 139 #[.agg #[va, vb], vy] w (rows_post w (dsums A y n)) := by
  have FY := Lib.hid fy
  obtain ⟨ada, capa, rfl, ha1, ha2, _⟩ := hA.open
  obtain ⟨ady, capy, rfl, hy1, hy2, _⟩ := hy.open
  have l0 : 0 < A.length := FY.out.rows
  have l1 : A.length ≤ 100 := FY.out.few.1
  have l2 : n ≤ 100 := FY.out.few.2
  have l3 : A.length ≤ y.length := by rw [FY.out.len]; exact Nat.le_refl _
  have HV : Hid (dsums A y n = rowsOf (fun k => gsum (colT A y k) A.length) n) := rfl
  have W0 := Lib.hid (FY.out.wide 0 l0)
  clear fy
  go_enter Try.func139, Try.ntmps139
  have oS := Own.new w 25 [.slice ada A.length capa, vb]
  have hz := ba1 w (.cells #[.slice ada A.length capa, vb] 25)
  have SA := Lib.hid (hA.below hz)
  have SY := Lib.hid (hy.below hz)
  clear hA hy
  go_upto_region 1 with fail
  obtain ⟨GS, hGS⟩ : ∃ G, G = w.heap.size := ⟨_, rfl⟩
  rw [← hGS] at oS ⊢
  have hGS' := Lib.hid hGS
  clear hGS
  generalize w.alloc (.cells #[.slice ada A.length capa, vb] 25) = y1 at *
  obtain ⟨_, _, e, _, _, H⟩ := SA.out.open
  cases e
  obtain ⟨b, off, ad0, cap0, rfl, d1, d2, d3, _⟩ := H.out 0 l0
  rw [Nat.add_zero, W0.out] at d1
  clear H
  have MK := mk_fracs n (n : Int) rfl (by omega)
  obtain ⟨rS, fS⟩ := oS.rules
  have zS := oS.lt
  go_wp2
  clear MK rS fS zS d1
  have oO := Own.new y1 78 (fcs (List.replicate n (0, 0)))
  have hW := ba1 y1 (.cells (fcs (List.replicate n (0, 0))).toArray 78)
  have zS1 := oS.lt
  obtain ⟨GO, hG⟩ : ∃ G, G = y1.heap.size := ⟨_, rfl⟩
  have zO1 : y1.heap.size ≤ GO := by rw [hG]; exact Nat.le_refl _
  rw [← hG] at oO ⊢
  clear hG
  go_loopw [20] (fun i wr => ∃ m : Nat, m ≤ n ∧ i = .int .i64 m ∧ Hid ((rowsOf (fun k => gsum (colT A y k) A.length) m).2 = 0) ∧ Own wr GO 78 (fcs ((rowsOf (fun k => gsum (colT A y k) A.length) m).1 ++ List.replicate (n - m) (0, 0))) ∧ Below y1.heap.size y1 wr) (fun i _ => n - (intOf i).toNat)
  case atStart => exact ⟨0, Nat.zero_le _, rfl, rfl, by simpa [rowsOf] using oO, hW⟩
  case round =>
    clear oO hW
    obtain ⟨m, hm, rfl, hr, oO, hW⟩ := hrel
    rename World => W
    replace oS := oS.below hW
    have RL := Lib.hid (rows_len m hr.out)
    by_cases hlt : m < n
    · generalize hrs : (rowsOf (fun k => gsum (colT A y k) A.length) m).1 = rs at *
      have HRS := Lib.hid hrs
      clear hrs
      have LL : Hid ((rs ++ List.replicate (n - m) (0, 0)).length = n) := by show _ = _; have := RL.out; simp; omega
      go_wp2_with fail
      refine (dwhole_any 0 _).mono ?_
      rintro e y2 ⟨rfl, hq⟩
      replace oS := oS.below hq
      replace oO := oO.below hq
      replace hW := below_to hW hq
      clear hq
      obtain ⟨v1, v2, g1, g2⟩ := fcs_some (rs ++ List.replicate (n - m) (0, 0)) m (by rw [LL.out]; exact hlt)
      have o2 := (oO.set (m * 2) (.int .i64 0)).set (m * 2 + 1) (.int .i64 1)
      rw [fcs_set _ m (0, 1), fill_rows _ m n (0, 1) RL.out hlt] at o2
      have O2 := Lib.hid o2
      have zO := oO.lt
      have zw := hW.size
      have hW2 := (hW.setCell (p := ⟨GO, m * 2, none⟩) zO1 (.int .i64 0)).setCell (p := ⟨GO, m * 2 + 1, none⟩) zO1 (.int .i64 1)
      have oS2 := (oS.other (g' := GO) (by omega) (m * 2) (.int .i64 0)).other (g' := GO) (by omega) (m * 2 + 1) (.int .i64 1)
      clear o2
      obtain ⟨rO, fO⟩ := oO.rules
      obtain ⟨rS, fS⟩ := oS.rules
      have zS := oS.lt
      go_wp2
      clear rO fO rS fS zS g1 g2 oO hW oS oS2
      have oO := O2.out
      clear O2
      have hW := hW2
      clear hW2
      go_loopw [30] (fun q wq => ∃ j : Nat, j ≤ A.length ∧ q = .int .i64 j ∧ Hid ((gsum (colT A y m) j).e = 0) ∧ Own wq GO 78 (fcs ((rs ++ [((gsum (colT A y m) j).n, (gsum (colT A y m) j).d)]) ++ List.replicate (n - (m + 1)) (0, 0))) ∧ Below y1.heap.size y1 wq) (fun q _ => A.length - (intOf q).toNat)
      case atStart => exact ⟨0, Nat.zero_le _, rfl, rfl, oO, hW⟩
      case round =>
        clear oO hW zO zw
        obtain ⟨j, hj, rfl, he, oO, hW⟩ := hrel
        rename World => Y
        by_cases hjA : j < A.length
        · have hjy : j < y.length := by omega
          obtain ⟨_, _, e, _, _, H⟩ := (SA.out.below hW).open
          cases e
          obtain ⟨b5, off5, ad', cap', e, c1, c2, c3, sR⟩ := H.out j hjA
          cases e
          obtain ⟨_, _, e, _, _, H'⟩ := sR.open
          cases e
          have hwd := FY.out.wide j hjA
          have hja : m < A[j].length := by rw [hwd]; exact hlt
          obtain ⟨b', off', rfl, c4⟩ := H'.out m hja
          obtain ⟨_, _, e, _, _, H''⟩ := (SY.out.below hW).open
          cases e
          obtain ⟨b'', off'', rfl, c5, c6⟩ := H''.out j hjy
          clear H H' H'' sR
          have J1 := Lib.hid (gsum_i64 (colT A y m) j)
          have J2 := Lib.hid (d_small (FY.out.coef j hjA m hja).1 (FY.out.coef j hjA m hja).2)
          have J3 := Lib.hid (fr_i64 (FY.out.val j hjy))
          have HP := Lib.hid (col_succ hjA hja hjy he.out)
          have F2 := Lib.hid (FY.out.col_ok (j := j + 1) hlt hjA)
          have HE := Lib.hid (fun h => gsum_end (t := colT A y m) hjA h F2.out)
          have RE := Lib.hid (fun h => rows_end (f := fun k => gsum (colT A y k) A.length) (N := n) hr.out hlt h)
          have HWD := Lib.hid hwd
          have l4 : A[j].length ≤ n := by rw [HWD.out]; exact Nat.le_refl _
          have l5 : n ≤ A[j].length := by rw [HWD.out]; exact Nat.le_refl _
          clear hwd
          generalize A[j][m] = amj at *
          generalize A[j].length = rl at *
          generalize y[j].1 = xn at *
          generalize y[j].2 = xd at *
          generalize (gsum (colT A y m) j).n = sn at *
          generalize (gsum (colT A y m) j).d = sd at *
          generalize hpp : gsum (colT A y m) (j + 1) = p at *
          have HPP := Lib.hid hpp
          clear hpp
          have M2 := Lib.hid (fmul_i64 amj 1 xn xd)
          have P0 := Lib.hid (fplus_0 (sn := sn) (sd := sd) (an := amj) (ad := 1) (bn := xn) (bd := xd))
          have P1 := Lib.hid (fplus_1 (sn := sn) (sd := sd) (an := amj) (ad := 1) (bn := xn) (bd := xd))
          have zb := World.block_lt_of_cell? _ _ c1
          have zb2 := World.block_lt_of_cell? _ _ c4
          have zb3 := World.block_lt_of_cell? _ _ c5
          simp only at zb zb2 zb3
          go_wp2
          go_wp2_with fail
          have gl := @grow_lt
          refine wp_region_fs [(13, ⟨78, [.int .i64 0, .int .i64 0], fun b => .pointer (some ⟨b, 0, none⟩)⟩)] [0, 1, 2, 3, 5, 6, 7, 8] [.op 4, .op 9, .tk 10, .tk 11, .tk 12, .fl 13, .op 14] [15] (by kernel_rfl) (by kernel_rfl) ⟨fun ρ W => by kernel_rfl, trivial⟩ (fun _ _ _ _ _ h => h) (fun _ _ _ _ _ h => h) ?_
          try simp only [opsAt, List.getElem?_toArray, List.getElem?_cons_zero, List.getElem?_cons_succ, Option.getD_some]
          repeat (go_big_quiet_step (fail))
          refine wpQuiet_nil ?_
          clear gl
          refine wpFl_op rfl ?_
          intro w3 hb3 K' hK'
          go_simp
          refine (dwhole_any amj _).mono ?_
          rintro e w5 ⟨rfl, hq⟩
          refine hK' _ _ (Mod.of_below hq) ?_
          clear hK' K'
          have hF := below_to hb3 hq
          clear hb3 hq
          refine wpFl_op rfl ?_
          intro w3 hb3 K' hK'
          go_simp
          refine (fmul_any amj 1 xn xd _ J2.out d_one J3.out.1 J3.out.2).mono ?_
          rintro e w5 ⟨rfl, hq⟩
          refine hK' _ _ (Mod.of_below hq) ?_
          clear hK' K'
          replace hF := below_to hF (below_to hb3 hq)
          clear hb3 hq
          refine wpFl_tk ?_
          try simp only [opsAt, List.getElem?_toArray, List.getElem?_cons_zero, List.getElem?_cons_succ, Option.getD_some]
          repeat (go_big_quiet_step (fail))
          refine wpQuiet_nil ?_
          refine wpFl_tk ?_
          try simp only [opsAt, List.getElem?_toArray, List.getElem?_cons_zero, List.getElem?_cons_succ, Option.getD_some]
          repeat (go_big_quiet_step (fail))
          refine wpQuiet_nil ?_
          refine wpFl_tk ?_
          try simp only [opsAt, List.getElem?_toArray, List.getElem?_cons_zero, List.getElem?_cons_succ, Option.getD_some]
          repeat (go_big_quiet_step (fail))
          refine wpQuiet_nil ?_
          refine wpFl_fl rfl ?_
          intro bD w6 hb6 oD zD0 _
          go_simp
          replace hF := below_to hF hb6
          refine wpFl_op rfl ?_
          intro w7 hb7 K' hK'
          replace oD := oD.below hb7
          replace hF := below_to hF hb7
          clear hb6 hb7
          obtain ⟨rD, fD⟩ := oD.rules
          have zD := oD.lt
          go_wp2_with fail
          refine hK' _ _ (((Mod.refl _ _).set (by simp) _).set (by simp) _) ?_
          clear hK' K' rD fD zD
          replace oD := (oD.set 0 (.int .i64 (fmul amj 1 xn xd).n)).set 1 (.int .i64 (fmul amj 1 xn xd).d)
          replace hF := (hF.setCell (p := ⟨bD, 0, none⟩) zD0 (.int .i64 (fmul amj 1 xn xd).n)).setCell (p := ⟨bD, 1, none⟩) zD0 (.int .i64 (fmul amj 1 xn xd).d)
          refine wpFl_nil (fun w8 hb8 => ?_)
          replace oD := oD.below hb8
          replace hF := below_to hF hb8
          clear hb8
          try simp only [opsAt, List.getElem?_toArray, List.getElem?_cons_zero, List.getElem?_cons_succ, Option.getD_some]
          clear c1 c4 c5 c6 zb zb2 zb3
          replace oO := oO.below hF
          replace hW := below_to hW hF
          clear hF
          generalize fmul amj 1 xn xd = mu at *
          have zy := hz.size
          by_cases h1 : mu.e = 0
          case neg =>
            have b2 : (mu.e != 0) = true := by simpa using h1
            have HV2 : Hid (rowsOf (fun k => gsum (colT A y k) A.length) n = ([], 16)) := by
              have e1 := HP.out.trans (P1.out h1)
              have e2 := HE.out (by rw [e1]; exact h1)
              show _ = _
              rw [RE.out (by show ¬ (gsum (colT A y m) A.length).e = 0; rw [e2]; decide)]
              show ([], (gsum (colT A y m) A.length).e) = _
              rw [e2]
            clear h1 P0 P1 HP HE RE F2 oO
            go_wp2
            go_ret2
            exact ⟨.slice none 0 0, by rw [HV.out, HV2.out]; try rfl, by rw [HV.out, HV2.out]; exact sf_nil _, below_to hz hW⟩
          have b2 : (mu.e != 0) = false := by simp [h1]
          have HQ : Hid (p = fadd sn sd mu.n mu.d) := HP.out.trans (P0.out h1)
          clear h1 P0 P1 HP
          obtain ⟨g1, g2⟩ := mid_get (t := List.replicate (n - (m + 1)) (0, 0)) (p := (sn, sd)) RL.out
          have hm2 := fun q => mid_set (t := List.replicate (n - (m + 1)) (0, 0)) (p := (sn, sd)) RL.out q
          obtain ⟨L, hL⟩ : ∃ L, L = fcs ((rs ++ [(sn, sd)]) ++ List.replicate (n - (m + 1)) (0, 0)) := ⟨_, rfl⟩
          rw [← hL] at oO g1 g2 hm2
          have HM := Lib.hid hm2
          clear hL hm2
          simp only at g1 g2
          have a4 : (m : Int) < (n : Int) := by omega
          have zO := oO.lt
          have zD := oD.lt
          have gl := @grow_lt
          obtain ⟨rO, fO⟩ := oO.rules
          obtain ⟨rD, fD⟩ := oD.rules
          go_wp2_with fail
          refine wp_region_pstt [0, 1] [.t [2, 3, 4, 5, 6], .f 7] [8, 9, 10] [11, 12, 13] (by kernel_rfl) (by kernel_rfl) (fun _ _ _ _ _ h => h) ?_
          try simp only [opsAt, List.getElem?_toArray, List.getElem?_cons_zero, List.getElem?_cons_succ, Option.getD_some]
          repeat (go_big_quiet_step (fail))
          refine wpQuiet_nil ?_
          refine wpX_t ?_
          try simp only [opsAt, List.getElem?_toArray, List.getElem?_cons_zero, List.getElem?_cons_succ, Option.getD_some]
          repeat (go_big_quiet_step (fail))
          refine wpQuiet_nil ?_
          refine wpX_f rfl rfl (fun K' hK' => ?_)
          go_simp
          refine (fadd_any sn sd mu.n mu.d _ J1.out.1 J1.out.2 M2.out.1 M2.out.2).mono ?_
          rintro e y4 ⟨rfl, hq2⟩
          refine hK' _ _ (grow_of (below_to ((Below.refl _ _).drew) hq2)) ?_
          clear hK' K'
          rw [← HQ.out]
          refine wpX_nil ?_
          try simp only [opsAt, List.getElem?_toArray, List.getElem?_cons_zero, List.getElem?_cons_succ, Option.getD_some]
          repeat (go_big_quiet_step (fail))
          refine wpQuiet_nil ?_
          try simp only [opsAt, List.getElem?_toArray, List.getElem?_cons_zero, List.getElem?_cons_succ, Option.getD_some]
          have hq : Below w8.heap.size w8 y4 := below_to ((Below.refl _ _).drew) hq2
          clear gl hq2 rO fO rD fD zO zD oD
          replace oO := oO.below hq
          replace hW := below_to hW hq
          clear hq
          have o2 := (oO.set (m * 2) (.int .i64 p.n)).set (m * 2 + 1) (.int .i64 p.d)
          rw [HM.out (p.n, p.d)] at o2
          have O2 := Lib.hid o2
          have hW2 := (hW.setCell (p := ⟨GO, m * 2, none⟩) zO1 (.int .i64 p.n)).setCell (p := ⟨GO, m * 2 + 1, none⟩) zO1 (.int .i64 p.d)
          clear o2
          have zO := oO.lt
          obtain ⟨rO, fO⟩ := oO.rules
          by_cases h2 : p.e = 0
          · have b3 : (p.e != 0) = false := by simp [h2]
            have E2 := Lib.hid h2
            clear h2 HE RE
            go_wp2
            go_roundw
            case rel => exact ⟨j + 1, by omega, by go_num, by rw [HPP.out]; exact E2, by rw [HPP.out]; exact O2.out, hW2⟩
            case measure => simp [intOf]; try omega
          · have b3 : (p.e != 0) = true := by simpa using h2
            have HV2 : Hid (rowsOf (fun k => gsum (colT A y k) A.length) n = ([], 16)) := by
              have e2 := HE.out h2
              show _ = _
              rw [RE.out (by show ¬ (gsum (colT A y m) A.length).e = 0; rw [e2]; decide)]
              show ([], (gsum (colT A y m) A.length).e) = _
              rw [e2]
            clear h2 HE RE
            go_wp2
            go_ret2
            exact ⟨.slice none 0 0, by rw [HV.out, HV2.out]; try rfl, by rw [HV.out, HV2.out]; exact sf_nil _, below_to hz hW2⟩
        · obtain rfl : j = A.length := by omega
          have RS := Lib.hid (rows_succ (f := fun k => gsum (colT A y k) A.length) hr.out he.out)
          have HE2 := Lib.hid (congrArg Prod.snd RS.out)
          have HE1 := Lib.hid (congrArg Prod.fst RS.out)
          clear RS
          go_wp2
          go_roundw
          case rel => exact ⟨m + 1, by omega, by go_num, HE2, by rw [HE1.out, HRS.out]; exact oO, hW⟩
          case measure => simp [intOf]; try omega
    · obtain rfl : m = n := by omega
      have hsl : SF W (.slice (some ⟨GO, 0, none⟩) m m) (rowsOf (fun k => gsum (colT A y k) A.length) m).1 := by
        unfold SF
        rw [RL.out]
        exact oO.sl (n := m) m (Nat.le_refl _) (by omega) _ ⟨[], by rw [Nat.sub_self]; simp⟩
      clear oO
      go_wp2
      go_ret2
      exact ⟨_, by rw [HV.out, hr.out]; try rfl, by rw [HV.out]; exact hsl, below_to hz hW⟩
end Go.Proofs.Ythlcmlngmcoknaa

/- What is proved here: the contract of nnls.Residual. Condition: a system and a slice of fractions that can be read. -/
namespace Go.Proofs.Ythlcmlngmcoknaa
open Go.RowKit

set_option maxRecDepth 100000 in
set_option maxHeartbeats 16000000 in
theorem nresid_own (A : List (List Int)) (B : List Int) (x : List (Int × Int)) (va vb vx : Value) (w : World) (hA : SS w va A) (hB : SI w vb B) (hx : SF w vx x) (ix : FI x) :
    Calls Try.prog 53 #[.agg #[va, vb], vx] w (rows_own w (nResidual A B x)) := by
  have IX := Lib.hid ix
  obtain ⟨ada, capa, rfl, ha1, ha2, _⟩ := hA.open
  obtain ⟨adb, capb, rfl, hb1, hb2, _⟩ := hB.open
  obtain ⟨adx, capx, rfl, hx1, hx2, _⟩ := hx.open
  clear ix
  go_enter Try.func53, Try.ntmps53
  have oS := Own.new w 25 [.slice ada A.length capa, .slice adb B.length capb]
  have hy := ba1 w (.cells #[.slice ada A.length capa, .slice adb B.length capb] 25)
  replace hA := hA.below hy
  replace hB := hB.below hy
  replace hx := hx.below hy
  obtain ⟨rS, fS⟩ := oS.rules
  have zS := oS.lt
  go_wp2_with fail
  refine (npoint_any A B x _ _ _ _ hA hB hx IX.out).mono ?_
  rintro e y1 ⟨rfl, hq⟩
  clear rS fS zS
  replace oS := oS.below hq
  replace hA := hA.below hq
  replace hB := hB.below hq
  replace hx := hx.below hq
  replace hy := below_to hy hq
  clear hq
  obtain ⟨rS, fS⟩ := oS.rules
  have zS := oS.lt
  by_cases h0 : npoint A B x = 0
  case neg =>
    have HV : Hid (nResidual A B x = ([], npoint A B x)) := if_neg h0
    have b1 : (npoint A B x != 0) = true := by simpa using h0
    clear h0 hA hB hx
    go_wp2
    go_ret2
    exact ⟨.slice none 0 0, by rw [HV.out]; try rfl, by rw [HV.out]; exact owns_nil _ _, hy⟩
  have b1 : (npoint A B x != 0) = false := by simp [h0]
  have HV : Hid (nResidual A B x = rowsOf (nres A B x) A.length) := if_pos h0
  have FX := Lib.hid (FitX.of h0)
  have l1 : A.length ≤ 100 := FX.out.few.1
  have l2 : x.length ≤ 100 := FX.out.few.2
  have l3 : A.length ≤ B.length := by rw [FX.out.right]; exact Nat.le_refl _
  clear h0
  have SA := Lib.hid hA
  have SB' := Lib.hid hB
  have SX := Lib.hid hx
  clear hA hB hx
  have MK := mk_fracs0 A.length (by omega)
  go_wp2
  clear MK
  have ow := owns_made y1 A.length (by omega) 78 y1.heap.size (Nat.le_refl _)
  have hW := ba1 y1 (.cells (fcs (List.replicate A.length (0, 0))).toArray 78)
  clear rS fS zS
  go_loopw [7, 26] (fun ov i wr => ∃ m : Nat, m ≤ A.length ∧ i = .int .i64 m ∧ Hid ((rowsOf (nres A B x) m).2 = 0) ∧ wr.ownsRow y1.heap.size 78 2 ov m (fcs (rowsOf (nres A B x) m).1) ∧ Below y1.heap.size y1 wr) (fun _ i _ => A.length - (intOf i).toNat)
  case atStart => exact ⟨0, Nat.zero_le _, rfl, rfl, ow, hW⟩
  case round =>
    clear ow hW
    obtain ⟨m, hm, rfl, hr, ow, hW⟩ := hrel
    rename World => W
    by_cases hlt : m < A.length
    · have hmB : m < B.length := by omega
      obtain ⟨_, _, e, _, _, H⟩ := (SA.out.below hW).open
      cases e
      obtain ⟨b, off, ad', cap', rfl, c1, c2, c3, sR⟩ := H.out m hlt
      obtain ⟨_, _, e, _, _, H'⟩ := (SB'.out.below hW).open
      cases e
      obtain ⟨b', off', rfl, c4⟩ := H'.out m hmB
      clear H H'
      have hwd := FX.out.wide m hlt
      have hco := FX.out.coef m hlt
      have SR := Lib.hid sR
      have HD := Lib.hid (row_dot hlt hwd)
      have I1 := Lib.hid (i64_small (FX.out.side m hmB).1 (FX.out.side m hmB).2)
      have F1 := Lib.hid (FX.out.row_ok (k := x.length) hlt (Nat.le_refl _))
      have F2 := Lib.hid (FX.out.res_ok hlt)
      have N0 := Lib.hid (nres_0 (A := A) (B := B) (x := x) (i := m))
      have N1 := Lib.hid (nres_1 (A := A) (B := B) (x := x) (i := m))
      rw [getD_get hmB] at N0
      have RE := Lib.hid (fun h => rows_end (N := A.length) hr.out hlt h)
      have RS := Lib.hid (fun h => rows_succ (f := nres A B x) hr.out h)
      have HWD := Lib.hid hwd
      have l4 : A[m].length ≤ x.length := by rw [HWD.out]; exact Nat.le_refl _
      have HCO := Lib.hid hco
      have GI := Lib.hid (gsum_i64 (rowT A x m) x.length)
      clear hwd hco sR
      generalize A[m] = row at *
      generalize B[m] = bm at *
      replace oS := oS.below hW
      obtain ⟨rS, fS⟩ := oS.rules
      have zS := oS.lt
      go_wp2_with fail
      refine (ndot_any row x _ _ _ SR.out (SX.out.below hW) l4 HCO.out FX.out.val).mono ?_
      rintro e y2 ⟨rfl, hq⟩
      rw [HD.out]
      clear rS fS zS
      replace oS := oS.below hq
      replace ow := owns_at ow hq
      replace c4 := below_cell hq c4
      replace hW := below_to hW hq
      clear hq c1
      generalize gsum (rowT A x m) x.length = p at *
      obtain ⟨r, hrr⟩ : ∃ r, r = nres A B x m := ⟨_, rfl⟩
      rw [← hrr] at F2 N0 N1 RE RS
      clear hrr
      by_cases h1 : p.e = 0
      case neg =>
        have b2 : (p.e != 0) = true := by simpa using h1
        have HV2 : Hid (rowsOf (nres A B x) A.length = ([], p.e)) := by
          show _ = _
          rw [RE.out (by rw [N1.out h1]; exact h1), N1.out h1]
        clear h1 RE RS N0 N1 F1 F2 ow
        obtain ⟨rS, fS⟩ := oS.rules
        have zS := oS.lt
        go_wp2
        go_ret2
        exact ⟨.slice none 0 0, by rw [HV.out, HV2.out]; try rfl, by rw [HV.out, HV2.out]; exact owns_nil _ _, (below_to hy hW).alloc (by have := (below_to hy hW).size; omega) _⟩
      have b2 : (p.e != 0) = false := by simp [h1]
      have HQ := Lib.hid (N0.out h1)
      clear h1 N0 N1
      obtain ⟨rS, fS⟩ := oS.rules
      have zS := oS.lt
      go_wp2_with fail
      have oP := Own.new y2 78 [.int .i64 p.n, .int .i64 p.d]
      replace oS := oS.alloc (.cells #[.int .i64 p.n, .int .i64 p.d] 78)
      replace ow := owns_at ow (ba1 y2 (.cells #[.int .i64 p.n, .int .i64 p.d] 78))
      replace hW := below_to hW (ba1 y2 (.cells #[.int .i64 p.n, .int .i64 p.d] 78))
      replace c4 := below_cell (ba1 y2 (.cells #[.int .i64 p.n, .int .i64 p.d] 78)) c4
      clear rS fS zS
      obtain ⟨G, hG⟩ : ∃ G, G = y2.heap.size := ⟨_, rfl⟩
      rw [← hG] at oP ⊢
      clear hG
      generalize y2.alloc (.cells #[.int .i64 p.n, .int .i64 p.d] 78) = y3 at *
      have zb := World.block_lt_of_cell? _ _ c4
      simp only at zb
      obtain ⟨rS, fS⟩ := oS.rules
      have zS := oS.lt
      obtain ⟨rP, fP⟩ := oP.rules
      have zP := oP.lt
      go_wp2_with fail
      have gl := @grow_lt
      refine wp_region_fs [(11, ⟨78, [.int .i64 0, .int .i64 0], fun b => .pointer (some ⟨b, 0, none⟩)⟩)] [0, 1, 2, 3, 4, 5, 6] [.op 7, .tk 8, .tk 9, .tk 10, .fl 11, .op 12] [13] (by kernel_rfl) (by kernel_rfl) ⟨fun ρ W => by kernel_rfl, trivial⟩ (fun _ _ _ _ _ h => h) (fun _ _ _ _ _ h => h) ?_
      try simp only [opsAt, List.getElem?_toArray, List.getElem?_cons_zero, List.getElem?_cons_succ, Option.getD_some]
      repeat (go_big_quiet_step (fail))
      refine wpQuiet_nil ?_
      clear gl
      refine wpFl_op rfl ?_
      intro w3 hb3 K' hK'
      go_simp
      refine (fsub_any p.n p.d bm 1 _ GI.out.1 GI.out.2 I1.out i64_1).mono ?_
      rintro e w5 ⟨rfl, hq⟩
      refine hK' _ _ (Mod.of_below hq) ?_
      clear hK' K'
      have hF := below_to hb3 hq
      clear hb3 hq
      rw [← HQ.out]
      refine wpFl_tk ?_
      try simp only [opsAt, List.getElem?_toArray, List.getElem?_cons_zero, List.getElem?_cons_succ, Option.getD_some]
      repeat (go_big_quiet_step (fail))
      refine wpQuiet_nil ?_
      refine wpFl_tk ?_
      try simp only [opsAt, List.getElem?_toArray, List.getElem?_cons_zero, List.getElem?_cons_succ, Option.getD_some]
      repeat (go_big_quiet_step (fail))
      refine wpQuiet_nil ?_
      refine wpFl_tk ?_
      try simp only [opsAt, List.getElem?_toArray, List.getElem?_cons_zero, List.getElem?_cons_succ, Option.getD_some]
      repeat (go_big_quiet_step (fail))
      refine wpQuiet_nil ?_
      refine wpFl_fl rfl ?_
      intro bD w6 hb6 oD zD0 _
      go_simp
      replace hF := below_to hF hb6
      refine wpFl_op rfl ?_
      intro w7 hb7 K' hK'
      replace oD := oD.below hb7
      replace hF := below_to hF hb7
      clear hb6 hb7
      obtain ⟨rD, fD⟩ := oD.rules
      have zD := oD.lt
      go_wp2_with fail
      refine hK' _ _ (((Mod.refl _ _).set (by simp) _).set (by simp) _) ?_
      clear hK' K' rD fD zD
      replace oD := (oD.set 0 (.int .i64 r.n)).set 1 (.int .i64 r.d)
      replace hF := (hF.setCell (p := ⟨bD, 0, none⟩) zD0 (.int .i64 r.n)).setCell (p := ⟨bD, 1, none⟩) zD0 (.int .i64 r.d)
      refine wpFl_nil (fun w8 hb8 => ?_)
      replace oD := oD.below hb8
      replace hF := below_to hF hb8
      clear hb8
      try simp only [opsAt, List.getElem?_toArray, List.getElem?_cons_zero, List.getElem?_cons_succ, Option.getD_some]
      clear rS fS zS rP fP zP c4 zb
      replace ow := owns_at ow hF
      replace hW := below_to hW hF
      replace oS := oS.below hF
      clear hF oP HQ
      by_cases h2 : r.e = 0
      case neg =>
        have b3 : (r.e != 0) = true := by simpa using h2
        have HV2 : Hid (rowsOf (nres A B x) A.length = ([], 16)) := by
          show _ = _
          rw [RE.out h2, F2.out.e h2]
        clear h2 RE RS F1 F2 ow oD oS
        go_wp2
        go_ret2
        exact ⟨.slice none 0 0, by rw [HV.out, HV2.out]; try rfl, by rw [HV.out, HV2.out]; exact owns_nil _ _, below_to hy hW⟩
      have b3 : (r.e != 0) = false := by simp [h2]
      have HF := Lib.hid (RS.out h2)
      have HE2 := Lib.hid (congrArg Prod.snd HF.out)
      have HE1 := Lib.hid (congrArg (fun r => fcs r.1) HF.out)
      clear h2 RE RS HF F1 F2 oS
      have zr := hW.size
      obtain ⟨rD, fD⟩ := oD.rules
      have zD := oD.lt
      go_wp2_with (at_builtin; refine wpList_app _ rfl _ _ _ rfl y1.heap.size 78 2 16 (.agg #[.int .i64 0, .int .i64 0]) Try.underlying28 Try.infoFrac rfl (by omega) (by omega) _ m _ rfl (ow.alloc _) (by omega) (by simp; omega) w8.heap.size [.int .i64 r.n, .int .i64 r.d] (0, 0) rfl (heap_alloc_new w8 _) rfl (by simp [Value.oneCell']) ?_; intro g cap2 w9 hown hg hbw)
      go_roundw
      case rel =>
        refine ⟨m + 1, by omega, by go_num, HE2, ?_, ?_⟩
        · rw [HE1.out, fcs_append]; exact hown
        · exact (below_to hW (ba1 w8 _)).trans (hbw.mono (Nat.le_refl _))
      case measure => simp [intOf]; try omega
    · obtain rfl : m = A.length := by omega
      go_wp2
      go_ret2
      refine ⟨u7, by rw [HV.out, hr.out]; try rfl, ?_, below_to hy hW⟩
      rw [HV.out, rows_len _ hr.out]
      exact owns_base ow hy.size
theorem nresid_any (A : List (List Int)) (B : List Int) (x : List (Int × Int)) (va vb vx : Value) (w : World) (hA : SS w va A) (hB : SI w vb B) (hx : SF w vx x) (ix : FI x) :
    Calls Try.prog 53 #[.agg #[va, vb], vx] w (rows_post w (nResidual A B x)) := (nresid_own A B x va vb vx w hA hB hx ix).mono fun _ _ h => rows_own_post h
end Go.Proofs.Ythlcmlngmcoknaa
