/- What is proved here: contracts of functions and plain facts, several texts in one; each one says ahead what it proves, and its conditions. -/
import Derived.Test.YtfoemacgmehpiaaM17
import Derived.Test.YtfoemacgmehpiaaM26
import Derived.Test.YtfoemacgmehpiaaM24
import Derived.Test.YtfoemacgmehpiaaM27
import Derived.Test.YtfoemacgmehpiaaM10
import Derived.Test.YtfoemacgmehpiaaM25
import Derived.Test.YtfoemacgmehpiaaM19
/- What is proved here: the contract of sparse.Slope. Condition: a system and a slice of fractions that can be read. -/
namespace Go.Proofs.Ytfoemacgmehpiaa
open Go.RowKit

set_option maxRecDepth 100000 in
set_option maxHeartbeats 16000000 in
theorem sslope_any (A : List (List Int)) (B : List Int) (c : Int) (x : List (Int × Int)) (va vb vx : Value) (w : World) (hA : SS w va A) (hB : SI w vb B) (hx : SF w vx x) (ix : FI x) :
    Calls Try.prog 21 #[.agg #[va, vb], .int .i64 c, vx] w (rows_post w (sSlope A B c x)) := by
  have IX := Lib.hid ix
  clear ix
  go_enter Try.func21, Try.ntmps21
  have oS := Own.new w 25 [va, vb]
  have hy := ba1 w (.cells #[va, vb] 25)
  replace hA := hA.below hy
  replace hB := hB.below hy
  replace hx := hx.below hy
  obtain ⟨rS, fS⟩ := oS.rules
  have zS := oS.lt
  go_wp2_with fail
  refine (sready_any A B c _ _ _ hA hB).mono ?_
  rintro e y1 ⟨rfl, hq⟩
  clear rS fS zS
  replace oS := oS.below hq
  replace hA := hA.below hq
  replace hB := hB.below hq
  replace hx := hx.below hq
  replace hy := below_to hy hq
  clear hq
  obtain ⟨rS, fS⟩ := oS.rules
  have zS := oS.lt
  by_cases h0 : scheck A B c = 0
  case neg =>
    have HV := Lib.hid (sSlope_c (x := x) h0)
    have b1 : (scheck A B c != 0) = true := by simpa using h0
    clear h0 hA hB hx
    go_wp2
    go_ret2
    exact ⟨.slice none 0 0, by rw [HV.out]; try rfl, by rw [HV.out]; exact sf_nil _, hy⟩
  have b1 : (scheck A B c != 0) = false := by simp [h0]
  obtain ⟨_, hc1, hc2⟩ := scheck_of h0
  have H0 := Lib.hid h0
  have CI : Hid (i64 c) := ⟨by omega, by omega⟩
  clear h0
  go_wp2_with fail
  refine (ngrad_own A B x _ _ _ _ hA hB hx IX.out).mono ?_
  rintro e y2 ⟨u, rfl, su, hq⟩
  have hq0 := hq
  have hy0 := hy
  clear rS fS zS
  replace oS := oS.below hq
  replace hA := hA.below hq
  replace hB := hB.below hq
  replace hx := hx.below hq
  replace hy := below_to hy hq
  clear hq
  obtain ⟨rS, fS⟩ := oS.rules
  have zS := oS.lt
  by_cases h1 : (nGradient A B x).2 = 0
  case neg =>
    have HV := Lib.hid (sSlope_g H0.out h1)
    have b2 : ((nGradient A B x).2 != 0) = true := by simpa using h1
    clear h1 hA hB hx su hq0
    go_wp2
    go_ret2
    exact ⟨.slice none 0 0, by rw [HV.out]; try rfl, by rw [HV.out]; exact sf_nil _, hy⟩
  have b2 : ((nGradient A B x).2 != 0) = false := by simp [h1]
  have HV := Lib.hid (sSlope_0 H0.out h1)
  have GV := Lib.hid (grad_val h1)
  have GL : 0 < (nGradient A B x).1.length := by
    obtain ⟨hp, hl⟩ := grad_len h1
    rw [hl]; exact (point_of hp).1.cols.1
  have GM : (nGradient A B x).1.length ≤ 100 := by
    obtain ⟨hp, hl⟩ := grad_len h1
    rw [hl]; have := (point_of hp).1.cols.2; omega
  clear h1 hA hB hx
  generalize (nGradient A B x).1 = g at *
  obtain ⟨G, cap, rest, rfl, hG, oG, hc3, hc4, hc5⟩ := owns_open su GL
  replace hG : w.heap.size ≤ G := by have := hy0.size; omega
  have HC5 := Lib.hid hc5
  unfold maxLen at hc4
  clear su hc5 rS fS zS oS
  go_wp2
  have hW := hq0
  clear hq0
  have zG := oG.lt
  go_loopw [29] (fun i wr => ∃ m : Nat, m ≤ g.length ∧ i = .int .i64 m ∧ Hid ((rowsOf (slopeN g c) m).2 = 0) ∧ Own wr G 39 (fcs ((rowsOf (slopeN g c) m).1 ++ g.drop m) ++ rest) ∧ Below w.heap.size w wr) (fun i _ => g.length - (intOf i).toNat)
  case atStart => exact ⟨0, Nat.zero_le _, rfl, rfl, oG, hy⟩
  case round =>
    clear oG hW zG
    obtain ⟨m, hm, rfl, hr, oG, hB⟩ := hrel
    rename World => W
    by_cases hlt : m < g.length
    · have RL := Lib.hid (rows_len m hr.out)
      have OL := Lib.hid (over_len (g := g) RL.out (by omega))
      have og := over_get (g := g) RL.out hlt
      obtain ⟨g1, g2⟩ := fcs_at (xs := (rowsOf (slopeN g c) m).1 ++ g.drop m) (k := m) rest (by rw [OL.out]; exact hlt)
      rw [og] at g1 g2
      have HP := Lib.hid (fun p => fcs_put (xs := (rowsOf (slopeN g c) m).1 ++ g.drop m) (k := m) rest (by rw [OL.out]; exact hlt) p)
      have HO := Lib.hid (fun p => over_set (g := g) p RL.out hlt)
      have HN := Lib.hid (slopeN_get (c := c) hlt)
      have F1 := Lib.hid (slopeN_FOk (c := c) GV.out hc1 hc2 hlt)
      have I1 := Lib.hid (fr_i64 (GV.out m hlt))
      have RE := Lib.hid (fun h => rows_end (f := slopeN g c) (N := g.length) hr.out hlt h)
      have RS := Lib.hid (fun h => rows_succ (f := slopeN g c) hr.out h)
      clear og
      generalize g[m].1 = gn at *
      generalize g[m].2 = gd at *
      generalize slopeN g c m = p at *
      have l9 : (m : Int) < (g.length : Int) := by omega
      have gl := @grow_lt
      obtain ⟨rG, fG⟩ := oG.rules
      have zG := oG.lt
      go_wp2
      go_wp2_with fail
      refine wp_region_pstt [0, 1] [.t [2, 3, 4, 5, 6], .f 7, .f 8] [9, 10, 11] [12, 13, 14] (by kernel_rfl) (by kernel_rfl) (fun _ _ _ _ _ h => h) ?_
      try simp only [opsAt, List.getElem?_toArray, List.getElem?_cons_zero, List.getElem?_cons_succ, Option.getD_some]
      repeat (go_big_quiet_step (fail))
      refine wpQuiet_nil ?_
      refine wpX_t ?_
      try simp only [opsAt, List.getElem?_toArray, List.getElem?_cons_zero, List.getElem?_cons_succ, Option.getD_some]
      repeat (go_big_quiet_step (fail))
      refine wpQuiet_nil ?_
      refine wpX_f rfl rfl (fun K' hK' => ?_)
      go_simp
      refine (swhole_any c _).mono ?_
      rintro e y3 ⟨rfl, hq1⟩
      refine hK' _ _ (grow_of (below_to ((Below.refl _ _).drew) hq1)) ?_
      clear hK' K'
      refine wpX_f rfl rfl (fun K' hK' => ?_)
      go_simp
      refine (fadd_any gn gd c 1 _ I1.out.1 I1.out.2 CI.out ⟨by decide, by decide⟩).mono ?_
      rintro e y4 ⟨rfl, hq2⟩
      refine hK' _ _ (grow_of (below_to (below_to ((Below.refl _ _).drew) hq1) hq2)) ?_
      clear hK' K'
      rw [← HN.out]
      refine wpX_nil ?_
      try simp only [opsAt, List.getElem?_toArray, List.getElem?_cons_zero, List.getElem?_cons_succ, Option.getD_some]
      repeat (go_big_quiet_step (fail))
      refine wpQuiet_nil ?_
      try simp only [opsAt, List.getElem?_toArray, List.getElem?_cons_zero, List.getElem?_cons_succ, Option.getD_some]
      have hq : Below W.heap.size W y4 := below_to (below_to ((Below.refl _ _).drew) hq1) hq2
      clear gl hq1 hq2 rG fG zG
      replace oG := oG.below hq
      replace hB := below_to hB hq
      clear hq
      have zw := hy.size
      have zG := oG.lt
      have o2 := (oG.set (m * 2) (.int .i64 p.n)).set (m * 2 + 1) (.int .i64 p.d)
      rw [HP.out (p.n, p.d), HO.out] at o2
      have O2 := Lib.hid o2
      have hB2 := (hB.setCell (p := ⟨G, m * 2, none⟩) (by simp; omega) (.int .i64 p.n)).setCell (p := ⟨G, m * 2 + 1, none⟩) (by simp; omega) (.int .i64 p.d)
      clear o2 HP HO
      obtain ⟨rG, fG⟩ := oG.rules
      by_cases h2 : p.e = 0
      · have b3 : (p.e != 0) = false := by simp [h2]
        have HF := Lib.hid (RS.out h2)
        have HE2 := Lib.hid (congrArg Prod.snd HF.out)
        have HE1 := Lib.hid (congrArg Prod.fst HF.out)
        clear h2 RE RS HF
        go_wp2
        go_roundw
        case rel => exact ⟨m + 1, by omega, by go_num, HE2, by rw [HE1.out]; exact O2.out, hB2⟩
        case measure => simp [intOf]; try omega
      · have b3 : (p.e != 0) = true := by simpa using h2
        have HV2 : Hid (rowsOf (slopeN g c) g.length = ([], 16)) := by
          show _ = _
          rw [RE.out h2, F1.out.e h2]
        clear h2 RE RS
        go_wp2
        go_ret2
        exact ⟨.slice none 0 0, by rw [HV.out, HV2.out]; try rfl, by rw [HV.out, HV2.out]; exact sf_nil _, hB2⟩
    · obtain rfl : m = g.length := by omega
      have RL := Lib.hid (rows_len g.length hr.out)
      have hsl : SF W (.slice (some ⟨G, 0, none⟩) g.length cap) (rowsOf (slopeN g c) g.length).1 := by
        unfold SF
        rw [RL.out]
        refine oG.sl cap hc3 (by omega) _ ?_
        rw [List.drop_length, List.append_nil]
        exact ⟨rest, rfl⟩
      clear oG
      go_wp2
      go_ret2
      exact ⟨_, by rw [HV.out, hr.out]; try rfl, by rw [HV.out]; exact hsl, hB⟩
end Go.Proofs.Ytfoemacgmehpiaa

/- What is proved here: the contract of sparse.Optimal. Condition: a system and a slice of fractions that can be read. -/
namespace Go.Proofs.Ytfoemacgmehpiaa
open Go.RowKit

set_option maxRecDepth 100000 in
set_option maxHeartbeats 16000000 in
theorem sopt_any (A : List (List Int)) (B : List Int) (c : Int) (x : List (Int × Int)) (va vb vx : Value) (w : World) (hA : SS w va A) (hB : SI w vb B) (hx : SF w vx x) (ix : FI x) :
    Calls Try.prog 20 #[.agg #[va, vb], .int .i64 c, vx] w fun e w' => e = .returned (.tuple #[.bool (sOptimal A B c x).1, .int .i64 (sOptimal A B c x).2]) ∧ Below w.heap.size w w' := by
  have IX := Lib.hid ix
  obtain ⟨adx, capx, rfl, hx1, hx2, _⟩ := hx.open
  clear ix
  go_enter Try.func20, Try.ntmps20
  have oS := Own.new w 25 [va, vb]
  have hy := ba1 w (.cells #[va, vb] 25)
  replace hA := hA.below hy
  replace hB := hB.below hy
  replace hx := hx.below hy
  obtain ⟨rS, fS⟩ := oS.rules
  have zS := oS.lt
  go_wp2_with fail
  refine (sslope_any A B c x _ _ _ _ hA hB hx IX.out).mono ?_
  rintro e y1 ⟨u, rfl, su, hq⟩
  clear rS fS zS
  replace oS := oS.below hq
  replace hA := hA.below hq
  replace hB := hB.below hq
  replace hx := hx.below hq
  replace hy := below_to hy hq
  clear hq
  obtain ⟨rS, fS⟩ := oS.rules
  have zS := oS.lt
  by_cases h0 : (sSlope A B c x).2 = 0
  case neg =>
    have HV := Lib.hid (sOpt_1 h0)
    have b1 : ((sSlope A B c x).2 != 0) = true := by simpa using h0
    clear h0 hA hB hx su
    go_wp2
    go_ret2
    exact ⟨by rw [HV.out]; try rfl, hy⟩
  have b1 : ((sSlope A B c x).2 != 0) = false := by simp [h0]
  have HV := Lib.hid (sOpt_0 h0)
  obtain ⟨hp, hl⟩ := slope_len h0
  have PX : Hid (∀ i (h : i < x.length), 0 ≤ x[i].1) := fun i hi => ((point_of hp).2 i hi).2
  have HL := Lib.hid hl
  clear h0 hp hl
  generalize (sSlope A B c x).1 = g at *
  have l1 : g.length ≤ x.length := by rw [HL.out]; exact Nat.le_refl _
  obtain ⟨adu, capu, rfl, hu1, hu2, _⟩ := su.open
  have SX := Lib.hid hx
  have SU := Lib.hid su
  clear hA hB hx su rS fS zS
  go_wp2
  go_loopw [24] (fun i wr => ∃ k : Nat, k ≤ g.length ∧ i = .int .i64 k ∧ Hid (noptB g x k = true) ∧ Below y1.heap.size y1 wr) (fun i _ => g.length - (intOf i).toNat)
  case atStart => exact ⟨0, Nat.zero_le _, rfl, rfl, Below.refl _ _⟩
  case round =>
    obtain ⟨k, hk, rfl, hv, hW⟩ := hrel
    rename World => W
    by_cases hlt : k < g.length
    · have hkx : k < x.length := by omega
      obtain ⟨_, _, e, _, _, H⟩ := (SU.out.below hW).open
      cases e
      obtain ⟨b, off, rfl, c1, c2⟩ := H.out k hlt
      obtain ⟨_, _, e, _, _, H'⟩ := (SX.out.below hW).open
      cases e
      obtain ⟨b', off', rfl, c3, c4⟩ := H'.out k hkx
      clear H H'
      have NS := Lib.hid (noptB_succ hlt hkx hv.out)
      have NN := Lib.hid (noptB_not (g := g) (x := x) (n := g.length) hlt hlt hkx)
      have px := PX.out k hkx
      have zb := World.block_lt_of_cell? _ _ c3
      simp only at zb
      generalize g[k].1 = gn at *
      generalize g[k].2 = gd at *
      generalize x[k].1 = xn at *
      generalize x[k].2 = xd at *
      by_cases h1 : gn < 0
      · have b2 : decide (gn < 0) = true := by simpa using h1
        have HN := Lib.hid (NN.out (by simp [noptN, b2]))
        clear NS NN h1
        go_wp2
        go_ret2
        exact ⟨by rw [HV.out, HN.out]; try rfl, (below_to hy hW).alloc (by have := (below_to hy hW).size; omega) _⟩
      have b2 : decide (gn < 0) = false := by simpa using h1
      by_cases h2 : gn = 0
      · have HN := Lib.hid (NS.out (by simp [noptN, h2]))
        have b3 : (gn != 0) = false := by simp [h2]
        clear NS NN h1 h2
        go_wp2
        go_roundw
        case rel => exact ⟨k + 1, by omega, by go_num, HN, below_to hW (ba1 _ _)⟩
        case measure => simp [intOf]; try omega
      have b3 : (gn != 0) = true := by simpa using h2
      have b5 : decide (0 < gn) = true := by simp; omega
      by_cases h3 : xn = 0
      · have b6 : decide (0 < xn) = false := by simp; omega
        have HN := Lib.hid (NS.out (by simp [noptN, b2, b6]))
        have b4 : (xn != 0) = false := by simp [h3]
        clear NS NN h1 h2 h3 b5 b6
        go_wp2
        go_roundw
        case rel => exact ⟨k + 1, by omega, by go_num, HN, below_to hW (ba1 _ _)⟩
        case measure => simp [intOf]; try omega
      · have b6 : decide (0 < xn) = true := by simp; omega
        have HN := Lib.hid (NN.out (by simp [noptN, b5, b6]))
        have b4 : (xn != 0) = true := by simpa using h3
        clear NS NN h1 h2 h3 b5 b6
        go_wp2
        go_ret2
        exact ⟨by rw [HV.out, HN.out]; try rfl, (below_to hy hW).alloc (by have := (below_to hy hW).size; omega) _⟩
    · obtain rfl : k = g.length := by omega
      go_wp2
      go_ret2
      exact ⟨by rw [HV.out, hv.out]; try rfl, below_to hy hW⟩
end Go.Proofs.Ytfoemacgmehpiaa

/- What is proved here: the contract of nnls.Value. Condition: a system and a slice of fractions that can be read. -/
namespace Go.Proofs.Ytfoemacgmehpiaa
open Go.RowKit

set_option maxRecDepth 100000 in
set_option maxHeartbeats 16000000 in
theorem nval_any (A : List (List Int)) (B : List Int) (x : List (Int × Int)) (va vb vx : Value) (w : World) (hA : SS w va A) (hB : SI w vb B) (hx : SF w vx x) (ix : FI x) :
    Calls Try.prog 28 #[.agg #[va, vb], vx] w fun e w' => e = .returned (.tuple #[.agg #[.int .i64 (nValue A B x).n, .int .i64 (nValue A B x).d], .int .i64 (nValue A B x).e]) ∧ Below w.heap.size w w' := by
  have IX := Lib.hid ix
  clear ix
  go_enter Try.func28, Try.ntmps28
  have oS := own_first w 25 [va, vb] (.cells #[.int .i64 0, .int .i64 0] 39)
  have oR := own_second w 39 [.int .i64 0, .int .i64 0] (.cells #[va, vb] 25)
  have hB' := ba2 w (.cells #[va, vb] 25) (.cells #[.int .i64 0, .int .i64 0] 39)
  replace hA := hA.below hB'
  replace hB := hB.below hB'
  replace hx := hx.below hB'
  obtain ⟨rS, fS⟩ := oS.rules
  have zS := oS.lt
  obtain ⟨rR, fR⟩ := oR.rules
  have zR := oR.lt
  go_wp2_with fail
  refine (nresid_any A B x _ _ _ _ hA hB hx IX.out).mono ?_
  rintro e y1 ⟨u, rfl, su, hq⟩
  clear rS fS zS rR fR zR
  replace oS := oS.below hq
  replace oR := oR.below hq
  replace hA := hA.below hq
  replace hB := hB.below hq
  replace hx := hx.below hq
  replace hB' := below_to hB' hq
  clear hq
  obtain ⟨rS, fS⟩ := oS.rules
  have zS := oS.lt
  obtain ⟨rR, fR⟩ := oR.rules
  have zR := oR.lt
  by_cases h0 : (nResidual A B x).2 = 0
  case neg =>
    have HV := Lib.hid (nVal_1 h0)
    have b1 : ((nResidual A B x).2 != 0) = true := by simpa using h0
    clear h0 hA hB hx su
    have hB := hB'
    clear hB'
    go_wp2
    replace oR := ((oR).set 0 (.int .i64 0)).set 1 (.int .i64 0)
    replace hB := ((hB).setCell (p := ⟨w.heap.size + 1, 0, none⟩) (by first | omega | (simp; done) | (simp; omega)) (.int .i64 0)).setCell (p := ⟨w.heap.size + 1, 1, none⟩) (by first | omega | (simp; done) | (simp; omega)) (.int .i64 0)
    refine bp_gen' (fun W => Own W _ _ _ ∧ Below w.heap.size w W) ⟨oR, hB⟩ ?_
    rintro wz ⟨oz, bz⟩
    obtain ⟨rz, fz⟩ := oz.rules
    clear oz
    refine bodyPost_ret (v := .tuple #[.agg #[.int .i64 0, .int .i64 0], .int .i64 (nResidual A B x).2]) (by simp [results, Try.results28, go_sem, rz]) rfl ⟨by rw [HV.out], ?_⟩
    exact bz
  have b1 : ((nResidual A B x).2 != 0) = false := by simp [h0]
  have HV := Lib.hid (nVal_0 h0)
  obtain ⟨hp, hpe⟩ := nresid_parts h0
  have FX := Lib.hid (FitX.of hp)
  have RO := Lib.hid (resid_ok FX.out (by rw [← hpe]; exact h0))
  rw [← hpe] at RO
  have l1 : A.length ≤ 100 := FX.out.few.1
  have RL := Lib.hid RO.out.1
  clear h0 hp hpe
  generalize (nResidual A B x).1 = rs at *
  have l3 : rs.length ≤ 100 := by rw [RL.out]; exact l1
  obtain ⟨adu, capu, rfl, hu1, hu2, _⟩ := su.open
  have SU := Lib.hid su
  clear hA hB hx su
  have hB := hB'
  clear hB'
  go_wp2_with fail
  have oV := Own.new y1 39 [.int .i64 0, .int .i64 1]
  have hW := ba1 y1 (.cells #[.int .i64 0, .int .i64 1] 39)
  have oR1 := oR
  have zR1 := oR.lt
  replace oR := oR.below hW
  clear rS fS zS rR fR zR oS
  have zR := oR.lt
  have zR0 : w.heap.size + 1 < y1.heap.size := zR1
  have zy := hB.size
  obtain ⟨GV, hG⟩ : ∃ G, G = y1.heap.size := ⟨_, rfl⟩
  have zG : w.heap.size + 1 < GV := by rw [hG]; exact zR0
  have zG1 : y1.heap.size ≤ GV := by rw [hG]; exact Nat.le_refl _
  have zG2 : w.heap.size ≤ GV := by omega
  rw [← hG] at oV ⊢
  have oR0 := Lib.hid oR1
  clear hG zR oR oR1
  go_loopw [26] (fun i wr => ∃ k : Nat, k ≤ rs.length ∧ i = .int .i64 k ∧ Hid ((gsum (sqT rs) k).e = 0) ∧ Own wr GV 39 [.int .i64 (gsum (sqT rs) k).n, .int .i64 (gsum (sqT rs) k).d] ∧ Below y1.heap.size y1 wr) (fun i _ => rs.length - (intOf i).toNat)
  case atStart => exact ⟨0, Nat.zero_le _, rfl, rfl, oV, hW⟩
  case round =>
    clear oV hW
    obtain ⟨k, hk, rfl, he, oV, hW⟩ := hrel
    rename World => W
    have oR := oR0.out.below hW
    by_cases hlt : k < rs.length
    · obtain ⟨_, _, e, _, _, H⟩ := (SU.out.below hW).open
      cases e
      obtain ⟨b, off, rfl, c1, c2⟩ := H.out k hlt
      clear H
      have J1 := Lib.hid (gsum_i64 (sqT rs) k)
      have J3 := Lib.hid (fr_i64 (RO.out.2 k hlt))
      have F1 := Lib.hid (fmul_FOk (RO.out.2 k hlt) (RO.out.2 k hlt))
      have F2 := Lib.hid (sq_ok (k := k + 1) hlt RO.out.2)
      have HP := Lib.hid (sq_succ hlt he.out)
      have HE := Lib.hid (fun h => gsum_end (t := sqT rs) hlt h F2.out)
      generalize rs[k].1 = rn at *
      generalize rs[k].2 = rd at *
      generalize (gsum (sqT rs) k).n = sn at *
      generalize (gsum (sqT rs) k).d = sd at *
      generalize hpp : gsum (sqT rs) (k + 1) = p at *
      have HPP := Lib.hid hpp
      clear hpp
      obtain ⟨rR, fR⟩ := oR.rules
      have zR := oR.lt
      obtain ⟨rV, fV⟩ := oV.rules
      have zV := oV.lt
      go_wp2_with fail
      refine (fmul_any rn rd rn rd _ J3.out.1 J3.out.2 J3.out.1 J3.out.2).mono ?_
      rintro e y2 ⟨rfl, hq⟩
      replace hq := below_to (ba1 W _) hq
      clear rR fR zR rV fV zV
      replace oR := oR.below hq
      replace oV := oV.below hq
      replace hW := below_to hW hq
      clear hq
      obtain ⟨rR, fR⟩ := oR.rules
      have zR := oR.lt
      obtain ⟨rV, fV⟩ := oV.rules
      have zV := oV.lt
      have M2 := Lib.hid (fmul_i64 rn rd rn rd)
      have P0 := Lib.hid (fplus_0 (sn := sn) (sd := sd) (an := rn) (ad := rd) (bn := rn) (bd := rd))
      have P1 := Lib.hid (fplus_1 (sn := sn) (sd := sd) (an := rn) (ad := rd) (bn := rn) (bd := rd))
      generalize fmul rn rd rn rd = m at *
      by_cases h1 : m.e = 0
      · have b2 : (m.e != 0) = false := by simp [h1]
        have HQ : Hid (p = fadd sn sd m.n m.d) := HP.out.trans (P0.out h1)
        clear h1 P0 P1 HP F1
        go_wp2_with fail
        refine (fadd_any sn sd m.n m.d _ J1.out.1 J1.out.2 M2.out.1 M2.out.2).mono ?_
        rintro e y3 ⟨rfl, hq⟩
        replace hq := below_to (ba1 y2 _) hq
        clear rR fR zR rV fV zV
        replace oR := oR.below hq
        replace oV := oV.below hq
        replace hW := below_to hW hq
        clear hq
        obtain ⟨rR, fR⟩ := oR.rules
        have zR := oR.lt
        obtain ⟨rV, fV⟩ := oV.rules
        have zV := oV.lt
        rw [← HQ.out]
        by_cases h2 : p.e = 0
        · have b3 : (p.e != 0) = false := by simp [h2]
          have E2 := Lib.hid h2
          clear h2
          go_wp2
          go_roundw
          replace oV := ((oV).set 0 (.int .i64 p.n)).set 1 (.int .i64 p.d)
          replace hW := ((hW).setCell (p := ⟨GV, 0, none⟩) (by first | omega | (simp; done) | (simp; omega)) (.int .i64 p.n)).setCell (p := ⟨GV, 1, none⟩) (by first | omega | (simp; done) | (simp; omega)) (.int .i64 p.d)
          case rel => exact ⟨k + 1, by omega, by go_num, by rw [HPP.out]; exact E2, by rw [HPP.out]; exact oV, hW⟩
          case measure => simp [intOf]; try omega
        · have b3 : (p.e != 0) = true := by simpa using h2
          have HV2 := Lib.hid (HE.out h2)
          replace hB := below_to hB hW
          clear h2 hW
          go_wp2
          replace oR := ((((oR).other (g' := GV) (by first | omega | (simp; done) | (simp; omega)) 0 (.int .i64 p.n)).other (g' := GV) (by first | omega | (simp; done) | (simp; omega)) 1 (.int .i64 p.d)).set 0 (.int .i64 0)).set 1 (.int .i64 0)
          replace hB := ((((hB).setCell (p := ⟨GV, 0, none⟩) (by first | omega | (simp; done) | (simp; omega)) (.int .i64 p.n)).setCell (p := ⟨GV, 1, none⟩) (by first | omega | (simp; done) | (simp; omega)) (.int .i64 p.d)).setCell (p := ⟨w.heap.size + 1, 0, none⟩) (by first | omega | (simp; done) | (simp; omega)) (.int .i64 0)).setCell (p := ⟨w.heap.size + 1, 1, none⟩) (by first | omega | (simp; done) | (simp; omega)) (.int .i64 0)
          refine bp_gen' (fun W => Own W _ _ _ ∧ Below w.heap.size w W) ⟨oR, hB⟩ ?_
          rintro wz ⟨oz, bz⟩
          obtain ⟨rz, fz⟩ := oz.rules
          clear oz
          refine bodyPost_ret (v := .tuple #[.agg #[.int .i64 0, .int .i64 0], .int .i64 16]) (by simp [results, Try.results28, go_sem, rz]) rfl ⟨by rw [HV.out, HV2.out], ?_⟩
          exact bz
      · have b2 : (m.e != 0) = true := by simpa using h1
        have HV2 : Hid (gsum (sqT rs) rs.length = ⟨0, 0, 16⟩) := by
          have e1 := HP.out.trans (P1.out h1)
          refine HE.out ?_
          rw [e1]; exact h1
        replace hB := below_to hB hW
        clear h1 P0 P1 HP F1 hW
        go_wp2
        replace oR := (((oR).set 0 (.int .i64 0)).set 1 (.int .i64 0)).alloc (.cells #[.int .i64 m.n, .int .i64 m.d] 39)
        replace hB := (((hB).setCell (p := ⟨w.heap.size + 1, 0, none⟩) (by first | omega | (simp; done) | (simp; omega)) (.int .i64 0)).setCell (p := ⟨w.heap.size + 1, 1, none⟩) (by first | omega | (simp; done) | (simp; omega)) (.int .i64 0)).alloc (by first | omega | (simp; done) | (simp; omega)) (.cells #[.int .i64 m.n, .int .i64 m.d] 39)
        refine bp_gen' (fun W => Own W _ _ _ ∧ Below w.heap.size w W) ⟨oR, hB⟩ ?_
        rintro wz ⟨oz, bz⟩
        obtain ⟨rz, fz⟩ := oz.rules
        clear oz
        refine bodyPost_ret (v := .tuple #[.agg #[.int .i64 0, .int .i64 0], .int .i64 16]) (by simp [results, Try.results28, go_sem, rz]) rfl ⟨by rw [HV.out, HV2.out], ?_⟩
        exact bz
    · obtain rfl : k = rs.length := by omega
      obtain ⟨p, hp⟩ : ∃ p, p = gsum (sqT rs) rs.length := ⟨_, rfl⟩
      rw [← hp] at he oV
      have HP := Lib.hid hp
      replace hB := below_to hB hW
      clear hp hW
      obtain ⟨rR, fR⟩ := oR.rules
      have zR := oR.lt
      obtain ⟨rV, fV⟩ := oV.rules
      have zV := oV.lt
      go_wp2
      replace oR := ((oR).set 0 (.int .i64 p.n)).set 1 (.int .i64 p.d)
      replace hB := ((hB).setCell (p := ⟨w.heap.size + 1, 0, none⟩) (by first | omega | (simp; done) | (simp; omega)) (.int .i64 p.n)).setCell (p := ⟨w.heap.size + 1, 1, none⟩) (by first | omega | (simp; done) | (simp; omega)) (.int .i64 p.d)
      refine bp_gen' (fun W => Own W _ _ _ ∧ Below w.heap.size w W) ⟨oR, hB⟩ ?_
      rintro wz ⟨oz, bz⟩
      obtain ⟨rz, fz⟩ := oz.rules
      clear oz
      refine bodyPost_ret (v := .tuple #[.agg #[.int .i64 p.n, .int .i64 p.d], .int .i64 0]) (by simp [results, Try.results28, go_sem, rz]) rfl ⟨by rw [HV.out, ← HP.out, he.out], ?_⟩
      exact bz
end Go.Proofs.Ytfoemacgmehpiaa

/- What is proved here: the contract of sparse.Cost. Condition: a system and a slice of fractions that can be read. -/
namespace Go.Proofs.Ytfoemacgmehpiaa
open Go.RowKit

set_option maxRecDepth 100000 in
set_option maxHeartbeats 16000000 in
theorem scost_any (A : List (List Int)) (B : List Int) (c : Int) (x : List (Int × Int)) (va vb vx : Value) (w : World) (hA : SS w va A) (hB : SI w vb B) (hx : SF w vx x) (ix : FI x) :
    Calls Try.prog 22 #[.agg #[va, vb], .int .i64 c, vx] w fun e w' => e = .returned (.tuple #[.agg #[.int .i64 (sCost A B c x).n, .int .i64 (sCost A B c x).d], .int .i64 (sCost A B c x).e]) ∧ Below w.heap.size w w' := by
  have IX := Lib.hid ix
  clear ix
  go_enter Try.func22, Try.ntmps22
  have oS := own_first w 25 [va, vb] (.cells #[.int .i64 0, .int .i64 0] 39)
  have oR := own_second w 39 [.int .i64 0, .int .i64 0] (.cells #[va, vb] 25)
  have hY := ba2 w (.cells #[va, vb] 25) (.cells #[.int .i64 0, .int .i64 0] 39)
  replace hA := hA.below hY
  replace hB := hB.below hY
  replace hx := hx.below hY
  obtain ⟨rS, fS⟩ := oS.rules
  have zS := oS.lt
  obtain ⟨rR, fR⟩ := oR.rules
  have zR := oR.lt
  go_wp2_with fail
  refine (sready_any A B c _ _ _ hA hB).mono ?_
  rintro e y1 ⟨rfl, hq⟩
  clear rS fS zS rR fR zR
  replace oS := oS.below hq
  replace oR := oR.below hq
  replace hA := hA.below hq
  replace hB := hB.below hq
  replace hx := hx.below hq
  replace hY := below_to hY hq
  clear hq
  obtain ⟨rS, fS⟩ := oS.rules
  have zS := oS.lt
  obtain ⟨rR, fR⟩ := oR.rules
  have zR := oR.lt
  by_cases h0 : scheck A B c = 0
  case neg =>
    have HV := Lib.hid (sCost_c (x := x) h0)
    have b1 : (scheck A B c != 0) = true := by simpa using h0
    clear h0 hA hB hx
    have hB := hY
    go_wp2
    replace oR := ((oR).set 0 (.int .i64 0)).set 1 (.int .i64 0)
    replace hB := ((hB).setCell (p := ⟨w.heap.size + 1, 0, none⟩) (by first | omega | (simp; done) | (simp; omega)) (.int .i64 0)).setCell (p := ⟨w.heap.size + 1, 1, none⟩) (by first | omega | (simp; done) | (simp; omega)) (.int .i64 0)
    refine bp_gen' (fun W => Own W _ _ _ ∧ Below w.heap.size w W) ⟨oR, hB⟩ ?_
    rintro wz ⟨oz, bz⟩
    obtain ⟨rz, fz⟩ := oz.rules
    clear oz
    refine bodyPost_ret (v := .tuple #[.agg #[.int .i64 0, .int .i64 0], .int .i64 (scheck A B c)]) (by simp [results, Try.results22, go_sem, rz]) rfl ⟨by rw [HV.out], ?_⟩
    exact bz
  have b1 : (scheck A B c != 0) = false := by simp [h0]
  have HV := Lib.hid (sCost_0 (x := x) h0)
  obtain ⟨_, hc1, hc2⟩ := scheck_of h0
  have CK := Lib.hid (fchk_small (a := c) (by omega) hc2)
  have CI : Hid (i64 c) := ⟨by omega, by omega⟩
  have NV := Lib.hid (nValue_ok (A := A) (B := B) (x := x))
  have BV := Lib.hid (sBright_ok (x := x))
  clear h0
  go_wp2_with fail
  refine (nval_any A B x _ _ _ _ hA hB hx IX.out).mono ?_
  rintro e y2 ⟨rfl, hq⟩
  clear rS fS zS rR fR zR
  replace oS := oS.below hq
  replace oR := oR.below hq
  replace hA := hA.below hq
  replace hB := hB.below hq
  replace hx := hx.below hq
  replace hY := below_to hY hq
  clear hq
  obtain ⟨rS, fS⟩ := oS.rules
  have zS := oS.lt
  obtain ⟨rR, fR⟩ := oR.rules
  have zR := oR.lt
  obtain ⟨V, hV⟩ : ∃ V, V = nValue A B x := ⟨_, rfl⟩
  rw [← hV] at HV NV ⊢
  clear hV
  by_cases h1 : V.e = 0
  case neg =>
    have HV2 := Lib.hid (price_v (b := sBright x) (c := c) h1)
    have b2 : (V.e != 0) = true := by simpa using h1
    clear h1 hA hB hx NV BV
    have hB := hY
    go_wp2
    replace oR := (((oR).set 0 (.int .i64 0)).set 1 (.int .i64 0)).alloc (.cells #[.int .i64 V.n, .int .i64 V.d] 39)
    replace hB := (((hB).setCell (p := ⟨w.heap.size + 1, 0, none⟩) (by first | omega | (simp; done) | (simp; omega)) (.int .i64 0)).setCell (p := ⟨w.heap.size + 1, 1, none⟩) (by first | omega | (simp; done) | (simp; omega)) (.int .i64 0)).alloc (by first | omega | (simp; done) | (simp; omega)) (.cells #[.int .i64 V.n, .int .i64 V.d] 39)
    refine bp_gen' (fun W => Own W _ _ _ ∧ Below w.heap.size w W) ⟨oR, hB⟩ ?_
    rintro wz ⟨oz, bz⟩
    obtain ⟨rz, fz⟩ := oz.rules
    clear oz
    refine bodyPost_ret (v := .tuple #[.agg #[.int .i64 0, .int .i64 0], .int .i64 V.e]) (by simp [results, Try.results22, go_sem, rz]) rfl ⟨by rw [HV.out, HV2.out], ?_⟩
    exact bz
  have b2 : (V.e != 0) = false := by simp [h1]
  have E1 := Lib.hid h1
  have VK := Lib.hid (NV.out h1).2
  clear h1 NV
  go_wp2_with fail
  refine (sbright_any x _ _ (hx.below (ba1 y2 _)) IX.out).mono ?_
  rintro e y3 ⟨rfl, hq⟩
  have oP := (Own.new y2 39 [.int .i64 V.n, .int .i64 V.d]).below hq
  replace hq := below_to (ba1 y2 (.cells #[.int .i64 V.n, .int .i64 V.d] 39)) hq
  obtain ⟨bP, hbP⟩ : ∃ G, G = y2.heap.size := ⟨_, rfl⟩
  rw [← hbP] at oP ⊢
  have zP0 : y2.heap.size ≤ bP := by rw [hbP]; exact Nat.le_refl _
  clear hbP
  clear rS fS zS rR fR zR
  replace oS := oS.below hq
  replace oR := oR.below hq
  replace hA := hA.below hq
  replace hB := hB.below hq
  replace hx := hx.below hq
  replace hY := below_to hY hq
  clear hq
  obtain ⟨rS, fS⟩ := oS.rules
  have zS := oS.lt
  obtain ⟨rR, fR⟩ := oR.rules
  have zR := oR.lt
  obtain ⟨rP, fP⟩ := oP.rules
  have zP := oP.lt
  obtain ⟨b, hb⟩ : ∃ b, b = sBright x := ⟨_, rfl⟩
  rw [← hb] at HV BV ⊢
  clear hb hA hB hx
  have hB := hY
  clear hY
  by_cases h2 : b.e = 0
  case neg =>
    have HV2 := Lib.hid (price_b (c := c) E1.out h2)
    have b3 : (b.e != 0) = true := by simpa using h2
    clear h2 BV
    go_wp2
    replace oR := (((oR).set 0 (.int .i64 0)).set 1 (.int .i64 0)).alloc (.cells #[.int .i64 b.n, .int .i64 b.d] 39)
    replace hB := (((hB).setCell (p := ⟨w.heap.size + 1, 0, none⟩) (by first | omega | (simp; done) | (simp; omega)) (.int .i64 0)).setCell (p := ⟨w.heap.size + 1, 1, none⟩) (by first | omega | (simp; done) | (simp; omega)) (.int .i64 0)).alloc (by first | omega | (simp; done) | (simp; omega)) (.cells #[.int .i64 b.n, .int .i64 b.d] 39)
    refine bp_gen' (fun W => Own W _ _ _ ∧ Below w.heap.size w W) ⟨oR, hB⟩ ?_
    rintro wz ⟨oz, bz⟩
    obtain ⟨rz, fz⟩ := oz.rules
    clear oz
    refine bodyPost_ret (v := .tuple #[.agg #[.int .i64 0, .int .i64 0], .int .i64 b.e]) (by simp [results, Try.results22, go_sem, rz]) rfl ⟨by rw [HV.out, HV2.out], ?_⟩
    exact bz
  have b3 : (b.e != 0) = false := by simp [h2]
  have E2 := Lib.hid h2
  have BK := Lib.hid (BV.out h2)
  have H2 := Lib.hid (fmul_FOk VK.out (show fchk 1 2 = 0 by decide))
  have M2 := Lib.hid (fmul_FOk CK.out BK.out)
  have I1 := Lib.hid (fr_i64 VK.out)
  have I2 := Lib.hid (fr_i64 BK.out)
  have PH := Lib.hid (price_h (c := c) E1.out E2.out)
  have PM := Lib.hid (price_m (c := c) E1.out E2.out)
  have P0 := Lib.hid (price_0 (c := c) E1.out E2.out)
  have J1 := Lib.hid (fmul_i64 V.n V.d 1 2)
  have J2 := Lib.hid (fmul_i64 c 1 b.n b.d)
  clear h2 BV
  go_wp2_with fail
  refine (fmul_any V.n V.d 1 2 _ I1.out.1 I1.out.2 ⟨by decide, by decide⟩ ⟨by decide, by decide⟩).mono ?_
  rintro e y4 ⟨rfl, hq⟩
  have oQ := (Own.new y3 39 [.int .i64 b.n, .int .i64 b.d]).below hq
  replace hq := below_to (ba1 y3 (.cells #[.int .i64 b.n, .int .i64 b.d] 39)) hq
  obtain ⟨bQ, hbQ⟩ : ∃ G, G = y3.heap.size := ⟨_, rfl⟩
  rw [← hbQ] at oQ ⊢
  have zQ0 : y3.heap.size ≤ bQ := by rw [hbQ]; exact Nat.le_refl _
  clear hbQ
  clear rS fS zS rR fR zR rP fP zP
  replace oS := oS.below hq
  replace oR := oR.below hq
  replace oP := oP.below hq
  replace hB := below_to hB hq
  clear hq
  obtain ⟨rS, fS⟩ := oS.rules
  have zS := oS.lt
  obtain ⟨rR, fR⟩ := oR.rules
  have zR := oR.lt
  obtain ⟨rP, fP⟩ := oP.rules
  have zP := oP.lt
  obtain ⟨rQ, fQ⟩ := oQ.rules
  have zQ := oQ.lt
  generalize fmul V.n V.d 1 2 = hf at *
  by_cases h3 : hf.e = 0
  case neg =>
    have HV2 := Lib.hid (PH.out h3)
    have b4 : (hf.e != 0) = true := by simpa using h3
    clear h3 PH PM P0
    go_wp2
    replace oR := (((oR).set 0 (.int .i64 0)).set 1 (.int .i64 0)).alloc (.cells #[.int .i64 hf.n, .int .i64 hf.d] 39)
    replace hB := (((hB).setCell (p := ⟨w.heap.size + 1, 0, none⟩) (by first | omega | (simp; done) | (simp; omega)) (.int .i64 0)).setCell (p := ⟨w.heap.size + 1, 1, none⟩) (by first | omega | (simp; done) | (simp; omega)) (.int .i64 0)).alloc (by first | omega | (simp; done) | (simp; omega)) (.cells #[.int .i64 hf.n, .int .i64 hf.d] 39)
    refine bp_gen' (fun W => Own W _ _ _ ∧ Below w.heap.size w W) ⟨oR, hB⟩ ?_
    rintro wz ⟨oz, bz⟩
    obtain ⟨rz, fz⟩ := oz.rules
    clear oz
    refine bodyPost_ret (v := .tuple #[.agg #[.int .i64 0, .int .i64 0], .int .i64 16]) (by simp [results, Try.results22, go_sem, rz]) rfl ⟨by rw [HV.out, HV2.out], ?_⟩
    exact bz
  have b4 : (hf.e != 0) = false := by simp [h3]
  have E3 := Lib.hid h3
  clear h3
  go_wp2_with fail
  have oH := Own.new y4 39 [.int .i64 hf.n, .int .i64 hf.d]
  have hq := ba1 y4 (.cells #[.int .i64 hf.n, .int .i64 hf.d] 39)
  obtain ⟨bH, hbH⟩ : ∃ G, G = y4.heap.size := ⟨_, rfl⟩
  rw [← hbH] at oH ⊢
  clear hbH
  generalize y4.alloc (.cells #[.int .i64 hf.n, .int .i64 hf.d] 39) = y5 at *
  clear rS fS zS rR fR zR rP fP zP rQ fQ zQ
  replace oS := oS.below hq
  replace oR := oR.below hq
  replace oP := oP.below hq
  replace oQ := oQ.below hq
  replace hB := below_to hB hq
  clear hq
  obtain ⟨rS, fS⟩ := oS.rules
  have zS := oS.lt
  obtain ⟨rR, fR⟩ := oR.rules
  have zR := oR.lt
  obtain ⟨rP, fP⟩ := oP.rules
  have zP := oP.lt
  obtain ⟨rQ, fQ⟩ := oQ.rules
  have zQ := oQ.lt
  go_wp2_with fail
  have gl := @grow_lt
  refine wp_region_fs [(7, ⟨39, [.int .i64 0, .int .i64 0], fun b => .pointer (some ⟨b, 0, none⟩)⟩)] [0, 2] [.op 1, .op 3, .tk 4, .tk 5, .tk 6, .fl 7, .op 8] [9] (by kernel_rfl) (by kernel_rfl) ⟨fun ρ W => by kernel_rfl, trivial⟩ (fun _ _ _ _ _ h => h) (fun _ _ _ _ _ h => h) ?_
  try simp only [opsAt, List.getElem?_toArray, List.getElem?_cons_zero, List.getElem?_cons_succ, Option.getD_some]
  repeat (go_big_quiet_step (fail))
  refine wpQuiet_nil ?_
  clear gl
  refine wpFl_op rfl ?_
  intro w3 hb3 K' hK'
  go_simp
  refine (swhole_any c _).mono ?_
  rintro e w5 ⟨rfl, hq⟩
  refine hK' _ _ (Mod.of_below hq) ?_
  clear hK' K'
  have hF := below_to hb3 hq
  clear hb3 hq
  refine wpFl_op rfl ?_
  intro w3 hb3 K' hK'
  go_simp
  refine (fmul_any c 1 b.n b.d _ CI.out ⟨by decide, by decide⟩ I2.out.1 I2.out.2).mono ?_
  rintro e w5 ⟨rfl, hq⟩
  refine hK' _ _ (Mod.of_below hq) ?_
  clear hK' K'
  replace hF := below_to hF (below_to hb3 hq)
  clear hb3 hq
  refine wpFl_tk ?_
  try simp only [opsAt, List.getElem?_toArray, List.getElem?_cons_zero, List.getElem?_cons_succ, Option.getD_some]
  repeat (go_big_quiet_step (fail))
  refine wpQuiet_nil ?_
  refine wpFl_tk ?_
  try simp only [opsAt, List.getElem?_toArray, List.getElem?_cons_zero, List.getElem?_cons_succ, Option.getD_some]
  repeat (go_big_quiet_step (fail))
  refine wpQuiet_nil ?_
  refine wpFl_tk ?_
  try simp only [opsAt, List.getElem?_toArray, List.getElem?_cons_zero, List.getElem?_cons_succ, Option.getD_some]
  repeat (go_big_quiet_step (fail))
  refine wpQuiet_nil ?_
  refine wpFl_fl rfl ?_
  intro bM w6 hb6 oM zM0 _
  go_simp
  replace hF := below_to hF hb6
  refine wpFl_op rfl ?_
  intro w7 hb7 K' hK'
  replace oM := oM.below hb7
  replace hF := below_to hF hb7
  clear hb6 hb7
  obtain ⟨rM, fM⟩ := oM.rules
  have zM := oM.lt
  go_wp2_with fail
  refine hK' _ _ (((Mod.refl _ _).set (by simp) _).set (by simp) _) ?_
  clear hK' K' rM fM zM
  replace oM := (oM.set 0 (.int .i64 (fmul c 1 b.n b.d).n)).set 1 (.int .i64 (fmul c 1 b.n b.d).d)
  replace hF := (hF.setCell (p := ⟨bM, 0, none⟩) zM0 (.int .i64 (fmul c 1 b.n b.d).n)).setCell (p := ⟨bM, 1, none⟩) zM0 (.int .i64 (fmul c 1 b.n b.d).d)
  refine wpFl_nil (fun w8 hb8 => ?_)
  replace oM := oM.below hb8
  replace hF := below_to hF hb8
  clear hb8
  try simp only [opsAt, List.getElem?_toArray, List.getElem?_cons_zero, List.getElem?_cons_succ, Option.getD_some]
  clear rS fS zS rR fR zR rP fP zP rQ fQ zQ oS oP oQ
  replace oR := oR.below hF
  replace oH := oH.below hF
  replace hB := below_to hB hF
  clear hF
  generalize fmul c 1 b.n b.d = mc at *
  obtain ⟨rR, fR⟩ := oR.rules
  have zR := oR.lt
  obtain ⟨rM, fM⟩ := oM.rules
  have zM := oM.lt
  obtain ⟨rH, fH⟩ := oH.rules
  have zH := oH.lt
  by_cases h4 : mc.e = 0
  case neg =>
    have HV2 := Lib.hid (PM.out E3.out h4)
    have b5 : (mc.e != 0) = true := by simpa using h4
    clear h4 PH PM P0
    go_wp2
    replace oR := ((oR).set 0 (.int .i64 0)).set 1 (.int .i64 0)
    replace hB := ((hB).setCell (p := ⟨w.heap.size + 1, 0, none⟩) (by first | omega | (simp; done) | (simp; omega)) (.int .i64 0)).setCell (p := ⟨w.heap.size + 1, 1, none⟩) (by first | omega | (simp; done) | (simp; omega)) (.int .i64 0)
    refine bp_gen' (fun W => Own W _ _ _ ∧ Below w.heap.size w W) ⟨oR, hB⟩ ?_
    rintro wz ⟨oz, bz⟩
    obtain ⟨rz, fz⟩ := oz.rules
    clear oz
    refine bodyPost_ret (v := .tuple #[.agg #[.int .i64 0, .int .i64 0], .int .i64 16]) (by simp [results, Try.results22, go_sem, rz]) rfl ⟨by rw [HV.out, HV2.out], ?_⟩
    exact bz
  have b5 : (mc.e != 0) = false := by simp [h4]
  have HV2 := Lib.hid (P0.out E3.out h4)
  have F5 := Lib.hid (fadd_FOk (H2.out.v E3.out) (M2.out.v h4))
  clear h4 PH PM P0
  go_wp2_with fail
  refine (fadd_any hf.n hf.d mc.n mc.d _ J1.out.1 J1.out.2 J2.out.1 J2.out.2).mono ?_
  rintro e y6 ⟨rfl, hq⟩
  clear rR fR zR rM fM zM rH fH zH
  replace oR := oR.below hq
  replace oM := oM.below hq
  replace oH := oH.below hq
  replace hB := below_to hB hq
  clear hq
  obtain ⟨rR, fR⟩ := oR.rules
  have zR := oR.lt
  obtain ⟨rM, fM⟩ := oM.rules
  have zM := oM.lt
  obtain ⟨rH, fH⟩ := oH.rules
  have zH := oH.lt
  generalize fadd hf.n hf.d mc.n mc.d = r at *
  by_cases h5 : r.e = 0
  case neg =>
    have E5 := Lib.hid (F5.out.e h5)
    have b6 : (r.e != 0) = true := by simpa using h5
    clear h5
    go_wp2
    replace oR := (((oR).set 0 (.int .i64 0)).set 1 (.int .i64 0)).alloc (.cells #[.int .i64 r.n, .int .i64 r.d] 39)
    replace hB := (((hB).setCell (p := ⟨w.heap.size + 1, 0, none⟩) (by first | omega | (simp; done) | (simp; omega)) (.int .i64 0)).setCell (p := ⟨w.heap.size + 1, 1, none⟩) (by first | omega | (simp; done) | (simp; omega)) (.int .i64 0)).alloc (by first | omega | (simp; done) | (simp; omega)) (.cells #[.int .i64 r.n, .int .i64 r.d] 39)
    refine bp_gen' (fun W => Own W _ _ _ ∧ Below w.heap.size w W) ⟨oR, hB⟩ ?_
    rintro wz ⟨oz, bz⟩
    obtain ⟨rz, fz⟩ := oz.rules
    clear oz
    refine bodyPost_ret (v := .tuple #[.agg #[.int .i64 0, .int .i64 0], .int .i64 16]) (by simp [results, Try.results22, go_sem, rz]) rfl ⟨by rw [HV.out, HV2.out, E5.out], ?_⟩
    exact bz
  have b6 : (r.e != 0) = false := by simp [h5]
  have E5 := Lib.hid h5
  clear h5
  go_wp2
  replace oR := (((oR).set 0 (.int .i64 r.n)).set 1 (.int .i64 r.d)).alloc (.cells #[.int .i64 r.n, .int .i64 r.d] 39)
  replace hB := (((hB).setCell (p := ⟨w.heap.size + 1, 0, none⟩) (by first | omega | (simp; done) | (simp; omega)) (.int .i64 r.n)).setCell (p := ⟨w.heap.size + 1, 1, none⟩) (by first | omega | (simp; done) | (simp; omega)) (.int .i64 r.d)).alloc (by first | omega | (simp; done) | (simp; omega)) (.cells #[.int .i64 r.n, .int .i64 r.d] 39)
  refine bp_gen' (fun W => Own W _ _ _ ∧ Below w.heap.size w W) ⟨oR, hB⟩ ?_
  rintro wz ⟨oz, bz⟩
  obtain ⟨rz, fz⟩ := oz.rules
  clear oz
  refine bodyPost_ret (v := .tuple #[.agg #[.int .i64 r.n, .int .i64 r.d], .int .i64 0]) (by simp [results, Try.results22, go_sem, rz]) rfl ⟨by rw [HV.out, HV2.out, E5.out], ?_⟩
  exact bz
end Go.Proofs.Ytfoemacgmehpiaa
