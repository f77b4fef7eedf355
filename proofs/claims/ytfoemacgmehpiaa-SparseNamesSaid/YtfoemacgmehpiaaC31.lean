/- What is proved here: contracts of functions and plain facts, several texts in one; each one says ahead what it proves, and its conditions. -/
import Derived.Test.YtfoemacgmehpiaaC28
import Derived.Test.YtfoemacgmehpiaaC22
import Derived.Test.YtfoemacgmehpiaaC20
import Derived.Test.YtfoemacgmehpiaaC30
/- What is proved here: the contract of sparse.Slope. Condition: a system and a slice of fractions that can be read. -/
namespace Go.Proofs.Ytfoemacgmehpiaa
open Go.RowKit

set_option maxRecDepth 100000 in
set_option maxHeartbeats 16000000 in
theorem sslope_any (A : List (List Int)) (B : List Int) (c : Int) (x : List (Int × Int)) (va vb vx : Value) (w : World) (hA : SS w va A) (hB : SI w vb B) (hx : SF w vx x) (ix : FI x) :
    Calls Try.prog 21 #[.agg #[va, vb], .int .i64 c, vx] w (rows_post w (sSlope A B c x)) := by
  have IX := Lib.hid ix
  clear ix
  go_enter Try.func21, Try.ntmps21
  have oS := Own.new w 25 [va, vb]
  have hy := ba1 w (.cells #[va, vb] 25)
  replace hA := hA.below hy
  replace hB := hB.below hy
  replace hx := hx.below hy
  obtain ⟨rS, fS⟩ := oS.rules
  have zS := oS.lt
  go_wp2_with fail
  refine (sready_any A B c _ _ _ hA hB).mono ?_
  rintro e y1 ⟨rfl, hq⟩
  clear rS fS zS
  replace oS := oS.below hq
  replace hA := hA.below hq
  replace hB := hB.below hq
  replace hx := hx.below hq
  replace hy := below_to hy hq
  clear hq
  obtain ⟨rS, fS⟩ := oS.rules
  have zS := oS.lt
  by_cases h0 : scheck A B c = 0
  case neg =>
    have HV := Lib.hid (sSlope_c (x := x) h0)
    have b1 : (scheck A B c != 0) = true := by simpa using h0
    clear h0 hA hB hx
    go_wp2
    go_ret2
    exact ⟨.slice none 0 0, by rw [HV.out]; try rfl, by rw [HV.out]; exact sf_nil _, hy⟩
  have b1 : (scheck A B c != 0) = false := by simp [h0]
  obtain ⟨_, hc1, hc2⟩ := scheck_of h0
  have H0 := Lib.hid h0
  have CI : Hid (i64 c) := ⟨by omega, by omega⟩
  clear h0
  go_wp2_with fail
  refine (ngrad_own A B x _ _ _ _ hA hB hx IX.out).mono ?_
  rintro e y2 ⟨u, rfl, su, hq⟩
  have hq0 := hq
  have hy0 := hy
  clear rS fS zS
  replace oS := oS.below hq
  replace hA := hA.below hq
  replace hB := hB.below hq
  replace hx := hx.below hq
  replace hy := below_to hy hq
  clear hq
  obtain ⟨rS, fS⟩ := oS.rules
  have zS := oS.lt
  by_cases h1 : (nGradient A B x).2 = 0
  case neg =>
    have HV := Lib.hid (sSlope_g H0.out h1)
    have b2 : ((nGradient A B x).2 != 0) = true := by simpa using h1
    clear h1 hA hB hx su hq0
    go_wp2
    go_ret2
    exact ⟨.slice none 0 0, by rw [HV.out]; try rfl, by rw [HV.out]; exact sf_nil _, hy⟩
  have b2 : ((nGradient A B x).2 != 0) = false := by simp [h1]
  have HV := Lib.hid (sSlope_0 H0.out h1)
  have GV := Lib.hid (grad_val h1)
  have GL : 0 < (nGradient A B x).1.length := by
    obtain ⟨hp, hl⟩ := grad_len h1
    rw [hl]; exact (point_of hp).1.cols.1
  have GM : (nGradient A B x).1.length ≤ 100 := by
    obtain ⟨hp, hl⟩ := grad_len h1
    rw [hl]; have := (point_of hp).1.cols.2; omega
  clear h1 hA hB hx
  generalize (nGradient A B x).1 = g at *
  obtain ⟨G, cap, rest, rfl, hG, oG, hc3, hc4, hc5⟩ := owns_open su GL
  replace hG : w.heap.size ≤ G := by have := hy0.size; omega
  have HC5 := Lib.hid hc5
  unfold maxLen at hc4
  clear su hc5 rS fS zS oS
  go_wp2
  have hW := hq0
  clear hq0
  have zG := oG.lt
  go_loopw [29] (fun i wr => ∃ m : Nat, m ≤ g.length ∧ i = .int .i64 m ∧ Hid ((rowsOf (slopeN g c) m).2 = 0) ∧ Own wr G 39 (fcs ((rowsOf (slopeN g c) m).1 ++ g.drop m) ++ rest) ∧ Below w.heap.size w wr) (fun i _ => g.length - (intOf i).toNat)
  case atStart => exact ⟨0, Nat.zero_le _, rfl, rfl, oG, hy⟩
  case round =>
    clear oG hW zG
    obtain ⟨m, hm, rfl, hr, oG, hB⟩ := hrel
    rename World => W
    by_cases hlt : m < g.length
    · have RL := Lib.hid (rows_len m hr.out)
      have OL := Lib.hid (over_len (g := g) RL.out (by omega))
      have og := over_get (g := g) RL.out hlt
      obtain ⟨g1, g2⟩ := fcs_at (xs := (rowsOf (slopeN g c) m).1 ++ g.drop m) (k := m) rest (by rw [OL.out]; exact hlt)
      rw [og] at g1 g2
      have HP := Lib.hid (fun p => fcs_put (xs := (rowsOf (slopeN g c) m).1 ++ g.drop m) (k := m) rest (by rw [OL.out]; exact hlt) p)
      have HO := Lib.hid (fun p => over_set (g := g) p RL.out hlt)
      have HN := Lib.hid (slopeN_get (c := c) hlt)
      have F1 := Lib.hid (slopeN_FOk (c := c) GV.out hc1 hc2 hlt)
      have I1 := Lib.hid (fr_i64 (GV.out m hlt))
      have RE := Lib.hid (fun h => rows_end (f := slopeN g c) (N := g.length) hr.out hlt h)
      have RS := Lib.hid (fun h => rows_succ (f := slopeN g c) hr.out h)
      clear og
      generalize g[m].1 = gn at *
      generalize g[m].2 = gd at *
      generalize slopeN g c m = p at *
      have l9 : (m : Int) < (g.length : Int) := by omega
      have gl := @grow_lt
      obtain ⟨rG, fG⟩ := oG.rules
      have zG := oG.lt
      go_wp2
      go_wp2_with fail
      refine wp_region_pstt [0, 1] [.t [2, 3, 4, 5, 6], .f 7, .f 8] [9, 10, 11] [12, 13, 14] (by kernel_rfl) (by kernel_rfl) (fun _ _ _ _ _ h => h) ?_
      try simp only [opsAt, List.getElem?_toArray, List.getElem?_cons_zero, List.getElem?_cons_succ, Option.getD_some]
      repeat (go_big_quiet_step (fail))
      refine wpQuiet_nil ?_
      refine wpX_t ?_
      try simp only [opsAt, List.getElem?_toArray, List.getElem?_cons_zero, List.getElem?_cons_succ, Option.getD_some]
      repeat (go_big_quiet_step (fail))
      refine wpQuiet_nil ?_
      refine wpX_f rfl rfl (fun K' hK' => ?_)
      go_simp
      refine (swhole_any c _).mono ?_
      rintro e y3 ⟨rfl, hq1⟩
      refine hK' _ _ (grow_of (below_to ((Below.refl _ _).drew) hq1)) ?_
      clear hK' K'
      refine wpX_f rfl rfl (fun K' hK' => ?_)
      go_simp
      refine (fadd_any gn gd c 1 _ I1.out.1 I1.out.2 CI.out ⟨by decide, by decide⟩).mono ?_
      rintro e y4 ⟨rfl, hq2⟩
      refine hK' _ _ (grow_of (below_to (below_to ((Below.refl _ _).drew) hq1) hq2)) ?_
      clear hK' K'
      rw [← HN.out]
      refine wpX_nil ?_
      try simp only [opsAt, List.getElem?_toArray, List.getElem?_cons_zero, List.getElem?_cons_succ, Option.getD_some]
      repeat (go_big_quiet_step (fail))
      refine wpQuiet_nil ?_
      try simp only [opsAt, List.getElem?_toArray, List.getElem?_cons_zero, List.getElem?_cons_succ, Option.getD_some]
      have hq : Below W.heap.size W y4 := below_to (below_to ((Below.refl _ _).drew) hq1) hq2
      clear gl hq1 hq2 rG fG zG
      replace oG := oG.below hq
      replace hB := below_to hB hq
      clear hq
      have zw := hy.size
      have zG := oG.lt
      have o2 := (oG.set (m * 2) (.int .i64 p.n)).set (m * 2 + 1) (.int .i64 p.d)
      rw [HP.out (p.n, p.d), HO.out] at o2
      have O2 := Lib.hid o2
      have hB2 := (hB.setCell (p := ⟨G, m * 2, none⟩) (by simp; omega) (.int .i64 p.n)).setCell (p := ⟨G, m * 2 + 1, none⟩) (by simp; omega) (.int .i64 p.d)
      clear o2 HP HO
      obtain ⟨rG, fG⟩ := oG.rules
      by_cases h2 : p.e = 0
      · have b3 : (p.e != 0) = false := by simp [h2]
        have HF := Lib.hid (RS.out h2)
        have HE2 := Lib.hid (congrArg Prod.snd HF.out)
        have HE1 := Lib.hid (congrArg Prod.fst HF.out)
        clear h2 RE RS HF
        go_wp2
        go_roundw
        case rel => exact ⟨m + 1, by omega, by go_num, HE2, by rw [HE1.out]; exact O2.out, hB2⟩
        case measure => simp [intOf]; try omega
      · have b3 : (p.e != 0) = true := by simpa using h2
        have HV2 : Hid (rowsOf (slopeN g c) g.length = ([], 16)) := by
          show _ = _
          rw [RE.out h2, F1.out.e h2]
        clear h2 RE RS
        go_wp2
        go_ret2
        exact ⟨.slice none 0 0, by rw [HV.out, HV2.out]; try rfl, by rw [HV.out, HV2.out]; exact sf_nil _, hB2⟩
    · obtain rfl : m = g.length := by omega
      have RL := Lib.hid (rows_len g.length hr.out)
      have hsl : SF W (.slice (some ⟨G, 0, none⟩) g.length cap) (rowsOf (slopeN g c) g.length).1 := by
        unfold SF
        rw [RL.out]
        refine oG.sl cap hc3 (by omega) _ ?_
        rw [List.drop_length, List.append_nil]
        exact ⟨rest, rfl⟩
      clear oG
      go_wp2
      go_ret2
      exact ⟨_, by rw [HV.out, hr.out]; try rfl, by rw [HV.out]; exact hsl, hB⟩
end Go.Proofs.Ytfoemacgmehpiaa

/- What is proved here: the contract of sparse.Optimal. Condition: a system and a slice of fractions that can be read. -/
namespace Go.Proofs.Ytfoemacgmehpiaa
open Go.RowKit

set_option maxRecDepth 100000 in
set_option maxHeartbeats 16000000 in
theorem sopt_any (A : List (List Int)) (B : List Int) (c : Int) (x : List (Int × Int)) (va vb vx : Value) (w : World) (hA : SS w va A) (hB : SI w vb B) (hx : SF w vx x) (ix : FI x) :
    Calls Try.prog 20 #[.agg #[va, vb], .int .i64 c, vx] w fun e w' => e = .returned (.tuple #[.bool (sOptimal A B c x).1, .int .i64 (sOptimal A B c x).2]) ∧ Below w.heap.size w w' := by
  have IX := Lib.hid ix
  obtain ⟨adx, capx, rfl, hx1, hx2, _⟩ := hx.open
  clear ix
  go_enter Try.func20, Try.ntmps20
  have oS := Own.new w 25 [va, vb]
  have hy := ba1 w (.cells #[va, vb] 25)
  replace hA := hA.below hy
  replace hB := hB.below hy
  replace hx := hx.below hy
  obtain ⟨rS, fS⟩ := oS.rules
  have zS := oS.lt
  go_wp2_with fail
  refine (sslope_any A B c x _ _ _ _ hA hB hx IX.out).mono ?_
  rintro e y1 ⟨u, rfl, su, hq⟩
  clear rS fS zS
  replace oS := oS.below hq
  replace hA := hA.below hq
  replace hB := hB.below hq
  replace hx := hx.below hq
  replace hy := below_to hy hq
  clear hq
  obtain ⟨rS, fS⟩ := oS.rules
  have zS := oS.lt
  by_cases h0 : (sSlope A B c x).2 = 0
  case neg =>
    have HV := Lib.hid (sOpt_1 h0)
    have b1 : ((sSlope A B c x).2 != 0) = true := by simpa using h0
    clear h0 hA hB hx su
    go_wp2
    go_ret2
    exact ⟨by rw [HV.out]; try rfl, hy⟩
  have b1 : ((sSlope A B c x).2 != 0) = false := by simp [h0]
  have HV := Lib.hid (sOpt_0 h0)
  obtain ⟨hp, hl⟩ := slope_len h0
  have PX : Hid (∀ i (h : i < x.length), 0 ≤ x[i].1) := fun i hi => ((point_of hp).2 i hi).2
  have HL := Lib.hid hl
  clear h0 hp hl
  generalize (sSlope A B c x).1 = g at *
  have l1 : g.length ≤ x.length := by rw [HL.out]; exact Nat.le_refl _
  obtain ⟨adu, capu, rfl, hu1, hu2, _⟩ := su.open
  have SX := Lib.hid hx
  have SU := Lib.hid su
  clear hA hB hx su rS fS zS
  go_wp2
  go_loopw [24] (fun i wr => ∃ k : Nat, k ≤ g.length ∧ i = .int .i64 k ∧ Hid (noptB g x k = true) ∧ Below y1.heap.size y1 wr) (fun i _ => g.length - (intOf i).toNat)
  case atStart => exact ⟨0, Nat.zero_le _, rfl, rfl, Below.refl _ _⟩
  case round =>
    obtain ⟨k, hk, rfl, hv, hW⟩ := hrel
    rename World => W
    by_cases hlt : k < g.length
    · have hkx : k < x.length := by omega
      obtain ⟨_, _, e, _, _, H⟩ := (SU.out.below hW).open
      cases e
      obtain ⟨b, off, rfl, c1, c2⟩ := H.out k hlt
      obtain ⟨_, _, e, _, _, H'⟩ := (SX.out.below hW).open
      cases e
      obtain ⟨b', off', rfl, c3, c4⟩ := H'.out k hkx
      clear H H'
      have NS := Lib.hid (noptB_succ hlt hkx hv.out)
      have NN := Lib.hid (noptB_not (g := g) (x := x) (n := g.length) hlt hlt hkx)
      have px := PX.out k hkx
      have zb := World.block_lt_of_cell? _ _ c3
      simp only at zb
      generalize g[k].1 = gn at *
      generalize g[k].2 = gd at *
      generalize x[k].1 = xn at *
      generalize x[k].2 = xd at *
      by_cases h1 : gn < 0
      · have b2 : decide (gn < 0) = true := by simpa using h1
        have HN := Lib.hid (NN.out (by simp [noptN, b2]))
        clear NS NN h1
        go_wp2
        go_ret2
        exact ⟨by rw [HV.out, HN.out]; try rfl, (below_to hy hW).alloc (by have := (below_to hy hW).size; omega) _⟩
      have b2 : decide (gn < 0) = false := by simpa using h1
      by_cases h2 : gn = 0
      · have HN := Lib.hid (NS.out (by simp [noptN, h2]))
        have b3 : (gn != 0) = false := by simp [h2]
        clear NS NN h1 h2
        go_wp2
        go_roundw
        case rel => exact ⟨k + 1, by omega, by go_num, HN, below_to hW (ba1 _ _)⟩
        case measure => simp [intOf]; try omega
      have b3 : (gn != 0) = true := by simpa using h2
      have b5 : decide (0 < gn) = true := by simp; omega
      by_cases h3 : xn = 0
      · have b6 : decide (0 < xn) = false := by simp; omega
        have HN := Lib.hid (NS.out (by simp [noptN, b2, b6]))
        have b4 : (xn != 0) = false := by simp [h3]
        clear NS NN h1 h2 h3 b5 b6
        go_wp2
        go_roundw
        case rel => exact ⟨k + 1, by omega, by go_num, HN, below_to hW (ba1 _ _)⟩
        case measure => simp [intOf]; try omega
      · have b6 : decide (0 < xn) = true := by simp; omega
        have HN := Lib.hid (NN.out (by simp [noptN, b5, b6]))
        have b4 : (xn != 0) = true := by simpa using h3
        clear NS NN h1 h2 h3 b5 b6
        go_wp2
        go_ret2
        exact ⟨by rw [HV.out, HN.out]; try rfl, (below_to hy hW).alloc (by have := (below_to hy hW).size; omega) _⟩
    · obtain rfl : k = g.length := by omega
      go_wp2
      go_ret2
      exact ⟨by rw [HV.out, hv.out]; try rfl, below_to hy hW⟩
end Go.Proofs.Ytfoemacgmehpiaa
