/- What is proved here: contracts of functions and plain facts, several texts in one; each one says ahead what it proves, and its conditions. -/
import Derived.Test.YtfbigmjlppdlhaaC53
/- What is proved here: the contracts of fringeref37.Value and Great. Condition: a system and a slice of fractions that can be read. -/
namespace Go.Proofs.Ytfbigmjlppdlhaa
open Go.RowKit

set_option maxRecDepth 100000 in
set_option maxHeartbeats 16000000 in
theorem rnval_any (A : List (List Int)) (B : List Int) (x : List (Int × Int)) (va vb vx : Value) (w : World) (hA : SS w va A) (hB : SI w vb B) (hx : SF w vx x) (ix : FI x) :
    Calls Try.prog 21 #[.agg #[va, vb], vx] w fun e w' => e = .returned (.tuple #[.agg #[.int .i64 (nValue A B x).n, .int .i64 (nValue A B x).d], .int .i64 (nValue A B x).e]) ∧ Below w.heap.size w w' := by
  have IX := Lib.hid ix
  clear ix
  go_enter Try.func21, Try.ntmps21
  have oS := own_first w 25 [va, vb] (.cells #[.int .i64 0, .int .i64 0] 34)
  have oR := own_second w 34 [.int .i64 0, .int .i64 0] (.cells #[va, vb] 25)
  have hB' := ba2 w (.cells #[va, vb] 25) (.cells #[.int .i64 0, .int .i64 0] 34)
  replace hA := hA.below hB'
  replace hB := hB.below hB'
  replace hx := hx.below hB'
  obtain ⟨rS, fS⟩ := oS.rules
  have zS := oS.lt
  obtain ⟨rR, fR⟩ := oR.rules
  have zR := oR.lt
  go_wp2_with fail
  refine (rnresid_any A B x _ _ _ _ hA hB hx IX.out).mono ?_
  rintro e y1 ⟨u, rfl, su, hq⟩
  clear rS fS zS rR fR zR
  replace oS := oS.below hq
  replace oR := oR.below hq
  replace hA := hA.below hq
  replace hB := hB.below hq
  replace hx := hx.below hq
  replace hB' := below_to hB' hq
  clear hq
  obtain ⟨rS, fS⟩ := oS.rules
  have zS := oS.lt
  obtain ⟨rR, fR⟩ := oR.rules
  have zR := oR.lt
  by_cases h0 : (nResidual A B x).2 = 0
  case neg =>
    have HV := Lib.hid (nVal_1 h0)
    have b1 : ((nResidual A B x).2 != 0) = true := by simpa using h0
    clear h0 hA hB hx su
    have hB := hB'
    clear hB'
    go_wp2
    replace oR := ((oR).set 0 (.int .i64 0)).set 1 (.int .i64 0)
    replace hB := ((hB).setCell (p := ⟨w.heap.size + 1, 0, none⟩) (by first | omega | (simp; done) | (simp; omega)) (.int .i64 0)).setCell (p := ⟨w.heap.size + 1, 1, none⟩) (by first | omega | (simp; done) | (simp; omega)) (.int .i64 0)
    refine bp_gen' (fun W => Own W _ _ _ ∧ Below w.heap.size w W) ⟨oR, hB⟩ ?_
    rintro wz ⟨oz, bz⟩
    obtain ⟨rz, fz⟩ := oz.rules
    clear oz
    refine bodyPost_ret (v := .tuple #[.agg #[.int .i64 0, .int .i64 0], .int .i64 (nResidual A B x).2]) (by simp [results, Try.results21, go_sem, rz]) rfl ⟨by rw [HV.out], ?_⟩
    exact bz
  have b1 : ((nResidual A B x).2 != 0) = false := by simp [h0]
  have HV := Lib.hid (nVal_0 h0)
  obtain ⟨hp, hpe⟩ := nresid_parts h0
  have FX := Lib.hid (FitX.of hp)
  have RO := Lib.hid (resid_ok FX.out (by rw [← hpe]; exact h0))
  rw [← hpe] at RO
  have l1 : A.length ≤ 100 := FX.out.few.1
  have RL := Lib.hid RO.out.1
  clear h0 hp hpe
  generalize (nResidual A B x).1 = rs at *
  have l3 : rs.length ≤ 100 := by rw [RL.out]; exact l1
  obtain ⟨adu, capu, rfl, hu1, hu2, _⟩ := su.open
  clear hA hB hx
  have hB := hB'
  clear hB'
  go_wp2_with fail
  refine (rof_any 0 _).mono ?_
  rintro e y2 ⟨rfl, hq⟩
  clear rS fS zS rR fR zR
  replace oS := oS.below hq
  replace oR := oR.below hq
  replace su := su.below hq
  replace hB := below_to hB hq
  clear hq
  obtain ⟨rS, fS⟩ := oS.rules
  have zS := oS.lt
  obtain ⟨rR, fR⟩ := oR.rules
  have zR := oR.lt
  have SU := Lib.hid su
  clear su
  go_wp2_with fail
  have oV := Own.new y2 34 [.int .i64 0, .int .i64 1]
  have hW := ba1 y2 (.cells #[.int .i64 0, .int .i64 1] 34)
  have oR0 := Lib.hid oR
  have zR0 := oR.lt
  clear rS fS zS rR fR zR oS oR
  obtain ⟨GV, hG⟩ : ∃ G, G = y2.heap.size := ⟨_, rfl⟩
  have zG : w.heap.size + 1 < GV := by rw [hG]; exact zR0
  have zG1 : y2.heap.size ≤ GV := by rw [hG]; exact Nat.le_refl _
  have zG2 : w.heap.size ≤ GV := by omega
  rw [← hG] at oV ⊢
  clear hG
  go_loopw [9] (fun i wr => ∃ k : Nat, k ≤ rs.length ∧ i = .int .i64 k ∧ Hid ((gsum (sqT rs) k).e = 0) ∧ Own wr GV 34 [.int .i64 (gsum (sqT rs) k).n, .int .i64 (gsum (sqT rs) k).d] ∧ Below y2.heap.size y2 wr) (fun i _ => rs.length - (intOf i).toNat)
  case atStart => exact ⟨0, Nat.zero_le _, rfl, rfl, oV, hW⟩
  case round =>
    clear oV hW
    obtain ⟨k, hk, rfl, he, oV, hW⟩ := hrel
    rename World => W
    have oR := oR0.out.below hW
    by_cases hlt : k < rs.length
    · obtain ⟨_, _, e, _, _, H⟩ := (SU.out.below hW).open
      cases e
      obtain ⟨b, off, rfl, c1, c2⟩ := H.out k hlt
      clear H
      have J1 := Lib.hid (gsum_i64 (sqT rs) k)
      have J3 := Lib.hid (fr_i64 (RO.out.2 k hlt))
      have F2 := Lib.hid (sq_ok (k := k + 1) hlt RO.out.2)
      have HP := Lib.hid (sq_succ hlt he.out)
      have HE := Lib.hid (fun h => gsum_end (t := sqT rs) hlt h F2.out)
      generalize rs[k].1 = rn at *
      generalize rs[k].2 = rd at *
      generalize (gsum (sqT rs) k).n = sn at *
      generalize (gsum (sqT rs) k).d = sd at *
      generalize hpp : gsum (sqT rs) (k + 1) = p at *
      have HPP := Lib.hid hpp
      clear hpp
      have zb := World.block_lt_of_cell? _ _ c1
      simp only at zb
      have gl := @grow_lt
      obtain ⟨rV, fV⟩ := oV.rules
      have zV := oV.lt
      go_wp2
      go_wp2_with fail
      refine wp_region_stt [.t [0, 1, 2, 3, 4, 5, 6, 7, 8], .f 9] [10, 11, 12] [13, 14] (by kernel_rfl) (by kernel_rfl) (fun _ _ _ _ _ h => h) ?_
      refine wpX_t ?_
      try simp only [opsAt, List.getElem?_toArray, List.getElem?_cons_zero, List.getElem?_cons_succ, Option.getD_some]
      repeat (go_big_quiet_step (fail))
      refine wpQuiet_nil ?_
      refine wpX_f rfl rfl (fun K' hK' => ?_)
      go_simp
      refine (rnplus_any sn sd rn rd rn rd _ J1.out.1 J1.out.2 J3.out.1 J3.out.2 J3.out.1 J3.out.2).mono ?_
      rintro e y4 ⟨rfl, hq2⟩
      refine hK' _ _ (grow_of (below_to ((Below.refl _ _).drew) hq2)) ?_
      clear hK' K'
      rw [← HP.out]
      refine wpX_nil ?_
      try simp only [opsAt, List.getElem?_toArray, List.getElem?_cons_zero, List.getElem?_cons_succ, Option.getD_some]
      repeat (go_big_quiet_step (fail))
      refine wpQuiet_nil ?_
      try simp only [opsAt, List.getElem?_toArray, List.getElem?_cons_zero, List.getElem?_cons_succ, Option.getD_some]
      have hq : Below W.heap.size W y4 := below_to ((Below.refl _ _).drew) hq2
      clear gl hq2 c1 c2 zb rV fV zV
      replace oR := oR.below hq
      replace oV := oV.below hq
      replace hW := below_to hW hq
      clear hq
      obtain ⟨rR, fR⟩ := oR.rules
      have zR := oR.lt
      obtain ⟨rV, fV⟩ := oV.rules
      have zV := oV.lt
      by_cases h2 : p.e = 0
      · have b3 : (p.e != 0) = false := by simp [h2]
        have E2 := Lib.hid h2
        clear h2
        go_wp2
        go_roundw
        replace oV := ((oV).set 0 (.int .i64 p.n)).set 1 (.int .i64 p.d)
        replace hW := ((hW).setCell (p := ⟨GV, 0, none⟩) (by first | omega | (simp; done) | (simp; omega)) (.int .i64 p.n)).setCell (p := ⟨GV, 1, none⟩) (by first | omega | (simp; done) | (simp; omega)) (.int .i64 p.d)
        case rel => exact ⟨k + 1, by omega, by go_num, by rw [HPP.out]; exact E2, by rw [HPP.out]; exact oV, hW⟩
        case measure => simp [intOf]; try omega
      · have b3 : (p.e != 0) = true := by simpa using h2
        have HV2 := Lib.hid (HE.out h2)
        have E16 : Hid (p.e = 16) := congrArg FR.e (F2.out.e h2)
        replace hB := below_to hB hW
        clear h2 hW
        go_wp2
        replace oR := ((((oR).other (g' := GV) (by first | omega | (simp; done) | (simp; omega)) 0 (.int .i64 p.n)).other (g' := GV) (by first | omega | (simp; done) | (simp; omega)) 1 (.int .i64 p.d)).set 0 (.int .i64 0)).set 1 (.int .i64 0)
        replace hB := ((((hB).setCell (p := ⟨GV, 0, none⟩) (by first | omega | (simp; done) | (simp; omega)) (.int .i64 p.n)).setCell (p := ⟨GV, 1, none⟩) (by first | omega | (simp; done) | (simp; omega)) (.int .i64 p.d)).setCell (p := ⟨w.heap.size + 1, 0, none⟩) (by first | omega | (simp; done) | (simp; omega)) (.int .i64 0)).setCell (p := ⟨w.heap.size + 1, 1, none⟩) (by first | omega | (simp; done) | (simp; omega)) (.int .i64 0)
        refine bp_gen' (fun W => Own W _ _ _ ∧ Below w.heap.size w W) ⟨oR, hB⟩ ?_
        rintro wz ⟨oz, bz⟩
        obtain ⟨rz, fz⟩ := oz.rules
        clear oz
        refine bodyPost_ret (v := .tuple #[.agg #[.int .i64 0, .int .i64 0], .int .i64 p.e]) (by simp [results, Try.results21, go_sem, rz]) rfl ⟨by rw [HV.out, HV2.out, E16.out], ?_⟩
        exact bz
    · obtain rfl : k = rs.length := by omega
      obtain ⟨p, hp⟩ : ∃ p, p = gsum (sqT rs) rs.length := ⟨_, rfl⟩
      rw [← hp] at he oV
      have HP := Lib.hid hp
      replace hB := below_to hB hW
      clear hp hW
      obtain ⟨rR, fR⟩ := oR.rules
      have zR := oR.lt
      obtain ⟨rV, fV⟩ := oV.rules
      have zV := oV.lt
      go_wp2
      replace oR := ((oR).set 0 (.int .i64 p.n)).set 1 (.int .i64 p.d)
      replace hB := ((hB).setCell (p := ⟨w.heap.size + 1, 0, none⟩) (by first | omega | (simp; done) | (simp; omega)) (.int .i64 p.n)).setCell (p := ⟨w.heap.size + 1, 1, none⟩) (by first | omega | (simp; done) | (simp; omega)) (.int .i64 p.d)
      refine bp_gen' (fun W => Own W _ _ _ ∧ Below w.heap.size w W) ⟨oR, hB⟩ ?_
      rintro wz ⟨oz, bz⟩
      obtain ⟨rz, fz⟩ := oz.rules
      clear oz
      refine bodyPost_ret (v := .tuple #[.agg #[.int .i64 p.n, .int .i64 p.d], .int .i64 0]) (by simp [results, Try.results21, go_sem, rz]) rfl ⟨by rw [HV.out, ← HP.out, he.out], ?_⟩
      exact bz

/-- Whether a fit is larger than the statements consider. -/
def ngreat (A : List (List Int)) (B : List Int) : Bool := !(A.all fun r => decide (r.length ≤ 20)) || decide (20 < A.length) || decide (20 < B.length)
theorem ngreat_row {A : List (List Int)} {B : List Int} {k : Nat} (hk : k < A.length) (h : 20 < A[k].length) : ngreat A B = true := by
  unfold ngreat
  rw [all_not (p := fun r => decide (r.length ≤ 20)) hk (by simp; omega)]; rfl
theorem ngreat_end {A : List (List Int)} {B : List Int} (h : (A.all fun r => decide (r.length ≤ 20)) = true) : ngreat A B = (decide (20 < A.length) || decide (20 < B.length)) := by
  unfold ngreat; rw [h]; rfl
set_option maxRecDepth 100000 in
set_option maxHeartbeats 4000000 in
theorem rngreat_any (A : List (List Int)) (B : List Int) (va vb : Value) (w : World) (hA : SS w va A) (hB : SI w vb B) :
    Calls Try.prog 15 #[.agg #[va, vb]] w fun e w' => e = .returned (.bool (ngreat A B)) ∧ Below w.heap.size w w' := by
  obtain ⟨ada, capa, rfl, ha1, ha2, _⟩ := hA.open
  obtain ⟨adb, capb, rfl, hb1, hb2, _⟩ := hB.open
  go_enter Try.func15, Try.ntmps15
  have oS := Own.new w 25 [.slice ada A.length capa, .slice adb B.length capb]
  have hy := ba1 w (.cells #[.slice ada A.length capa, .slice adb B.length capb] 25)
  have sA := Lib.hid (hA.below hy)
  clear hA hB
  go_wp2_with fail
  generalize w.alloc (.cells #[.slice ada A.length capa, .slice adb B.length capb] 25) = y at *
  obtain ⟨rS, fS⟩ := oS.rules
  have zS := oS.lt
  go_wp2
  go_loop [3] (fun i => ∃ k : Nat, k ≤ A.length ∧ i = .int .i64 k ∧ Hid (((A.take k).all fun r => decide (r.length ≤ 20)) = true)) (fun i => A.length - (intOf i).toNat)
  case atStart => exact ⟨0, Nat.zero_le _, rfl, rfl⟩
  case round =>
    obtain ⟨k, hk, rfl, hv⟩ := hrel
    by_cases hlt : k < A.length
    · obtain ⟨_, _, e, _, _, H⟩ := sA.out.open
      cases e
      obtain ⟨b, off, ad', cap', rfl, c1, c2, c3, _⟩ := H.out k hlt
      clear H
      by_cases hz : 20 < A[k].length
      · have HV := Lib.hid (ngreat_row (B := B) hlt hz)
        generalize A[k].length = m at *
        go_wp2
        go_ret
        exact ⟨by rw [HV.out]; try rfl, hy⟩
      · have HV := Lib.hid (all_take (p := fun r => decide (r.length ≤ 20)) hlt hv.out (by simp; omega))
        generalize A[k].length = m at *
        go_wp2
        go_round
        case rel => exact ⟨k + 1, by omega, by go_num, HV⟩
        case measure => simp [intOf]; try omega
    · have HV := Lib.hid (ngreat_end (B := B) (all_end hlt hv.out))
      have key : ngreat A B = (decide (20 < (A.length : Int)) || decide (20 < (B.length : Int))) := by
        rw [HV.out]; congr 1 <;> (rw [decide_eq_decide]; omega)
      have KY := Lib.hid key
      clear key HV
      by_cases g1 : 20 < (A.length : Int)
      · have q1 : decide (20 < (A.length : Int)) = true := by simpa using g1
        have KQ : Hid (ngreat A B = true) := by show _ = _; rw [KY.out, q1]; rfl
        clear KY
        go_wp2
        go_ret
        exact ⟨by rw [KQ.out]; try rfl, hy⟩
      · have q1 : decide (20 < (A.length : Int)) = false := by simpa using g1
        by_cases g2 : 20 < (B.length : Int)
        · have q2 : decide (20 < (B.length : Int)) = true := by simpa using g2
          have KQ : Hid (ngreat A B = true) := by show _ = _; rw [KY.out, q1, q2]; rfl
          clear KY
          go_wp2
          go_ret
          exact ⟨by rw [KQ.out]; try rfl, hy⟩
        · have q2 : decide (20 < (B.length : Int)) = false := by simpa using g2
          have KQ : Hid (ngreat A B = false) := by show _ = _; rw [KY.out, q1, q2]; rfl
          clear KY
          go_wp2
          go_ret
          exact ⟨by rw [KQ.out]; try rfl, hy⟩
end Go.Proofs.Ytfbigmjlppdlhaa
