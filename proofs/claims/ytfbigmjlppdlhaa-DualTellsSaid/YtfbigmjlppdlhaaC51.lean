/- What is proved here: contracts of functions and plain facts, several texts in one; each one says ahead what it proves, and its conditions. -/
import Derived.Test.YtfbigmjlppdlhaaC46
import Derived.Test.YtfbigmjlppdlhaaC43
import Derived.Test.YtfbigmjlppdlhaaC17
import Derived.Test.YtfbigmjlppdlhaaC25
import Derived.Test.YtfbigmjlppdlhaaC24
import Derived.Test.YtfbigmjlppdlhaaC01
import Derived.Test.YtfbigmjlppdlhaaC06
import Derived.Deep.DeepCutAuto
/- What is proved here: the contract of fringeref39.Worth. Condition: a system and a slice of fractions that can be read. -/
namespace Go.Proofs.Ytfbigmjlppdlhaa
open Go.RowKit

theorem w_one : i64 1 := ⟨by decide, by decide⟩
theorem w_small {a : Int} (h1 : -1000 ≤ a) (h2 : a ≤ 1000) : i64 a := ⟨by omega, by omega⟩
theorem right_succ {B : List Int} {y : List (Int × Int)} {k : Nat} (hy : k < y.length) (hb : k < B.length) (h : (gsum (prodT y (rights B)) k).e = 0) : gsum (prodT y (rights B)) (k + 1) = fplus (gsum (prodT y (rights B)) k).n (gsum (prodT y (rights B)) k).d y[k].1 y[k].2 B[k] 1 := by
  have h2 : k < (rights B).length := by rw [rights_len]; exact hb
  have e : (rights B)[k] = (B[k], 1) := by
    have := rights_get hb
    simpa [h2] using this
  rw [prod_succ hy h2 h, e]
set_option maxRecDepth 100000 in
set_option maxHeartbeats 16000000 in
theorem rdworth_any (A : List (List Int)) (B : List Int) (y : List (Int × Int)) (va vb vy : Value) (w : World) (hA : SS w va A) (hB : SI w vb B) (hx : SF w vy y) (ix : FI y) :
    Calls Try.prog 40 #[.agg #[va, vb], vy] w fun e w' => e = .returned (.tuple #[.agg #[.int .i64 (dworth A B y).n, .int .i64 (dworth A B y).d], .int .i64 (dworth A B y).e]) ∧ Below w.heap.size w w' := by
  have IX := Lib.hid ix
  obtain ⟨adb, capb, rfl, hb1, hb2, _⟩ := hB.open
  obtain ⟨ady, capy, rfl, hy1, hy2, _⟩ := hx.open
  clear ix
  go_enter Try.func40, Try.ntmps40
  have oS := own_first w 25 [va, .slice adb B.length capb] (.cells #[.int .i64 0, .int .i64 0] 34)
  have oR := own_second w 34 [.int .i64 0, .int .i64 0] (.cells #[va, .slice adb B.length capb] 25)
  have hY := ba2 w (.cells #[va, .slice adb B.length capb] 25) (.cells #[.int .i64 0, .int .i64 0] 34)
  replace hA := hA.below hY
  replace hB := hB.below hY
  replace hx := hx.below hY
  obtain ⟨rS, fS⟩ := oS.rules
  have zS := oS.lt
  obtain ⟨rR, fR⟩ := oR.rules
  have zR := oR.lt
  go_wp2_with fail
  refine (rdcheck_any A B 0 y _ _ _ _ hA hB hx IX.out).mono ?_
  rintro e y1 ⟨rfl, hq⟩
  clear rS fS zS rR fR zR
  replace oS := oS.below hq
  replace oR := oR.below hq
  replace hA := hA.below hq
  replace hB := hB.below hq
  replace hx := hx.below hq
  replace hY := below_to hY hq
  clear hq
  obtain ⟨rS, fS⟩ := oS.rules
  have zS := oS.lt
  obtain ⟨rR, fR⟩ := oR.rules
  have zR := oR.lt
  by_cases h0 : dcheck A B 0 y = 0
  case neg =>
    have HV := Lib.hid (dworth_c h0)
    have b1 : (dcheck A B 0 y != 0) = true := by simpa using h0
    clear h0 hA hB hx
    have hB := hY
    go_wp2
    replace oR := ((oR).set 0 (.int .i64 0)).set 1 (.int .i64 0)
    replace hB := ((hB).setCell (p := ⟨w.heap.size + 1, 0, none⟩) (by first | omega | (simp; done) | (simp; omega)) (.int .i64 0)).setCell (p := ⟨w.heap.size + 1, 1, none⟩) (by first | omega | (simp; done) | (simp; omega)) (.int .i64 0)
    refine bp_gen' (fun W => Own W _ _ _ ∧ Below w.heap.size w W) ⟨oR, hB⟩ ?_
    rintro wz ⟨oz, bz⟩
    obtain ⟨rz, fz⟩ := oz.rules
    clear oz
    refine bodyPost_ret (v := .tuple #[.agg #[.int .i64 0, .int .i64 0], .int .i64 (dcheck A B 0 y)]) (by simp [results, Try.results40, go_sem, rz]) rfl ⟨by rw [HV.out], ?_⟩
    exact bz
  have b1 : (dcheck A B 0 y != 0) = false := by simp [h0]
  have HV := Lib.hid (dworth_0 h0)
  obtain ⟨hs, hw⟩ := dcheck_of h0
  obtain ⟨hn, _⟩ := scheck_of hs
  have FT := Lib.hid (fit_of hn)
  obtain ⟨wl, wv⟩ := witB_of hw
  have WL := Lib.hid wl
  have WV := Lib.hid wv
  have RV := Lib.hid (rights_val (B := B) fun i hi => by have := FT.out.side i hi; omega)
  have SM : Hid (∀ i (h : i < B.length), -1000 ≤ B[i] ∧ B[i] ≤ 1000) := fun i hi => by have := FT.out.side i hi; omega
  have l1 : B.length ≤ 5 := by rw [FT.out.right]; exact FT.out.rows.2
  have l2 : y.length ≤ B.length := by rw [FT.out.right, WL.out]; exact Nat.le_refl _
  have l3 : B.length ≤ y.length := by rw [FT.out.right, WL.out]; exact Nat.le_refl _
  clear h0 hs hw hn wl wv
  go_wp2_with fail
  refine (rof_any 0 _).mono ?_
  rintro e y2 ⟨rfl, hq⟩
  clear rS fS zS rR fR zR
  replace oS := oS.below hq
  replace oR := oR.below hq
  replace hA := hA.below hq
  replace hB := hB.below hq
  replace hx := hx.below hq
  replace hY := below_to hY hq
  clear hq
  obtain ⟨rS, fS⟩ := oS.rules
  have zS := oS.lt
  obtain ⟨rR, fR⟩ := oR.rules
  have zR := oR.lt
  go_wp2_with fail
  refine (rof_any 0 _).mono ?_
  rintro e y3 ⟨rfl, hq⟩
  clear rS fS zS rR fR zR
  replace oS := oS.below hq
  replace oR := oR.below hq
  replace hA := hA.below hq
  replace hB := hB.below hq
  replace hx := hx.below hq
  replace hY := below_to hY hq
  clear hq
  obtain ⟨rS, fS⟩ := oS.rules
  have zS := oS.lt
  obtain ⟨rR, fR⟩ := oR.rules
  have zR := oR.lt
  go_wp2_with fail
  have zR3 := oR.lt
  have zS3 := oS.lt
  have oS3 := Lib.hid oS
  have oR3 := Lib.hid oR
  have SB3 := Lib.hid hB
  have SX3 := Lib.hid hx
  have oV := own_first y3 34 [.int .i64 0, .int .i64 1] (.cells #[.int .i64 0, .int .i64 1] 34)
  have oU := own_second y3 34 [.int .i64 0, .int .i64 1] (.cells #[.int .i64 0, .int .i64 1] 34)
  have hW := ba2 y3 (.cells #[.int .i64 0, .int .i64 1] 34) (.cells #[.int .i64 0, .int .i64 1] 34)
  obtain ⟨GV, hGV⟩ : ∃ G, G = y3.heap.size := ⟨_, rfl⟩
  obtain ⟨GU, hGU⟩ : ∃ G, G = GV + 1 := ⟨_, rfl⟩
  have zV1 : y3.heap.size ≤ GV := by rw [hGV]; exact Nat.le_refl _
  have zU1 : GV < GU := by omega
  rw [← hGV] at oV oU ⊢
  rw [← hGU] at oU ⊢
  clear hGV hGU rS fS zS rR fR zR oS oR hA hB hx
  go_loopw [10] (fun i wr => ∃ k : Nat, k ≤ y.length ∧ i = .int .i64 k ∧ Hid ((gsum (prodT y (rights B)) k).e = 0) ∧ Own wr GV 34 [.int .i64 (gsum (prodT y (rights B)) k).n, .int .i64 (gsum (prodT y (rights B)) k).d] ∧ Own wr GU 34 [.int .i64 0, .int .i64 1] ∧ Below y3.heap.size y3 wr) (fun i _ => y.length - (intOf i).toNat)
  case atStart => exact ⟨0, Nat.zero_le _, rfl, rfl, oV, oU, hW⟩
  case round =>
    clear oV oU hW
    obtain ⟨k, hk, rfl, he, oV, oU, hW⟩ := hrel
    rename World => W
    have oS := oS3.out.below hW
    have oR := oR3.out.below hW
    by_cases hlt : k < y.length
    · have hkB : k < B.length := by omega
      obtain ⟨_, _, e, _, _, H⟩ := (SX3.out.below hW).open
      cases e
      obtain ⟨b, off, rfl, c1, c2⟩ := H.out k hlt
      obtain ⟨_, _, e, _, _, H'⟩ := (SB3.out.below hW).open
      cases e
      obtain ⟨b', off', rfl, c3⟩ := H'.out k hkB
      clear H H'
      have J1 := Lib.hid (gsum_i64 (prodT y (rights B)) k)
      have J2 := Lib.hid (w_small (SM.out k hkB).1 (SM.out k hkB).2)
      have J3 := Lib.hid (fr_i64 (WV.out k hlt))
      have HP := Lib.hid (right_succ hlt hkB he.out)
      have F2 := Lib.hid (prod_ok (a := y) (b := rights B) (k := k + 1) hlt (by rw [rights_len]; exact l2) WV.out RV.out)
      have HE := Lib.hid (fun h => gsum_end (t := prodT y (rights B)) hlt h F2.out)
      generalize y[k].1 = yn at *
      generalize y[k].2 = yd at *
      generalize B[k] = bk at *
      generalize (gsum (prodT y (rights B)) k).n = sn at *
      generalize (gsum (prodT y (rights B)) k).d = sd at *
      generalize hpp : gsum (prodT y (rights B)) (k + 1) = p at *
      have HPP := Lib.hid hpp
      clear hpp
      have zb := World.block_lt_of_cell? _ _ c1
      have zb2 := World.block_lt_of_cell? _ _ c3
      simp only at zb zb2
      have gl := @grow_lt
      obtain ⟨rS, fS⟩ := oS.rules
      have zS := oS.lt
      obtain ⟨rV, fV⟩ := oV.rules
      have zV := oV.lt
      go_wp2
      go_wp2_with fail
      refine wp_region_stt [.t [0, 1, 2, 3, 4, 5, 6, 7, 8, 9], .f 10, .f 11] [12, 13, 14] [15, 16] (by kernel_rfl) (by kernel_rfl) (fun _ _ _ _ _ h => h) ?_
      refine wpX_t ?_
      try simp only [opsAt, List.getElem?_toArray, List.getElem?_cons_zero, List.getElem?_cons_succ, Option.getD_some]
      repeat (go_big_quiet_step (fail))
      refine wpQuiet_nil ?_
      refine wpX_f rfl rfl (fun K' hK' => ?_)
      go_simp
      refine (rof_any bk _).mono ?_
      rintro e y4 ⟨rfl, hq1⟩
      refine hK' _ _ (grow_of (below_to ((Below.refl _ _).drew) hq1)) ?_
      clear hK' K'
      refine wpX_f rfl rfl (fun K' hK' => ?_)
      go_simp
      refine (rdplus_any sn sd yn yd bk 1 _ J1.out.1 J1.out.2 J3.out.1 J3.out.2 J2.out w_one).mono ?_
      rintro e y5 ⟨rfl, hq2⟩
      refine hK' _ _ (grow_of (below_to (below_to ((Below.refl _ _).drew) hq1) hq2)) ?_
      clear hK' K'
      rw [← HP.out]
      refine wpX_nil ?_
      try simp only [opsAt, List.getElem?_toArray, List.getElem?_cons_zero, List.getElem?_cons_succ, Option.getD_some]
      repeat (go_big_quiet_step (fail))
      refine wpQuiet_nil ?_
      try simp only [opsAt, List.getElem?_toArray, List.getElem?_cons_zero, List.getElem?_cons_succ, Option.getD_some]
      have hq : Below W.heap.size W y5 := below_to (below_to ((Below.refl _ _).drew) hq1) hq2
      clear gl hq1 hq2 c1 c2 c3 zb zb2 rS fS zS rV fV zV oS
      replace oR := oR.below hq
      replace oV := oV.below hq
      replace oU := oU.below hq
      replace hW := below_to hW hq
      clear hq
      obtain ⟨rR, fR⟩ := oR.rules
      have zR := oR.lt
      obtain ⟨rV, fV⟩ := oV.rules
      have zV := oV.lt
      by_cases h2 : p.e = 0
      · have b3 : (p.e != 0) = false := by simp [h2]
        have E2 := Lib.hid h2
        clear h2
        go_wp2
        go_roundw
        replace oV := ((oV).set 0 (.int .i64 p.n)).set 1 (.int .i64 p.d)
        replace oU := ((oU).other (g' := GV) (by first | omega | (simp; done) | (simp; omega)) 0 (.int .i64 p.n)).other (g' := GV) (by first | omega | (simp; done) | (simp; omega)) 1 (.int .i64 p.d)
        replace hW := ((hW).setCell (p := ⟨GV, 0, none⟩) (by first | omega | (simp; done) | (simp; omega)) (.int .i64 p.n)).setCell (p := ⟨GV, 1, none⟩) (by first | omega | (simp; done) | (simp; omega)) (.int .i64 p.d)
        case rel => exact ⟨k + 1, by omega, by go_num, by rw [HPP.out]; exact E2, by rw [HPP.out]; exact oV, oU, hW⟩
        case measure => simp [intOf]; try omega
      · have b3 : (p.e != 0) = true := by simpa using h2
        have E16 := Lib.hid (F2.out.e h2)
        have HV2 := Lib.hid (dval_g (g := gsum (prodT y (rights B)) y.length) (s := gsum (prodT y y) y.length) (by rw [HE.out h2]; decide))
        have HG := Lib.hid (HE.out h2)
        have hB := below_to hY hW
        clear h2 hW
        go_wp2
        replace oR := ((((oR).other (g' := GV) (by first | omega | (simp; done) | (simp; omega)) 0 (.int .i64 p.n)).other (g' := GV) (by first | omega | (simp; done) | (simp; omega)) 1 (.int .i64 p.d)).set 0 (.int .i64 0)).set 1 (.int .i64 0)
        replace hB := ((((hB).setCell (p := ⟨GV, 0, none⟩) (by first | omega | (simp; done) | (simp; omega)) (.int .i64 p.n)).setCell (p := ⟨GV, 1, none⟩) (by first | omega | (simp; done) | (simp; omega)) (.int .i64 p.d)).setCell (p := ⟨w.heap.size + 1, 0, none⟩) (by first | omega | (simp; done) | (simp; omega)) (.int .i64 0)).setCell (p := ⟨w.heap.size + 1, 1, none⟩) (by first | omega | (simp; done) | (simp; omega)) (.int .i64 0)
        refine bp_gen' (fun W => Own W _ _ _ ∧ Below w.heap.size w W) ⟨oR, hB⟩ ?_
        rintro wz ⟨oz, bz⟩
        obtain ⟨rz, fz⟩ := oz.rules
        clear oz
        refine bodyPost_ret (v := .tuple #[.agg #[.int .i64 0, .int .i64 0], .int .i64 p.e]) (by simp [results, Try.results40, go_sem, rz]) rfl ⟨by rw [HV.out, HV2.out, HG.out, E16.out], ?_⟩
        exact bz
    · obtain rfl : k = y.length := by omega
      clear oS oR
      obtain ⟨g, hg⟩ : ∃ g, g = gsum (prodT y (rights B)) y.length := ⟨_, rfl⟩
      have GI := Lib.hid (gsum_i64 (prodT y (rights B)) y.length)
      have G1 := Lib.hid (prod_ok (a := y) (b := rights B) (k := y.length) (Nat.le_refl _) (by rw [rights_len]; exact l2) WV.out RV.out)
      rw [← hg] at he oV GI G1 HV
      clear hg
      go_wp2
      go_loopw [11] (fun i wr => ∃ k : Nat, k ≤ y.length ∧ i = .int .i64 k ∧ Hid ((gsum (prodT y y) k).e = 0) ∧ Own wr GV 34 [.int .i64 g.n, .int .i64 g.d] ∧ Own wr GU 34 [.int .i64 (gsum (prodT y y) k).n, .int .i64 (gsum (prodT y y) k).d] ∧ Below y3.heap.size y3 wr) (fun i _ => y.length - (intOf i).toNat)
      case atStart => exact ⟨0, Nat.zero_le _, rfl, rfl, oV, oU, hW⟩
      case round =>
        clear oV oU hW
        obtain ⟨k, hk, rfl, hs, oV, oU, hW⟩ := hrel
        rename World => Z
        have oR := oR3.out.below hW
        by_cases hlt : k < y.length
        · obtain ⟨_, _, e, _, _, H⟩ := (SX3.out.below hW).open
          cases e
          obtain ⟨b, off, rfl, c1, c2⟩ := H.out k hlt
          clear H
          have J1 := Lib.hid (gsum_i64 (prodT y y) k)
          have J3 := Lib.hid (fr_i64 (WV.out k hlt))
          have HP := Lib.hid (prod_succ hlt hlt hs.out)
          have F2 := Lib.hid (prod_ok (a := y) (b := y) (k := k + 1) hlt (Nat.le_refl _) WV.out WV.out)
          have HE := Lib.hid (fun h => gsum_end (t := prodT y y) hlt h F2.out)
          generalize y[k].1 = yn at *
          generalize y[k].2 = yd at *
          generalize (gsum (prodT y y) k).n = sn at *
          generalize (gsum (prodT y y) k).d = sd at *
          generalize hpp : gsum (prodT y y) (k + 1) = p at *
          have HPP := Lib.hid hpp
          clear hpp
          have zb := World.block_lt_of_cell? _ _ c1
          simp only at zb
          have gl := @grow_lt
          obtain ⟨rU, fU⟩ := oU.rules
          have zU := oU.lt
          go_wp2
          go_wp2_with fail
          refine wp_region_stt [.t [0, 1, 2, 3, 4, 5, 6, 7, 8], .f 9] [10, 11, 12] [13, 14] (by kernel_rfl) (by kernel_rfl) (fun _ _ _ _ _ h => h) ?_
          refine wpX_t ?_
          try simp only [opsAt, List.getElem?_toArray, List.getElem?_cons_zero, List.getElem?_cons_succ, Option.getD_some]
          repeat (go_big_quiet_step (fail))
          refine wpQuiet_nil ?_
          refine wpX_f rfl rfl (fun K' hK' => ?_)
          go_simp
          refine (rdplus_any sn sd yn yd yn yd _ J1.out.1 J1.out.2 J3.out.1 J3.out.2 J3.out.1 J3.out.2).mono ?_
          rintro e z5 ⟨rfl, hq2⟩
          refine hK' _ _ (grow_of (below_to ((Below.refl _ _).drew) hq2)) ?_
          clear hK' K'
          rw [← HP.out]
          refine wpX_nil ?_
          try simp only [opsAt, List.getElem?_toArray, List.getElem?_cons_zero, List.getElem?_cons_succ, Option.getD_some]
          repeat (go_big_quiet_step (fail))
          refine wpQuiet_nil ?_
          try simp only [opsAt, List.getElem?_toArray, List.getElem?_cons_zero, List.getElem?_cons_succ, Option.getD_some]
          have hq : Below Z.heap.size Z z5 := below_to ((Below.refl _ _).drew) hq2
          clear gl hq2 c1 c2 zb rU fU zU
          replace oR := oR.below hq
          replace oV := oV.below hq
          replace oU := oU.below hq
          replace hW := below_to hW hq
          clear hq
          obtain ⟨rR, fR⟩ := oR.rules
          have zR := oR.lt
          obtain ⟨rU, fU⟩ := oU.rules
          have zU := oU.lt
          by_cases h2 : p.e = 0
          · have b3 : (p.e != 0) = false := by simp [h2]
            have E2 := Lib.hid h2
            clear h2
            go_wp2
            go_roundw
            replace oV := ((oV).other (g' := GU) (by first | omega | (simp; done) | (simp; omega)) 0 (.int .i64 p.n)).other (g' := GU) (by first | omega | (simp; done) | (simp; omega)) 1 (.int .i64 p.d)
            replace oU := ((oU).set 0 (.int .i64 p.n)).set 1 (.int .i64 p.d)
            replace hW := ((hW).setCell (p := ⟨GU, 0, none⟩) (by first | omega | (simp; done) | (simp; omega)) (.int .i64 p.n)).setCell (p := ⟨GU, 1, none⟩) (by first | omega | (simp; done) | (simp; omega)) (.int .i64 p.d)
            case rel => exact ⟨k + 1, by omega, by go_num, by rw [HPP.out]; exact E2, oV, by rw [HPP.out]; exact oU, hW⟩
            case measure => simp [intOf]; try omega
          · have b3 : (p.e != 0) = true := by simpa using h2
            have E16 := Lib.hid (F2.out.e h2)
            have HG := Lib.hid (HE.out h2)
            have HV2 := Lib.hid (dval_s (s := gsum (prodT y y) y.length) he.out (by rw [HE.out h2]; decide))
            have hB := below_to hY hW
            clear h2 hW
            go_wp2
            replace oR := ((((oR).other (g' := GU) (by first | omega | (simp; done) | (simp; omega)) 0 (.int .i64 p.n)).other (g' := GU) (by first | omega | (simp; done) | (simp; omega)) 1 (.int .i64 p.d)).set 0 (.int .i64 0)).set 1 (.int .i64 0)
            replace hB := ((((hB).setCell (p := ⟨GU, 0, none⟩) (by first | omega | (simp; done) | (simp; omega)) (.int .i64 p.n)).setCell (p := ⟨GU, 1, none⟩) (by first | omega | (simp; done) | (simp; omega)) (.int .i64 p.d)).setCell (p := ⟨w.heap.size + 1, 0, none⟩) (by first | omega | (simp; done) | (simp; omega)) (.int .i64 0)).setCell (p := ⟨w.heap.size + 1, 1, none⟩) (by first | omega | (simp; done) | (simp; omega)) (.int .i64 0)
            refine bp_gen' (fun W => Own W _ _ _ ∧ Below w.heap.size w W) ⟨oR, hB⟩ ?_
            rintro wz ⟨oz, bz⟩
            obtain ⟨rz, fz⟩ := oz.rules
            clear oz
            refine bodyPost_ret (v := .tuple #[.agg #[.int .i64 0, .int .i64 0], .int .i64 p.e]) (by simp [results, Try.results40, go_sem, rz]) rfl ⟨by rw [HV.out, HV2.out, HG.out, E16.out], ?_⟩
            exact bz
        · obtain rfl : k = y.length := by omega
          obtain ⟨s, hsq⟩ : ∃ s, s = gsum (prodT y y) y.length := ⟨_, rfl⟩
          have SI' := Lib.hid (gsum_i64 (prodT y y) y.length)
          have S1 := Lib.hid (prod_ok (a := y) (b := y) (k := y.length) (Nat.le_refl _) (Nat.le_refl _) WV.out WV.out)
          rw [← hsq] at hs oU SI' S1 HV
          clear hsq
          have H2 := Lib.hid (fmul_FOk (S1.out.v hs.out) (show fchk 1 2 = 0 by decide))
          have PH := Lib.hid (dval_h he.out hs.out)
          have P0 := Lib.hid (dval_0 he.out hs.out)
          have J1 := Lib.hid (fmul_i64 s.n s.d 1 2)
          have hB := below_to hY hW
          clear hW
          obtain ⟨rR, fR⟩ := oR.rules
          have zR := oR.lt
          obtain ⟨rV, fV⟩ := oV.rules
          have zV := oV.lt
          obtain ⟨rU, fU⟩ := oU.rules
          have zU := oU.lt
          go_wp2_with fail
          refine (rmul_any s.n s.d 1 2 _ SI'.out.1 SI'.out.2 ⟨by decide, by decide⟩ ⟨by decide, by decide⟩).mono ?_
          rintro e z6 ⟨rfl, hq⟩
          clear rR fR zR rV fV zV rU fU zU
          replace oR := oR.below hq
          replace oV := oV.below hq
          replace oU := oU.below hq
          replace hB := below_to hB hq
          clear hq
          obtain ⟨rR, fR⟩ := oR.rules
          have zR := oR.lt
          obtain ⟨rV, fV⟩ := oV.rules
          have zV := oV.lt
          obtain ⟨rU, fU⟩ := oU.rules
          have zU := oU.lt
          generalize fmul s.n s.d 1 2 = hf at *
          by_cases h3 : hf.e = 0
          case neg =>
            have HV2 := Lib.hid (PH.out h3)
            have E16 := Lib.hid (congrArg FR.e (H2.out.e h3))
            have b4 : (hf.e != 0) = true := by simpa using h3
            clear h3 PH P0
            go_wp2
            replace oR := (((oR).set 0 (.int .i64 0)).set 1 (.int .i64 0)).alloc (.cells #[.int .i64 hf.n, .int .i64 hf.d] 34)
            replace hB := (((hB).setCell (p := ⟨w.heap.size + 1, 0, none⟩) (by first | omega | (simp; done) | (simp; omega)) (.int .i64 0)).setCell (p := ⟨w.heap.size + 1, 1, none⟩) (by first | omega | (simp; done) | (simp; omega)) (.int .i64 0)).alloc (by first | omega | (simp; done) | (simp; omega)) (.cells #[.int .i64 hf.n, .int .i64 hf.d] 34)
            refine bp_gen' (fun W => Own W _ _ _ ∧ Below w.heap.size w W) ⟨oR, hB⟩ ?_
            rintro wz ⟨oz, bz⟩
            obtain ⟨rz, fz⟩ := oz.rules
            clear oz
            refine bodyPost_ret (v := .tuple #[.agg #[.int .i64 0, .int .i64 0], .int .i64 hf.e]) (by simp [results, Try.results40, go_sem, rz]) rfl ⟨by rw [HV.out, HV2.out, E16.out], ?_⟩
            exact bz
          have b4 : (hf.e != 0) = false := by simp [h3]
          have HV2 := Lib.hid (P0.out h3)
          clear h3 PH P0
          go_wp2_with fail
          refine (rsub_any g.n g.d hf.n hf.d _ GI.out.1 GI.out.2 J1.out.1 J1.out.2).mono ?_
          rintro e z7 ⟨rfl, hq⟩
          replace hq := below_to (ba1 z6 _) hq
          clear rR fR zR rV fV zV rU fU zU
          replace oR := oR.below hq
          replace oV := oV.below hq
          replace oU := oU.below hq
          replace hB := below_to hB hq
          clear hq
          obtain ⟨rR, fR⟩ := oR.rules
          have zR := oR.lt
          obtain ⟨rV, fV⟩ := oV.rules
          have zV := oV.lt
          obtain ⟨rU, fU⟩ := oU.rules
          have zU := oU.lt
          generalize fsub g.n g.d hf.n hf.d = r at *
          go_wp2
          replace oR := ((oR).set 0 (.int .i64 r.n)).set 1 (.int .i64 r.d)
          replace hB := ((hB).setCell (p := ⟨w.heap.size + 1, 0, none⟩) (by first | omega | (simp; done) | (simp; omega)) (.int .i64 r.n)).setCell (p := ⟨w.heap.size + 1, 1, none⟩) (by first | omega | (simp; done) | (simp; omega)) (.int .i64 r.d)
          refine bp_gen' (fun W => Own W _ _ _ ∧ Below w.heap.size w W) ⟨oR, hB⟩ ?_
          rintro wz ⟨oz, bz⟩
          obtain ⟨rz, fz⟩ := oz.rules
          clear oz
          refine bodyPost_ret (v := .tuple #[.agg #[.int .i64 r.n, .int .i64 r.d], .int .i64 r.e]) (by simp [results, Try.results40, go_sem, rz]) rfl ⟨by rw [HV.out, HV2.out], ?_⟩
          exact bz
end Go.Proofs.Ytfbigmjlppdlhaa
