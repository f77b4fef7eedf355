/- What is proved here: contracts of functions and plain facts, several texts in one; each one says ahead what it proves, and its conditions. -/
import Derived.Test.YthlcmlngmcoknaaC33
import Derived.Test.YthlcmlngmcoknaaC38
import Derived.Test.YthlcmlngmcoknaaC11
import Derived.Test.YthlcmlngmcoknaaC01
import Derived.Test.YthlcmlngmcoknaaC29
/- What is proved here: the contract of dual.products. Condition: two slices of valid fractions, the second one as long. -/
namespace Go.Proofs.Ythlcmlngmcoknaa
open Go.RowKit

set_option maxRecDepth 100000 in
set_option maxHeartbeats 8000000 in
theorem dprod_any (a x : List (Int × Int)) (u v : Value) (w : World) (hu : SF w u a) (hv : SF w v x) (hl : a.length ≤ x.length) (ha : ∀ i (h : i < a.length), fchk a[i].1 a[i].2 = 0) (hx : ∀ i (h : i < x.length), fchk x[i].1 x[i].2 = 0) :
    Calls Try.prog 160 #[u, v] w fun e w' => e = .returned (.tuple #[.agg #[.int .i64 (gsum (prodT a x) a.length).n, .int .i64 (gsum (prodT a x) a.length).d], .int .i64 (gsum (prodT a x) a.length).e]) ∧ Below w.heap.size w w' := by
  have hu0 := Lib.hid hu
  have hv0 := Lib.hid hv
  have HA := Lib.hid ha
  have HX := Lib.hid hx
  obtain ⟨ada, capa, rfl, ha1, ha2, _⟩ := hu.open
  obtain ⟨adx, capx, rfl, hx1, hx2, _⟩ := hv.open
  clear hu hv ha hx
  go_enter Try.func160, Try.ntmps160
  have oR := Own.new w 78 [.int .i64 0, .int .i64 0]
  have hB := ba1 w (.cells #[.int .i64 0, .int .i64 0] 78)
  go_wp2_with fail
  refine (dwhole_any 0 _).mono ?_
  rintro e y0 ⟨rfl, hq⟩
  replace oR := oR.below hq
  replace hB := below_to hB hq
  clear hq
  go_wp2_with fail
  have zR0 := oR.lt
  have oS := Own.new y0 78 [.int .i64 0, .int .i64 1]
  replace oR := oR.alloc (.cells #[.int .i64 0, .int .i64 1] 78)
  replace hB := below_to hB (ba1 y0 (.cells #[.int .i64 0, .int .i64 1] 78))
  obtain ⟨GS, hG⟩ : ∃ G, G = y0.heap.size := ⟨_, rfl⟩
  have zG : w.heap.size < GS := by rw [hG]; exact zR0
  rw [← hG] at oS ⊢
  clear hG
  go_loopw [13] (fun i wr => ∃ k : Nat, k ≤ a.length ∧ i = .int .i64 k ∧ Hid ((gsum (prodT a x) k).e = 0) ∧ Own wr w.heap.size 78 [.int .i64 0, .int .i64 0] ∧ Own wr GS 78 [.int .i64 (gsum (prodT a x) k).n, .int .i64 (gsum (prodT a x) k).d] ∧ Below w.heap.size w wr) (fun i _ => a.length - (intOf i).toNat)
  case atStart => exact ⟨0, Nat.zero_le _, rfl, rfl, oR, oS, hB⟩
  case round =>
    clear oR oS hB
    obtain ⟨k, hk, rfl, he, oR, oS, hB⟩ := hrel
    rename World => W
    by_cases hlt : k < a.length
    · have hkx : k < x.length := by omega
      obtain ⟨_, _, e, _, _, H⟩ := (hu0.out.below hB).open
      cases e
      obtain ⟨b, off, rfl, c0, c1⟩ := H.out k hlt
      obtain ⟨_, _, e, _, _, H'⟩ := (hv0.out.below hB).open
      cases e
      obtain ⟨b', off', rfl, c2, c3⟩ := H'.out k hkx
      clear H H'
      have J1 := Lib.hid (gsum_i64 (prodT a x) k)
      have J2 := Lib.hid (fr_i64 (HA.out k hlt))
      have J3 := Lib.hid (fr_i64 (HX.out k hkx))
      have F1 := Lib.hid (fmul_FOk (HA.out k hlt) (HX.out k hkx))
      have F2 := Lib.hid (prod_ok (a := a) (b := x) (k := k + 1) (by omega) hl HA.out HX.out)
      have HP := Lib.hid (prod_succ hlt hkx he.out)
      have HE := Lib.hid (fun h => gsum_end (t := prodT a x) hlt h F2.out)
      generalize a[k].1 = c at *
      generalize a[k].2 = cd at *
      generalize x[k].1 = xn at *
      generalize x[k].2 = xd at *
      generalize (gsum (prodT a x) k).n = sn at *
      generalize (gsum (prodT a x) k).d = sd at *
      generalize hpp : gsum (prodT a x) (k + 1) = p at *
      have HPP := Lib.hid hpp
      clear hpp
      have zb := World.block_lt_of_cell? _ _ c0
      have zb2 := World.block_lt_of_cell? _ _ c2
      simp only at zb zb2
      go_wp2
      go_wp2_with fail
      have gl := @grow_lt
      refine wp_region_fs [(12, ⟨78, [.int .i64 0, .int .i64 0], fun b => .pointer (some ⟨b, 0, none⟩)⟩)] [0, 1, 2, 3, 4, 5, 6, 7] [.op 8, .tk 9, .tk 10, .tk 11, .fl 12, .op 13] [14] (by kernel_rfl) (by kernel_rfl) ⟨fun ρ W => by kernel_rfl, trivial⟩ (fun _ _ _ _ _ h => h) (fun _ _ _ _ _ h => h) ?_
      try simp only [opsAt, List.getElem?_toArray, List.getElem?_cons_zero, List.getElem?_cons_succ, Option.getD_some]
      repeat (go_big_quiet_step (fail))
      refine wpQuiet_nil ?_
      clear gl
      refine wpFl_op rfl ?_
      intro w3 hb3 K' hK'
      go_simp
      refine (fmul_any c cd xn xd _ J2.out.1 J2.out.2 J3.out.1 J3.out.2).mono ?_
      rintro e w5 ⟨rfl, hq⟩
      refine hK' _ _ (Mod.of_below hq) ?_
      clear hK' K'
      have hF := below_to hb3 hq
      clear hb3 hq
      refine wpFl_tk ?_
      try simp only [opsAt, List.getElem?_toArray, List.getElem?_cons_zero, List.getElem?_cons_succ, Option.getD_some]
      repeat (go_big_quiet_step (fail))
      refine wpQuiet_nil ?_
      refine wpFl_tk ?_
      try simp only [opsAt, List.getElem?_toArray, List.getElem?_cons_zero, List.getElem?_cons_succ, Option.getD_some]
      repeat (go_big_quiet_step (fail))
      refine wpQuiet_nil ?_
      refine wpFl_tk ?_
      try simp only [opsAt, List.getElem?_toArray, List.getElem?_cons_zero, List.getElem?_cons_succ, Option.getD_some]
      repeat (go_big_quiet_step (fail))
      refine wpQuiet_nil ?_
      refine wpFl_fl rfl ?_
      intro bD w6 hb6 oD zD0 _
      go_simp
      replace hF := below_to hF hb6
      refine wpFl_op rfl ?_
      intro w7 hb7 K' hK'
      replace oD := oD.below hb7
      replace hF := below_to hF hb7
      clear hb6 hb7
      obtain ⟨rD, fD⟩ := oD.rules
      have zD := oD.lt
      go_wp2_with fail
      refine hK' _ _ (((Mod.refl _ _).set (by simp) _).set (by simp) _) ?_
      clear hK' K' rD fD zD
      replace oD := (oD.set 0 (.int .i64 (fmul c cd xn xd).n)).set 1 (.int .i64 (fmul c cd xn xd).d)
      replace hF := (hF.setCell (p := ⟨bD, 0, none⟩) zD0 (.int .i64 (fmul c cd xn xd).n)).setCell (p := ⟨bD, 1, none⟩) zD0 (.int .i64 (fmul c cd xn xd).d)
      refine wpFl_nil (fun w8 hb8 => ?_)
      replace oD := oD.below hb8
      replace hF := below_to hF hb8
      clear hb8
      try simp only [opsAt, List.getElem?_toArray, List.getElem?_cons_zero, List.getElem?_cons_succ, Option.getD_some]
      clear c0 c1 c2 c3 zb zb2
      replace oR := oR.below hF
      replace oS := oS.below hF
      replace hB := below_to hB hF
      clear hF
      have M2 := Lib.hid (fmul_i64 c cd xn xd)
      have P0 := Lib.hid (fplus_0 (sn := sn) (sd := sd) (an := c) (ad := cd) (bn := xn) (bd := xd))
      have P1 := Lib.hid (fplus_1 (sn := sn) (sd := sd) (an := c) (ad := cd) (bn := xn) (bd := xd))
      generalize fmul c cd xn xd = m at *
      obtain ⟨rR, fR⟩ := oR.rules
      have zR := oR.lt
      obtain ⟨rS, fS⟩ := oS.rules
      have zS := oS.lt
      obtain ⟨rD, fD⟩ := oD.rules
      have zD := oD.lt
      by_cases h1 : m.e = 0
      · have b1 : (m.e != 0) = false := by simp [h1]
        have HQ : Hid (p = fadd sn sd m.n m.d) := HP.out.trans (P0.out h1)
        clear h1 P0 P1 HP F1
        go_wp2_with fail
        refine (fadd_any sn sd m.n m.d _ J1.out.1 J1.out.2 M2.out.1 M2.out.2).mono ?_
        rintro e y2 ⟨rfl, hq⟩
        clear rD fD zD oD
        clear rR fR zR rS fS zS
        replace oR := oR.below hq
        replace oS := oS.below hq
        replace hB := below_to hB hq
        clear hq
        obtain ⟨rR, fR⟩ := oR.rules
        have zR := oR.lt
        obtain ⟨rS, fS⟩ := oS.rules
        have zS := oS.lt
        rw [← HQ.out]
        by_cases h2 : p.e = 0
        · have b2 : (p.e != 0) = false := by simp [h2]
          have E2 := Lib.hid h2
          clear h2
          go_wp2
          go_roundw
          replace oR := ((oR).other (g' := GS) (by first | omega | (simp; done) | (simp; omega)) 0 (.int .i64 p.n)).other (g' := GS) (by first | omega | (simp; done) | (simp; omega)) 1 (.int .i64 p.d)
          replace oS := ((oS).set 0 (.int .i64 p.n)).set 1 (.int .i64 p.d)
          replace hB := ((hB).setCell (p := ⟨GS, 0, none⟩) (by first | omega | (simp; done) | (simp; omega)) (.int .i64 p.n)).setCell (p := ⟨GS, 1, none⟩) (by first | omega | (simp; done) | (simp; omega)) (.int .i64 p.d)
          case rel => exact ⟨k + 1, by omega, by go_num, by rw [HPP.out]; exact E2, oR, by rw [HPP.out]; exact oS, hB⟩
          case measure => simp [intOf]; try omega
        · have b2 : (p.e != 0) = true := by simpa using h2
          have HV := Lib.hid (HE.out h2)
          clear h2
          go_wp2
          replace oR := ((((oR).other (g' := GS) (by first | omega | (simp; done) | (simp; omega)) 0 (.int .i64 p.n)).other (g' := GS) (by first | omega | (simp; done) | (simp; omega)) 1 (.int .i64 p.d)).set 0 (.int .i64 0)).set 1 (.int .i64 0)
          replace hB := ((((hB).setCell (p := ⟨GS, 0, none⟩) (by first | omega | (simp; done) | (simp; omega)) (.int .i64 p.n)).setCell (p := ⟨GS, 1, none⟩) (by first | omega | (simp; done) | (simp; omega)) (.int .i64 p.d)).setCell (p := ⟨w.heap.size, 0, none⟩) (by first | omega | (simp; done) | (simp; omega)) (.int .i64 0)).setCell (p := ⟨w.heap.size, 1, none⟩) (by first | omega | (simp; done) | (simp; omega)) (.int .i64 0)
          refine bp_gen' (fun W => Own W _ _ _ ∧ Below w.heap.size w W) ⟨oR, hB⟩ ?_
          rintro wz ⟨oz, bz⟩
          obtain ⟨rz, fz⟩ := oz.rules
          clear oz
          refine bodyPost_ret (v := .tuple #[.agg #[.int .i64 0, .int .i64 0], .int .i64 16]) (by simp [results, Try.results160, go_sem, rz]) rfl ⟨by rw [HV.out], ?_⟩
          exact bz
      · have b1 : (m.e != 0) = true := by simpa using h1
        have HV : Hid (gsum (prodT a x) a.length = ⟨0, 0, 16⟩) := by
          have e1 := HP.out.trans (P1.out h1)
          refine HE.out ?_
          rw [e1]; exact h1
        clear h1 P0 P1 HP F1
        go_wp2
        replace oR := ((oR).set 0 (.int .i64 0)).set 1 (.int .i64 0)
        replace hB := ((hB).setCell (p := ⟨w.heap.size, 0, none⟩) (by first | omega | (simp; done) | (simp; omega)) (.int .i64 0)).setCell (p := ⟨w.heap.size, 1, none⟩) (by first | omega | (simp; done) | (simp; omega)) (.int .i64 0)
        refine bp_gen' (fun W => Own W _ _ _ ∧ Below w.heap.size w W) ⟨oR, hB⟩ ?_
        rintro wz ⟨oz, bz⟩
        obtain ⟨rz, fz⟩ := oz.rules
        clear oz
        refine bodyPost_ret (v := .tuple #[.agg #[.int .i64 0, .int .i64 0], .int .i64 16]) (by simp [results, Try.results160, go_sem, rz]) rfl ⟨by rw [HV.out], ?_⟩
        exact bz
    · obtain rfl : k = a.length := by omega
      obtain ⟨p, hp⟩ : ∃ p, p = gsum (prodT a x) a.length := ⟨_, rfl⟩
      rw [← hp] at he oS
      have HP := Lib.hid hp
      clear hp
      obtain ⟨rR, fR⟩ := oR.rules
      have zR := oR.lt
      obtain ⟨rS, fS⟩ := oS.rules
      have zS := oS.lt
      go_wp2
      replace oR := ((oR).set 0 (.int .i64 p.n)).set 1 (.int .i64 p.d)
      replace hB := ((hB).setCell (p := ⟨w.heap.size, 0, none⟩) (by first | omega | (simp; done) | (simp; omega)) (.int .i64 p.n)).setCell (p := ⟨w.heap.size, 1, none⟩) (by first | omega | (simp; done) | (simp; omega)) (.int .i64 p.d)
      refine bp_gen' (fun W => Own W _ _ _ ∧ Below w.heap.size w W) ⟨oR, hB⟩ ?_
      rintro wz ⟨oz, bz⟩
      obtain ⟨rz, fz⟩ := oz.rules
      clear oz
      refine bodyPost_ret (v := .tuple #[.agg #[.int .i64 p.n, .int .i64 p.d], .int .i64 0]) (by simp [results, Try.results160, go_sem, rz]) rfl ⟨by rw [← HP.out, he.out], ?_⟩
      exact bz
end Go.Proofs.Ythlcmlngmcoknaa

/- What is proved here: the contract of dual.Worth. Condition: a system and a slice of fractions that can be read. -/
namespace Go.Proofs.Ythlcmlngmcoknaa
open Go.RowKit

set_option maxRecDepth 100000 in
set_option maxHeartbeats 16000000 in
theorem dworth_any (A : List (List Int)) (B : List Int) (y : List (Int × Int)) (va vb vy : Value) (w : World) (hA : SS w va A) (hB : SI w vb B) (hx : SF w vy y) (ix : FI y) :
    Calls Try.prog 146 #[.agg #[va, vb], vy] w fun e w' => e = .returned (.tuple #[.agg #[.int .i64 (dworth A B y).n, .int .i64 (dworth A B y).d], .int .i64 (dworth A B y).e]) ∧ Below w.heap.size w w' := by
  have IX := Lib.hid ix
  obtain ⟨adb, capb, rfl, hb1, hb2, _⟩ := hB.open
  obtain ⟨ady, capy, rfl, hy1, hy2, _⟩ := hx.open
  clear ix
  go_enter Try.func146, Try.ntmps146
  have oS := own_first w 25 [va, .slice adb B.length capb] (.cells #[.int .i64 0, .int .i64 0] 78)
  have oR := own_second w 78 [.int .i64 0, .int .i64 0] (.cells #[va, .slice adb B.length capb] 25)
  have hY := ba2 w (.cells #[va, .slice adb B.length capb] 25) (.cells #[.int .i64 0, .int .i64 0] 78)
  replace hA := hA.below hY
  replace hB := hB.below hY
  replace hx := hx.below hY
  obtain ⟨rS, fS⟩ := oS.rules
  have zS := oS.lt
  obtain ⟨rR, fR⟩ := oR.rules
  have zR := oR.lt
  go_wp2_with fail
  refine (ncheck_any A B _ _ _ hA hB).mono ?_
  rintro e y1 ⟨rfl, hq⟩
  clear rS fS zS rR fR zR
  replace oS := oS.below hq
  replace oR := oR.below hq
  replace hA := hA.below hq
  replace hB := hB.below hq
  replace hx := hx.below hq
  replace hY := below_to hY hq
  clear hq
  obtain ⟨rS, fS⟩ := oS.rules
  have zS := oS.lt
  obtain ⟨rR, fR⟩ := oR.rules
  have zR := oR.lt
  by_cases h0 : ncheck A B = 0
  case neg =>
    have E0 := Lib.hid (scheck_c (c := 0) h0)
    have E1 := Lib.hid (dcheck_c (y := y) (show ¬ scheck A B 0 = 0 by rw [E0.out]; exact h0))
    have HV := Lib.hid (dworth_c (show ¬ dcheck A B 0 y = 0 by rw [E1.out, E0.out]; exact h0))
    have b1 : (ncheck A B != 0) = true := by simpa using h0
    clear h0 hA hB hx
    have hB := hY
    go_wp2
    replace oR := ((oR).set 0 (.int .i64 0)).set 1 (.int .i64 0)
    replace hB := ((hB).setCell (p := ⟨w.heap.size + 1, 0, none⟩) (by first | omega | (simp; done) | (simp; omega)) (.int .i64 0)).setCell (p := ⟨w.heap.size + 1, 1, none⟩) (by first | omega | (simp; done) | (simp; omega)) (.int .i64 0)
    refine bp_gen' (fun W => Own W _ _ _ ∧ Below w.heap.size w W) ⟨oR, hB⟩ ?_
    rintro wz ⟨oz, bz⟩
    obtain ⟨rz, fz⟩ := oz.rules
    clear oz
    refine bodyPost_ret (v := .tuple #[.agg #[.int .i64 0, .int .i64 0], .int .i64 (ncheck A B)]) (by simp [results, Try.results146, go_sem, rz]) rfl ⟨by rw [HV.out, E1.out, E0.out], ?_⟩
    exact bz
  have b1 : (ncheck A B != 0) = false := by simp [h0]
  have HS := Lib.hid (scheck_0 (c := 0) h0 (by decide) (by decide))
  have FT := Lib.hid (fit_of h0)
  clear h0
  go_wp2_with fail
  refine (dwitB_any A y _ _ _ _ hA hx IX.out).mono ?_
  rintro e y2 ⟨rfl, hq⟩
  clear rS fS zS rR fR zR
  replace oS := oS.below hq
  replace oR := oR.below hq
  replace hA := hA.below hq
  replace hB := hB.below hq
  replace hx := hx.below hq
  replace hY := below_to hY hq
  clear hq
  obtain ⟨rS, fS⟩ := oS.rules
  have zS := oS.lt
  obtain ⟨rR, fR⟩ := oR.rules
  have zR := oR.lt
  by_cases hp : witB A.length y = true
  case neg =>
    have hp' : witB A.length y = false := by simpa using hp
    have E1 := Lib.hid (dcheck_2 HS.out hp')
    have HV := Lib.hid (dworth_c (show ¬ dcheck A B 0 y = 0 by rw [E1.out]; decide))
    rw [hp']
    clear hp hp' hA hB hx
    have hB := hY
    go_wp2
    replace oR := ((oR).set 0 (.int .i64 0)).set 1 (.int .i64 0)
    replace hB := ((hB).setCell (p := ⟨w.heap.size + 1, 0, none⟩) (by first | omega | (simp; done) | (simp; omega)) (.int .i64 0)).setCell (p := ⟨w.heap.size + 1, 1, none⟩) (by first | omega | (simp; done) | (simp; omega)) (.int .i64 0)
    refine bp_gen' (fun W => Own W _ _ _ ∧ Below w.heap.size w W) ⟨oR, hB⟩ ?_
    rintro wz ⟨oz, bz⟩
    obtain ⟨rz, fz⟩ := oz.rules
    clear oz
    refine bodyPost_ret (v := .tuple #[.agg #[.int .i64 0, .int .i64 0], .int .i64 2]) (by simp [results, Try.results146, go_sem, rz]) rfl ⟨by rw [HV.out, E1.out], ?_⟩
    exact bz
  have HV := Lib.hid (dworth_0 (dcheck_0 HS.out hp))
  obtain ⟨wl, wv⟩ := witB_of hp
  have WL := Lib.hid wl
  have WV := Lib.hid wv
  rw [hp]
  have RV := Lib.hid (rights_val (B := B) fun i hi => by have := FT.out.side i hi; omega)
  have SM : Hid (∀ i (h : i < B.length), -1000 ≤ B[i] ∧ B[i] ≤ 1000) := fun i hi => by have := FT.out.side i hi; omega
  have l1 : B.length ≤ 5 := by rw [FT.out.right]; exact FT.out.rows.2
  have l2 : y.length ≤ B.length := by rw [FT.out.right, WL.out]; exact Nat.le_refl _
  have l3 : B.length ≤ y.length := by rw [FT.out.right, WL.out]; exact Nat.le_refl _
  have LE : Hid (y.length = B.length) := by show _ = _; omega
  clear hp wl wv
  have MK := mk_fracs y.length (y.length : Int) rfl (by omega)
  go_wp2
  clear MK
  have zS2 := zS
  have zR2 := zR
  have oS2 := Lib.hid oS
  have oR2 := Lib.hid oR
  have SB2 := Lib.hid hB
  have SX2 := Lib.hid hx
  have oO := Own.new y2 78 (fcs (List.replicate y.length (0, 0)))
  have hW := ba1 y2 (.cells (fcs (List.replicate y.length (0, 0))).toArray 78)
  obtain ⟨GO, hG⟩ : ∃ G, G = y2.heap.size := ⟨_, rfl⟩
  have zO1 : y2.heap.size ≤ GO := by rw [hG]; exact Nat.le_refl _
  rw [← hG] at oO ⊢
  clear hG rS fS zS rR fR zR oS oR hA hB hx
  go_loopw [32] (fun i wr => ∃ m : Nat, m ≤ B.length ∧ i = .int .i64 m ∧ Own wr GO 78 (fcs ((rights B).take m ++ List.replicate (y.length - m) (0, 0))) ∧ Below y2.heap.size y2 wr) (fun i _ => B.length - (intOf i).toNat)
  case atStart => exact ⟨0, Nat.zero_le _, rfl, by simpa using oO, hW⟩
  case round =>
    clear oO hW
    obtain ⟨m, hm, rfl, oO, hW⟩ := hrel
    rename World => W
    by_cases hlt : m < B.length
    · have hly : m < y.length := by omega
      obtain ⟨_, _, e, _, _, H⟩ := (SB2.out.below hW).open
      cases e
      obtain ⟨b, off, rfl, c1⟩ := H.out m hlt
      clear H
      have TL : Hid (((rights B).take m).length = m) := by show _ = _; simp [rights]; omega
      have TT : Hid ((rights B).take (m + 1) = (rights B).take m ++ [(B[m], 1)]) := by
        show _ = _
        rw [List.take_add_one, rights_get hlt]; rfl
      generalize B[m] = bm at *
      go_wp2_with fail
      refine (dwhole_any bm _).mono ?_
      rintro e y3 ⟨rfl, hq⟩
      clear c1
      replace oO := oO.below hq
      replace hW := below_to hW hq
      clear hq
      obtain ⟨v1, v2, g1, g2⟩ := fcs_some ((rights B).take m ++ List.replicate (y.length - m) (0, 0)) m (by rw [List.length_append, TL.out, List.length_replicate]; omega)
      have o2 := (oO.set (m * 2) (.int .i64 bm)).set (m * 2 + 1) (.int .i64 1)
      rw [fcs_set _ m (bm, 1), fill_rows _ m y.length (bm, 1) TL.out hly, ← TT.out] at o2
      have O2 := Lib.hid o2
      have zO := oO.lt
      have hW2 := (hW.setCell (p := ⟨GO, m * 2, none⟩) zO1 (.int .i64 bm)).setCell (p := ⟨GO, m * 2 + 1, none⟩) zO1 (.int .i64 1)
      clear o2
      obtain ⟨L, hL⟩ : ∃ L, L = fcs ((rights B).take m ++ List.replicate (y.length - m) (0, 0)) := ⟨_, rfl⟩
      rw [← hL] at oO g1 g2
      clear hL
      obtain ⟨rO, fO⟩ := oO.rules
      go_wp2
      go_roundw
      case rel => exact ⟨m + 1, by omega, by go_num, O2.out, hW2⟩
      case measure => simp [intOf]; try omega
    · obtain rfl : m = B.length := by omega
      have sR : SF W (.slice (some ⟨GO, 0, none⟩) y.length y.length) (rights B) := by
        unfold SF
        rw [rights_len, ← LE.out]
        refine oO.sl (n := y.length) y.length (Nat.le_refl _) (by omega) _ ?_
        rw [List.take_of_length_le (by rw [rights_len]; exact Nat.le_refl _)]
        exact ⟨fcs (List.replicate (y.length - B.length) (0, 0)), by rw [fcs_append]⟩
      clear oO
      have oR := oR2.out.below hW
      have sY := SX2.out.below hW
      have hB := below_to hY hW
      have G1 := Lib.hid (prod_ok (a := y) (b := rights B) (k := y.length) (Nat.le_refl _) (by rw [rights_len]; exact l2) WV.out RV.out)
      have S1 := Lib.hid (prod_ok (a := y) (b := y) (k := y.length) (Nat.le_refl _) (Nat.le_refl _) WV.out WV.out)
      have GI := Lib.hid (gsum_i64 (prodT y (rights B)) y.length)
      have SI' := Lib.hid (gsum_i64 (prodT y y) y.length)
      clear hW
      go_wp2_with fail
      refine (dprod_any y (rights B) _ _ _ sY sR (by rw [rights_len]; exact l2) WV.out RV.out).mono ?_
      rintro e y3 ⟨rfl, hq⟩
      replace oR := oR.below hq
      replace sY := sY.below hq
      replace hB := below_to hB hq
      clear hq sR
      generalize gsum (prodT y (rights B)) y.length = g at *
      obtain ⟨rR, fR⟩ := oR.rules
      have zR := oR.lt
      by_cases h1 : g.e = 0
      case neg =>
        have HV2 := Lib.hid (dval_g (s := gsum (prodT y y) y.length) h1)
        have b2 : (g.e != 0) = true := by simpa using h1
        clear h1 sY
        go_wp2
        replace oR := (((oR).set 0 (.int .i64 0)).set 1 (.int .i64 0)).alloc (.cells #[.int .i64 g.n, .int .i64 g.d] 78)
        replace hB := (((hB).setCell (p := ⟨w.heap.size + 1, 0, none⟩) (by first | omega | (simp; done) | (simp; omega)) (.int .i64 0)).setCell (p := ⟨w.heap.size + 1, 1, none⟩) (by first | omega | (simp; done) | (simp; omega)) (.int .i64 0)).alloc (by first | omega | (simp; done) | (simp; omega)) (.cells #[.int .i64 g.n, .int .i64 g.d] 78)
        refine bp_gen' (fun W => Own W _ _ _ ∧ Below w.heap.size w W) ⟨oR, hB⟩ ?_
        rintro wz ⟨oz, bz⟩
        obtain ⟨rz, fz⟩ := oz.rules
        clear oz
        refine bodyPost_ret (v := .tuple #[.agg #[.int .i64 0, .int .i64 0], .int .i64 g.e]) (by simp [results, Try.results146, go_sem, rz]) rfl ⟨by rw [HV.out, HV2.out], ?_⟩
        exact bz
      have b2 : (g.e != 0) = false := by simp [h1]
      have E1 := Lib.hid h1
      clear h1
      go_wp2_with fail
      refine (dprod_any y y _ _ _ (sY.below (ba1 y3 _)) (sY.below (ba1 y3 _)) (Nat.le_refl _) WV.out WV.out).mono ?_
      rintro e y4 ⟨rfl, hq⟩
      have oP := (Own.new y3 78 [.int .i64 g.n, .int .i64 g.d]).below hq
      replace hq := below_to (ba1 y3 (.cells #[.int .i64 g.n, .int .i64 g.d] 78)) hq
      obtain ⟨bP, hbP⟩ : ∃ G, G = y3.heap.size := ⟨_, rfl⟩
      rw [← hbP] at oP ⊢
      have zP0 : y3.heap.size ≤ bP := by rw [hbP]; exact Nat.le_refl _
      clear hbP
      clear rR fR zR
      replace oR := oR.below hq
      replace hB := below_to hB hq
      clear hq
      obtain ⟨rR, fR⟩ := oR.rules
      have zR := oR.lt
      obtain ⟨rP, fP⟩ := oP.rules
      have zP := oP.lt
      clear sY
      generalize gsum (prodT y y) y.length = s at *
      by_cases h2 : s.e = 0
      case neg =>
        have HV2 := Lib.hid (dval_s E1.out h2)
        have b3 : (s.e != 0) = true := by simpa using h2
        clear h2
        go_wp2
        replace oR := (((oR).set 0 (.int .i64 0)).set 1 (.int .i64 0)).alloc (.cells #[.int .i64 s.n, .int .i64 s.d] 78)
        replace hB := (((hB).setCell (p := ⟨w.heap.size + 1, 0, none⟩) (by first | omega | (simp; done) | (simp; omega)) (.int .i64 0)).setCell (p := ⟨w.heap.size + 1, 1, none⟩) (by first | omega | (simp; done) | (simp; omega)) (.int .i64 0)).alloc (by first | omega | (simp; done) | (simp; omega)) (.cells #[.int .i64 s.n, .int .i64 s.d] 78)
        refine bp_gen' (fun W => Own W _ _ _ ∧ Below w.heap.size w W) ⟨oR, hB⟩ ?_
        rintro wz ⟨oz, bz⟩
        obtain ⟨rz, fz⟩ := oz.rules
        clear oz
        refine bodyPost_ret (v := .tuple #[.agg #[.int .i64 0, .int .i64 0], .int .i64 s.e]) (by simp [results, Try.results146, go_sem, rz]) rfl ⟨by rw [HV.out, HV2.out], ?_⟩
        exact bz
      have b3 : (s.e != 0) = false := by simp [h2]
      have E2 := Lib.hid h2
      have H2 := Lib.hid (fmul_FOk (S1.out.v h2) (show fchk 1 2 = 0 by decide))
      have PH := Lib.hid (dval_h E1.out h2)
      have P0 := Lib.hid (dval_0 E1.out h2)
      have J1 := Lib.hid (fmul_i64 s.n s.d 1 2)
      clear h2
      go_wp2_with fail
      refine (fmul_any s.n s.d 1 2 _ SI'.out.1 SI'.out.2 ⟨by decide, by decide⟩ ⟨by decide, by decide⟩).mono ?_
      rintro e y5 ⟨rfl, hq⟩
      have oQ := (Own.new y4 78 [.int .i64 s.n, .int .i64 s.d]).below hq
      replace hq := below_to (ba1 y4 (.cells #[.int .i64 s.n, .int .i64 s.d] 78)) hq
      obtain ⟨bQ, hbQ⟩ : ∃ G, G = y4.heap.size := ⟨_, rfl⟩
      rw [← hbQ] at oQ ⊢
      have zQ0 : y4.heap.size ≤ bQ := by rw [hbQ]; exact Nat.le_refl _
      clear hbQ
      clear rR fR zR rP fP zP
      replace oR := oR.below hq
      replace oP := oP.below hq
      replace hB := below_to hB hq
      clear hq
      obtain ⟨rR, fR⟩ := oR.rules
      have zR := oR.lt
      obtain ⟨rP, fP⟩ := oP.rules
      have zP := oP.lt
      obtain ⟨rQ, fQ⟩ := oQ.rules
      have zQ := oQ.lt
      generalize fmul s.n s.d 1 2 = hf at *
      by_cases h3 : hf.e = 0
      case neg =>
        have HV2 := Lib.hid (PH.out h3)
        have b4 : (hf.e != 0) = true := by simpa using h3
        clear h3 PH P0
        go_wp2
        replace oR := (((oR).set 0 (.int .i64 0)).set 1 (.int .i64 0)).alloc (.cells #[.int .i64 hf.n, .int .i64 hf.d] 78)
        replace hB := (((hB).setCell (p := ⟨w.heap.size + 1, 0, none⟩) (by first | omega | (simp; done) | (simp; omega)) (.int .i64 0)).setCell (p := ⟨w.heap.size + 1, 1, none⟩) (by first | omega | (simp; done) | (simp; omega)) (.int .i64 0)).alloc (by first | omega | (simp; done) | (simp; omega)) (.cells #[.int .i64 hf.n, .int .i64 hf.d] 78)
        refine bp_gen' (fun W => Own W _ _ _ ∧ Below w.heap.size w W) ⟨oR, hB⟩ ?_
        rintro wz ⟨oz, bz⟩
        obtain ⟨rz, fz⟩ := oz.rules
        clear oz
        refine bodyPost_ret (v := .tuple #[.agg #[.int .i64 0, .int .i64 0], .int .i64 16]) (by simp [results, Try.results146, go_sem, rz]) rfl ⟨by rw [HV.out, HV2.out], ?_⟩
        exact bz
      have b4 : (hf.e != 0) = false := by simp [h3]
      have HV2 := Lib.hid (P0.out h3)
      have F5 := Lib.hid (fsub_FOk (G1.out.v E1.out) (H2.out.v h3))
      clear h3 PH P0
      go_wp2_with fail
      refine (fsub_any g.n g.d hf.n hf.d _ GI.out.1 GI.out.2 J1.out.1 J1.out.2).mono ?_
      rintro e y6 ⟨rfl, hq⟩
      replace hq := below_to (ba1 y5 _) hq
      clear rR fR zR rP fP zP rQ fQ zQ
      replace oR := oR.below hq
      replace oP := oP.below hq
      replace oQ := oQ.below hq
      replace hB := below_to hB hq
      clear hq
      obtain ⟨rR, fR⟩ := oR.rules
      have zR := oR.lt
      obtain ⟨rP, fP⟩ := oP.rules
      have zP := oP.lt
      obtain ⟨rQ, fQ⟩ := oQ.rules
      have zQ := oQ.lt
      generalize fsub g.n g.d hf.n hf.d = r at *
      by_cases h5 : r.e = 0
      case neg =>
        have E5 := Lib.hid (F5.out.e h5)
        have b6 : (r.e != 0) = true := by simpa using h5
        clear h5
        go_wp2
        replace oR := (((oR).set 0 (.int .i64 0)).set 1 (.int .i64 0)).alloc (.cells #[.int .i64 r.n, .int .i64 r.d] 78)
        replace hB := (((hB).setCell (p := ⟨w.heap.size + 1, 0, none⟩) (by first | omega | (simp; done) | (simp; omega)) (.int .i64 0)).setCell (p := ⟨w.heap.size + 1, 1, none⟩) (by first | omega | (simp; done) | (simp; omega)) (.int .i64 0)).alloc (by first | omega | (simp; done) | (simp; omega)) (.cells #[.int .i64 r.n, .int .i64 r.d] 78)
        refine bp_gen' (fun W => Own W _ _ _ ∧ Below w.heap.size w W) ⟨oR, hB⟩ ?_
        rintro wz ⟨oz, bz⟩
        obtain ⟨rz, fz⟩ := oz.rules
        clear oz
        refine bodyPost_ret (v := .tuple #[.agg #[.int .i64 0, .int .i64 0], .int .i64 16]) (by simp [results, Try.results146, go_sem, rz]) rfl ⟨by rw [HV.out, HV2.out, E5.out], ?_⟩
        exact bz
      have b6 : (r.e != 0) = false := by simp [h5]
      have E5 := Lib.hid h5
      clear h5
      go_wp2
      replace oR := (((oR).set 0 (.int .i64 r.n)).set 1 (.int .i64 r.d)).alloc (.cells #[.int .i64 r.n, .int .i64 r.d] 78)
      replace hB := (((hB).setCell (p := ⟨w.heap.size + 1, 0, none⟩) (by first | omega | (simp; done) | (simp; omega)) (.int .i64 r.n)).setCell (p := ⟨w.heap.size + 1, 1, none⟩) (by first | omega | (simp; done) | (simp; omega)) (.int .i64 r.d)).alloc (by first | omega | (simp; done) | (simp; omega)) (.cells #[.int .i64 r.n, .int .i64 r.d] 78)
      refine bp_gen' (fun W => Own W _ _ _ ∧ Below w.heap.size w W) ⟨oR, hB⟩ ?_
      rintro wz ⟨oz, bz⟩
      obtain ⟨rz, fz⟩ := oz.rules
      clear oz
      refine bodyPost_ret (v := .tuple #[.agg #[.int .i64 r.n, .int .i64 r.d], .int .i64 0]) (by simp [results, Try.results146, go_sem, rz]) rfl ⟨by rw [HV.out, HV2.out, E5.out], ?_⟩
      exact bz
end Go.Proofs.Ythlcmlngmcoknaa
