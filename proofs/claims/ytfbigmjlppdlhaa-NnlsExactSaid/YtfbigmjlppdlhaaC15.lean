/- What is proved here: contracts of functions and plain facts, several texts in one; each one says ahead what it proves, and its conditions. -/
import Derived.Test.YtfbigmjlppdlhaaC14
import Derived.Test.YtfbigmjlppdlhaaC05
import Derived.Test.YtfbigmjlppdlhaaC07
import Derived.Test.YtfbigmjlppdlhaaC06
/- What is proved here: the contract of frac.Add. Condition: 64-bit numbers. -/
namespace Go.Proofs.Ytfbigmjlppdlhaa
open Go.RowKit

set_option maxRecDepth 100000 in
set_option maxHeartbeats 4000000 in
theorem fadd_any (an ad bn bd : Int) (w : World) (h1 : i64 an) (h2 : i64 ad) (h3 : i64 bn) (h4 : i64 bd) :
    Calls Try.prog 63 #[.agg #[.int .i64 an, .int .i64 ad], .agg #[.int .i64 bn, .int .i64 bd]] w fun e w' => e = .returned (.tuple #[.agg #[.int .i64 (fadd an ad bn bd).n, .int .i64 (fadd an ad bn bd).d], .int .i64 (fadd an ad bn bd).e]) ∧ Below w.heap.size w w' := by
  by_cases hb : fboth an ad bn bd = 0
  case neg =>
    have HV := Lib.hid (fadd_8 hb)
    have b1 : (fboth an ad bn bd != 0) = true := by simpa using hb
    clear hb
    go_enter Try.func63, Try.ntmps63
    have oA := (own_first w 34 [.int .i64 an, .int .i64 ad] (.cells #[.int .i64 bn, .int .i64 bd] 34)).alloc (.cells #[.int .i64 0, .int .i64 0] 34)
    have oB := (own_second w 34 [.int .i64 bn, .int .i64 bd] (.cells #[.int .i64 an, .int .i64 ad] 34)).alloc (.cells #[.int .i64 0, .int .i64 0] 34)
    have oR := own_third w 34 [.int .i64 0, .int .i64 0] (.cells #[.int .i64 an, .int .i64 ad] 34) (.cells #[.int .i64 bn, .int .i64 bd] 34)
    have hB := ba3 w (.cells #[.int .i64 an, .int .i64 ad] 34) (.cells #[.int .i64 bn, .int .i64 bd] 34) (.cells #[.int .i64 0, .int .i64 0] 34)
    go_wp2_with fail
    generalize ((w.alloc (.cells #[.int .i64 an, .int .i64 ad] 34)).alloc (.cells #[.int .i64 bn, .int .i64 bd] 34)).alloc (.cells #[.int .i64 0, .int .i64 0] 34) = y0 at *
    obtain ⟨rA, fA⟩ := oA.rules
    have zA := oA.lt
    obtain ⟨rB, fB⟩ := oB.rules
    have zB := oB.lt
    obtain ⟨rR, fR⟩ := oR.rules
    have zR := oR.lt
    refine (frboth_any _ _ _ _ _ h1 h2 h3 h4).mono ?_
    rintro e y1 ⟨rfl, hq⟩
    clear rA fA zA rB fB zB rR fR zR
    replace oA := oA.below hq
    replace oB := oB.below hq
    replace oR := oR.below hq
    replace hB := below_to hB hq
    clear hq
    obtain ⟨rA, fA⟩ := oA.rules
    have zA := oA.lt
    obtain ⟨rB, fB⟩ := oB.rules
    have zB := oB.lt
    obtain ⟨rR, fR⟩ := oR.rules
    have zR := oR.lt
    generalize fboth an ad bn bd = fe at *
    go_wp2
    refine bp_gen' (fun W => Own W (w.heap.size + 1 + 1) 34 [.int .i64 0, .int .i64 0] ∧ Below w.heap.size w W) ⟨(oR.set 0 (.int .i64 0)).set 1 (.int .i64 0), ?_⟩ ?_
    · repeat (refine Below.setCell ?_ (by first | omega | (simp; done) | (simp; omega)) _)
      exact hB
    rintro wz ⟨oz, bz⟩
    obtain ⟨rz, fz⟩ := oz.rules
    clear oz
    refine bodyPost_ret (v := .tuple #[.agg #[.int .i64 0, .int .i64 0], .int .i64 fe]) (by simp [results, Try.results63, go_sem, rz]) rfl ⟨by rw [HV.out], ?_⟩
    repeat (refine Below.setCell ?_ (by first | omega | (simp; done) | (simp; omega)) _)
    exact bz
  obtain ⟨c1, c2⟩ := fboth_ok hb
  obtain ⟨k1, k2, k3, k4, _⟩ := fok_of c1
  obtain ⟨l1, l2, l3, l4, _⟩ := fok_of c2
  have HV := Lib.hid (fadd_0 hb)
  have b1 : (fboth an ad bn bd != 0) = false := by simp [hb]
  have C1 := Lib.hid c1
  have C2 := Lib.hid c2
  clear hb c1 c2
  go_enter Try.func63, Try.ntmps63
  have oA := (own_first w 34 [.int .i64 an, .int .i64 ad] (.cells #[.int .i64 bn, .int .i64 bd] 34)).alloc (.cells #[.int .i64 0, .int .i64 0] 34)
  have oB := (own_second w 34 [.int .i64 bn, .int .i64 bd] (.cells #[.int .i64 an, .int .i64 ad] 34)).alloc (.cells #[.int .i64 0, .int .i64 0] 34)
  have oR := own_third w 34 [.int .i64 0, .int .i64 0] (.cells #[.int .i64 an, .int .i64 ad] 34) (.cells #[.int .i64 bn, .int .i64 bd] 34)
  have hB := ba3 w (.cells #[.int .i64 an, .int .i64 ad] 34) (.cells #[.int .i64 bn, .int .i64 bd] 34) (.cells #[.int .i64 0, .int .i64 0] 34)
  go_wp2_with fail
  generalize ((w.alloc (.cells #[.int .i64 an, .int .i64 ad] 34)).alloc (.cells #[.int .i64 bn, .int .i64 bd] 34)).alloc (.cells #[.int .i64 0, .int .i64 0] 34) = y0 at *
  obtain ⟨rA, fA⟩ := oA.rules
  have zA := oA.lt
  obtain ⟨rB, fB⟩ := oB.rules
  have zB := oB.lt
  obtain ⟨rR, fR⟩ := oR.rules
  have zR := oR.lt
  refine (frboth_any _ _ _ _ _ h1 h2 h3 h4).mono ?_
  rintro e y1 ⟨rfl, hq⟩
  clear rA fA zA rB fB zB rR fR zR
  replace oA := oA.below hq
  replace oB := oB.below hq
  replace oR := oR.below hq
  replace hB := below_to hB hq
  clear hq
  obtain ⟨rA, fA⟩ := oA.rules
  have zA := oA.lt
  obtain ⟨rB, fB⟩ := oB.rules
  have zB := oB.lt
  obtain ⟨rR, fR⟩ := oR.rules
  have zR := oR.lt
  go_wp2_with fail
  refine (fsum_any an ad bn bd _ C1.out C2.out).mono ?_
  rintro e y2 ⟨rfl, hq⟩
  clear rA fA zA rB fB zB rR fR zR
  replace oA := oA.below hq
  replace oB := oB.below hq
  replace oR := oR.below hq
  replace hB := below_to hB hq
  clear hq
  obtain ⟨rA, fA⟩ := oA.rules
  have zA := oA.lt
  obtain ⟨rB, fB⟩ := oB.rules
  have zB := oB.lt
  obtain ⟨rR, fR⟩ := oR.rules
  have zR := oR.lt
  generalize pack (Rat.divInt an ad + Rat.divInt bn bd) = r at *
  go_wp2
  refine bp_gen' (fun W => Own W (w.heap.size + 1 + 1) 34 [.int .i64 r.n, .int .i64 r.d] ∧ Below w.heap.size w W) ⟨(oR.set 0 (.int .i64 r.n)).set 1 (.int .i64 r.d), ?_⟩ ?_
  · repeat (refine Below.setCell ?_ (by first | omega | (simp; done) | (simp; omega)) _)
    exact hB
  rintro wz ⟨oz, bz⟩
  obtain ⟨rz, fz⟩ := oz.rules
  clear oz
  refine bodyPost_ret (v := .tuple #[.agg #[.int .i64 r.n, .int .i64 r.d], .int .i64 r.e]) (by simp [results, Try.results63, go_sem, rz]) rfl ⟨by rw [HV.out], ?_⟩
  repeat (refine Below.setCell ?_ (by first | omega | (simp; done) | (simp; omega)) _)
  exact bz
end Go.Proofs.Ytfbigmjlppdlhaa

/- What is proved here: the contract of nnls.dot. Condition: small numbers, as many valid fractions. -/
namespace Go.Proofs.Ytfbigmjlppdlhaa
open Go.RowKit

theorem i64_1 : i64 1 := ⟨by decide, by decide⟩
theorem i64_small {a : Int} (h1 : -1000 ≤ a) (h2 : a ≤ 1000) : i64 a := ⟨by omega, by omega⟩
set_option maxRecDepth 100000 in
set_option maxHeartbeats 8000000 in
theorem ndot_any (a : List Int) (x : List (Int × Int)) (u v : Value) (w : World) (hu : SI w u a) (hv : SF w v x) (hl : a.length ≤ x.length) (ha : ∀ i (h : i < a.length), -1000 ≤ a[i] ∧ a[i] ≤ 1000) (hx : ∀ i (h : i < x.length), fchk x[i].1 x[i].2 = 0) :
    Calls Try.prog 66 #[u, v] w fun e w' => e = .returned (.tuple #[.agg #[.int .i64 (gsum (dotT a x) a.length).n, .int .i64 (gsum (dotT a x) a.length).d], .int .i64 (gsum (dotT a x) a.length).e]) ∧ Below w.heap.size w w' := by
  have hu0 := Lib.hid hu
  have hv0 := Lib.hid hv
  have HA := Lib.hid ha
  have HX := Lib.hid hx
  obtain ⟨ada, capa, rfl, ha1, ha2, _⟩ := hu.open
  obtain ⟨adx, capx, rfl, hx1, hx2, _⟩ := hv.open
  clear hu hv ha hx
  go_enter Try.func66, Try.ntmps66
  have oR := own_first w 34 [.int .i64 0, .int .i64 0] (.cells #[.int .i64 0, .int .i64 1] 34)
  have oS := own_second w 34 [.int .i64 0, .int .i64 1] (.cells #[.int .i64 0, .int .i64 0] 34)
  have hB := ba2 w (.cells #[.int .i64 0, .int .i64 0] 34) (.cells #[.int .i64 0, .int .i64 1] 34)
  go_wp2_with fail
  go_loopw [14] (fun i wr => ∃ k : Nat, k ≤ a.length ∧ i = .int .i64 k ∧ Hid ((gsum (dotT a x) k).e = 0) ∧ Own wr w.heap.size 34 [.int .i64 0, .int .i64 0] ∧ Own wr (w.heap.size + 1) 34 [.int .i64 (gsum (dotT a x) k).n, .int .i64 (gsum (dotT a x) k).d] ∧ Below w.heap.size w wr) (fun i _ => a.length - (intOf i).toNat)
  case atStart => exact ⟨0, Nat.zero_le _, rfl, rfl, oR, oS, hB⟩
  case round =>
    clear oR oS hB
    obtain ⟨k, hk, rfl, he, oR, oS, hB⟩ := hrel
    rename World => W
    by_cases hlt : k < a.length
    · have hkx : k < x.length := by omega
      obtain ⟨_, _, e, _, _, H⟩ := (hu0.out.below hB).open
      cases e
      obtain ⟨b, off, rfl, c1⟩ := H.out k hlt
      obtain ⟨_, _, e, _, _, H'⟩ := (hv0.out.below hB).open
      cases e
      obtain ⟨b', off', rfl, c2, c3⟩ := H'.out k hkx
      clear H H'
      have J1 := Lib.hid (gsum_i64 (dotT a x) k)
      have J2 := Lib.hid (i64_small (HA.out k hlt).1 (HA.out k hlt).2)
      have J3 := Lib.hid (fr_i64 (HX.out k hkx))
      have F1 := Lib.hid (fmul_FOk (fchk_small (HA.out k hlt).1 (HA.out k hlt).2) (HX.out k hkx))
      have F2 := Lib.hid (dot_ok (a := a) (x := x) (k := k + 1) (by omega) hl HA.out HX.out)
      have HP := Lib.hid (dot_succ hlt hkx he.out)
      have HE := Lib.hid (fun h => gsum_end (t := dotT a x) hlt h F2.out)
      generalize a[k] = c at *
      generalize x[k].1 = xn at *
      generalize x[k].2 = xd at *
      generalize (gsum (dotT a x) k).n = sn at *
      generalize (gsum (dotT a x) k).d = sd at *
      generalize hpp : gsum (dotT a x) (k + 1) = p at *
      have HPP := Lib.hid hpp
      clear hpp
      obtain ⟨rR, fR⟩ := oR.rules
      have zR := oR.lt
      obtain ⟨rS, fS⟩ := oS.rules
      have zS := oS.lt
      go_wp2_with fail
      refine (fmul_any c 1 xn xd _ J2.out i64_1 J3.out.1 J3.out.2).mono ?_
      rintro e y1 ⟨rfl, hq⟩
      clear rR fR zR rS fS zS
      replace oR := oR.below hq
      replace oS := oS.below hq
      replace hB := below_to hB hq
      clear hq
      obtain ⟨rR, fR⟩ := oR.rules
      have zR := oR.lt
      obtain ⟨rS, fS⟩ := oS.rules
      have zS := oS.lt
      have M2 := Lib.hid (fmul_i64 c 1 xn xd)
      have P0 := Lib.hid (fplus_0 (sn := sn) (sd := sd) (an := c) (ad := 1) (bn := xn) (bd := xd))
      have P1 := Lib.hid (fplus_1 (sn := sn) (sd := sd) (an := c) (ad := 1) (bn := xn) (bd := xd))
      generalize fmul c 1 xn xd = m at *
      by_cases h1 : m.e = 0
      · have b1 : (m.e != 0) = false := by simp [h1]
        have HQ : Hid (p = fadd sn sd m.n m.d) := HP.out.trans (P0.out h1)
        clear h1 P0 P1 HP F1
        go_wp2_with fail
        refine (fadd_any sn sd m.n m.d _ J1.out.1 J1.out.2 M2.out.1 M2.out.2).mono ?_
        rintro e y2 ⟨rfl, hq⟩
        replace hq := below_to (ba1 y1 _) hq
        clear rR fR zR rS fS zS
        replace oR := oR.below hq
        replace oS := oS.below hq
        replace hB := below_to hB hq
        clear hq
        obtain ⟨rR, fR⟩ := oR.rules
        have zR := oR.lt
        obtain ⟨rS, fS⟩ := oS.rules
        have zS := oS.lt
        rw [← HQ.out]
        by_cases h2 : p.e = 0
        · have b2 : (p.e != 0) = false := by simp [h2]
          have E2 := Lib.hid h2
          clear h2
          go_wp2
          go_roundw
          replace oR := ((oR).other (g' := w.heap.size + 1) (by first | omega | (simp; done) | (simp; omega)) 0 (.int .i64 p.n)).other (g' := w.heap.size + 1) (by first | omega | (simp; done) | (simp; omega)) 1 (.int .i64 p.d)
          replace oS := ((oS).set 0 (.int .i64 p.n)).set 1 (.int .i64 p.d)
          replace hB := ((hB).setCell (p := ⟨w.heap.size + 1, 0, none⟩) (by first | omega | (simp; done) | (simp; omega)) (.int .i64 p.n)).setCell (p := ⟨w.heap.size + 1, 1, none⟩) (by first | omega | (simp; done) | (simp; omega)) (.int .i64 p.d)
          case rel => exact ⟨k + 1, by omega, by go_num, by rw [HPP.out]; exact E2, oR, by rw [HPP.out]; exact oS, hB⟩
          case measure => simp [intOf]; try omega
        · have b2 : (p.e != 0) = true := by simpa using h2
          have HV := Lib.hid (HE.out h2)
          clear h2
          go_wp2
          replace oR := ((((oR).other (g' := w.heap.size + 1) (by first | omega | (simp; done) | (simp; omega)) 0 (.int .i64 p.n)).other (g' := w.heap.size + 1) (by first | omega | (simp; done) | (simp; omega)) 1 (.int .i64 p.d)).set 0 (.int .i64 0)).set 1 (.int .i64 0)
          replace hB := ((((hB).setCell (p := ⟨w.heap.size + 1, 0, none⟩) (by first | omega | (simp; done) | (simp; omega)) (.int .i64 p.n)).setCell (p := ⟨w.heap.size + 1, 1, none⟩) (by first | omega | (simp; done) | (simp; omega)) (.int .i64 p.d)).setCell (p := ⟨w.heap.size, 0, none⟩) (by first | omega | (simp; done) | (simp; omega)) (.int .i64 0)).setCell (p := ⟨w.heap.size, 1, none⟩) (by first | omega | (simp; done) | (simp; omega)) (.int .i64 0)
          refine bp_gen' (fun W => Own W _ _ _ ∧ Below w.heap.size w W) ⟨oR, hB⟩ ?_
          rintro wz ⟨oz, bz⟩
          obtain ⟨rz, fz⟩ := oz.rules
          clear oz
          refine bodyPost_ret (v := .tuple #[.agg #[.int .i64 0, .int .i64 0], .int .i64 16]) (by simp [results, Try.results66, go_sem, rz]) rfl ⟨by rw [HV.out], ?_⟩
          exact bz
      · have b1 : (m.e != 0) = true := by simpa using h1
        have HV : Hid (gsum (dotT a x) a.length = ⟨0, 0, 16⟩) := by
          have e1 := HP.out.trans (P1.out h1)
          refine HE.out ?_
          rw [e1]; exact h1
        clear h1 P0 P1 HP F1
        go_wp2
        replace oR := (((oR).set 0 (.int .i64 0)).set 1 (.int .i64 0)).alloc (.cells #[.int .i64 m.n, .int .i64 m.d] 34)
        replace hB := (((hB).setCell (p := ⟨w.heap.size, 0, none⟩) (by first | omega | (simp; done) | (simp; omega)) (.int .i64 0)).setCell (p := ⟨w.heap.size, 1, none⟩) (by first | omega | (simp; done) | (simp; omega)) (.int .i64 0)).alloc (by first | omega | (simp; done) | (simp; omega)) (.cells #[.int .i64 m.n, .int .i64 m.d] 34)
        refine bp_gen' (fun W => Own W _ _ _ ∧ Below w.heap.size w W) ⟨oR, hB⟩ ?_
        rintro wz ⟨oz, bz⟩
        obtain ⟨rz, fz⟩ := oz.rules
        clear oz
        refine bodyPost_ret (v := .tuple #[.agg #[.int .i64 0, .int .i64 0], .int .i64 16]) (by simp [results, Try.results66, go_sem, rz]) rfl ⟨by rw [HV.out], ?_⟩
        exact bz
    · obtain rfl : k = a.length := by omega
      obtain ⟨p, hp⟩ : ∃ p, p = gsum (dotT a x) a.length := ⟨_, rfl⟩
      rw [← hp] at he oS
      have HP := Lib.hid hp
      clear hp
      obtain ⟨rR, fR⟩ := oR.rules
      have zR := oR.lt
      obtain ⟨rS, fS⟩ := oS.rules
      have zS := oS.lt
      go_wp2
      replace oR := ((oR).set 0 (.int .i64 p.n)).set 1 (.int .i64 p.d)
      replace hB := ((hB).setCell (p := ⟨w.heap.size, 0, none⟩) (by first | omega | (simp; done) | (simp; omega)) (.int .i64 p.n)).setCell (p := ⟨w.heap.size, 1, none⟩) (by first | omega | (simp; done) | (simp; omega)) (.int .i64 p.d)
      refine bp_gen' (fun W => Own W _ _ _ ∧ Below w.heap.size w W) ⟨oR, hB⟩ ?_
      rintro wz ⟨oz, bz⟩
      obtain ⟨rz, fz⟩ := oz.rules
      clear oz
      refine bodyPost_ret (v := .tuple #[.agg #[.int .i64 p.n, .int .i64 p.d], .int .i64 0]) (by simp [results, Try.results66, go_sem, rz]) rfl ⟨by rw [← HP.out, he.out], ?_⟩
      exact bz
end Go.Proofs.Ytfbigmjlppdlhaa

/- What is proved here: the contract of frac.Sub. Condition: 64-bit numbers. -/
namespace Go.Proofs.Ytfbigmjlppdlhaa
open Go.RowKit

set_option maxRecDepth 100000 in
set_option maxHeartbeats 4000000 in
theorem fsub_any (an ad bn bd : Int) (w : World) (h1 : i64 an) (h2 : i64 ad) (h3 : i64 bn) (h4 : i64 bd) :
    Calls Try.prog 67 #[.agg #[.int .i64 an, .int .i64 ad], .agg #[.int .i64 bn, .int .i64 bd]] w fun e w' => e = .returned (.tuple #[.agg #[.int .i64 (fsub an ad bn bd).n, .int .i64 (fsub an ad bn bd).d], .int .i64 (fsub an ad bn bd).e]) ∧ Below w.heap.size w w' := by
  by_cases hb : fboth an ad bn bd = 0
  case neg =>
    have HV := Lib.hid (fsub_8 hb)
    have b1 : (fboth an ad bn bd != 0) = true := by simpa using hb
    clear hb
    go_enter Try.func67, Try.ntmps67
    have oA := (own_first w 34 [.int .i64 an, .int .i64 ad] (.cells #[.int .i64 bn, .int .i64 bd] 34)).alloc (.cells #[.int .i64 0, .int .i64 0] 34)
    have oB := (own_second w 34 [.int .i64 bn, .int .i64 bd] (.cells #[.int .i64 an, .int .i64 ad] 34)).alloc (.cells #[.int .i64 0, .int .i64 0] 34)
    have oR := own_third w 34 [.int .i64 0, .int .i64 0] (.cells #[.int .i64 an, .int .i64 ad] 34) (.cells #[.int .i64 bn, .int .i64 bd] 34)
    have hB := ba3 w (.cells #[.int .i64 an, .int .i64 ad] 34) (.cells #[.int .i64 bn, .int .i64 bd] 34) (.cells #[.int .i64 0, .int .i64 0] 34)
    go_wp2_with fail
    generalize ((w.alloc (.cells #[.int .i64 an, .int .i64 ad] 34)).alloc (.cells #[.int .i64 bn, .int .i64 bd] 34)).alloc (.cells #[.int .i64 0, .int .i64 0] 34) = y0 at *
    obtain ⟨rA, fA⟩ := oA.rules
    have zA := oA.lt
    obtain ⟨rB, fB⟩ := oB.rules
    have zB := oB.lt
    obtain ⟨rR, fR⟩ := oR.rules
    have zR := oR.lt
    refine (frboth_any _ _ _ _ _ h1 h2 h3 h4).mono ?_
    rintro e y1 ⟨rfl, hq⟩
    clear rA fA zA rB fB zB rR fR zR
    replace oA := oA.below hq
    replace oB := oB.below hq
    replace oR := oR.below hq
    replace hB := below_to hB hq
    clear hq
    obtain ⟨rA, fA⟩ := oA.rules
    have zA := oA.lt
    obtain ⟨rB, fB⟩ := oB.rules
    have zB := oB.lt
    obtain ⟨rR, fR⟩ := oR.rules
    have zR := oR.lt
    generalize fboth an ad bn bd = fe at *
    go_wp2
    refine bp_gen' (fun W => Own W (w.heap.size + 1 + 1) 34 [.int .i64 0, .int .i64 0] ∧ Below w.heap.size w W) ⟨(oR.set 0 (.int .i64 0)).set 1 (.int .i64 0), ?_⟩ ?_
    · repeat (refine Below.setCell ?_ (by first | omega | (simp; done) | (simp; omega)) _)
      exact hB
    rintro wz ⟨oz, bz⟩
    obtain ⟨rz, fz⟩ := oz.rules
    clear oz
    refine bodyPost_ret (v := .tuple #[.agg #[.int .i64 0, .int .i64 0], .int .i64 fe]) (by simp [results, Try.results67, go_sem, rz]) rfl ⟨by rw [HV.out], ?_⟩
    repeat (refine Below.setCell ?_ (by first | omega | (simp; done) | (simp; omega)) _)
    exact bz
  obtain ⟨c1, c2⟩ := fboth_ok hb
  obtain ⟨k1, k2, k3, k4, _⟩ := fok_of c1
  obtain ⟨l1, l2, l3, l4, _⟩ := fok_of c2
  have HV : Hid (fsub an ad bn bd = pack (Rat.divInt an ad + Rat.divInt (-bn) bd)) := by show _ = _; rw [fsub_0 hb, sub_as_add]
  have b1 : (fboth an ad bn bd != 0) = false := by simp [hb]
  have C1 := Lib.hid c1
  have C2 := Lib.hid (fchk_neg c2)
  clear hb c1 c2
  go_enter Try.func67, Try.ntmps67
  have oA := (own_first w 34 [.int .i64 an, .int .i64 ad] (.cells #[.int .i64 bn, .int .i64 bd] 34)).alloc (.cells #[.int .i64 0, .int .i64 0] 34)
  have oB := (own_second w 34 [.int .i64 bn, .int .i64 bd] (.cells #[.int .i64 an, .int .i64 ad] 34)).alloc (.cells #[.int .i64 0, .int .i64 0] 34)
  have oR := own_third w 34 [.int .i64 0, .int .i64 0] (.cells #[.int .i64 an, .int .i64 ad] 34) (.cells #[.int .i64 bn, .int .i64 bd] 34)
  have hB := ba3 w (.cells #[.int .i64 an, .int .i64 ad] 34) (.cells #[.int .i64 bn, .int .i64 bd] 34) (.cells #[.int .i64 0, .int .i64 0] 34)
  go_wp2_with fail
  generalize ((w.alloc (.cells #[.int .i64 an, .int .i64 ad] 34)).alloc (.cells #[.int .i64 bn, .int .i64 bd] 34)).alloc (.cells #[.int .i64 0, .int .i64 0] 34) = y0 at *
  obtain ⟨rA, fA⟩ := oA.rules
  have zA := oA.lt
  obtain ⟨rB, fB⟩ := oB.rules
  have zB := oB.lt
  obtain ⟨rR, fR⟩ := oR.rules
  have zR := oR.lt
  refine (frboth_any _ _ _ _ _ h1 h2 h3 h4).mono ?_
  rintro e y1 ⟨rfl, hq⟩
  clear rA fA zA rB fB zB rR fR zR
  replace oA := oA.below hq
  replace oB := oB.below hq
  replace oR := oR.below hq
  replace hB := below_to hB hq
  clear hq
  obtain ⟨rA, fA⟩ := oA.rules
  have zA := oA.lt
  obtain ⟨rB, fB⟩ := oB.rules
  have zB := oB.lt
  obtain ⟨rR, fR⟩ := oR.rules
  have zR := oR.lt
  go_wp2_with fail
  refine (fsum_any an ad (-bn) bd _ C1.out C2.out).mono ?_
  rintro e y2 ⟨rfl, hq⟩
  clear rA fA zA rB fB zB rR fR zR
  replace oA := oA.below hq
  replace oB := oB.below hq
  replace oR := oR.below hq
  replace hB := below_to hB hq
  clear hq
  obtain ⟨rA, fA⟩ := oA.rules
  have zA := oA.lt
  obtain ⟨rB, fB⟩ := oB.rules
  have zB := oB.lt
  obtain ⟨rR, fR⟩ := oR.rules
  have zR := oR.lt
  generalize pack (Rat.divInt an ad + Rat.divInt (-bn) bd) = r at *
  go_wp2
  refine bp_gen' (fun W => Own W (w.heap.size + 1 + 1) 34 [.int .i64 r.n, .int .i64 r.d] ∧ Below w.heap.size w W) ⟨(oR.set 0 (.int .i64 r.n)).set 1 (.int .i64 r.d), ?_⟩ ?_
  · repeat (refine Below.setCell ?_ (by first | omega | (simp; done) | (simp; omega)) _)
    exact hB
  rintro wz ⟨oz, bz⟩
  obtain ⟨rz, fz⟩ := oz.rules
  clear oz
  refine bodyPost_ret (v := .tuple #[.agg #[.int .i64 r.n, .int .i64 r.d], .int .i64 r.e]) (by simp [results, Try.results67, go_sem, rz]) rfl ⟨by rw [HV.out], ?_⟩
  repeat (refine Below.setCell ?_ (by first | omega | (simp; done) | (simp; omega)) _)
  exact bz
end Go.Proofs.Ytfbigmjlppdlhaa
