/- What is proved here: contracts of functions and plain facts, several texts in one; each one says ahead what it proves, and its conditions. -/
import Derived.Test.YthlcmlngmcoknaaC06
import Derived.Test.YthlcmlngmcoknaaC01
import Derived.Test.YthlcmlngmcoknaaC07
import Derived.Test.YthlcmlngmcoknaaC13
/- What is proved here: the contract of solve.sums. Condition: small numbers, as many valid fractions. -/
namespace Go.Proofs.Ythlcmlngmcoknaa
open Go.RowKit

theorem o_one : i64 1 := ⟨by decide, by decide⟩
theorem o_small {a : Int} (h1 : -1000 ≤ a) (h2 : a ≤ 1000) : i64 a := ⟨by omega, by omega⟩
/-- What the sum is after k products: not yet a fraction at first. -/
def osm (t : Nat → (Int × Int) × (Int × Int)) (k : Nat) : Int × Int := if k = 0 then (0, 0) else ((gsum t k).n, (gsum t k).d)
theorem osm_succ (t : Nat → (Int × Int) × (Int × Int)) (k : Nat) : osm t (k + 1) = ((gsum t (k + 1)).n, (gsum t (k + 1)).d) := if_neg (by omega)
theorem osm_pos {t : Nat → (Int × Int) × (Int × Int)} {k : Nat} (h : 0 < k) : osm t k = ((gsum t k).n, (gsum t k).d) := if_neg (by omega)
set_option maxRecDepth 100000 in
set_option maxHeartbeats 8000000 in
theorem osums_any (a : List Int) (x : List (Int × Int)) (r : Int) (u v : Value) (w : World) (hu : SI w u a) (hv : SF w v x) (hl : a.length ≤ x.length) (h0 : 0 < a.length) (ha : ∀ i (h : i < a.length), -1000 ≤ a[i] ∧ a[i] ≤ 1000) (hx : ∀ i (h : i < x.length), fchk x[i].1 x[i].2 = 0) :
    Calls Try.prog 74 #[u, v, .int .i64 r] w fun e w' => e = .returned (.bool (osums a x r)) ∧ Below w.heap.size w w' := by
  have hu0 := Lib.hid hu
  have hv0 := Lib.hid hv
  have HA := Lib.hid ha
  have HX := Lib.hid hx
  have L0 := Lib.hid h0
  obtain ⟨ada, capa, rfl, ha1, ha2, _⟩ := hu.open
  obtain ⟨adx, capx, rfl, hx1, hx2, _⟩ := hv.open
  clear hu hv ha hx
  go_enter Try.func74, Try.ntmps74
  have oS := Own.new w 78 [.int .i64 0, .int .i64 0]
  have hB := ba1 w (.cells #[.int .i64 0, .int .i64 0] 78)
  go_wp2_with fail
  go_loopw [14] (fun i wr => ∃ k : Nat, k ≤ a.length ∧ i = .int .i64 k ∧ Hid ((gsum (dotT a x) k).e = 0) ∧ Own wr w.heap.size 78 [.int .i64 (osm (dotT a x) k).1, .int .i64 (osm (dotT a x) k).2] ∧ Below w.heap.size w wr) (fun i _ => a.length - (intOf i).toNat)
  case atStart => exact ⟨0, Nat.zero_le _, rfl, rfl, oS, hB⟩
  case round =>
    clear oS hB
    obtain ⟨k, hk, rfl, he, oS, hB⟩ := hrel
    rename World => W
    by_cases hlt : k < a.length
    · have hkx : k < x.length := by omega
      obtain ⟨_, _, e, _, _, H⟩ := (hu0.out.below hB).open
      cases e
      obtain ⟨b, off, rfl, c1⟩ := H.out k hlt
      obtain ⟨_, _, e, _, _, H'⟩ := (hv0.out.below hB).open
      cases e
      obtain ⟨b', off', rfl, c2, c3⟩ := H'.out k hkx
      clear H H'
      have J1 := Lib.hid (gsum_i64 (dotT a x) k)
      have J2 := Lib.hid (o_small (HA.out k hlt).1 (HA.out k hlt).2)
      have J3 := Lib.hid (fr_i64 (HX.out k hkx))
      have HP := Lib.hid (dot_succ hlt hkx he.out)
      have HF : Hid (k = 0 → gsum (dotT a x) (k + 1) = fmul a[k] 1 x[k].1 x[k].2) := fun h => by
        have e0 := HP.out
        rw [e0]
        subst h
        exact dot_first (HA.out 0 hlt) (HX.out 0 hkx)
      have HE := Lib.hid (fun h => osums_err (x := x) (r := r) hlt h)
      have HM : Hid (∀ h : ¬ (fmul a[k] 1 x[k].1 x[k].2).e = 0, ¬ (gsum (dotT a x) (k + 1)).e = 0) := fun h => by rw [HP.out, fplus_1 h]; exact h
      have HQ : Hid ((fmul a[k] 1 x[k].1 x[k].2).e = 0 → gsum (dotT a x) (k + 1) = fadd (gsum (dotT a x) k).n (gsum (dotT a x) k).d (fmul a[k] 1 x[k].1 x[k].2).n (fmul a[k] 1 x[k].1 x[k].2).d) := fun h => by rw [HP.out, fplus_0 h]
      have OS := Lib.hid (osm_succ (dotT a x) k)
      have OP := Lib.hid (fun h => osm_pos (t := dotT a x) (k := k) h)
      have JO : Hid (i64 (osm (dotT a x) k).1 ∧ i64 (osm (dotT a x) k).2) := by
        show _ ∧ _
        unfold osm; split
        · exact ⟨i64_0, i64_0⟩
        · exact J1.out
      clear HP
      generalize a[k] = c at *
      generalize x[k].1 = xn at *
      generalize x[k].2 = xd at *
      generalize hpp : gsum (dotT a x) (k + 1) = p at *
      have HPP := Lib.hid hpp
      clear hpp
      obtain ⟨rS, fS⟩ := oS.rules
      have zS := oS.lt
      go_wp2_with fail
      refine (fmul_any c 1 xn xd _ J2.out o_one J3.out.1 J3.out.2).mono ?_
      rintro e y1 ⟨rfl, hq⟩
      clear rS fS zS
      replace oS := oS.below hq
      replace hB := below_to hB hq
      clear hq
      obtain ⟨rS, fS⟩ := oS.rules
      have zS := oS.lt
      have M2 := Lib.hid (fmul_i64 c 1 xn xd)
      generalize fmul c 1 xn xd = m at *
      have oM := Own.new y1 78 [.int .i64 m.n, .int .i64 m.d]
      have hq := ba1 y1 (.cells #[.int .i64 m.n, .int .i64 m.d] 78)
      have zS1 := oS.lt
      go_upto_region 6 with fail
      clear rS fS zS
      replace oS := oS.below hq
      replace hB := below_to hB hq
      clear hq
      obtain ⟨rS, fS⟩ := oS.rules
      have zS := oS.lt
      obtain ⟨bM, hbM⟩ : ∃ B, B = y1.heap.size := ⟨_, rfl⟩
      rw [← hbM] at oM zS1 ⊢
      clear hbM
      generalize y1.alloc (.cells #[.int .i64 m.n, .int .i64 m.d] 78) = y2 at *
      obtain ⟨rM, fM⟩ := oM.rules
      have zM := oM.lt
      by_cases h1 : m.e = 0
      case neg =>
        have b1 : (m.e != 0) = true := by simpa using h1
        have HV := Lib.hid (HE.out (HM.out h1))
        clear h1 HE HM HQ HF
        go_wp2
        go_ret
        exact ⟨by rw [HV.out]; try rfl, hB⟩
      have b1 : (m.e != 0) = false := by simp [h1]
      have HQ' := Lib.hid (HQ.out h1)
      have E1 := Lib.hid h1
      clear h1 HM HQ
      by_cases hk0 : k = 0
      · have d0 : ((k : Int) == 0) = true := by simp [hk0]
        have HV := Lib.hid (HF.out hk0)
        clear hk0 HF HE OP HQ'
        rw [HV.out] at HPP OS
        go_wp2
        go_roundw
        replace oS := ((oS).set 0 (.int .i64 m.n)).set 1 (.int .i64 m.d)
        replace hB := ((hB).setCell (p := ⟨w.heap.size, 0, none⟩) (by first | omega | (simp; done) | (simp; omega)) (.int .i64 m.n)).setCell (p := ⟨w.heap.size, 1, none⟩) (by first | omega | (simp; done) | (simp; omega)) (.int .i64 m.d)
        case rel => exact ⟨k + 1, by omega, by go_num, by show _ = _; rw [HPP.out]; exact E1.out, by rw [OS.out]; exact oS, hB⟩
        case measure => simp [intOf]; try omega
      have d0 : ((k : Int) == 0) = false := by simpa using hk0
      have OK := OP.out (by omega)
      rw [OK] at rS oS
      clear hk0 HF OP OK JO
      generalize (gsum (dotT a x) k).n = sn at *
      generalize (gsum (dotT a x) k).d = sd at *
      go_wp2_with fail
      refine (fadd_any sn sd m.n m.d _ J1.out.1 J1.out.2 M2.out.1 M2.out.2).mono ?_
      rintro e y3 ⟨rfl, hq⟩
      clear rM fM zM oM
      clear rS fS zS
      replace oS := oS.below hq
      replace hB := below_to hB hq
      clear hq
      obtain ⟨rS, fS⟩ := oS.rules
      have zS := oS.lt
      rw [← HQ'.out]
      by_cases h2 : p.e = 0
      · have b2 : (p.e != 0) = false := by simp [h2]
        have E2 := Lib.hid h2
        clear h2 HE
        go_wp2
        go_roundw
        replace oS := ((oS).set 0 (.int .i64 p.n)).set 1 (.int .i64 p.d)
        replace hB := ((hB).setCell (p := ⟨w.heap.size, 0, none⟩) (by first | omega | (simp; done) | (simp; omega)) (.int .i64 p.n)).setCell (p := ⟨w.heap.size, 1, none⟩) (by first | omega | (simp; done) | (simp; omega)) (.int .i64 p.d)
        case rel => exact ⟨k + 1, by omega, by go_num, by show _ = _; rw [HPP.out]; exact E2.out, by rw [OS.out]; exact oS, hB⟩
        case measure => simp [intOf]; try omega
      · have b2 : (p.e != 0) = true := by simpa using h2
        have HV := Lib.hid (HE.out h2)
        clear h2 HE
        go_wp2
        go_ret
        replace hB := ((hB).setCell (p := ⟨w.heap.size, 0, none⟩) (by first | omega | (simp; done) | (simp; omega)) (.int .i64 p.n)).setCell (p := ⟨w.heap.size, 1, none⟩) (by first | omega | (simp; done) | (simp; omega)) (.int .i64 p.d)
        exact ⟨by rw [HV.out]; try rfl, hB⟩
    · obtain rfl : k = a.length := by omega
      have HV := Lib.hid (osums_ok (r := r) he.out)
      rw [osm_pos L0.out] at oS
      clear he
      generalize (gsum (dotT a x) a.length).n = sn at *
      generalize (gsum (dotT a x) a.length).d = sd at *
      obtain ⟨rS, fS⟩ := oS.rules
      have zS := oS.lt
      by_cases g1 : sn = r
      · have q1 : (sn == r) = true := by simpa using g1
        by_cases g2 : sd = 1
        · have q2 : (sd == 1) = true := by simpa using g2
          have HW : Hid (osums a x r = true) := by show _ = _; rw [HV.out, decide_eq_true g1, decide_eq_true g2]; rfl
          clear HV
          subst g1
          subst g2
          go_wp2
          go_ret
          exact ⟨by rw [HW.out]; first | rfl | simp, hB⟩
        · have q2 : (sd == 1) = false := by simpa using g2
          have HW : Hid (osums a x r = false) := by show _ = _; rw [HV.out, decide_eq_false g2, Bool.and_false]
          clear HV
          go_wp2
          go_ret
          exact ⟨by rw [HW.out]; first | rfl | simp [g2], hB⟩
      · have q1 : (sn == r) = false := by simpa using g1
        have HW : Hid (osums a x r = false) := by show _ = _; rw [HV.out, decide_eq_false g1, Bool.false_and]
        clear HV
        go_wp2
        go_ret
        exact ⟨by rw [HW.out]; first | rfl | simp [g1], hB⟩
end Go.Proofs.Ythlcmlngmcoknaa
