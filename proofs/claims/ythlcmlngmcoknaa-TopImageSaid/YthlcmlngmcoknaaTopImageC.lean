/- What is proved here: the law TopImage returns true. Condition: places, lamps, a system and fractions that can be read, numbers, a cleaning. -/
import Derived.Test.YthlcmlngmcoknaaC14
import Derived.Test.YthlcmlngmcoknaaC16
import Derived.Test.YthlcmlngmcoknaaC20
import Derived.Test.YthlcmlngmcoknaaC23
import Derived.Test.YthlcmlngmcoknaaC25
import Derived.Test.YthlcmlngmcoknaaC45
import Derived.Test.YthlcmlngmcoknaaC46
import Derived.Test.YthlcmlngmcoknaaC29
import Derived.Deep.DeepCutAuto
import Derived.BigRegion
namespace Go.Proofs.Ythlcmlngmcoknaa
open Go.RowKit

set_option maxRecDepth 100000 in
set_option maxHeartbeats 16000000 in
theorem topImage_any (p : List (Int × Int)) (l : List T3) (n ca cb cc cd : Int) (A : List (List Int)) (B : List Int) (c : Int) (x : List (Int × Int)) (vp vl va vb vx : Value) (w : World) (hp : SF w vp p) (hl : ST w vl l) (hA : SS w va A) (hB : SI w vb B) (hx : SF w vx x) (ix : FI x) :
    Calls Try.prog 7 #[vp, vl, .int .i64 n, .agg #[.int .i64 ca, .int .i64 cb, .int .i64 cc, .int .i64 cd], .agg #[va, vb], .int .i64 c, vx] w fun e w' => e = .returned (.bool true) ∧ Below w.heap.size w w' := by
  have IX := Lib.hid ix
  obtain ⟨adl, capl, rfl, hl1, hl2, _⟩ := hl.open
  obtain ⟨adx, capx, rfl, hx1, hx2, _⟩ := hx.open
  clear ix
  go_enter Try.func7, Try.ntmps7
  have oC := own_first w 56 [.int .i64 ca, .int .i64 cb, .int .i64 cc, .int .i64 cd] (.cells #[va, vb] 25)
  have oS := own_second w 25 [va, vb] (.cells #[.int .i64 ca, .int .i64 cb, .int .i64 cc, .int .i64 cd] 56)
  have hy := ba2 w (.cells #[.int .i64 ca, .int .i64 cb, .int .i64 cc, .int .i64 cd] 56) (.cells #[va, vb] 25)
  replace hA := hA.below hy
  replace hB := hB.below hy
  replace hx := hx.below hy
  replace hp := hp.below hy
  replace hl := hl.below hy
  obtain ⟨rC, fC⟩ := oC.rules
  have zC := oC.lt
  obtain ⟨rS, fS⟩ := oS.rules
  have zS := oS.lt
  go_wp2_with fail
  refine (alive41_any _).mono ?_
  rintro e y1 ⟨rfl, hq⟩
  clear rC fC zC rS fS zS
  replace oC := oC.below hq
  replace oS := oS.below hq
  replace hA := hA.below hq
  replace hB := hB.below hq
  replace hx := hx.below hq
  replace hp := hp.below hq
  replace hl := hl.below hq
  replace hy := below_to hy hq
  clear hq
  obtain ⟨rC, fC⟩ := oC.rules
  have zC := oC.lt
  obtain ⟨rS, fS⟩ := oS.rules
  have zS := oS.lt
  go_wp2_with fail
  refine (rgreat41_any p l _ _ _ hp hl).mono ?_
  rintro e _ ⟨rfl, rfl⟩
  by_cases g1 : tgreat p l = true
  · rw [g1]
    clear hA hB hx hp hl
    go_wp2
    go_ret
    exact ⟨by first | rfl | simp, hy⟩
  have g1' : tgreat p l = false := by simpa using g1
  rw [g1']
  clear g1 g1'
  go_wp2_with fail
  refine (rboth41_any p l _ _ _ hp hl).mono ?_
  rintro e y2 ⟨rfl, hq⟩
  clear rC fC zC rS fS zS
  replace oC := oC.below hq
  replace oS := oS.below hq
  replace hA := hA.below hq
  replace hB := hB.below hq
  replace hx := hx.below hq
  replace hp := hp.below hq
  replace hl := hl.below hq
  replace hy := below_to hy hq
  clear hq
  obtain ⟨rC, fC⟩ := oC.rules
  have zC := oC.lt
  obtain ⟨rS, fS⟩ := oS.rules
  have zS := oS.lt
  by_cases h0 : bothN p l = 0
  case neg =>
    have q0 : (bothN p l != 0) = true := by simpa using h0
    clear h0 hA hB hx hp hl
    go_wp2
    go_ret
    exact ⟨by first | rfl | simp, hy⟩
  rw [h0]
  by_cases g2 : n < 1
  · have q2 : decide (n < 1) = true := by simpa using g2
    clear hA hB hx hp hl
    go_wp2
    go_ret
    exact ⟨by first | rfl | simp, hy⟩
  have q2 : decide (n < 1) = false := by simpa using g2
  by_cases g3 : 4 < n
  · have q3 : decide (4 < n) = true := by simpa using g3
    clear hA hB hx hp hl
    go_wp2
    go_ret
    exact ⟨by first | rfl | simp, hy⟩
  have q3 : decide (4 < n) = false := by simpa using g3
  go_wp2_with fail
  refine (rcleaning_any ca cb cc cd _).mono ?_
  rintro e y3 ⟨rfl, hq⟩
  clear rC fC zC rS fS zS
  replace oC := oC.below hq
  replace oS := oS.below hq
  replace hA := hA.below hq
  replace hB := hB.below hq
  replace hx := hx.below hq
  replace hp := hp.below hq
  replace hl := hl.below hq
  replace hy := below_to hy hq
  clear hq
  obtain ⟨rC, fC⟩ := oC.rules
  have zC := oC.lt
  obtain ⟨rS, fS⟩ := oS.rules
  have zS := oS.lt
  by_cases g4 : cleanB ca cb cc cd = true
  case neg =>
    have g4' : cleanB ca cb cc cd = false := by simpa using g4
    rw [g4']
    clear hA hB hx hp hl
    go_wp2
    go_ret
    exact ⟨by first | rfl | simp, hy⟩
  rw [g4]
  by_cases g5 : 20 < (x.length : Int)
  · have q5 : decide (20 < (x.length : Int)) = true := by simpa using g5
    clear hA hB hx hp hl
    go_wp2
    go_ret
    exact ⟨by first | rfl | simp, hy⟩
  have q5 : decide (20 < (x.length : Int)) = false := by simpa using g5
  obtain ⟨m, rfl⟩ : ∃ m : Nat, n = m := ⟨n.toNat, by omega⟩
  have n1 : 1 ≤ m := by omega
  have n4 : m ≤ 4 := by omega
  have H0 := Lib.hid h0
  have HCL := Lib.hid g4
  clear g2 g3 g5 h0 g4
  go_wp2_with fail
  refine (rblank_any m _ n1 (by omega)).mono ?_
  rintro e y4 ⟨g, cap, rest, bb, cp, ex, rfl, hcap, MX, hq⟩
  have HY := Lib.hid hy
  have HA := Lib.hid hA
  have HB := Lib.hid hB
  have HX := Lib.hid hx
  have HP := Lib.hid hp
  have HL := Lib.hid hl
  have OC := Lib.hid oC
  have OS := Lib.hid oS
  clear hy hA hB hx hp hl oC oS rC fC zC rS fS zS
  go_wp2
  clear q2 q3 q5
  go_loopw [17] (fun iv wr => ∃ k : Nat, k ≤ l.length ∧ iv = .int .i64 k ∧ Hid (Inn (l.take k) m) ∧ MatO wr y3.heap.size y4.heap.size g 23 3 rest bb cp ex m m (fun r c => cellN (l.take k) c r) ∧ Below y3.heap.size y3 wr) (fun iv _ => l.length - (intOf iv).toNat)
  case atStart => exact ⟨0, Nat.zero_le _, rfl, fun s hs => by simp at hs, MX.congr (fun r c _ _ => by simp [cellN]), hq⟩
  case round =>
    clear MX hq
    obtain ⟨k, hk, rfl, hI, MX, hC⟩ := hrel
    rename World => V
    by_cases hlt : k < l.length
    · obtain ⟨_, _, e, _, _, H⟩ := (HL.out.below hC).open
      cases e
      obtain ⟨bL, ol, rfl, d1, d2, d3⟩ := H.out k hlt
      clear H
      have SN := src_in H0.out hlt
      have CB := fun a b : Nat => cellN_inT H0.out k a b
      have IT := Lib.hid (fun h1 => inn_take (n := m) hlt hI.out h1)
      have PT := Lib.hid (fun (a b : Nat) (h1 : l[k].x = a) (h2 : l[k].y = b) => cellN_put hlt h1 h2)
      obtain ⟨q, hq⟩ : ∃ q, q = l[k] := ⟨_, rfl⟩
      rw [← hq] at SN IT PT d1 d2 d3
      clear hq
      obtain ⟨qx, qy, f⟩ := q
      simp only at SN IT PT d1 d2 d3
      obtain ⟨a, rfl⟩ : ∃ a : Nat, qx = a := ⟨qx.toNat, by omega⟩
      obtain ⟨b, rfl⟩ : ∃ b : Nat, qy = b := ⟨qy.toNat, by omega⟩
      replace PT := Lib.hid (PT.out a b rfl rfl)
      replace CB := CB a b
      have hd := (Below.refl V.heap.size V).drew
      have d1' := below_cell hd d1
      have d2' := below_cell hd d2
      have d3' := below_cell hd d3
      by_cases g6 : m ≤ a
      · have q6 : decide ((m : Int) ≤ (a : Int)) = true := by simpa using g6
        have hy := below_to HY.out hC
        clear d1' d2' d3' PT IT SN CB hd
        go_wp2
        go_ret
        exact ⟨by first | rfl | simp, hy⟩
      have q6 : decide ((m : Int) ≤ (a : Int)) = false := by simpa using g6
      by_cases g7 : m ≤ b
      · have q7 : decide ((m : Int) ≤ (b : Int)) = true := by simpa using g7
        have hy := below_to HY.out hC
        clear d1' d2' d3' PT IT SN CB hd
        go_wp2
        go_ret
        exact ⟨by first | rfl | simp, hy⟩
      have q7 : decide ((m : Int) ≤ (b : Int)) = false := by simpa using g7
      have ha : a < m := by omega
      have hb : b < m := by omega
      have MY := MX.below hd
      have hC2 := below_to hC hd
      have CO := MY.cell_out hb
      have CA := MY.cell_at hb ha
      have FA := MY.free_at hb a
      try simp only at CA
      try simp only at PT
      generalize cellN (l.take k) a b = z at *
      have E1 : wrap64 (z + f) = z + f := Go.IntWalk.wrap64_in _ (by omega)
      have SN2 := Lib.hid SN
      clear hd SN CB MX
      go_wp2
      go_region
      go_wp2
      go_roundw
      case rel => exact ⟨k + 1, by omega, by go_num, IT.out (by omega), (MY.put hb ha (z + f)).congr (fun r c _ _ => PT.out r c), MY.putB hC2 hb a _⟩
      case measure => simp [intOf]; try omega
    · obtain rfl : k = l.length := by omega
      have hN : Hid (Inn l m) := by have := hI.out; rw [List.take_length] at this; exact this
      rw [List.take_length] at MX
      have hM := MX.im hcap (by omega)
      have hA := HA.out.below hC
      have hB := HB.out.below hC
      have hx := HX.out.below hC
      have hp := HP.out.below hC
      have hl := HL.out.below hC
      have oC := OC.out.below hC
      have oS := OS.out.below hC
      have hy := below_to HY.out hC
      clear HA HB HX HP HL OC OS HY hI MX hC hlt hk
      obtain ⟨rC, fC⟩ := oC.rules
      have zC := oC.lt
      obtain ⟨rS, fS⟩ := oS.rules
      have zS := oS.lt
      go_wp2_with fail
      refine (dirty_any p l m _ _ _ hp hl H0.out n1 (by omega)).mono ?_
      rintro e x1 ⟨u1, rfl, hi, hq⟩
      clear hl
      clear rC fC zC rS fS zS
      replace oC := oC.below hq
      replace oS := oS.below hq
      replace hA := hA.below hq
      replace hB := hB.below hq
      replace hx := hx.below hq
      replace hp := hp.below hq
      replace hM := hM.below hq
      replace hy := below_to hy hq
      clear hq
      obtain ⟨rC, fC⟩ := oC.rules
      have zC := oC.lt
      obtain ⟨rS, fS⟩ := oS.rules
      have zS := oS.lt
      obtain ⟨ad1, cap1, rfl, _, _, _⟩ := hi.open
      have w1 : wrap64 ((m : Int) - 1) = (m : Int) - 1 := Go.IntWalk.wrap64_in _ (by omega)
      have w2 : wrap64 (2 * (m : Int)) = 2 * (m : Int) := Go.IntWalk.wrap64_in _ (by omega)
      have w3 : 2 * (m : Int) - 1 = ((2 * m - 1 : Nat) : Int) := by omega
      have oL := Own.new x1 62 [.int .i64 ((m : Int) - 1), .int .i64 ((m : Int) - 1), .int .i64 1]
      have hq := ba1 x1 (.cells #[.int .i64 ((m : Int) - 1), .int .i64 ((m : Int) - 1), .int .i64 1] 62)
      have sL := st_of_own41 [⟨(m : Int) - 1, (m : Int) - 1, 1⟩] 1 rfl (by omega) oL
      clear oL
      have hp2 := hp.below hq
      go_wp2_with fail
      refine (dirty_any p [⟨(m : Int) - 1, (m : Int) - 1, 1⟩] (2 * m - 1) _ _ _ hp2 sL (beam_both H0.out n1 n4) (by omega) (by omega)).mono ?_
      rintro e x2 ⟨u2, rfl, hj, hq2⟩
      replace hq := below_to hq hq2
      clear hp hp2 sL hq2 w1 w2 w3
      clear rC fC zC rS fS zS
      replace oC := oC.below hq
      replace oS := oS.below hq
      replace hA := hA.below hq
      replace hB := hB.below hq
      replace hx := hx.below hq
      replace hM := hM.below hq
      replace hi := hi.below hq
      replace hy := below_to hy hq
      clear hq
      obtain ⟨rC, fC⟩ := oC.rules
      have zC := oC.lt
      obtain ⟨rS, fS⟩ := oS.rules
      have zS := oS.lt
      replace hj : IM x2 u2 (2 * m - 1) (beamN p m) := hj
      obtain ⟨ad2, cap2, rfl, _, _, _⟩ := hj.open
      have BH := Lib.hid (beam_BM H0.out n1 n4)
      have KEY : Hid (∀ v u, v < m → u < m → tspr (beamN p m) m (fun y x => cellN l x y) v u = dcell p l u v) := fun v u hv hu => (dirty_spread p hN.out hv hu).symm
      have MI : Hid (inR 1000000000 m (fun y x => cellN l x y)) := fun v u _ _ => by have := cellN_in H0.out u v; show _ ≤ cellN l u v ∧ cellN l u v ≤ _; omega
      have DI : Hid (inR 1000000 m (fun y x => dcell p l x y)) := fun v u _ _ => by have := dcell_in H0.out u v; show _ ≤ dcell p l u v ∧ dcell p l u v ≤ _; omega
      go_wp2_with fail
      refine (spread_any m (2 * m - 1) (fun y x => cellN l x y) (beamN p m) _ _ _ hM hj BH.out MI.out).mono ?_
      rintro e x3 ⟨(⟨u3, rfl, hs, _⟩ | ⟨rfl, bad⟩), hq⟩
      case inr => exact absurd (fun i j h1 h2 => by rw [KEY.out i j h1 h2]; have := dcell_in H0.out j i; omega) bad
      replace hs := hs.congr KEY.out
      clear rC fC zC rS fS zS
      replace oC := oC.below hq
      replace oS := oS.below hq
      replace hA := hA.below hq
      replace hB := hB.below hq
      replace hx := hx.below hq
      replace hM := hM.below hq
      replace hi := hi.below hq
      replace hj := hj.below hq
      replace hy := below_to hy hq
      clear hq
      obtain ⟨rC, fC⟩ := oC.rules
      have zC := oC.lt
      obtain ⟨rS, fS⟩ := oS.rules
      have zS := oS.lt
      obtain ⟨ad3, cap3, rfl, _, _, _⟩ := hs.open
      go_wp2_with fail
      refine (rsame40_any m (fun y x => dcell p l x y) _ _ _ hs hi).mono ?_
      rintro e x4 ⟨rfl, hq⟩
      clear rC fC zC rS fS zS
      replace oC := oC.below hq
      replace oS := oS.below hq
      replace hA := hA.below hq
      replace hB := hB.below hq
      replace hx := hx.below hq
      replace hM := hM.below hq
      replace hi := hi.below hq
      replace hj := hj.below hq
      replace hy := below_to hy hq
      clear hq
      obtain ⟨rC, fC⟩ := oC.rules
      have zC := oC.lt
      obtain ⟨rS, fS⟩ := oS.rules
      have zS := oS.lt
      clear hs
      go_wp2_with fail
      refine (rbeam_any m (2 * m - 1) (beamN p m) _ _ hj n1 (by omega) rfl BH.out.rng BH.out.mid).mono ?_
      rintro e x5 ⟨rfl, hq⟩
      clear rC fC zC rS fS zS
      replace oC := oC.below hq
      replace oS := oS.below hq
      replace hA := hA.below hq
      replace hB := hB.below hq
      replace hx := hx.below hq
      replace hM := hM.below hq
      replace hi := hi.below hq
      replace hj := hj.below hq
      replace hy := below_to hy hq
      clear hq
      obtain ⟨rC, fC⟩ := oC.rules
      have zC := oC.lt
      obtain ⟨rS, fS⟩ := oS.rules
      have zS := oS.lt
      go_wp2_with fail
      refine (rimage_any m 1000000 (fun y x => dcell p l x y) _ _ hi n1 (by omega) (by omega) (by omega)).mono ?_
      rintro e x6 ⟨r, rfl, hir, hq⟩
      obtain rfl : r = true := hir.2 DI.out
      clear hir
      clear rC fC zC rS fS zS
      replace oC := oC.below hq
      replace oS := oS.below hq
      replace hA := hA.below hq
      replace hB := hB.below hq
      replace hx := hx.below hq
      replace hM := hM.below hq
      replace hi := hi.below hq
      replace hj := hj.below hq
      replace hy := below_to hy hq
      clear hq
      obtain ⟨rC, fC⟩ := oC.rules
      have zC := oC.lt
      obtain ⟨rS, fS⟩ := oS.rules
      have zS := oS.lt
      go_wp2_with fail
      refine (clean_any m (2 * m - 1) (fun y x => dcell p l x y) (beamN p m) ca cb cc cd _ _ _ hi hj BH.out DI.out HCL.out).mono ?_
      rintro e x7 ⟨hq, (rfl | ⟨u, vg, L, rfl, hu, hg, LN, LR⟩)⟩
      · clear hM hi hj
        clear rC fC zC rS fS zS
        replace oC := oC.below hq
        replace oS := oS.below hq
        replace hA := hA.below hq
        replace hB := hB.below hq
        replace hx := hx.below hq
        replace hy := below_to hy hq
        clear hq
        obtain ⟨rC, fC⟩ := oC.rules
        have zC := oC.lt
        obtain ⟨rS, fS⟩ := oS.rules
        have zS := oS.lt
        clear oC rC fC zC
        go_wp2_with fail
        refine (rngreat_any A B _ _ _ hA hB).mono ?_
        rintro e t1 ⟨rfl, hq⟩
        clear rS fS zS
        replace oS := oS.below hq
        replace hA := hA.below hq
        replace hB := hB.below hq
        replace hx := hx.below hq
        replace hy := below_to hy hq
        clear hq
        obtain ⟨rS, fS⟩ := oS.rules
        have zS := oS.lt
        by_cases k1 : ngreat A B = true
        · rw [k1]
          clear hA hB hx
          go_wp2
          go_ret
          exact ⟨by first | rfl | simp, hy⟩
        have k1' : ngreat A B = false := by simpa using k1
        rw [k1']
        clear k1 k1'
        go_wp2_with fail
        refine (rscheck_any A B c _ _ _ hA hB).mono ?_
        rintro e t2 ⟨rfl, hq⟩
        clear rS fS zS
        replace oS := oS.below hq
        replace hA := hA.below hq
        replace hB := hB.below hq
        replace hx := hx.below hq
        replace hy := below_to hy hq
        clear hq
        obtain ⟨rS, fS⟩ := oS.rules
        have zS := oS.lt
        by_cases k2 : scheck A B c = 0
        case neg =>
          have k3 : (scheck A B c != 0) = true := by simpa using k2
          clear k2 hA hB hx
          go_wp2
          go_ret
          exact ⟨by first | rfl | simp, hy⟩
        rw [k2]
        go_wp2_with fail
        refine (fits41_any A B c x _ _ _ _ hA hB hx IX.out k2).mono ?_
        rintro e t3 ⟨rfl, hq⟩
        clear rS fS zS
        replace oS := oS.below hq
        replace hy := below_to hy hq
        clear hq
        obtain ⟨rS, fS⟩ := oS.rules
        have zS := oS.lt
        go_wp2
        go_ret
        exact ⟨by first | rfl | simp, hy⟩
      clear rC fC zC rS fS zS
      replace oC := oC.below hq
      replace oS := oS.below hq
      replace hA := hA.below hq
      replace hB := hB.below hq
      replace hx := hx.below hq
      replace hM := hM.below hq
      replace hi := hi.below hq
      replace hj := hj.below hq
      replace hy := below_to hy hq
      clear hq
      obtain ⟨rC, fC⟩ := oC.rules
      have zC := oC.lt
      obtain ⟨rS, fS⟩ := oS.rules
      have zS := oS.lt
      have LN2 := Lib.hid LN
      have LR2 := Lib.hid LR
      clear LN LR
      obtain ⟨ad4, cap4, rfl, _, _, _⟩ := hu.open
      obtain ⟨ad5, cap5, rfl, _, _, _⟩ := hg.open
      go_wp2_with fail
      refine (model_any m L _ _ n1 (by omega) hg LN2.out).mono ?_
      rintro e x8 ⟨hf, hq⟩
      clear rC fC zC rS fS zS
      replace oC := oC.below hq
      replace oS := oS.below hq
      replace hA := hA.below hq
      replace hB := hB.below hq
      replace hx := hx.below hq
      replace hM := hM.below hq
      replace hi := hi.below hq
      replace hj := hj.below hq
      replace hu := hu.below hq
      replace hg := hg.below hq
      replace hy := below_to hy hq
      clear hq
      obtain ⟨rC, fC⟩ := oC.rules
      have zC := oC.lt
      obtain ⟨rS, fS⟩ := oS.rules
      have zS := oS.lt
      rcases hf with ⟨u5, rfl, hf, hfr⟩ | ⟨rfl, _⟩
      · obtain ⟨ad6, cap6, rfl, _, _, _⟩ := hf.open
        have HFR := Lib.hid hfr
        clear hfr
        go_wp2_with fail
        refine (replay_any m (2 * m - 1) (fun y x => dcell p l x y) (beamN p m) L _ _ _ _ hi hj BH.out DI.out hg LN2.out LR2.out).mono ?_
        rintro e x9 ⟨u6, rfl, hr, hq⟩
        clear hi hg
        clear rC fC zC rS fS zS
        replace oC := oC.below hq
        replace oS := oS.below hq
        replace hA := hA.below hq
        replace hB := hB.below hq
        replace hx := hx.below hq
        replace hM := hM.below hq
        replace hj := hj.below hq
        replace hu := hu.below hq
        replace hf := hf.below hq
        replace hy := below_to hy hq
        clear hq
        obtain ⟨rC, fC⟩ := oC.rules
        have zC := oC.lt
        obtain ⟨rS, fS⟩ := oS.rules
        have zS := oS.lt
        obtain ⟨ad7, cap7, rfl, _, _, _⟩ := hr.open
        go_wp2_with fail
        refine (rsame40_any m (subL (beamN p m) m L (fun y x => dcell p l x y)) _ _ _ hr hu).mono ?_
        rintro e x10 ⟨rfl, hq⟩
        clear rC fC zC rS fS zS
        replace oC := oC.below hq
        replace oS := oS.below hq
        replace hA := hA.below hq
        replace hB := hB.below hq
        replace hx := hx.below hq
        replace hM := hM.below hq
        replace hj := hj.below hq
        replace hu := hu.below hq
        replace hf := hf.below hq
        replace hy := below_to hy hq
        clear hq
        obtain ⟨rC, fC⟩ := oC.rules
        have zC := oC.lt
        obtain ⟨rS, fS⟩ := oS.rules
        have zS := oS.lt
        clear hr
        have hlr : inR 1000000000 m (subL (beamN p m) m L (fun y x => dcell p l x y)) := by
          have := LR2.out L.length (Nat.le_refl _)
          rw [List.take_length] at this
          exact this
        have hls : ∀ v u, v < m → u < m → subL (beamN p m) m L (fun y x => dcell p l x y) v u = tspr (beamN p m) m (fun y x => cellN l x y - cellN L x y) v u := fun v u hv hu => left_is (M := fun y x => cellN l x y) (N := fun y x => cellN L x y) LN2.out.2.1 (fun v u hv hu => (KEY.out v u hv hu).symm) (fun _ _ _ _ => rfl) hv hu
        go_wp2_with fail
        refine (lacks_any m (2 * m - 1) (fun y x => cellN l x y) (fun y x => cellN L x y) (beamN p m) (subL (beamN p m) m L (fun y x => dcell p l x y)) _ _ _ _ _ hM hf hj hu BH.out MI.out HFR.out hlr hls).mono ?_
        rintro e x11 ⟨rfl, hq⟩
        clear rC fC zC rS fS zS
        replace oC := oC.below hq
        replace oS := oS.below hq
        replace hA := hA.below hq
        replace hB := hB.below hq
        replace hx := hx.below hq
        replace hy := below_to hy hq
        clear hq
        obtain ⟨rC, fC⟩ := oC.rules
        have zC := oC.lt
        obtain ⟨rS, fS⟩ := oS.rules
        have zS := oS.lt
        clear hM hf hj hu hlr hls oC rC fC zC
        go_wp2_with fail
        refine (rngreat_any A B _ _ _ hA hB).mono ?_
        rintro e t1 ⟨rfl, hq⟩
        clear rS fS zS
        replace oS := oS.below hq
        replace hA := hA.below hq
        replace hB := hB.below hq
        replace hx := hx.below hq
        replace hy := below_to hy hq
        clear hq
        obtain ⟨rS, fS⟩ := oS.rules
        have zS := oS.lt
        by_cases k1 : ngreat A B = true
        · rw [k1]
          clear hA hB hx
          go_wp2
          go_ret
          exact ⟨by first | rfl | simp, hy⟩
        have k1' : ngreat A B = false := by simpa using k1
        rw [k1']
        clear k1 k1'
        go_wp2_with fail
        refine (rscheck_any A B c _ _ _ hA hB).mono ?_
        rintro e t2 ⟨rfl, hq⟩
        clear rS fS zS
        replace oS := oS.below hq
        replace hA := hA.below hq
        replace hB := hB.below hq
        replace hx := hx.below hq
        replace hy := below_to hy hq
        clear hq
        obtain ⟨rS, fS⟩ := oS.rules
        have zS := oS.lt
        by_cases k2 : scheck A B c = 0
        case neg =>
          have k3 : (scheck A B c != 0) = true := by simpa using k2
          clear k2 hA hB hx
          go_wp2
          go_ret
          exact ⟨by first | rfl | simp, hy⟩
        rw [k2]
        go_wp2_with fail
        refine (fits41_any A B c x _ _ _ _ hA hB hx IX.out k2).mono ?_
        rintro e t3 ⟨rfl, hq⟩
        clear rS fS zS
        replace oS := oS.below hq
        replace hy := below_to hy hq
        clear hq
        obtain ⟨rS, fS⟩ := oS.rules
        have zS := oS.lt
        go_wp2
        go_ret
        exact ⟨by first | rfl | simp, hy⟩
      · go_wp2_with fail
        refine (replay_any m (2 * m - 1) (fun y x => dcell p l x y) (beamN p m) L _ _ _ _ hi hj BH.out DI.out hg LN2.out LR2.out).mono ?_
        rintro e x9 ⟨u6, rfl, hr, hq⟩
        clear hi hg hM hj
        clear rC fC zC rS fS zS
        replace oC := oC.below hq
        replace oS := oS.below hq
        replace hA := hA.below hq
        replace hB := hB.below hq
        replace hx := hx.below hq
        replace hu := hu.below hq
        replace hy := below_to hy hq
        clear hq
        obtain ⟨rC, fC⟩ := oC.rules
        have zC := oC.lt
        obtain ⟨rS, fS⟩ := oS.rules
        have zS := oS.lt
        obtain ⟨ad7, cap7, rfl, _, _, _⟩ := hr.open
        go_wp2_with fail
        refine (rsame40_any m (subL (beamN p m) m L (fun y x => dcell p l x y)) _ _ _ hr hu).mono ?_
        rintro e x10 ⟨rfl, hq⟩
        clear rC fC zC rS fS zS
        replace oC := oC.below hq
        replace oS := oS.below hq
        replace hA := hA.below hq
        replace hB := hB.below hq
        replace hx := hx.below hq
        replace hy := below_to hy hq
        clear hq
        obtain ⟨rC, fC⟩ := oC.rules
        have zC := oC.lt
        obtain ⟨rS, fS⟩ := oS.rules
        have zS := oS.lt
        clear hr hu oC rC fC zC
        go_wp2_with fail
        refine (rngreat_any A B _ _ _ hA hB).mono ?_
        rintro e t1 ⟨rfl, hq⟩
        clear rS fS zS
        replace oS := oS.below hq
        replace hA := hA.below hq
        replace hB := hB.below hq
        replace hx := hx.below hq
        replace hy := below_to hy hq
        clear hq
        obtain ⟨rS, fS⟩ := oS.rules
        have zS := oS.lt
        by_cases k1 : ngreat A B = true
        · rw [k1]
          clear hA hB hx
          go_wp2
          go_ret
          exact ⟨by first | rfl | simp, hy⟩
        have k1' : ngreat A B = false := by simpa using k1
        rw [k1']
        clear k1 k1'
        go_wp2_with fail
        refine (rscheck_any A B c _ _ _ hA hB).mono ?_
        rintro e t2 ⟨rfl, hq⟩
        clear rS fS zS
        replace oS := oS.below hq
        replace hA := hA.below hq
        replace hB := hB.below hq
        replace hx := hx.below hq
        replace hy := below_to hy hq
        clear hq
        obtain ⟨rS, fS⟩ := oS.rules
        have zS := oS.lt
        by_cases k2 : scheck A B c = 0
        case neg =>
          have k3 : (scheck A B c != 0) = true := by simpa using k2
          clear k2 hA hB hx
          go_wp2
          go_ret
          exact ⟨by first | rfl | simp, hy⟩
        rw [k2]
        go_wp2_with fail
        refine (fits41_any A B c x _ _ _ _ hA hB hx IX.out k2).mono ?_
        rintro e t3 ⟨rfl, hq⟩
        clear rS fS zS
        replace oS := oS.below hq
        replace hy := below_to hy hq
        clear hq
        obtain ⟨rS, fS⟩ := oS.rules
        have zS := oS.lt
        go_wp2
        go_ret
        exact ⟨by first | rfl | simp, hy⟩
end Go.Proofs.Ythlcmlngmcoknaa
