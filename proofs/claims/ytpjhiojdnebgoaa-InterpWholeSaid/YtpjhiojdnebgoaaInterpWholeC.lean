/- What is proved here: the law InterpWhole returns true. Condition: a slice of 64-bit numbers, a 64-bit number, a fraction of two of them. -/
import Derived.Test.YtpjhiojdnebgoaaC39
import Derived.Test.YtpjhiojdnebgoaaC47
import Derived.Test.YtpjhiojdnebgoaaC43
import Derived.Test.YtpjhiojdnebgoaaC25
import Derived.Test.YtpjhiojdnebgoaaC35
import Derived.Test.YtpjhiojdnebgoaaC36
import Derived.Test.YtpjhiojdnebgoaaC29
import Derived.Test.YtpjhiojdnebgoaaC49
import Derived.Test.YtpjhiojdnebgoaaC21
import Derived.Test.YtpjhiojdnebgoaaC01
import Derived.Test.YtpjhiojdnebgoaaC40
import Derived.RegionTactic
import Derived.ChangeAlike
import Derived.BigRegion
import Derived.IntWalk
import Derived.Deep.DeepCutAuto
namespace Go.Proofs.Ytpjhiojdnebgoaa
open Go.RowKit

theorem fread_FI (l : List Int) (n a b : Int) : FI (fread l n a b).1 := by
  unfold fread
  split
  · intro p hp; cases hp
  · split
    · intro p hp; cases hp
    · exact ffilt_FI _ _
def good (l : List Int) (n fn fd : Int) : Prop := l.length ≤ 24 ∧ levB l = true ∧ 0 ≤ n ∧ n ≤ 4 ∧ partB fn fd = true ∧ fd ≤ 4 ∧ fn ≠ 0
def smallN (l : List Int) (k : Nat) : Prop := ∀ i, i < k → -1000 ≤ l.getD i 0 ∧ l.getD i 0 ≤ 1000
set_option maxRecDepth 100000 in
set_option maxHeartbeats 64000000 in
theorem interpWhole_any (l : List Int) (v : Value) (n fn fd : Int) (w : World) (hs : SI w v l) (hl : ∀ i (h : i < l.length), i64 l[i]) (j1 : i64 n) (j2 : i64 fn) (j3 : i64 fd) :
    Calls Try.prog 6 #[v, .int .i64 n, .agg #[.int .i64 fn, .int .i64 fd]] w fun e w' => e = .returned (.bool true) ∧ Below w.heap.size w w' := by
  have S0 := Lib.hid hs
  have I0 := Lib.hid hl
  have J1 := Lib.hid j1
  have J2 := Lib.hid j2
  have J3 := Lib.hid j3
  obtain ⟨adl, capl, rfl, l1, l2, _⟩ := hs.open
  clear hs hl j1 j2 j3
  have oF := Own.new w 24 [.int .i64 fn, .int .i64 fd]
  have hB := ba1 w (.cells #[.int .i64 fn, .int .i64 fd] 24)
  go_enter Try.func6, Try.ntmps6
  obtain ⟨rF, fF⟩ := oF.rules
  have zF := oF.lt
  go_wp2_with fail
  refine (alive15_any _).mono ?_
  rintro e y1 ⟨rfl, hq⟩
  clear rF fF zF
  replace oF := oF.below hq
  replace hB := below_to hB hq
  clear hq
  obtain ⟨rF, fF⟩ := oF.rules
  have zF := oF.lt
  go_upto_region 2 with fail
  go_cut [59] (fun c wx => (c = .bool true ∨ (c = .bool false ∧ good l n fn fd)) ∧ Own wx w.heap.size 24 [.int .i64 fn, .int .i64 fd] ∧ Below w.heap.size w wx)
  case first =>
    by_cases g1 : 24 < l.length
    · have c1 : decide (24 < (l.length : Int)) = true := by simp; omega
      clear g1
      go_wp2
      go_meet
      exact ⟨.inl rfl, oF, hB⟩
    have c1 : decide (24 < (l.length : Int)) = false := by simp; omega
    by_cases g2 : levB l = false
    · have c2 : (levE l != 0) = true := by unfold levE; rw [if_neg (by omega), if_pos g2]; rfl
      clear g2 g1
      go_wp2_with fail
      refine (rilev_any l _ _ (S0.out.below hB)).mono ?_
      rintro e y2 ⟨rfl, hq⟩
      clear rF fF zF
      replace oF := oF.below hq
      replace hB := below_to hB hq
      clear hq
      obtain ⟨rF, fF⟩ := oF.rules
      have zF := oF.lt
      go_wp2
      go_meet
      exact ⟨.inl rfl, oF, hB⟩
    replace g2 : levB l = true := by simpa using g2
    have c2 : (levE l != 0) = false := by unfold levE; rw [if_neg (by omega), if_neg (by rw [g2]; decide)]; rfl
    have G2 := Lib.hid g2
    have G1 : Hid (l.length ≤ 24) := by show _ ≤ _; omega
    clear g2 g1
    go_wp2_with fail
    refine (rilev_any l _ _ (S0.out.below hB)).mono ?_
    rintro e y2 ⟨rfl, hq⟩
    clear rF fF zF
    replace oF := oF.below hq
    replace hB := below_to hB hq
    clear hq
    obtain ⟨rF, fF⟩ := oF.rules
    have zF := oF.lt
    by_cases g3 : n < 0
    · have c3 : decide (n < 0) = true := by simpa using g3
      clear g3
      go_wp2
      go_meet
      exact ⟨.inl rfl, oF, hB⟩
    have c3 : decide (n < 0) = false := by simpa using g3
    by_cases g4 : 4 < n
    · have c4 : decide (4 < n) = true := by simpa using g4
      clear g3 g4
      go_wp2
      go_meet
      exact ⟨.inl rfl, oF, hB⟩
    have c4 : decide (4 < n) = false := by simpa using g4
    have G3 : Hid (0 ≤ n) := by show _ ≤ _; omega
    have G4 : Hid (n ≤ 4) := by show _ ≤ _; omega
    clear g3 g4
    by_cases g5 : partB fn fd = false
    · have G5 := Lib.hid g5
      clear g5
      go_wp2_with fail
      refine (ripart_any fn fd _ J2.out J3.out).mono ?_
      rintro e y3 ⟨rfl, hq⟩
      clear rF fF zF
      replace oF := oF.below hq
      replace hB := below_to hB hq
      clear hq
      obtain ⟨rF, fF⟩ := oF.rules
      have zF := oF.lt
      rw [G5.out]
      go_wp2
      go_meet
      exact ⟨.inl rfl, oF, hB⟩
    have G5 : Hid (partB fn fd = true) := by show _ = _; simpa using g5
    clear g5
    go_wp2_with fail
    refine (ripart_any fn fd _ J2.out J3.out).mono ?_
    rintro e y3 ⟨rfl, hq⟩
    clear rF fF zF
    replace oF := oF.below hq
    replace hB := below_to hB hq
    clear hq
    obtain ⟨rF, fF⟩ := oF.rules
    have zF := oF.lt
    rw [G5.out]
    by_cases g6 : 4 < fd
    · have c6 : decide (4 < fd) = true := by simpa using g6
      clear g6
      go_wp2
      go_meet
      exact ⟨.inl rfl, oF, hB⟩
    have c6 : decide (4 < fd) = false := by simpa using g6
    have G6 : Hid (fd ≤ 4) := by show _ ≤ _; omega
    clear g6
    by_cases g7 : fn = 0
    · have c7 : (fn == 0) = true := by simpa using g7
      clear g7
      go_wp2
      go_meet
      exact ⟨.inl rfl, oF, hB⟩
    have c7 : (fn == 0) = false := by simpa using g7
    have G7 := Lib.hid g7
    clear g7
    go_wp2
    go_meet
    exact ⟨.inr ⟨rfl, G1.out, G2.out, G3.out, G4.out, G5.out, G6.out, G7.out⟩, oF, hB⟩
  case rest =>
    clear rF fF zF oF hB
    obtain ⟨hc, oF, hB⟩ := hcut
    rcases hc with rfl | ⟨rfl, hg⟩
    · go_wp2
      go_ret
      exact ⟨rfl, hB⟩
    obtain ⟨g1, g2, g3, g4, g5, g6, g7⟩ := hg
    obtain ⟨N, rfl⟩ := Int.eq_ofNat_of_zero_le g3
    have hN : N ≤ 4 := by omega
    have PT := Lib.hid (part4 g5 g6 g7)
    have FD : Hid (fdeg l = ((degM l : Int) - 1, 0)) := by show _ = _; unfold fdeg; rw [if_neg (by omega), if_neg (by rw [g2]; decide)]
    clear g2 g3 g4 g5 g6 g7
    go_wp2
    go_loopw [8] (fun i wr => ∃ k : Nat, k ≤ l.length ∧ i = .int .i64 k ∧ Hid (smallN l k) ∧ Own wr w.heap.size 24 [.int .i64 fn, .int .i64 fd] ∧ Below w.heap.size w wr) (fun i _ => l.length + 1 - (intOf i).toNat)
    case atStart => exact ⟨0, Nat.zero_le _, rfl, (fun i hi => absurd hi (Nat.not_lt_zero _)), oF, hB⟩
    case round =>
      clear oF hB
      obtain ⟨k, hk, rfl, hv, oF, hB⟩ := hrel
      rename World => W
      by_cases hlt : k < l.length
      · obtain ⟨_, _, e, _, _, H⟩ := (S0.out.below hB).open
        cases e
        obtain ⟨b1, off1, rfl, q1⟩ := H.out k hlt
        clear H
        have E1 : l.getD k 0 = l[k] := by simp [List.getD, hlt]
        have HX : Hid (smallN l k ∧ l.getD k 0 = l[k]) := ⟨hv.out, E1⟩
        clear E1 hv
        generalize hx : l[k] = x at *
        have b1 : decide (x < -1000) = true ∨ decide (x < -1000) = false := by cases decide (x < -1000) <;> simp
        rcases b1 with b1 | b1
        · go_wp2
          go_ret
          exact ⟨rfl, hB⟩
        have b2 : decide (1000 < x) = true ∨ decide (1000 < x) = false := by cases decide (1000 < x) <;> simp
        rcases b2 with b2 | b2
        · go_wp2
          go_ret
          exact ⟨rfl, hB⟩
        go_wp2
        go_roundw
        case rel =>
          refine ⟨k + 1, by omega, by go_num, fun i hi => ?_, oF, hB⟩
          rcases Nat.lt_or_ge i k with h4 | h4
          · exact HX.out.1 i h4
          · obtain rfl : i = k := by omega
            rw [HX.out.2]
            simp only [decide_eq_false_iff_not] at b1 b2
            omega
        case measure => simp [intOf]; try omega
      · obtain rfl : k = l.length := by omega
        have SM : Hid (small l) := hv.out
        clear hv hk
        obtain ⟨rF, fF⟩ := oF.rules
        have zF := oF.lt
        go_wp2_with fail
        refine (ideg_any l _ _ (S0.out.below hB)).mono ?_
        rintro e y5 ⟨rfl, hq⟩
        clear rF fF zF
        replace oF := oF.below hq
        replace hB := below_to hB hq
        clear hq
        obtain ⟨rF, fF⟩ := oF.rules
        have zF := oF.lt
        rw [FD.out]
        by_cases gd : (N : Int) < (degM l : Int) - 1
        · have b1 : decide ((N : Int) < (degM l : Int) - 1) = true := by simpa using gd
          clear gd
          go_wp2
          go_ret
          exact ⟨rfl, hB⟩
        have b1 : decide ((N : Int) < (degM l : Int) - 1) = false := by simpa using gd
        have WO := Lib.hid (whole_ok g1 SM.out hN PT.out (by omega))
        have RO := Lib.hid (rest_ok PT.out)
        clear gd
        go_wp2_with fail
        refine (iread_any l _ N fn fd _ (S0.out.below hB) I0.out J1.out J2.out J3.out).mono ?_
        rintro e y6 ⟨ux, rfl, sx, hq⟩
        clear rF fF zF
        replace oF := oF.below hq
        replace hB := below_to hB hq
        clear hq
        obtain ⟨rF, fF⟩ := oF.rules
        have zF := oF.lt
        have FX := Lib.hid (fread_FI l N fn fd)
        have JR := Lib.hid (fsub_i64 1 1 fn fd)
        have EX := Lib.hid WO.out.x
        rw [EX.out]
        go_wp2
        generalize hR : fsub 1 1 fn fd = R at *
        have HR := Lib.hid hR
        clear hR
        go_wp2_with fail
        have gl := @grow_lt
        refine wp_region_fs [(6, ⟨24, [.int .i64 0, .int .i64 0], fun b => .pointer (some ⟨b, 0, none⟩)⟩)] [1] [.op 0, .op 2, .tk 3, .tk 4, .tk 5, .fl 6, .op 7] [8] (by kernel_rfl) (by kernel_rfl) ⟨fun ρ W => by kernel_rfl, trivial⟩ (fun _ _ _ _ _ h => h) (fun _ _ _ _ _ h => h) ?_
        try simp only [opsAt, List.getElem?_toArray, List.getElem?_cons_zero, List.getElem?_cons_succ, Option.getD_some]
        repeat (go_big_quiet_step (fail))
        refine wpQuiet_nil ?_
        clear gl
        refine wpFl_op rfl ?_
        intro w3 hb3 K' hK'
        go_simp
        refine (of15_any 1 1 _).mono ?_
        rintro e w5 ⟨rfl, hq⟩
        refine hK' _ _ (Mod.of_below hq) ?_
        clear hK' K'
        have hF := below_to hb3 hq
        clear hb3 hq
        refine wpFl_op rfl ?_
        intro w3 hb3 K' hK'
        go_simp
        refine (rsub_any 1 1 fn fd _ ⟨by decide, by decide⟩ ⟨by decide, by decide⟩ J2.out J3.out).mono ?_
        rintro e w5 ⟨rfl, hq⟩
        refine hK' _ _ (Mod.of_below hq) ?_
        clear hK' K'
        replace hF := below_to hF (below_to hb3 hq)
        clear hb3 hq
        rw [HR.out]
        refine wpFl_tk ?_
        try simp only [opsAt, List.getElem?_toArray, List.getElem?_cons_zero, List.getElem?_cons_succ, Option.getD_some]
        repeat (go_big_quiet_step (fail))
        refine wpQuiet_nil ?_
        refine wpFl_tk ?_
        try simp only [opsAt, List.getElem?_toArray, List.getElem?_cons_zero, List.getElem?_cons_succ, Option.getD_some]
        repeat (go_big_quiet_step (fail))
        refine wpQuiet_nil ?_
        refine wpFl_tk ?_
        try simp only [opsAt, List.getElem?_toArray, List.getElem?_cons_zero, List.getElem?_cons_succ, Option.getD_some]
        repeat (go_big_quiet_step (fail))
        refine wpQuiet_nil ?_
        refine wpFl_fl rfl ?_
        intro bQ w6 hb6 oQ zQ0 _
        go_simp
        replace hF := below_to hF hb6
        refine wpFl_op rfl ?_
        intro w7 hb7 K' hK'
        replace oQ := oQ.below hb7
        replace hF := below_to hF hb7
        clear hb6 hb7
        obtain ⟨rQ, fQ⟩ := oQ.rules
        have zQ := oQ.lt
        go_wp2_with fail
        refine hK' _ _ (((Mod.refl _ _).set (by simp) _).set (by simp) _) ?_
        clear hK' K' rQ fQ zQ
        replace oQ := (oQ.set 0 (.int .i64 R.n)).set 1 (.int .i64 R.d)
        replace hF := (hF.setCell (p := ⟨bQ, 0, none⟩) zQ0 (.int .i64 R.n)).setCell (p := ⟨bQ, 1, none⟩) zQ0 (.int .i64 R.d)
        refine wpFl_nil (fun w8 hb8 => ?_)
        replace oQ := oQ.below hb8
        replace hF := below_to hF hb8
        clear hb8
        try simp only [opsAt, List.getElem?_toArray, List.getElem?_cons_zero, List.getElem?_cons_succ, Option.getD_some]
        clear rF fF zF oF
        replace hB := below_to hB hF
        replace sx := sx.below hF
        clear hF
        obtain ⟨rQ, fQ⟩ := oQ.rules
        have zQ := oQ.lt
        go_wp2_with fail
        have HT : Hid (ftaps N R.n R.d = ftaps N (fd - fn) fd) := by show _ = _; rw [RO.out.2.2.1, RO.out.2.2.2]
        refine (itaps_any N R.n R.d _ J1.out JR.out.1 JR.out.2).mono ?_
        rintro e y9 ⟨ut, rfl, st, hq⟩
        rw [HT.out] at st ⊢
        have ET := Lib.hid WO.out.t
        rw [ET.out]
        replace hB := below_to hB hq
        replace sx := sx.below hq
        clear hq rQ fQ zQ oQ HT
        go_wp2_with fail
        refine (ifilt_any (fread l N fn fd).1 (ftaps N (fd - fn) fd).1 _ _ _ sx st FX.out (ftaps_FI _ _ _)).mono ?_
        rintro e y10 ⟨uy, rfl, sy, hq⟩
        have EY := Lib.hid WO.out.y
        rw [EY.out]
        replace hB := below_to hB hq
        clear hq sx st
        go_wp2_with fail
        refine (of15_any 0 1 _).mono ?_
        rintro e y11 ⟨rfl, hq⟩
        replace hB := below_to hB hq
        replace sy := sy.below hq
        clear hq
        go_wp2_with fail
        refine (iread_any l _ N 0 1 _ (S0.out.below hB) I0.out J1.out ⟨by decide, by decide⟩ ⟨by decide, by decide⟩).mono ?_
        rintro e y12 ⟨uz, rfl, sz, hq⟩
        have EZ := Lib.hid WO.out.z
        rw [EZ.out]
        replace hB := below_to hB hq
        replace sy := sy.below hq
        clear hq
        have YL := Lib.hid WO.out.ylen
        have ZL := Lib.hid WO.out.zlen
        have YV := Lib.hid WO.out.yval
        have ZV := Lib.hid WO.out.zval
        clear WO EX ET EY EZ FX
        generalize (ffilt (fread l N fn fd).1 (ftaps N (fd - fn) fd).1).1 = yy at *
        generalize (fread l N 0 1).1 = zz at *
        have SY := Lib.hid sy
        have SZ := Lib.hid sz
        obtain ⟨ady, capy, rfl, gy1, gy2, _⟩ := sy.open
        obtain ⟨adz, capz, rfl, gz1, gz2, _⟩ := sz.open
        clear sy sz
        have m1 : ((yy.length : Int) != max 0 ((l.length : Int) - 2 * (N : Int))) = false := by have := YL.out; simp; omega
        have m2 : ((zz.length : Int) != max 0 ((l.length : Int) - (N : Int))) = false := by have := ZL.out; simp; omega
        have yl : yy.length ≤ 24 := by have := YL.out; omega
        have zl : zz.length ≤ 24 := by have := ZL.out; omega
        obtain ⟨c, hc⟩ : ∃ c, c = N / 2 := ⟨_, rfl⟩
        have hc4 : c ≤ 2 := by omega
        have ZC : Hid (∀ k, k < zz.length → k + c < l.length) := by have := ZL.out; show ∀ k, k < zz.length → k + c < l.length; intro k hk; omega
        rw [← hc] at YV ZV
        have q0 : Int.tdiv (N : Int) 2 = (c : Int) := by rw [Int.tdiv_eq_ediv_of_nonneg (by omega)]; omega
        have Q0 := Lib.hid q0
        clear hc YL ZL
        go_upto_region 20 with fail
        clear q0 m1 m2 hN
        go_wp2
        go_loopw [22] (fun i wr => ∃ k : Nat, k ≤ yy.length ∧ i = .int .i64 k ∧ Below w.heap.size w wr ∧ Below y12.heap.size y12 wr) (fun i _ => yy.length + 1 - (intOf i).toNat)
        case atStart => exact ⟨0, Nat.zero_le _, rfl, hB, Below.refl _ _⟩
        case round =>
          clear hB
          obtain ⟨k, hk, rfl, hB, hY⟩ := hrel
          rename World => W2
          by_cases hlt : k < yy.length
          · by_cases hg : k + 2 * c + 1 < l.length
            · have d1 : decide ((k : Int) + 2 * (c : Int) + 1 < (l.length : Int)) = true := by simp; omega
              obtain ⟨_, _, e, _, _, H⟩ := (SY.out.below hY).open
              cases e
              obtain ⟨b', off', rfl, c1, c2⟩ := H.out k hlt
              clear H
              obtain ⟨_, _, e, _, _, H⟩ := (S0.out.below hB).open
              cases e
              obtain ⟨b'', off'', rfl, d2⟩ := H.out (k + 2 * c + 1) hg
              clear H
              have E1 := YV.out k hlt hg
              have E2 : l.getD (k + 2 * c + 1) 0 = l[k + 2 * c + 1] := by simp [List.getD, hg]
              rw [E1, E2] at c1 c2
              clear E1 E2
              generalize l[k + 2 * c + 1] = x at *
              have i3 : ((k : Int) + 2 * (c : Int) + 1).toNat = k + 2 * c + 1 := by omega
              have zb := World.block_lt_of_cell? _ _ c1
              have zb2 := World.block_lt_of_cell? _ _ d2
              simp only at zb zb2
              go_wp2_with fail
              have gl := @grow_lt
              go_wp2_with fail
              refine wp_region_st [.t [0, 1, 2, 3, 4, 5, 6, 7, 8, 9, 10, 11, 12, 13, 14, 15, 16, 17, 18, 19, 20], .f 21, .t [22]] [23] (by kernel_rfl) (by kernel_rfl) (fun _ _ _ _ _ h => h) ?_
              refine wpX_t ?_
              try simp only [opsAt, List.getElem?_toArray, List.getElem?_cons_zero, List.getElem?_cons_succ, Option.getD_some]
              repeat (go_big_quiet_step (fail))
              refine wpQuiet_nil ?_
              refine wpX_f rfl rfl (fun K' hK' => ?_)
              go_simp
              refine (of15_any x 1 _).mono ?_
              rintro e y13 ⟨rfl, hq⟩
              refine hK' _ _ (grow_of (below_to ((Below.refl _ _).drew) hq)) ?_
              clear hK' K'
              refine wpX_t ?_
              try simp only [opsAt, List.getElem?_toArray, List.getElem?_cons_zero, List.getElem?_cons_succ, Option.getD_some]
              repeat (go_big_quiet_step (fail))
              refine wpQuiet_nil ?_
              refine wpX_nil ?_
              try simp only [opsAt, List.getElem?_toArray, List.getElem?_cons_zero, List.getElem?_cons_succ, Option.getD_some]
              replace hB := below_to (hB.drew) hq
              replace hY := below_to (hY.drew) hq
              clear hq gl
              go_wp2
              go_roundw
              case rel => exact ⟨k + 1, by omega, by go_num, hB, hY⟩
              case measure => simp [intOf]; try omega
            · have d1 : decide ((k : Int) + 2 * (c : Int) + 1 < (l.length : Int)) = false := by simp; omega
              go_wp2_with fail
              go_quiet (fail)
              go_wp2
              go_roundw
              case rel => exact ⟨k + 1, by omega, by go_num, bd hB _, bd hY _⟩
              case measure => simp [intOf]; try omega
          · obtain rfl : k = yy.length := by omega
            go_wp2
            go_loopw [23] (fun i wr => ∃ k : Nat, k ≤ zz.length ∧ i = .int .i64 k ∧ Below w.heap.size w wr ∧ Below y12.heap.size y12 wr) (fun i _ => zz.length + 1 - (intOf i).toNat)
            case atStart => exact ⟨0, Nat.zero_le _, rfl, hB, hY⟩
            case round =>
              clear hB hY
              obtain ⟨k, hk, rfl, hB, hY⟩ := hrel
              rename World => W3
              by_cases hlt : k < zz.length
              · have hg := ZC.out k hlt
                obtain ⟨_, _, e, _, _, H⟩ := (SZ.out.below hY).open
                cases e
                obtain ⟨b', off', rfl, c1, c2⟩ := H.out k hlt
                clear H
                obtain ⟨_, _, e, _, _, H⟩ := (S0.out.below hB).open
                cases e
                obtain ⟨b'', off'', rfl, d2⟩ := H.out (k + c) hg
                clear H
                have E1 := ZV.out k hlt
                have E2 : l.getD (k + c) 0 = l[k + c] := by simp [List.getD, hg]
                rw [E1, E2] at c1 c2
                clear E1 E2
                generalize l[k + c] = x at *
                have i3 : ((k : Int) + (c : Int)).toNat = k + c := by omega
                have i4 : (k : Int) + (c : Int) < (l.length : Int) := by omega
                have zb := World.block_lt_of_cell? _ _ c1
                have zb2 := World.block_lt_of_cell? _ _ d2
                simp only at zb zb2
                go_wp2_with fail
                have gl := @grow_lt
                go_wp2_with fail
                refine wp_region_st [.t [0, 1, 2, 3, 4, 5, 6, 7, 8, 9], .f 10] [11] (by kernel_rfl) (by kernel_rfl) (fun _ _ _ _ _ h => h) ?_
                refine wpX_t ?_
                try simp only [opsAt, List.getElem?_toArray, List.getElem?_cons_zero, List.getElem?_cons_succ, Option.getD_some]
                repeat (go_big_quiet_step (fail))
                refine wpQuiet_nil ?_
                refine wpX_f rfl rfl (fun K' hK' => ?_)
                go_simp
                refine (of15_any x 1 _).mono ?_
                rintro e y13 ⟨rfl, hq⟩
                refine hK' _ _ (grow_of (below_to ((Below.refl _ _).drew) hq)) ?_
                clear hK' K'
                refine wpX_nil ?_
                try simp only [opsAt, List.getElem?_toArray, List.getElem?_cons_zero, List.getElem?_cons_succ, Option.getD_some]
                replace hB := below_to (hB.drew) hq
                replace hY := below_to (hY.drew) hq
                clear hq gl
                go_wp2
                go_roundw
                case rel => exact ⟨k + 1, by omega, by go_num, hB, hY⟩
                case measure => simp [intOf]; try omega
              · obtain rfl : k = zz.length := by omega
                go_wp2
                go_ret
                exact ⟨rfl, hB⟩
end Go.Proofs.Ytpjhiojdnebgoaa
