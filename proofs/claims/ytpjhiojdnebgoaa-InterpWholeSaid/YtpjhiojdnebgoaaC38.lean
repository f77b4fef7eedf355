/- What is proved here: contracts of functions and plain facts, several texts in one; each one says ahead what it proves, and its conditions. -/
import Derived.Test.YtpjhiojdnebgoaaC37
import Derived.Test.YtpjhiojdnebgoaaC23
import Derived.Test.YtpjhiojdnebgoaaC34
import Derived.Test.YtpjhiojdnebgoaaC33
import Derived.Test.YtpjhiojdnebgoaaC01
import Derived.Deep.DeepCutAuto
import Derived.IntWalk
/- What is proved here: the contract of interp.Join. Condition: two slices of fractions of 64-bit numbers. -/
namespace Go.Proofs.Ytpjhiojdnebgoaa
open Go.RowKit

theorem ijoin_info : (Try.prog.info? 24).map (fun i => (i.zero, i.size, i.bytes)) = some (some (.agg #[.int .i64 0, .int .i64 0]), 2, 16) := by kernel_rfl
def ijoin_post (w : World) (r : List (Int × Int) × Int) (e : Ending) (w' : World) : Prop := ∃ u, e = .returned (.tuple #[u, .int .i64 r.2]) ∧ SF w' u r.1 ∧ Below w.heap.size w w'
set_option maxRecDepth 100000 in
set_option maxHeartbeats 16000000 in
theorem ijoin_any (l t : List (Int × Int)) (u v : Value) (w : World) (hs : SF w u l) (ht : SF w v t) (il : FI l) (it : FI t) :
    Calls Try.prog 26 #[u, v] w (ijoin_post w (fjoin l t)) := by
  have hs0 := Lib.hid hs
  have ht0 := Lib.hid ht
  have IL := Lib.hid il
  have IT := Lib.hid it
  obtain ⟨ad, cap, rfl, h1, h2, _⟩ := hs.open
  obtain ⟨ad', cap', rfl, h1', h2', _⟩ := ht.open
  clear hs ht il it
  by_cases hm : 20 < l.length ∨ 20 < t.length ∨ 21 < l.length + t.length
  · have HV : Hid (fjoin l t = ([], 4)) := if_pos hm
    by_cases hm1 : 20 < l.length
    · clear hm
      go_enter Try.func26, Try.ntmps26
      go_wp2
      go_ret2
      exact ⟨.slice none 0 0, by rw [HV.out]; try rfl, by rw [HV.out]; exact sf_nil _, Below.refl _ _⟩
    · by_cases hm2 : 20 < t.length
      · have q1 : decide (20 < (l.length : Int)) = false := by simp; omega
        have q2 : decide (20 < (t.length : Int)) = true := by simp; omega
        clear hm
        go_enter Try.func26, Try.ntmps26
        go_wp2
        go_ret2
        exact ⟨.slice none 0 0, by rw [HV.out]; try rfl, by rw [HV.out]; exact sf_nil _, Below.refl _ _⟩
      · have q1 : decide (20 < (l.length : Int)) = false := by simp; omega
        have q2 : decide (20 < (t.length : Int)) = false := by simp; omega
        have q3 : decide (21 < (l.length : Int) + (t.length : Int)) = true := by simp; omega
        have q0 : 21 < (l.length : Int) + (t.length : Int) := by omega
        clear hm
        go_enter Try.func26, Try.ntmps26
        go_wp2
        go_ret2
        exact ⟨.slice none 0 0, by rw [HV.out]; try rfl, by rw [HV.out]; exact sf_nil _, Below.refl _ _⟩
  have l1 : l.length ≤ 20 := by omega
  have l2 : t.length ≤ 20 := by omega
  have l3 : l.length + t.length ≤ 21 := by omega
  have q1 : decide (20 < (l.length : Int)) = false := by simp; omega
  have q2 : decide (20 < (t.length : Int)) = false := by simp; omega
  have q3 : decide (21 < (l.length : Int) + (t.length : Int)) = false := by simp; omega
  by_cases hzl : l.length = 0
  · have HV : Hid (fjoin l t = ([], 8)) := by show _ = _; unfold fjoin; rw [if_neg hm, if_pos (.inl hzl)]
    have bz : ((l.length : Int) == 0) = true := by simp [hzl]
    clear hm hzl
    go_enter Try.func26, Try.ntmps26
    go_wp2
    go_ret2
    exact ⟨.slice none 0 0, by rw [HV.out]; try rfl, by rw [HV.out]; exact sf_nil _, Below.refl _ _⟩
  have bzl : ((l.length : Int) == 0) = false := by simpa using hzl
  by_cases hz : t.length = 0
  · have HV : Hid (fjoin l t = ([], 8)) := by show _ = _; unfold fjoin; rw [if_neg hm, if_pos (.inr (.inl hz))]
    have bz : ((t.length : Int) == 0) = true := by simp [hz]
    clear hm hz hzl
    go_enter Try.func26, Try.ntmps26
    go_wp2
    go_ret2
    exact ⟨.slice none 0 0, by rw [HV.out]; try rfl, by rw [HV.out]; exact sf_nil _, Below.refl _ _⟩
  have bz : ((t.length : Int) == 0) = false := by simpa using hz
  have tp : 0 < t.length := by omega
  have lp : 0 < l.length := by omega
  by_cases v1 : fvalid l = false
  · have HV : Hid (fjoin l t = ([], 8)) := by show _ = _; unfold fjoin; rw [if_neg hm, if_pos (.inr (.inr (.inl v1)))]
    have V1 := Lib.hid v1
    clear hm hz hzl v1
    go_enter Try.func26, Try.ntmps26
    go_wp2_with fail
    refine (ivalid_any l _ _ hs0.out IL.out).mono ?_
    rintro e w1 ⟨rfl, hb1⟩
    rw [V1.out]
    go_wp2
    go_ret2
    exact ⟨.slice none 0 0, by rw [HV.out]; try rfl, by rw [HV.out]; exact sf_nil _, hb1⟩
  by_cases v2 : fvalid t = false
  · have HV : Hid (fjoin l t = ([], 8)) := by show _ = _; unfold fjoin; rw [if_neg hm, if_pos (.inr (.inr (.inr v2)))]
    have V1 : Hid (fvalid l = true) := by show _ = _; simpa using v1
    have V2 := Lib.hid v2
    clear hm hz hzl v1 v2
    go_enter Try.func26, Try.ntmps26
    go_wp2_with fail
    refine (ivalid_any l _ _ hs0.out IL.out).mono ?_
    rintro e w1 ⟨rfl, hb1⟩
    rw [V1.out]
    go_wp2_with fail
    refine (ivalid_any t _ _ (ht0.out.below hb1) IT.out).mono ?_
    rintro e w2 ⟨rfl, hb2⟩
    rw [V2.out]
    go_wp2
    go_ret2
    exact ⟨.slice none 0 0, by rw [HV.out]; try rfl, by rw [HV.out]; exact sf_nil _, below_to hb1 hb2⟩
  have HV : Hid (fjoin l t = rowsOf (jrow l t) (l.length + t.length - 1)) := by
    show _ = _; unfold fjoin; rw [if_neg hm, if_neg]
    intro h; rcases h with h | h | h | h
    · exact hzl h
    · exact hz h
    · exact v1 h
    · exact v2 h
  have V1 : Hid (fvalid l = true) := by show _ = _; simpa using v1
  have V2 : Hid (fvalid t = true) := by show _ = _; simpa using v2
  clear hm hz hzl v1 v2
  go_enter Try.func26, Try.ntmps26
  go_wp2_with fail
  refine (ivalid_any l _ _ hs0.out IL.out).mono ?_
  rintro e w1 ⟨rfl, hb1⟩
  rw [V1.out]
  go_wp2_with fail
  refine (ivalid_any t _ _ (ht0.out.below hb1) IT.out).mono ?_
  rintro e w2 ⟨rfl, hb2⟩
  rw [V2.out]
  have hB := below_to hb1 hb2
  clear hb1 hb2
  obtain ⟨N, hN⟩ : ∃ N, N = l.length + t.length - 1 := ⟨_, rfl⟩
  rw [← hN] at HV
  have n1 : N + 1 ≤ l.length + t.length := by omega
  have n2 : l.length + t.length ≤ N + 1 := by omega
  have MK := mk_fracs N ((l.length : Int) + (t.length : Int) - 1) (by omega) (by omega)
  clear hN
  go_wp2
  clear MK
  have oO := Own.new w2 24 (fcs (List.replicate N (0, 0)))
  have hB2 := below_to hB (ba1 w2 (.cells (fcs (List.replicate N (0, 0))).toArray 24))
  have zw := hB.size
  obtain ⟨G, hG⟩ : ∃ G, G = w2.heap.size := ⟨_, rfl⟩
  rw [← hG] at oO zw ⊢
  clear hG
  go_loopw [54] (fun i wr => ∃ m : Nat, m ≤ N ∧ i = .int .i64 m ∧ Hid ((rowsOf (jrow l t) m).2 = 0) ∧ Own wr G 24 (fcs ((rowsOf (jrow l t) m).1 ++ List.replicate (N - m) (0, 0))) ∧ Below w.heap.size w wr) (fun i _ => N - (intOf i).toNat)
  case atStart => exact ⟨0, Nat.zero_le _, rfl, rfl, oO, hB2⟩
  case round =>
    clear hB oO hB2
    obtain ⟨m, hm, rfl, hr, oO, hB⟩ := hrel
    rename World => W0
    by_cases hlt : m < N
    · obtain ⟨j0, hj0⟩ : ∃ j0, j0 = m + 1 - t.length := ⟨_, rfl⟩
      obtain ⟨j9, hj9⟩ : ∃ j9, j9 = min m (l.length - 1) := ⟨_, rfl⟩
      have mx : max 0 ((m : Int) - (t.length : Int) + 1) = (j0 : Int) := by omega
      have mn : min (m : Int) ((l.length : Int) - 1) = (j9 : Int) := by omega
      have e0 : j0 + t.length ≤ m + 1 ∨ j0 = 0 := by omega
      have e1 : m < j0 + t.length := by omega
      have e2 : j9 ≤ m := by omega
      have e3 : j9 < l.length := by omega
      have e4 : j9 = m ∨ j9 + 1 = l.length := by omega
      have e5 : j0 ≤ j9 + 1 := by omega
      have J0 : Hid (jsumN l t m j0 = ⟨0, 1, 0⟩) := by
        show _ = _
        rcases e0 with h | h
        · exact jsumN_low j0 h
        · rw [h]; rfl
      have JE : Hid (jrow l t m = jsumN l t m (j9 + 1)) := by
        show _ = _
        unfold jrow
        rcases e4 with h | h
        · exact jsumN_high (by omega) _ (by omega)
        · rw [h]
      clear hj0 hj9
      go_wp2_with fail
      have oS := Own.new W0 24 [.int .i64 0, .int .i64 1]
      have hS := ba1 W0 (.cells #[.int .i64 0, .int .i64 1] 24)
      have zG := oO.lt
      go_loopw [9] (fun q wq => ∃ j : Nat, j0 ≤ j ∧ j ≤ j9 + 1 ∧ q = .int .i64 j ∧ Hid ((jsumN l t m j).e = 0) ∧ Own wq W0.heap.size 24 [.int .i64 (jsumN l t m j).n, .int .i64 (jsumN l t m j).d] ∧ Below W0.heap.size W0 wq) (fun q _ => j9 + 1 - (intOf q).toNat)
      case atStart => exact ⟨j0, Nat.le_refl _, e5, rfl, by show _ = _; rw [J0.out], by rw [J0.out]; exact oS, hS⟩
      case round =>
        clear oS hS
        obtain ⟨j, hj0, hj, rfl, he, oS, hS⟩ := hrel
        by_cases hkj : j ≤ j9
        · have hkt : j < l.length := by omega
          have hjm : j ≤ m := by omega
          have hkl : m - j < t.length := by omega
          have hBq := below_to hB hS
          obtain ⟨_, _, e, _, _, H⟩ := (hs0.out.below hBq).open
          cases e
          obtain ⟨b, off, rfl, c1, c2⟩ := H.out j hkt
          obtain ⟨_, _, e, _, _, H'⟩ := (ht0.out.below hBq).open
          cases e
          obtain ⟨b', off', rfl, c1', c2'⟩ := H'.out (m - j) hkl
          clear H H'
          obtain ⟨j1, j2⟩ := jsumN_i64 l t m j
          obtain ⟨j3, j4⟩ := IL.out.get j hkt
          obtain ⟨j5, j6⟩ := IT.out.get (m - j) hkl
          have J1 := Lib.hid j1
          have J2 := Lib.hid j2
          have J3 := Lib.hid j3
          have J4 := Lib.hid j4
          have J5 := Lib.hid j5
          have J6 := Lib.hid j6
          clear j1 j2 j3 j4 j5 j6
          have HP := Lib.hid (jsumN_succ hkt hjm hkl he.out)
          have HX := Lib.hid (fun h => join_end (N := N) hr.out hkt h (by omega))
          generalize l[j].1 = tn at *
          generalize l[j].2 = td at *
          generalize t[m - j].1 = ln at *
          generalize t[m - j].2 = ld at *
          generalize (jsumN l t m j).n = sn at *
          generalize (jsumN l t m j).d = sd at *
          generalize hpp : jsumN l t m (j + 1) = p at *
          have HPP := Lib.hid hpp
          clear hpp
          have a1 : IntKind.i64.wrap ((m : Int) - (j : Int)) = (m : Int) - (j : Int) := IntWalk.i64_in _ (by omega)
          have a2 : 0 ≤ (m : Int) - (j : Int) := by omega
          have a3 : ((m : Int) - (j : Int)).toNat = m - j := by omega
          have a4 : (m : Int) - (j : Int) < (t.length : Int) := by omega
          have a5 : decide ((m : Int) - (j : Int) < 0) = false := by simp; omega
          have a6 : decide ((t.length : Int) ≤ (m : Int) - (j : Int)) = false := by simp; omega
          by_cases hp : p.e = 0
          · have b1 : (p.e != 0) = false := by simp [hp]
            have PE := Lib.hid hp
            clear hp HX
            obtain ⟨rS, fS⟩ := oS.rules
            have zS := oS.lt
            go_wp2
            have zb := World.block_lt_of_cell? _ _ c1
            have zb2 := World.block_lt_of_cell? _ _ c1'
            simp only at zb zb2
            have gl := @grow_lt
            go_wp2_with fail
            refine wp_region_stt [.t [0, 1, 2, 3, 4, 5, 6, 7, 8, 9, 10], .f 11] [12, 13, 14] [15, 16] (by kernel_rfl) (by kernel_rfl) (fun _ _ _ _ _ h => h) ?_
            refine wpX_t ?_
            try simp only [opsAt, List.getElem?_toArray, List.getElem?_cons_zero, List.getElem?_cons_succ, Option.getD_some]
            repeat (go_big_quiet_step (fail))
            refine wpQuiet_nil ?_
            refine wpX_f rfl rfl (fun K' hK' => ?_)
            go_simp
            refine (iplus_any _ _ _ _ _ _ _ J1.out J2.out J3.out J4.out J5.out J6.out).mono ?_
            rintro e y2 ⟨rfl, hq⟩
            refine hK' _ _ (grow_of (below_to ((Below.refl _ _).drew) hq)) ?_
            clear hK' K'
            rw [← HP.out]
            refine wpX_nil ?_
            try simp only [opsAt, List.getElem?_toArray, List.getElem?_cons_zero, List.getElem?_cons_succ, Option.getD_some]
            repeat (go_big_quiet_step (fail))
            refine wpQuiet_nil ?_
            try simp only [opsAt, List.getElem?_toArray, List.getElem?_cons_zero, List.getElem?_cons_succ, Option.getD_some]
            clear gl
            clear rS fS zS c1 c2 c1' c2'
            replace oS := (oS.drew).below hq
            replace hS := below_to (hS.drew) hq
            clear hq
            obtain ⟨rS, fS⟩ := oS.rules
            have zS := oS.lt
            go_wp2
            go_roundw
            case rel => exact ⟨j + 1, by omega, by omega, by go_num, by rw [HPP.out]; exact PE, by rw [HPP.out]; exact (oS.set 0 (.int .i64 p.n)).set 1 (.int .i64 p.d), (hS.setCell (by simp) _).setCell (by simp) _⟩
            case measure => simp [intOf]; try omega
          · have b1 : (p.e != 0) = true := by simpa using hp
            have PX := Lib.hid (HX.out hp)
            clear hp HX
            have zr := hB.size
            obtain ⟨rS, fS⟩ := oS.rules
            have zS := oS.lt
            go_wp2
            have zb := World.block_lt_of_cell? _ _ c1
            have zb2 := World.block_lt_of_cell? _ _ c1'
            simp only at zb zb2
            have gl := @grow_lt
            go_wp2_with fail
            refine wp_region_stt [.t [0, 1, 2, 3, 4, 5, 6, 7, 8, 9, 10], .f 11] [12, 13, 14] [15, 16] (by kernel_rfl) (by kernel_rfl) (fun _ _ _ _ _ h => h) ?_
            refine wpX_t ?_
            try simp only [opsAt, List.getElem?_toArray, List.getElem?_cons_zero, List.getElem?_cons_succ, Option.getD_some]
            repeat (go_big_quiet_step (fail))
            refine wpQuiet_nil ?_
            refine wpX_f rfl rfl (fun K' hK' => ?_)
            go_simp
            refine (iplus_any _ _ _ _ _ _ _ J1.out J2.out J3.out J4.out J5.out J6.out).mono ?_
            rintro e y2 ⟨rfl, hq⟩
            refine hK' _ _ (grow_of (below_to ((Below.refl _ _).drew) hq)) ?_
            clear hK' K'
            rw [← HP.out]
            refine wpX_nil ?_
            try simp only [opsAt, List.getElem?_toArray, List.getElem?_cons_zero, List.getElem?_cons_succ, Option.getD_some]
            repeat (go_big_quiet_step (fail))
            refine wpQuiet_nil ?_
            try simp only [opsAt, List.getElem?_toArray, List.getElem?_cons_zero, List.getElem?_cons_succ, Option.getD_some]
            clear gl
            clear rS fS zS c1 c2 c1' c2'
            replace oS := (oS.drew).below hq
            replace hS := below_to (hS.drew) hq
            clear hq
            obtain ⟨rS, fS⟩ := oS.rules
            have zS := oS.lt
            go_wp2
            go_ret2
            exact ⟨.slice none 0 0, by rw [HV.out, PX.out]; try rfl, by rw [HV.out, PX.out]; exact sf_nil _, (below_to hB hS).setCell (by simp; omega) _ |>.setCell (by simp; omega) _⟩
        · obtain rfl : j = j9 + 1 := by omega
          have je := JE.out
          rw [← je] at he oS
          have HF := Lib.hid (rows_succ hr.out he.out)
          have HE2 := Lib.hid (congrArg Prod.snd HF.out)
          have HE1 := Lib.hid (congrArg Prod.fst HF.out)
          have RL := Lib.hid (rows_len m hr.out)
          clear HF je
          generalize (jrow l t m).n = sn at *
          generalize (jrow l t m).d = sd at *
          replace oO := oO.below hS
          have zr := hB.size
          have zq := hS.size
          have hne : ¬ W0.heap.size = G := by omega
          obtain ⟨v1, v2, g1, g2⟩ := fcs_some ((rowsOf (jrow l t) m).1 ++ List.replicate (N - m) (0, 0)) m (by have := RL.out; simp; omega)
          obtain ⟨rS, fS⟩ := oS.rules
          have zS := oS.lt
          obtain ⟨rO, fO⟩ := oO.rules
          have zO := oO.lt
          go_wp2
          go_roundw
          case rel =>
            refine ⟨m + 1, by omega, by go_num, HE2, ?_, ?_⟩
            · have o2 := (oO.set (m * 2) (.int .i64 sn)).set (m * 2 + 1) (.int .i64 sd)
              rw [fcs_set _ m (sn, sd), fill_rows _ m N (sn, sd) RL.out hlt] at o2
              rw [HE1.out]
              exact o2
            · exact ((below_to hB hS).setCell (by simp; omega) _).setCell (by simp; omega) _
          case measure => simp [intOf]; try omega
    · obtain rfl : m = N := by omega
      have HE : Hid (fjoin l t = rowsOf (jrow l t) m) := HV.out
      have RL := Lib.hid (rows_len m hr.out)
      have hsl : Sl W0 (.slice (some ⟨G, 0, none⟩) m m) m (fcs (rowsOf (jrow l t) m).1) := by
        have := oO.sl (n := m) m (Nat.le_refl _) (by omega) (fcs (rowsOf (jrow l t) m).1) ⟨[], by rw [Nat.sub_self]; simp⟩
        exact this
      clear oO
      go_wp2
      go_ret2
      refine ⟨.slice (some ⟨G, 0, none⟩) m m, by rw [HE.out, hr.out]; try rfl, ?_, hB⟩
      rw [HE.out]
      unfold SF
      rw [RL.out]
      exact hsl
end Go.Proofs.Ytpjhiojdnebgoaa
