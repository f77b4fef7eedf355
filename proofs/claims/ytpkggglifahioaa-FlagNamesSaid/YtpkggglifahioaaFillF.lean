/- What is proved here: the contract of the reference's Filled. Condition: the mask is valid and the fraction is a part. -/
import Derived.Test.YtpkggglifahioaaFillE
namespace Go.Proofs.Ytpkggglifahioaa
open Go.RowKit

set_option maxRecDepth 100000 in
set_option maxHeartbeats 16000000 in
theorem filled_any (T C : Nat) (v : Value) (xs : List Bool) (fn fd : Int) (w : World) (h : SB w v xs) (hT : 1 ≤ T) (hT2 : T ≤ 32) (hC : 1 ≤ C) (hC2 : C ≤ 16) (hn : xs.length = T * C) (hp : prtB fn fd = true) :
    Calls Try.prog 48 #[.agg #[.int .i64 T, .int .i64 C, v], .agg #[.int .i64 fn, .int .i64 fd]] w fun e w' =>
      ∃ u, e = .returned (.agg #[.int .i64 T, .int .i64 C, u]) ∧ SB w' u (fillL T C xs fn fd) ∧ Frv w.heap.size u ∧ Below w.heap.size w w' := by
  have hs := h
  obtain ⟨ad, cap, rfl, h1, h2, h3⟩ := h.open
  clear h
  have hl : xs.length ≤ 512 := by rw [hn]; have := Nat.mul_le_mul hT2 hC2; omega
  have hl1 : 1 ≤ xs.length := by rw [hn]; have := Nat.mul_le_mul hT hC; omega
  have HN := Lib.hid hn
  clear hn h3
  have oM := (own_first w 24 [.int .i64 T, .int .i64 C, .slice ad xs.length cap] (.cells #[.int .i64 fn, .int .i64 fd] 49)).alloc (.cells #[.int .i64 0, .int .i64 0, .slice none 0 0] 24)
  have oP := (own_second w 49 [.int .i64 fn, .int .i64 fd] (.cells #[.int .i64 T, .int .i64 C, .slice ad xs.length cap] 24)).alloc (.cells #[.int .i64 0, .int .i64 0, .slice none 0 0] 24)
  have oR := own_third w 24 [.int .i64 0, .int .i64 0, .slice none 0 0] (.cells #[.int .i64 T, .int .i64 C, .slice ad xs.length cap] 24) (.cells #[.int .i64 fn, .int .i64 fd] 49)
  have hb := ba3 w (.cells #[.int .i64 T, .int .i64 C, .slice ad xs.length cap] 24) (.cells #[.int .i64 fn, .int .i64 fd] 49) (.cells #[.int .i64 0, .int .i64 0, .slice none 0 0] 24)
  go_enter Try.func48, Try.ntmps48
  go_upto_region 1 with fail
  generalize ((w.alloc (.cells #[.int .i64 T, .int .i64 C, .slice ad xs.length cap] 24)).alloc (.cells #[.int .i64 fn, .int .i64 fd] 49)).alloc (.cells #[.int .i64 0, .int .i64 0, .slice none 0 0] 24) = w2 at *
  have hs2 := hs.below hb
  obtain ⟨rM, fM⟩ := oM.rules
  have hsz := oR.lt
  have z0 : w.heap.size < w2.heap.size := by omega
  go_cut [5] (fun s wx => ∃ (bx g cp : Nat) (js : List Value), s = .pointer (some ⟨bx, 0, none⟩) ∧ w2.heap.size ≤ bx ∧ w2.heap.size ≤ g ∧ bx ≠ g ∧ xs.length ≤ cp ∧ Own wx bx 24 [.int .i64 T, .int .i64 C, .slice (some ⟨g, 0, none⟩) xs.length cp] ∧ Own wx g 4 (bv xs.length (fR C xs fn fd 0 0) ++ js) ∧ Below w2.heap.size w2 wx)
  case first =>
    have gl := @grow_lt
    refine wp_region_fa 9 5 24 [.int .i64 0, .int .i64 0, .slice none 0 0] [0, 2, 5] [1, 3, 6] [4, 7, 8] [10] (by kernel_rfl) (by kernel_rfl) (fun ρ W => by kernel_rfl) (fun _ _ _ _ _ h => h) (fun _ _ _ _ _ h => h) ?_
    simp only [opsAt, List.getElem?_toArray, List.getElem?_cons_zero, List.getElem?_cons_succ, Option.getD_some]
    repeat (go_big_quiet_step (fail))
    refine wpQuiet_nil ?_
    repeat (go_big_quiet_step (fail))
    refine wpQuiet_nil ?_
    clear gl
    intro w3 hb3
    refine wpCh_cons (fun K' hK' => ?_)
    go_simp
    refine hK' _ _ (below_to hb3 (ba1 _ _)) (fun b hb => hb.alloc _) (fun w4 hb4 => ?_)
    clear hK' K'
    refine wpCh_cons (fun K' hK' => ?_)
    have p4 : Own w4 w3.heap.size 4 [] := (Own.new w3 4 []).below hb4
    have hb5 := below_to (below_to hb3 (ba1 _ _)) hb4
    refine wp_own _ _ _ _ rfl 4 1 1 (.bool false) Try.underlying22 Try.infoBool rfl (by omega) (by omega) w3.heap.size rfl p4 _ xs.length (xs.map Value.bool) rfl (hs2.below hb5) (by simp) (one_bools xs) (by omega) ?_
    intro g cp w5 how hgp hgw
    have hp3 := hb3.size
    obtain ⟨g', cp', js, hgg, hg, hcp, og⟩ := owns_own how (by omega)
    cases hgg
    rw [bv_xs, bv_same _ _ _ (fun j _ => (fR_zero C xs fn fd j).symm)] at og
    refine hK' _ _ (grown_below hgw hp3 hb5 hb5.size) (fun b hb => grown_own hgw (fun e => by subst e; unfold Own at hb p4; rw [hb] at p4; simp at p4) hb) (fun w6 hb6 => ?_)
    clear hK' K'
    refine wpCh_cons (fun K' hK' => ?_)
    go_simp
    have hb7 := grown_below hgw hp3 hb5 hb5.size
    refine hK' _ _ (below_to hb7 hb6) (fun b hb => hb) (fun w7 hbn => wpCh_nil ?_)
    clear hK' K'
    intro b hob hbw
    have og := (og.below hb6).below hbn
    have hB := below_to (below_to hb7 hb6) hbn
    clear hb4 hb5 hb6 hb7 hbn rM fM how hgw
    obtain ⟨rB, fB⟩ := hob.rules
    have hne := og.ne hob (by decide)
    go_wp2
    go_meet
    refine ⟨b, g, cp, js, rfl, hbw, by omega, hne, hcp, ((hob.set 0 _).set 1 _).set 2 _, ((og.other (Ne.symm hne) 0 _).other (Ne.symm hne) 1 _).other (Ne.symm hne) 2 _, ?_⟩
    repeat (refine Below.setCell ?_ (by first | omega | (simp; omega)) _)
    exact hB
  case rest =>
    obtain ⟨bx, g, cp, js, rfl, hbx, hg, hne, hcp, oX, oG, hbx2⟩ := hcut
    clear rM fM hs2
    have oM := oM.below hbx2
    have oP := oP.below hbx2
    have oR := oR.below hbx2
    have hbw := below_to hb hbx2
    clear hb
    go_wp2
    go_loopw [6] (fun i wr => ∃ t : Nat, t ≤ T ∧ i = .int .i64 t ∧ Own wr w.heap.size 24 [.int .i64 T, .int .i64 C, .slice ad xs.length cap] ∧ Own wr (w.heap.size + 1) 49 [.int .i64 fn, .int .i64 fd] ∧ Own wr (w.heap.size + 1 + 1) 24 [.int .i64 0, .int .i64 0, .slice none 0 0] ∧ Own wr bx 24 [.int .i64 T, .int .i64 C, .slice (some ⟨g, 0, none⟩) xs.length cp] ∧ Own wr g 4 (bv xs.length (fR C xs fn fd t 0) ++ js) ∧ Below w.heap.size w wr) (fun i _ => T - (intOf i).toNat)
    case atStart => exact ⟨0, Nat.zero_le _, rfl, oM, oP, oR, oX, oG, hbw⟩
    case round =>
      clear oM oP oR oX oG hbw hbx2
      obtain ⟨t, ht, rfl, oM, oP, oR, oX, oG, hbr⟩ := hrel
      obtain ⟨wo, rfl⟩ : ∃ wo : World, wo = wr := ⟨_, rfl⟩
      obtain ⟨rM, fM⟩ := oM.rules
      by_cases hlt : t < T
      · go_wp2
        clear rM fM
        go_loopw [7, 8] (fun s i wr => ∃ c : Nat, c ≤ C ∧ i = .int .i64 c ∧ s = .int .i64 (cnt xs (· / C) t (t * C + c)) ∧ Own wr w.heap.size 24 [.int .i64 T, .int .i64 C, .slice ad xs.length cap] ∧ Own wr (w.heap.size + 1) 49 [.int .i64 fn, .int .i64 fd] ∧ Own wr (w.heap.size + 1 + 1) 24 [.int .i64 0, .int .i64 0, .slice none 0 0] ∧ Own wr bx 24 [.int .i64 T, .int .i64 C, .slice (some ⟨g, 0, none⟩) xs.length cp] ∧ Own wr g 4 (bv xs.length (fR C xs fn fd t 0) ++ js) ∧ Below w.heap.size w wr) (fun _ i _ => C - (intOf i).toNat)
        case atStart => exact ⟨0, Nat.zero_le _, rfl, by rw [cnt_pre xs C t _ (by omega)]; rfl, oM, oP, oR, oX, oG, hbr⟩
        case round =>
          clear oM oP oR oX oG hbr
          obtain ⟨c, hc, rfl, rfl, oM, oP, oR, oX, oG, hbr⟩ := hrel
          obtain ⟨rM, fM⟩ := oM.rules
          by_cases hlc : c < C
          · have hidx := row_lt hlt hlc
            have hk : t * C + c < xs.length := by rw [HN.out]; exact hidx
            have hcs := cnt_rowS xs (t := t) hlc
            rw [getD_lt hk] at hcs
            have HS := Lib.hid hcs
            clear hcs
            have l1 := cnt_le xs (· / C) t (t * C + c)
            have m1 : t * C ≤ 512 := by omega
            go_wp2_with fail
            refine (at_any T C t c (t * C + c) _ xs _ (hs.below hbr) (by rw [← Int.natCast_mul]; omega) (by rw [← Int.natCast_mul]; omega) (by omega) (by omega) (by rw [← Int.natCast_mul]; omega) hk).mono ?_
            rintro e w4 ⟨rfl, hb4⟩
            clear rM fM
            have oM := oM.below hb4
            have oP := oP.below hb4
            have oR := oR.below hb4
            have oX := oX.below hb4
            have oG := oG.below hb4
            have hbr := below_to hbr hb4
            clear hb4
            by_cases hx : xs[t * C + c] = true
            · have HS2 : Hid (cnt xs (· / C) t (t * C + (c + 1)) = cnt xs (· / C) t (t * C + c) + 1) := by show _ = _; rw [HS.out, if_pos hx]
              rw [hx]
              clear HS
              generalize cnt xs (· / C) t (t * C + c) = m at *
              go_wp2
              go_roundw
              case rel => exact ⟨c + 1, by omega, by go_num, by rw [HS2.out]; go_num, oM, oP, oR, oX, oG, hbr⟩
              case measure => simp [intOf]; omega
            · have HS2 : Hid (cnt xs (· / C) t (t * C + (c + 1)) = cnt xs (· / C) t (t * C + c)) := by show _ = _; rw [HS.out, if_neg hx]; rfl
              have hx' : xs[t * C + c] = false := by simpa using hx
              rw [hx']
              clear HS hx hx'
              generalize cnt xs (· / C) t (t * C + c) = m at *
              go_wp2
              go_roundw
              case rel => exact ⟨c + 1, by omega, by go_num, by rw [HS2.out], oM, oP, oR, oX, oG, hbr⟩
              case measure => simp [intOf]; omega
          · obtain rfl : C = c := by omega
            rw [cnt_row xs (by omega) hlt HN.out]
            have l1 := cnt_le xs (· / C) t xs.length
            have HG := Lib.hid (fR_skip (C := C) (xs := xs) (fn := fn) (fd := fd) (t := t))
            have HG2 := Lib.hid (fun (d : Nat) (hd : d < C) => fR_step (C := C) (xs := xs) (fn := fn) (fd := fd) (t := t) hd)
            generalize cnt xs (· / C) t xs.length = m at *
            go_wp2
            clear rM fM
            go_loopw [9] (fun i wr => ∃ d : Nat, d ≤ C ∧ i = .int .i64 d ∧ Hid (d = 0 ∨ enB fn fd m C = true) ∧ Own wr w.heap.size 24 [.int .i64 T, .int .i64 C, .slice ad xs.length cap] ∧ Own wr (w.heap.size + 1) 49 [.int .i64 fn, .int .i64 fd] ∧ Own wr (w.heap.size + 1 + 1) 24 [.int .i64 0, .int .i64 0, .slice none 0 0] ∧ Own wr bx 24 [.int .i64 T, .int .i64 C, .slice (some ⟨g, 0, none⟩) xs.length cp] ∧ Own wr g 4 (bv xs.length (fR C xs fn fd t d) ++ js) ∧ Below w.heap.size w wr) (fun i _ => C - (intOf i).toNat)
            case atStart => exact ⟨0, Nat.zero_le _, rfl, Lib.hid (.inl rfl), oM, oP, oR, oX, oG, hbr⟩
            case round =>
              clear oM oP oR oX oG hbr
              obtain ⟨d, hd, rfl, hen, oM, oP, oR, oX, oG, hbr⟩ := hrel
              obtain ⟨rM, fM⟩ := oM.rules
              obtain ⟨rP, fP⟩ := oP.rules
              by_cases hld : d < C
              · go_wp2_with fail
                refine (enough_any m C fn fd _ hp (by omega) (by omega) (by omega)).mono ?_
                rintro e w4 ⟨rfl, hb4⟩
                clear rM fM rP fP
                have oM := oM.below hb4
                have oP := oP.below hb4
                have oR := oR.below hb4
                have oX := oX.below hb4
                have oG := oG.below hb4
                have hbr := below_to hbr hb4
                clear hb4
                obtain ⟨rM, fM⟩ := oM.rules
                obtain ⟨rX, fX⟩ := oX.rules
                by_cases he : enB fn fd m C = true
                · have hidx := row_lt hlt hld
                  have hk : t * C + d < xs.length := by rw [HN.out]; exact hidx
                  have m1 : t * C ≤ 512 := by omega
                  have k1 : (t : Int) * (C : Int) = ((t * C : Nat) : Int) := (Int.natCast_mul _ _).symm
                  have t5 : w4.cell? ⟨g, t * C + d, none⟩ = some (.bool (fR C xs fn fd t d (t * C + d))) := by
                    have := oG.rules.1 (t * C + d); rw [bv_at _ _ _ _ hk] at this; exact this
                  have t6 := oG.rules.2
                  have HS : Hid ((bv xs.length (fR C xs fn fd t d) ++ js).set (t * C + d) (.bool true) = bv xs.length (fR C xs fn fd t (d + 1)) ++ js) := bv_put _ _ _ _ _ hk (fun j _ => HG2.out d hld he j)
                  have x1 : ¬ w.heap.size = g := by omega
                  have HE := Lib.hid he
                  generalize t * C = tc at *
                  rw [he]
                  clear he
                  go_wp2
                  go_roundw
                  case rel =>
                    refine ⟨d + 1, by omega, by go_num, Lib.hid (.inr HE.out), oM.other (by omega) _ _, oP.other (by omega) _ _, oR.other (by omega) _ _, oX.other hne _ _, ?_, hbr.setCell (by simp; omega) _⟩
                    rw [← HS.out]; exact oG.set (tc + d) _
                  case measure => simp [intOf]; omega
                · have he' : enB fn fd m C = false := by simpa using he
                  obtain rfl : d = 0 := by
                    rcases hen.out with h | h
                    · exact h
                    · exact absurd h he
                  have HS : Hid (bv xs.length (fR C xs fn fd t 0) = bv xs.length (fR C xs fn fd (t + 1) 0)) := bv_same _ _ _ (fun j _ => (HG.out he' j).symm)
                  rw [he']
                  clear he he'
                  go_wp2
                  go_roundw
                  case rel => exact ⟨t + 1, by omega, by go_num, oM, oP, oR, oX, by rw [← HS.out]; exact oG, hbr⟩
                  case measure => simp [intOf]; omega
              · obtain rfl : C = d := by omega
                have HS : Hid (bv xs.length (fR C xs fn fd t C) = bv xs.length (fR C xs fn fd (t + 1) 0)) := bv_same _ _ _ (fun j _ => (fR_next (by omega) j).symm)
                go_wp2
                go_roundw
                case rel => exact ⟨t + 1, by omega, by go_num, oM, oP, oR, oX, by rw [← HS.out]; exact oG, hbr⟩
                case measure => simp [intOf]; omega
      · obtain rfl : T = t := by omega
        rw [bv_same _ _ _ (fun j _ => (fC_zero T C xs fn fd j).symm)] at oG
        go_wp2
        clear rM fM
        go_loopw [10] (fun i wr => ∃ c : Nat, c ≤ C ∧ i = .int .i64 c ∧ Own wr w.heap.size 24 [.int .i64 T, .int .i64 C, .slice ad xs.length cap] ∧ Own wr (w.heap.size + 1) 49 [.int .i64 fn, .int .i64 fd] ∧ Own wr (w.heap.size + 1 + 1) 24 [.int .i64 0, .int .i64 0, .slice none 0 0] ∧ Own wr bx 24 [.int .i64 T, .int .i64 C, .slice (some ⟨g, 0, none⟩) xs.length cp] ∧ Own wr g 4 (bv xs.length (fC T C xs fn fd c 0) ++ js) ∧ Below w.heap.size w wr) (fun i _ => C - (intOf i).toNat)
        case atStart => exact ⟨0, Nat.zero_le _, rfl, oM, oP, oR, oX, oG, hbr⟩
        case round =>
          clear oM oP oR oX oG hbr
          obtain ⟨c, hc, rfl, oM, oP, oR, oX, oG, hbr⟩ := hrel
          obtain ⟨wi, rfl⟩ : ∃ wi : World, wi = wr := ⟨_, rfl⟩
          obtain ⟨rM, fM⟩ := oM.rules
          by_cases hlt2 : c < C
          · go_wp2
            clear rM fM
            go_loopw [11, 12] (fun s i wr => ∃ t : Nat, t ≤ T ∧ i = .int .i64 t ∧ s = .int .i64 (cnt xs (· % C) c (t * C)) ∧ Own wr w.heap.size 24 [.int .i64 T, .int .i64 C, .slice ad xs.length cap] ∧ Own wr (w.heap.size + 1) 49 [.int .i64 fn, .int .i64 fd] ∧ Own wr (w.heap.size + 1 + 1) 24 [.int .i64 0, .int .i64 0, .slice none 0 0] ∧ Own wr bx 24 [.int .i64 T, .int .i64 C, .slice (some ⟨g, 0, none⟩) xs.length cp] ∧ Own wr g 4 (bv xs.length (fC T C xs fn fd c 0) ++ js) ∧ Below w.heap.size w wr) (fun _ i _ => T - (intOf i).toNat)
            case atStart => exact ⟨0, Nat.zero_le _, rfl, by rw [Nat.zero_mul]; rfl, oM, oP, oR, oX, oG, hbr⟩
            case round =>
              clear oM oP oR oX oG hbr
              obtain ⟨t, htt, rfl, rfl, oM, oP, oR, oX, oG, hbr⟩ := hrel
              obtain ⟨rM, fM⟩ := oM.rules
              by_cases hlc : t < T
              · have hidx := row_lt hlc hlt2
                have hk : t * C + c < xs.length := by rw [HN.out]; exact hidx
                have hcs := cnt_colS xs (t := t) hlt2
                rw [getD_lt hk] at hcs
                have HS := Lib.hid hcs
                clear hcs
                have l1 := cnt_le xs (· % C) c (t * C)
                have m1 : t * C ≤ 512 := by omega
                go_wp2_with fail
                refine (at_any T C t c (t * C + c) _ xs _ (hs.below hbr) (by rw [← Int.natCast_mul]; omega) (by rw [← Int.natCast_mul]; omega) (by omega) (by omega) (by rw [← Int.natCast_mul]; omega) hk).mono ?_
                rintro e w4 ⟨rfl, hb4⟩
                clear rM fM
                have oM := oM.below hb4
                have oP := oP.below hb4
                have oR := oR.below hb4
                have oX := oX.below hb4
                have oG := oG.below hb4
                have hbr := below_to hbr hb4
                clear hb4
                by_cases hx : xs[t * C + c] = true
                · have HS2 : Hid (cnt xs (· % C) c ((t + 1) * C) = cnt xs (· % C) c (t * C) + 1) := by show _ = _; rw [HS.out, if_pos hx]
                  rw [hx]
                  clear HS
                  generalize cnt xs (· % C) c (t * C) = m at *
                  go_wp2
                  go_roundw
                  case rel => exact ⟨t + 1, by omega, by go_num, by rw [HS2.out]; go_num, oM, oP, oR, oX, oG, hbr⟩
                  case measure => simp [intOf]; omega
                · have HS2 : Hid (cnt xs (· % C) c ((t + 1) * C) = cnt xs (· % C) c (t * C)) := by show _ = _; rw [HS.out, if_neg hx]; rfl
                  have hx' : xs[t * C + c] = false := by simpa using hx
                  rw [hx']
                  clear HS hx hx'
                  generalize cnt xs (· % C) c (t * C) = m at *
                  go_wp2
                  go_roundw
                  case rel => exact ⟨t + 1, by omega, by go_num, by rw [HS2.out], oM, oP, oR, oX, oG, hbr⟩
                  case measure => simp [intOf]; omega
              · obtain rfl : T = t := by omega
                rw [← HN.out]
                have l1 := cnt_le xs (· % C) c xs.length
                have HG := Lib.hid (fC_skip (T := T) (C := C) (xs := xs) (fn := fn) (fd := fd) (c := c))
                have HG2 := Lib.hid (fun (d : Nat) => fC_step (T := T) (C := C) (xs := xs) (fn := fn) (fd := fd) (t := d) hlt2)
                generalize cnt xs (· % C) c xs.length = m at *
                go_wp2
                clear rM fM
                go_loopw [13] (fun i wr => ∃ d : Nat, d ≤ T ∧ i = .int .i64 d ∧ Hid (d = 0 ∨ enB fn fd m T = true) ∧ Own wr w.heap.size 24 [.int .i64 T, .int .i64 C, .slice ad xs.length cap] ∧ Own wr (w.heap.size + 1) 49 [.int .i64 fn, .int .i64 fd] ∧ Own wr (w.heap.size + 1 + 1) 24 [.int .i64 0, .int .i64 0, .slice none 0 0] ∧ Own wr bx 24 [.int .i64 T, .int .i64 C, .slice (some ⟨g, 0, none⟩) xs.length cp] ∧ Own wr g 4 (bv xs.length (fC T C xs fn fd c d) ++ js) ∧ Below w.heap.size w wr) (fun i _ => T - (intOf i).toNat)
                case atStart => exact ⟨0, Nat.zero_le _, rfl, Lib.hid (.inl rfl), oM, oP, oR, oX, oG, hbr⟩
                case round =>
                  clear oM oP oR oX oG hbr
                  obtain ⟨d, hd, rfl, hen, oM, oP, oR, oX, oG, hbr⟩ := hrel
                  obtain ⟨rM, fM⟩ := oM.rules
                  obtain ⟨rP, fP⟩ := oP.rules
                  by_cases hld : d < T
                  · go_wp2_with fail
                    refine (enough_any m T fn fd _ hp (by omega) (by omega) (by omega)).mono ?_
                    rintro e w4 ⟨rfl, hb4⟩
                    clear rM fM rP fP
                    have oM := oM.below hb4
                    have oP := oP.below hb4
                    have oR := oR.below hb4
                    have oX := oX.below hb4
                    have oG := oG.below hb4
                    have hbr := below_to hbr hb4
                    clear hb4
                    obtain ⟨rM, fM⟩ := oM.rules
                    obtain ⟨rX, fX⟩ := oX.rules
                    by_cases he : enB fn fd m T = true
                    · have hidx := row_lt hld hlt2
                      have hk : d * C + c < xs.length := by rw [HN.out]; exact hidx
                      have m1 : d * C ≤ 512 := by omega
                      have k1 : (d : Int) * (C : Int) = ((d * C : Nat) : Int) := (Int.natCast_mul _ _).symm
                      have t5 : w4.cell? ⟨g, d * C + c, none⟩ = some (.bool (fC T C xs fn fd c d (d * C + c))) := by
                        have := oG.rules.1 (d * C + c); rw [bv_at _ _ _ _ hk] at this; exact this
                      have t6 := oG.rules.2
                      have HS : Hid ((bv xs.length (fC T C xs fn fd c d) ++ js).set (d * C + c) (.bool true) = bv xs.length (fC T C xs fn fd c (d + 1)) ++ js) := bv_put _ _ _ _ _ hk (fun j _ => HG2.out d he j)
                      have x1 : ¬ w.heap.size = g := by omega
                      have HE := Lib.hid he
                      generalize d * C = tc at *
                      rw [he]
                      clear he
                      go_wp2
                      go_roundw
                      case rel =>
                        refine ⟨d + 1, by omega, by go_num, Lib.hid (.inr HE.out), oM.other (by omega) _ _, oP.other (by omega) _ _, oR.other (by omega) _ _, oX.other hne _ _, ?_, hbr.setCell (by simp; omega) _⟩
                        rw [← HS.out]; exact oG.set (tc + c) _
                      case measure => simp [intOf]; omega
                    · have he' : enB fn fd m T = false := by simpa using he
                      obtain rfl : d = 0 := by
                        rcases hen.out with h | h
                        · exact h
                        · exact absurd h he
                      have HS : Hid (bv xs.length (fC T C xs fn fd c 0) = bv xs.length (fC T C xs fn fd (c + 1) 0)) := bv_same _ _ _ (fun j _ => (HG.out he' j).symm)
                      rw [he']
                      clear he he'
                      go_wp2
                      go_roundw
                      case rel => exact ⟨c + 1, by omega, by go_num, oM, oP, oR, oX, by rw [← HS.out]; exact oG, hbr⟩
                      case measure => simp [intOf]; omega
                  · obtain rfl : T = d := by omega
                    have HS : Hid (bv xs.length (fC T C xs fn fd c T) = bv xs.length (fC T C xs fn fd (c + 1) 0)) := bv_same _ _ _ (fun j hj => (fC_next j (Nat.div_lt_of_lt_mul (by rw [Nat.mul_comm, ← HN.out]; exact hj))).symm)
                    go_wp2
                    go_roundw
                    case rel => exact ⟨c + 1, by omega, by go_num, oM, oP, oR, oX, by rw [← HS.out]; exact oG, hbr⟩
                    case measure => simp [intOf]; omega
          · obtain rfl : C = c := by omega
            rw [fC_end (by omega) HN.out] at oG
            obtain ⟨rR, fR'⟩ := oR.rules
            obtain ⟨rX, fX⟩ := oX.rules
            go_wp2
            refine bodyPost_ret (v := .agg #[.int .i64 T, .int .i64 C, .slice (some ⟨g, 0, none⟩) xs.length cp]) (by simp [results, Try.results48, go_sem, rR]) rfl ⟨_, rfl, ?_, ?_, ?_⟩
            · unfold SB
              rw [fillL_len]
              exact (((oG.other (g' := w.heap.size + 1 + 1) (by omega) _ _).other (g' := w.heap.size + 1 + 1) (by omega) _ _).other (g' := w.heap.size + 1 + 1) (by omega) _ _).sl cp hcp (by omega) _ ⟨js, rfl⟩
            · show w.heap.size ≤ g
              omega
            · repeat (refine Below.setCell ?_ (by first | omega | (simp; omega)) _)
              exact hbr

end Go.Proofs.Ytpkggglifahioaa
