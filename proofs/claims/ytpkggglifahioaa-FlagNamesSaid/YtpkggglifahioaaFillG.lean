/- What is proved here: the contracts of the reference's Close and Fill. Condition: slices that can be read, 64-bit integers. -/
import Derived.Test.YtpkggglifahioaaFillF
namespace Go.Proofs.Ytpkggglifahioaa
open Go.RowKit

theorem msame_eq (t c : Int) (xs ys : List Bool) : msame t c t c xs ys = decide (xs = ys) := by unfold msame; simp

set_option maxRecDepth 100000 in
set_option maxHeartbeats 6400000 in
theorem rclose_any (t c : Int) (v : Value) (xs : List Bool) (fn fd : Int) (w : World) (h : SB w v xs) (h1 : i64 fn) (h2 : i64 fd) :
    Calls Try.prog 29 #[.agg #[.int .i64 t, .int .i64 c, v], .agg #[.int .i64 fn, .int .i64 fd]] w fun e w' =>
      ∃ u, e = .returned (.tuple #[.agg #[.int .i64 (zt (ferr t c xs.length fn fd) t), .int .i64 (zt (ferr t c xs.length fn fd) c), u], .int .i64 (zt (ferr t c xs.length fn fd) (cloN t.toNat c.toNat xs fn fd)), .int .i64 (ferr t c xs.length fn fd)]) ∧
        SB w' u (zl (ferr t c xs.length fn fd) (cloL t.toNat c.toNat xs fn fd)) ∧ Frv w.heap.size u ∧ Below w.heap.size w w' := by
  have hs := h
  obtain ⟨ad, cap, rfl, q1, q2, q3⟩ := h.open
  clear h q3
  by_cases p : ferr t c xs.length fn fd = 0
  · have p0 : mchk t c xs.length = 0 ∧ prtB fn fd = true := by
      by_cases p1 : mchk t c xs.length = 0
      · by_cases p2 : prtB fn fd = true
        · exact ⟨p1, p2⟩
        · rw [ferr_8 p1 p2] at p; omega
      · rw [ferr_1 p1] at p; exact absurd p p1
    obtain ⟨p1, p2⟩ := p0
    have b1 : (mchk t c xs.length != 0) = false := by simp [p1]
    have P := Lib.hid p
    obtain ⟨t1, t2, c1', c2', hn⟩ := mchk_ok p1
    clear p p1
    obtain ⟨T, rfl⟩ := Int.eq_ofNat_of_zero_le (show 0 ≤ t by omega)
    obtain ⟨C, rfl⟩ := Int.eq_ofNat_of_zero_le (show 0 ≤ c by omega)
    rw [cast_mul] at hn
    have hn' : xs.length = T * C := by exact_mod_cast hn
    have hl : xs.length ≤ 512 := by rw [hn']; have := Nat.mul_le_mul (show T ≤ 32 by omega) (show C ≤ 16 by omega); omega
    have hl1 : 1 ≤ xs.length := by rw [hn']; have := Nat.mul_le_mul (show 1 ≤ T by omega) (show 1 ≤ C by omega); omega
    rw [Int.toNat_natCast, Int.toNat_natCast]
    have HN := Lib.hid hn'
    clear hn hn'
    go_enter Try.func29, Try.ntmps29
    go_wp2_with fail
    refine (rmcheck_any _ _ _ xs _ (hs.below (ba3 _ _ _ _))).mono ?_
    rintro e w0 ⟨rfl, hb0⟩
    have oM := (own_first w 24 [.int .i64 T, .int .i64 C, .slice ad xs.length cap] (.cells #[.int .i64 fn, .int .i64 fd] 49)).alloc (.cells #[.int .i64 0, .int .i64 0, .slice none 0 0] 24)
    have oP := (own_second w 49 [.int .i64 fn, .int .i64 fd] (.cells #[.int .i64 T, .int .i64 C, .slice ad xs.length cap] 24)).alloc (.cells #[.int .i64 0, .int .i64 0, .slice none 0 0] 24)
    have oR := own_third w 24 [.int .i64 0, .int .i64 0, .slice none 0 0] (.cells #[.int .i64 T, .int .i64 C, .slice ad xs.length cap] 24) (.cells #[.int .i64 fn, .int .i64 fd] 49)
    have oM := oM.below hb0
    have oP := oP.below hb0
    have oR := oR.below hb0
    have hb := below_to (ba3 _ _ _ _) hb0
    clear hb0
    obtain ⟨rP0, fP0⟩ := oP.rules
    go_wp2_with fail
    refine (part_any _ _ _ h1 h2).mono ?_
    rintro e w1 ⟨rfl, hb1⟩
    rw [p2]
    clear rP0 fP0
    have oM := oM.below hb1
    have oP := oP.below hb1
    have oR := oR.below hb1
    have hb := below_to hb hb1
    clear hb1
    have hs1 := hs.below hb
    obtain ⟨rM, fM⟩ := oM.rules
    have hsz := oR.lt
    have z0 : w.heap.size < w1.heap.size := by omega
    go_wp2_with fail
    go_cut [7] (fun s wx => ∃ (bx g cp : Nat), s = .pointer (some ⟨bx, 0, none⟩) ∧ w1.heap.size ≤ bx ∧ w1.heap.size ≤ g ∧ Own wx bx 24 [.int .i64 T, .int .i64 C, .slice (some ⟨g, 0, none⟩) xs.length cp] ∧ SB wx (.slice (some ⟨g, 0, none⟩) xs.length cp) xs ∧ Below w1.heap.size w1 wx)
    case first =>
      have gl := @grow_lt
      refine wp_region_fa 9 7 24 [.int .i64 0, .int .i64 0, .slice none 0 0] [0, 2, 5] [1, 3, 6] [4, 7, 8] [10] (by kernel_rfl) (by kernel_rfl) (fun ρ W => by kernel_rfl) (fun _ _ _ _ _ h => h) (fun _ _ _ _ _ h => h) ?_
      simp only [opsAt, List.getElem?_toArray, List.getElem?_cons_zero, List.getElem?_cons_succ, Option.getD_some]
      repeat (go_big_quiet_step (fail))
      refine wpQuiet_nil ?_
      repeat (go_big_quiet_step (fail))
      refine wpQuiet_nil ?_
      clear gl
      intro w3 hb3
      refine wpCh_cons (fun K' hK' => ?_)
      go_simp
      refine hK' _ _ (below_to hb3 (ba1 _ _)) (fun b hb => hb.alloc _) (fun w4 hb4 => ?_)
      clear hK' K'
      refine wpCh_cons (fun K' hK' => ?_)
      have p4 : Own w4 w3.heap.size 4 [] := (Own.new w3 4 []).below hb4
      have hb5 := below_to (below_to hb3 (ba1 _ _)) hb4
      refine wp_own _ _ _ _ rfl 4 1 1 (.bool false) Try.underlying22 Try.infoBool rfl (by omega) (by omega) w3.heap.size rfl p4 _ xs.length (xs.map Value.bool) rfl (hs1.below hb5) (by simp) (one_bools xs) (by omega) ?_
      intro g cp w5 how hgp hgw
      have hp3 := hb3.size
      have su := owns_sl how (by omega)
      have hg : w3.heap.size ≤ g := owns_frv how
      refine hK' _ _ (grown_below hgw hp3 hb5 hb5.size) (fun b hb => grown_own hgw (fun e => by subst e; unfold Own at hb p4; rw [hb] at p4; simp at p4) hb) (fun w6 hb6 => ?_)
      clear hK' K'
      refine wpCh_cons (fun K' hK' => ?_)
      go_simp
      have hb7 := grown_below hgw hp3 hb5 hb5.size
      refine hK' _ _ (below_to hb7 hb6) (fun b hb => hb) (fun w7 hbn => wpCh_nil ?_)
      clear hK' K'
      intro b hob hbw
      have su : SB w7 (.slice (some ⟨g, 0, none⟩) xs.length cp) xs := (Sl.below (Sl.below su hb6) hbn)
      have hB := below_to (below_to hb7 hb6) hbn
      clear hb4 hb5 hb6 hb7 hbn rM fM how hgw
      obtain ⟨rB, fB⟩ := hob.rules
      go_wp2
      go_meet
      refine ⟨b, g, cp, rfl, hbw, by omega, ((hob.set 0 _).set 1 _).set 2 _, ?_, ?_⟩
      · have s1 := su.box hob (fun y hy => by simp at hy) 0 (.int .i64 T)
        have s2 := s1.box (hob.set 0 _) (fun y hy => by simp at hy) 1 (.int .i64 C)
        exact s2.box ((hob.set 0 _).set 1 _) (fun y hy => by simp at hy) 2 _
      · repeat (refine Below.setCell ?_ (by first | omega | (simp; omega)) _)
        exact hB
    case rest =>
      obtain ⟨bx, g, cp, rfl, hbx, hg, oX, sX, hbx2⟩ := hcut
      clear rM fM hs1
      have oM := oM.below hbx2
      have oP := oP.below hbx2
      have oR := oR.below hbx2
      have hbw := below_to hb hbx2
      go_wp2
      go_loopw [8] (fun i wr => ∃ (n : Nat) (cur : List Bool) (u : Value), i = .int .i64 n ∧ n + nf cur ≤ 512 ∧ Hid (cur.length = xs.length) ∧ Hid (cloL T C xs fn fd = (clo T C fn fd (600 - n) cur).1 ∧ cloN T C xs fn fd = (clo T C fn fd (600 - n) cur).2 + n) ∧ Own wr (w.heap.size + 1) 49 [.int .i64 fn, .int .i64 fd] ∧ Own wr (w.heap.size + 1 + 1) 24 [.int .i64 0, .int .i64 0, .slice none 0 0] ∧ Own wr bx 24 [.int .i64 T, .int .i64 C, u] ∧ SB wr u cur ∧ Frv w.heap.size u ∧ Below w.heap.size w wr) (fun i _ => 600 - (intOf i).toNat)
      case atStart => exact ⟨0, xs, _, rfl, by have := nf_le xs; omega, Lib.hid rfl, Lib.hid ⟨rfl, rfl⟩, oP, oR, oX, sX, (show w.heap.size ≤ g by omega), hbw⟩
      case round =>
        clear oM oP oR oX sX hbw hbx2 hb
        obtain ⟨n, cur, u, rfl, hnn, hcl, hco, oP, oR, oX, sU, fU, hbr⟩ := hrel
        have sU' := sU
        obtain ⟨ua, uc, rfl, _, _, _⟩ := sU.open
        obtain ⟨rP, fP⟩ := oP.rules
        obtain ⟨rX, fX⟩ := oX.rules
        have hxlt := oX.lt
        go_wp2_with fail
        refine (filled_any T C _ cur fn fd _ sU' (by omega) (by omega) (by omega) (by omega) (by rw [hcl.out, HN.out]) p2).mono ?_
        rintro e w2 ⟨u2, rfl, s2, f2, hb2⟩
        clear rP fP rX fX
        have oP := oP.below hb2
        have oR := oR.below hb2
        have oX := oX.below hb2
        have sU := sU'.below hb2
        have hbr := below_to hbr hb2
        have hxlt2 := oX.lt
        have s2' := s2
        obtain ⟨ub, uc2, rfl, _, _, _⟩ := s2.open
        clear s2 sU'
        obtain ⟨rX, fX⟩ := oX.rules
        have zw := hb2.size
        clear hb2
        go_wp2_with fail
        refine (same_any _ _ _ _ _ _ _ cur _ (s2'.below (ba1 _ _)) (sU.below (ba1 _ _))).mono ?_
        rintro e w3 ⟨rfl, hb3⟩
        rw [msame_eq]
        have hB := below_to (ba1 _ _) hb3
        clear rX fX
        have oN := (Own.new w2 24 [.int .i64 T, .int .i64 C, .slice ub (fillL T C cur fn fd).length uc2]).below hb3
        have oP := oP.below hB
        have oR := oR.below hB
        have oX := oX.below hB
        have sU := sU.below hB
        have s2 := s2'.below hB
        have hbr := below_to hbr hB
        clear hB hb3 s2'
        obtain ⟨rX, fX⟩ := oX.rules
        by_cases hst : fillL T C cur fn fd = cur
        · have bst : decide (fillL T C cur fn fd = cur) = true := by simpa using hst
          have HC : Hid (cloL T C xs fn fd = cur ∧ cloN T C xs fn fd = n) := by
            show _ ∧ _
            have h := hco.out
            rw [clo_stop _ hst] at h
            exact ⟨h.1, by omega⟩
          obtain ⟨rR, fR⟩ := oR.rules
          clear hst hco
          go_wp2
          refine bodyPost_ret (v := .tuple #[.agg #[.int .i64 T, .int .i64 C, .slice ua cur.length uc], .int .i64 n, .int .i64 0]) (by simp [results, Try.results29, go_sem, rR]) rfl ⟨.slice ua cur.length uc, ?_, ?_, fU, ?_⟩
          · rw [P.out, zt_eq rfl, zt_eq rfl, zt_eq rfl, HC.out.2]
          · rw [P.out, zl_eq rfl, HC.out.1]
            have a1 := sU.box oR (fun y hy => by simp at hy) 0 (.int .i64 T)
            have a2 := a1.box (oR.set 0 _) (fun y hy => by simp at hy) 1 (.int .i64 C)
            exact a2.box ((oR.set 0 _).set 1 _) (fun y hy => by simp at hy) 2 _
          · repeat (refine Below.setCell ?_ (by first | omega | (simp; omega)) _)
            exact hbr
        · have bst : decide (fillL T C cur fn fd = cur) = false := by simpa using hst
          have hlt := nf_lt cur (fillL T C cur fn fd) (fill_len T C cur fn fd).symm (fill_more T C cur fn fd)
          have hlt2 := hlt.2 (Ne.symm hst)
          have HC : Hid (cloL T C xs fn fd = (clo T C fn fd (600 - (n + 1)) (fillL T C cur fn fd)).1 ∧ cloN T C xs fn fd = (clo T C fn fd (600 - (n + 1)) (fillL T C cur fn fd)).2 + (n + 1)) := by
            show _ ∧ _
            have h := hco.out
            obtain ⟨g1, g2⟩ := clo_go (600 - n) (by omega) hst
            rw [show 600 - n - 1 = 600 - (n + 1) by omega] at g1 g2
            exact ⟨h.1.trans g1, by omega⟩
          have HL : Hid ((fillL T C cur fn fd).length = xs.length) := by show _ = _; rw [fill_len, hcl.out]
          obtain ⟨rN, fN⟩ := oN.rules
          have hnx : ¬ w2.heap.size = bx := by omega
          have hxn : ¬ bx = w2.heap.size := by omega
          clear hst hco hlt
          go_wp2
          go_roundw
          case rel =>
            refine ⟨n + 1, _, _, by go_num, by omega, HL, HC, ((oP.other (by omega) _ _).other (by omega) _ _).other (by omega) _ _, ((oR.other (by omega) _ _).other (by omega) _ _).other (by omega) _ _, ((oX.set 0 _).set 1 _).set 2 _, ?_, ?_, ?_⟩
            · have a1 := s2.box oX (fun y hy => by simp at hy) 0 (.int .i64 T)
              have a2 := a1.box (oX.set 0 _) (fun y hy => by simp at hy) 1 (.int .i64 C)
              exact a2.box ((oX.set 0 _).set 1 _) (fun y hy => by simp at hy) 2 _
            · exact f2.mono (by omega)
            · repeat (refine Below.setCell ?_ (by first | omega | (simp; omega)) _)
              exact hbr
          case measure => simp [intOf]; omega
  · have P := Lib.hid p
    by_cases p1 : mchk t c xs.length = 0
    · have b1 : (mchk t c xs.length != 0) = false := by simp [p1]
      have p2 : prtB fn fd = false := by
        cases h : prtB fn fd with
        | false => rfl
        | true => exact absurd (ferr_0 p1 h) p
      have E := Lib.hid (ferr_8 (fn := fn) (fd := fd) p1 (by rw [p2]; exact Bool.false_ne_true))
      clear p p1
      go_enter Try.func29, Try.ntmps29
      go_wp2_with fail
      refine (rmcheck_any _ _ _ xs _ (hs.below (ba3 _ _ _ _))).mono ?_
      rintro e w0 ⟨rfl, hb0⟩
      obtain ⟨c1, f1⟩ := bcell hb0
      have z1 := (hb0).size
      try simp at z1
      try simp at c1
      try simp at f1
      have z1a : w.heap.size < w0.heap.size := by omega
      have z1b : w.heap.size + 1 < w0.heap.size := by omega
      have z1c : w.heap.size + 1 + 1 < w0.heap.size := by omega
      go_wp2_with fail
      refine (part_any _ _ _ h1 h2).mono ?_
      rintro e w1 ⟨rfl, hb1⟩
      rw [p2]
      obtain ⟨c2, f2⟩ := bcell hb1
      have z2 := (hb1).size
      try simp at z2
      try simp at c2
      try simp at f2
      have z2a : w.heap.size < w1.heap.size := by omega
      have z2b : w.heap.size + 1 < w1.heap.size := by omega
      have z2c : w.heap.size + 1 + 1 < w1.heap.size := by omega
      have hb := below_to (below_to (ba3 _ _ _ _) hb0) hb1
      go_wp2
      refine bodyPost_ret (v := .tuple #[.agg #[.int .i64 0, .int .i64 0, .slice none 0 0], .int .i64 0, .int .i64 8]) (by simp [results, Try.results29, go_sem, c1, c2, z1c]) rfl ⟨.slice none 0 0, ?_, ?_, trivial, ?_⟩
      · rw [zt_ne P.out, zt_ne P.out, zt_ne P.out, E.out]
      · rw [zl_ne P.out]; exact sb_nil _
      · repeat (refine Below.setCell ?_ (by first | omega | (simp; omega)) _)
        exact hb
    · have b1 : (mchk t c xs.length != 0) = true := by simp [p1]
      have E := Lib.hid (ferr_1 (fn := fn) (fd := fd) p1)
      clear p p1
      go_enter Try.func29, Try.ntmps29
      go_wp2_with fail
      refine (rmcheck_any _ _ _ xs _ (hs.below (ba3 _ _ _ _))).mono ?_
      rintro e w0 ⟨rfl, hb0⟩
      obtain ⟨c1, f1⟩ := bcell hb0
      have z1 := (hb0).size
      try simp at z1
      try simp at c1
      try simp at f1
      have z1a : w.heap.size < w0.heap.size := by omega
      have z1b : w.heap.size + 1 < w0.heap.size := by omega
      have z1c : w.heap.size + 1 + 1 < w0.heap.size := by omega
      go_wp2_with fail
      refine (rmcheck_any _ _ _ xs _ (hs.below (below_to (ba3 _ _ _ _) hb0))).mono ?_
      rintro e w1 ⟨rfl, hb1⟩
      obtain ⟨c2, f2⟩ := bcell hb1
      have z2 := (hb1).size
      try simp at z2
      try simp at c2
      try simp at f2
      have z2a : w.heap.size < w1.heap.size := by omega
      have z2b : w.heap.size + 1 < w1.heap.size := by omega
      have z2c : w.heap.size + 1 + 1 < w1.heap.size := by omega
      have hb := below_to (below_to (ba3 _ _ _ _) hb0) hb1
      go_wp2
      refine bodyPost_ret (v := .tuple #[.agg #[.int .i64 0, .int .i64 0, .slice none 0 0], .int .i64 0, .int .i64 (mchk t c xs.length)]) (by simp [results, Try.results29, go_sem, c1, c2, z1c]) rfl ⟨.slice none 0 0, ?_, ?_, trivial, ?_⟩
      · rw [zt_ne P.out, zt_ne P.out, zt_ne P.out, E.out]
      · rw [zl_ne P.out]; exact sb_nil _
      · repeat (refine Below.setCell ?_ (by first | omega | (simp; omega)) _)
        exact hb

set_option maxHeartbeats 3200000 in
theorem rfill_any (t c : Int) (v : Value) (xs : List Bool) (fn fd : Int) (w : World) (h : SB w v xs) (h1 : i64 fn) (h2 : i64 fd) :
    Calls Try.prog 27 #[.agg #[.int .i64 t, .int .i64 c, v], .agg #[.int .i64 fn, .int .i64 fd]] w fun e w' =>
      ∃ u, e = .returned (.tuple #[.agg #[.int .i64 (zt (ferr t c xs.length fn fd) t), .int .i64 (zt (ferr t c xs.length fn fd) c), u], .int .i64 (ferr t c xs.length fn fd)]) ∧
        SB w' u (zl (ferr t c xs.length fn fd) (fillL t.toNat c.toNat xs fn fd)) ∧ Frv w.heap.size u ∧ Below w.heap.size w w' := by
  have hs := h
  obtain ⟨ad, cap, rfl, q1, q2, q3⟩ := h.open
  clear h q3
  by_cases p1 : mchk t c xs.length = 0
  · have b1 : (mchk t c xs.length != 0) = false := by simp [p1]
    by_cases p2 : prtB fn fd = true
    · have P := Lib.hid (ferr_0 p1 p2)
      obtain ⟨t1, t2, c1', c2', hn⟩ := mchk_ok p1
      clear p1
      obtain ⟨T, rfl⟩ := Int.eq_ofNat_of_zero_le (show 0 ≤ t by omega)
      obtain ⟨C, rfl⟩ := Int.eq_ofNat_of_zero_le (show 0 ≤ c by omega)
      rw [cast_mul] at hn
      have hn' : xs.length = T * C := by exact_mod_cast hn
      rw [Int.toNat_natCast, Int.toNat_natCast]
      have HN := Lib.hid hn'
      clear hn hn'
      go_enter Try.func27, Try.ntmps27
      go_wp2_with fail
      refine (rmcheck_any _ _ _ xs _ (hs.below (ba3 _ _ _ _))).mono ?_
      rintro e w0 ⟨rfl, hb0⟩
      obtain ⟨c1, f1⟩ := bcell hb0
      have z1 := (hb0).size
      try simp at z1
      try simp at c1
      try simp at f1
      have z1a : w.heap.size < w0.heap.size := by omega
      have z1b : w.heap.size + 1 < w0.heap.size := by omega
      have z1c : w.heap.size + 1 + 1 < w0.heap.size := by omega
      go_wp2_with fail
      refine (part_any _ _ _ h1 h2).mono ?_
      rintro e w1 ⟨rfl, hb1⟩
      rw [p2]
      obtain ⟨c3, f3⟩ := bcell hb1
      have z3 := (hb1).size
      try simp at z3
      try simp at c3
      try simp at f3
      have z3a : w.heap.size < w1.heap.size := by omega
      have z3b : w.heap.size + 1 < w1.heap.size := by omega
      have z3c : w.heap.size + 1 + 1 < w1.heap.size := by omega
      have hb := below_to (below_to (ba3 _ _ _ _) hb0) hb1
      go_wp2_with fail
      refine (filled_any T C _ xs fn fd _ (hs.below hb) (by omega) (by omega) (by omega) (by omega) HN.out p2).mono ?_
      rintro e w2 ⟨u, rfl, su, fu, hb2⟩
      obtain ⟨c2, f2⟩ := bcell hb2
      have z2 := (hb2).size
      try simp at z2
      try simp at c2
      try simp at f2
      have z2a : w.heap.size < w2.heap.size := by omega
      have z2b : w.heap.size + 1 < w2.heap.size := by omega
      have z2c : w.heap.size + 1 + 1 < w2.heap.size := by omega
      have su' := su
      obtain ⟨ua, uc, rfl, _, _, _⟩ := su.open
      go_wp2
      refine bodyPost_ret (v := .tuple #[.agg #[.int .i64 T, .int .i64 C, .slice ua (fillL T C xs fn fd).length uc], .int .i64 0]) (by simp [results, Try.results27, go_sem, c2, c1, c3, z1c, z3c]) rfl ⟨.slice ua (fillL T C xs fn fd).length uc, ?_, ?_, fu.mono hb.size, ?_⟩
      · rw [P.out, zt_eq rfl, zt_eq rfl]
      · rw [P.out, zl_eq rfl]
        exact ((su'.low (fu.mono (B' := w.heap.size + 1 + 1 + 1) (by omega)) (by simp) _).low (fu.mono (B' := w.heap.size + 1 + 1 + 1) (by omega)) (by simp) _).low (fu.mono (B' := w.heap.size + 1 + 1 + 1) (by omega)) (by simp) _
      · repeat (refine Below.setCell ?_ (by first | omega | (simp; omega)) _)
        exact below_to hb hb2
    · have P := Lib.hid (ferr_8 (fn := fn) (fd := fd) p1 p2)
      have p2' : prtB fn fd = false := by simpa using p2
      clear p1 p2
      go_enter Try.func27, Try.ntmps27
      go_wp2_with fail
      refine (rmcheck_any _ _ _ xs _ (hs.below (ba3 _ _ _ _))).mono ?_
      rintro e w0 ⟨rfl, hb0⟩
      obtain ⟨c1, f1⟩ := bcell hb0
      have z1 := (hb0).size
      try simp at z1
      try simp at c1
      try simp at f1
      have z1a : w.heap.size < w0.heap.size := by omega
      have z1b : w.heap.size + 1 < w0.heap.size := by omega
      have z1c : w.heap.size + 1 + 1 < w0.heap.size := by omega
      go_wp2_with fail
      refine (part_any _ _ _ h1 h2).mono ?_
      rintro e w1 ⟨rfl, hb1⟩
      rw [p2']
      obtain ⟨c2, f2⟩ := bcell hb1
      have z2 := (hb1).size
      try simp at z2
      try simp at c2
      try simp at f2
      have z2a : w.heap.size < w1.heap.size := by omega
      have z2b : w.heap.size + 1 < w1.heap.size := by omega
      have z2c : w.heap.size + 1 + 1 < w1.heap.size := by omega
      have hb := below_to (below_to (ba3 _ _ _ _) hb0) hb1
      go_wp2
      refine bodyPost_ret (v := .tuple #[.agg #[.int .i64 0, .int .i64 0, .slice none 0 0], .int .i64 8]) (by simp [results, Try.results27, go_sem, c1, c2, z1c]) rfl ⟨.slice none 0 0, ?_, ?_, trivial, ?_⟩
      · rw [P.out, zt_ne (by decide), zt_ne (by decide)]
      · rw [P.out, zl_ne (by decide)]; exact sb_nil _
      · repeat (refine Below.setCell ?_ (by first | omega | (simp; omega)) _)
        exact hb
  · have b1 : (mchk t c xs.length != 0) = true := by simp [p1]
    have P1 := Lib.hid p1
    have E := Lib.hid (ferr_1 (fn := fn) (fd := fd) p1)
    clear p1
    go_enter Try.func27, Try.ntmps27
    go_wp2_with fail
    refine (rmcheck_any _ _ _ xs _ (hs.below (ba3 _ _ _ _))).mono ?_
    rintro e w0 ⟨rfl, hb0⟩
    obtain ⟨c1, f1⟩ := bcell hb0
    have z1 := (hb0).size
    try simp at z1
    try simp at c1
    try simp at f1
    have z1a : w.heap.size < w0.heap.size := by omega
    have z1b : w.heap.size + 1 < w0.heap.size := by omega
    have z1c : w.heap.size + 1 + 1 < w0.heap.size := by omega
    go_wp2_with fail
    refine (rmcheck_any _ _ _ xs _ (hs.below (below_to (ba3 _ _ _ _) hb0))).mono ?_
    rintro e w1 ⟨rfl, hb1⟩
    obtain ⟨c2, f2⟩ := bcell hb1
    have z2 := (hb1).size
    try simp at z2
    try simp at c2
    try simp at f2
    have z2a : w.heap.size < w1.heap.size := by omega
    have z2b : w.heap.size + 1 < w1.heap.size := by omega
    have z2c : w.heap.size + 1 + 1 < w1.heap.size := by omega
    have hb := below_to (below_to (ba3 _ _ _ _) hb0) hb1
    go_wp2
    refine bodyPost_ret (v := .tuple #[.agg #[.int .i64 0, .int .i64 0, .slice none 0 0], .int .i64 (mchk t c xs.length)]) (by simp [results, Try.results27, go_sem, c1, c2, z1c]) rfl ⟨.slice none 0 0, ?_, ?_, trivial, ?_⟩
    · rw [E.out, zt_ne P1.out, zt_ne P1.out]
    · rw [E.out, zl_ne P1.out]; exact sb_nil _
    · repeat (refine Below.setCell ?_ (by first | omega | (simp; omega)) _)
      exact hb

end Go.Proofs.Ytpkggglifahioaa
