/- What is proved here: plain facts on closing a mask, and the contract of flag.Close. Condition: slices that can be read, 64-bit integers. -/
import Derived.Test.YtpkggglifahioaaFillC
namespace Go.Proofs.Ytpkggglifahioaa
open Go.RowKit

/-- How many cells are not flagged. -/
def nf (xs : List Bool) : Nat := (xs.filter (!·)).length
theorem nf_le (xs : List Bool) : nf xs ≤ xs.length := List.length_filter_le _ _
theorem nf_lt : ∀ (xs ys : List Bool), xs.length = ys.length → (∀ i, xs.getD i false = true → ys.getD i false = true) → nf ys ≤ nf xs ∧ (xs ≠ ys → nf ys < nf xs)
  | [], [], _, _ => ⟨Nat.le_refl _, fun h => absurd rfl h⟩
  | x :: xs, y :: ys, hl, h => by
    have ih := nf_lt xs ys (by simpa using hl) (fun i hi => by have := h (i + 1); simpa using this (by simpa using hi))
    have h0 := h 0
    simp only [List.getD_cons_zero] at h0
    have e : ∀ (z : Bool) (zs : List Bool), nf (z :: zs) = nf zs + if z then 0 else 1 := fun z zs => by unfold nf; cases z <;> simp
    rw [e, e]
    cases x <;> cases y <;> simp at h0 ⊢
    · refine ⟨ih.1, fun hne => ?_⟩
      have := ih.2 hne; omega
    · exact ⟨by omega, by omega⟩
    · exact ih
theorem fill_more (T C : Nat) (xs : List Bool) (fn fd : Int) (i : Nat) (h : xs.getD i false = true) : (fillL T C xs fn fd).getD i false = true := by
  have hi : i < xs.length := by
    rcases Nat.lt_or_ge i xs.length with h' | h'
    · exact h'
    · rw [List.getD_eq_getElem?_getD, List.getElem?_eq_none h'] at h; cases h
  unfold fillL
  rw [List.getD_eq_getElem?_getD, List.getElem?_map, List.getElem?_range hi]
  show fillB T C xs fn fd i = true
  unfold fillB
  rw [h]; rfl
/-- Filling until nothing changes, at most f times: what comes out, and how often. -/
def clo (T C : Nat) (fn fd : Int) : Nat → List Bool → List Bool × Nat
  | 0, xs => (xs, 0)
  | f + 1, xs => if fillL T C xs fn fd = xs then (xs, 0) else ((clo T C fn fd f (fillL T C xs fn fd)).1, (clo T C fn fd f (fillL T C xs fn fd)).2 + 1)
/-- A closed mask, and how many fillings changed it. -/
def cloL (T C : Nat) (xs : List Bool) (fn fd : Int) : List Bool := (clo T C fn fd 600 xs).1
def cloN (T C : Nat) (xs : List Bool) (fn fd : Int) : Nat := (clo T C fn fd 600 xs).2
theorem clo_stop {T C : Nat} {fn fd : Int} {xs : List Bool} (f : Nat) (h : fillL T C xs fn fd = xs) : clo T C fn fd f xs = (xs, 0) := by
  cases f with
  | zero => rfl
  | succ f => unfold clo; rw [if_pos h]
theorem clo_go {T C : Nat} {fn fd : Int} {xs : List Bool} (f : Nat) (hf : 0 < f) (h : ¬ fillL T C xs fn fd = xs) :
    (clo T C fn fd f xs).1 = (clo T C fn fd (f - 1) (fillL T C xs fn fd)).1 ∧ (clo T C fn fd f xs).2 = (clo T C fn fd (f - 1) (fillL T C xs fn fd)).2 + 1 := by
  cases f with
  | zero => omega
  | succ f => rw [Nat.add_sub_cancel, clo, if_neg h]; exact ⟨rfl, rfl⟩

set_option maxRecDepth 100000 in
set_option maxHeartbeats 6400000 in
theorem mclose_any (t c : Int) (v : Value) (xs : List Bool) (fn fd : Int) (w : World) (h : SB w v xs) (h1 : i64 fn) (h2 : i64 fd) :
    Calls Try.prog 28 #[.agg #[.int .i64 t, .int .i64 c, v], .agg #[.int .i64 fn, .int .i64 fd]] w fun e w' =>
      ∃ u, e = .returned (.tuple #[.agg #[.int .i64 (zt (ferr t c xs.length fn fd) t), .int .i64 (zt (ferr t c xs.length fn fd) c), u], .int .i64 (zt (ferr t c xs.length fn fd) (cloN t.toNat c.toNat xs fn fd)), .int .i64 (ferr t c xs.length fn fd)]) ∧
        SB w' u (zl (ferr t c xs.length fn fd) (cloL t.toNat c.toNat xs fn fd)) ∧ Frv w.heap.size u ∧ Below w.heap.size w w' := by
  have hs := h
  obtain ⟨ad, cap, rfl, q1, q2, q3⟩ := h.open
  clear h q3
  by_cases p : ferr t c xs.length fn fd = 0
  · have b1 : (ferr t c xs.length fn fd != 0) = false := by simp [p]
    have p0 : mchk t c xs.length = 0 ∧ prtB fn fd = true := by
      by_cases p1 : mchk t c xs.length = 0
      · by_cases p2 : prtB fn fd = true
        · exact ⟨p1, p2⟩
        · rw [ferr_8 p1 p2] at p; omega
      · rw [ferr_1 p1] at p; exact absurd p p1
    obtain ⟨p1, p2⟩ := p0
    have P := Lib.hid p
    obtain ⟨t1, t2, c1', c2', hn⟩ := mchk_ok p1
    clear p p1
    obtain ⟨T, rfl⟩ := Int.eq_ofNat_of_zero_le (show 0 ≤ t by omega)
    obtain ⟨C, rfl⟩ := Int.eq_ofNat_of_zero_le (show 0 ≤ c by omega)
    rw [cast_mul] at hn
    have hn' : xs.length = T * C := by exact_mod_cast hn
    have hl : xs.length ≤ 512 := by rw [hn']; have := Nat.mul_le_mul (show T ≤ 32 by omega) (show C ≤ 16 by omega); omega
    have hl1 : 1 ≤ xs.length := by rw [hn']; have := Nat.mul_le_mul (show 1 ≤ T by omega) (show 1 ≤ C by omega); omega
    rw [Int.toNat_natCast, Int.toNat_natCast]
    have HN := Lib.hid hn'
    clear hn hn'
    go_enter Try.func28, Try.ntmps28
    go_wp2_with fail
    refine (checkFill_any _ _ _ xs _ _ _ (hs.below (ba3 _ _ _ _)) h1 h2).mono ?_
    rintro e w1 ⟨rfl, hb1⟩
    have oM := (own_first w 24 [.int .i64 T, .int .i64 C, .slice ad xs.length cap] (.cells #[.int .i64 fn, .int .i64 fd] 49)).alloc (.cells #[.int .i64 0, .int .i64 0, .slice none 0 0] 24)
    have oP := (own_second w 49 [.int .i64 fn, .int .i64 fd] (.cells #[.int .i64 T, .int .i64 C, .slice ad xs.length cap] 24)).alloc (.cells #[.int .i64 0, .int .i64 0, .slice none 0 0] 24)
    have oR := own_third w 24 [.int .i64 0, .int .i64 0, .slice none 0 0] (.cells #[.int .i64 T, .int .i64 C, .slice ad xs.length cap] 24) (.cells #[.int .i64 fn, .int .i64 fd] 49)
    have oM := oM.below hb1
    have oP := oP.below hb1
    have oR := oR.below hb1
    have hb := below_to (ba3 _ _ _ _) hb1
    clear hb1
    have hs1 := hs.below hb
    obtain ⟨rM, fM⟩ := oM.rules
    have hsz := oR.lt
    have z0 : w.heap.size < w1.heap.size := by omega
    go_wp2_with fail
    go_cut [8] (fun s wx => ∃ (bx g cp : Nat), s = .pointer (some ⟨bx, 0, none⟩) ∧ w1.heap.size ≤ bx ∧ w1.heap.size ≤ g ∧ Own wx bx 24 [.int .i64 T, .int .i64 C, .slice (some ⟨g, 0, none⟩) xs.length cp] ∧ SB wx (.slice (some ⟨g, 0, none⟩) xs.length cp) xs ∧ Below w1.heap.size w1 wx)
    case first =>
      have gl := @grow_lt
      refine wp_region_fa 8 8 24 [.int .i64 0, .int .i64 0, .slice none 0 0] [0, 2, 4] [1, 3, 5] [6, 7] [9] (by kernel_rfl) (by kernel_rfl) (fun ρ W => by kernel_rfl) (fun _ _ _ _ _ h => h) (fun _ _ _ _ _ h => h) ?_
      simp only [opsAt, List.getElem?_toArray, List.getElem?_cons_zero, List.getElem?_cons_succ, Option.getD_some]
      repeat (go_big_quiet_step (fail))
      refine wpQuiet_nil ?_
      repeat (go_big_quiet_step (fail))
      refine wpQuiet_nil ?_
      clear gl
      intro w3 hb3
      refine wpCh_cons (fun K' hK' => ?_)
      go_simp
      refine (clone_any _ xs _ (hs1.below hb3) (by omega) (by omega)).mono ?_
      rintro e w4 ⟨u, rfl, hu, hb4⟩
      have su := owns_sl hu (by omega)
      obtain ⟨g, cp, js, rfl, hg, hcp, og⟩ := owns_own hu (by omega)
      refine hK' _ _ (below_to hb3 hb4) (fun b hb => hb.below hb4) (fun w5 hb5 => ?_)
      clear hK' K'
      refine wpCh_cons (fun K' hK' => ?_)
      go_simp
      refine hK' _ _ (below_to (below_to hb3 hb4) hb5) (fun b hb => hb) (fun w6 hb6 => wpCh_nil ?_)
      clear hK' K'
      intro b hob hbw
      have su : SB w6 (.slice (some ⟨g, 0, none⟩) xs.length cp) xs := (Sl.below (Sl.below su hb5) hb6)
      have hB := below_to (below_to (below_to hb3 hb4) hb5) hb6
      have h31 := hb3.size
      clear hb4 hb5 hb6 rM fM hu og
      obtain ⟨rB, fB⟩ := hob.rules
      go_wp2
      go_meet
      refine ⟨b, g, cp, rfl, hbw, by omega, ((hob.set 0 _).set 1 _).set 2 _, ?_, ?_⟩
      · have s1 := su.box hob (fun y hy => by simp at hy) 0 (.int .i64 T)
        have s2 := s1.box (hob.set 0 _) (fun y hy => by simp at hy) 1 (.int .i64 C)
        exact s2.box ((hob.set 0 _).set 1 _) (fun y hy => by simp at hy) 2 _
      · repeat (refine Below.setCell ?_ (by first | omega | (simp; omega)) _)
        exact hB
    case rest =>
      obtain ⟨bx, g, cp, rfl, hbx, hg, oX, sX, hbx2⟩ := hcut
      clear rM fM hs1
      have oM := oM.below hbx2
      have oP := oP.below hbx2
      have oR := oR.below hbx2
      have hbw := below_to hb hbx2
      go_wp2
      go_loopw [9] (fun i wr => ∃ (n : Nat) (cur : List Bool) (u : Value), i = .int .i64 n ∧ n + nf cur ≤ 512 ∧ Hid (cur.length = xs.length) ∧ Hid (cloL T C xs fn fd = (clo T C fn fd (600 - n) cur).1 ∧ cloN T C xs fn fd = (clo T C fn fd (600 - n) cur).2 + n) ∧ Own wr (w.heap.size + 1) 49 [.int .i64 fn, .int .i64 fd] ∧ Own wr (w.heap.size + 1 + 1) 24 [.int .i64 0, .int .i64 0, .slice none 0 0] ∧ Own wr bx 24 [.int .i64 T, .int .i64 C, u] ∧ SB wr u cur ∧ Frv w.heap.size u ∧ Below w.heap.size w wr) (fun i _ => 600 - (intOf i).toNat)
      case atStart => exact ⟨0, xs, _, rfl, by have := nf_le xs; omega, Lib.hid rfl, Lib.hid ⟨rfl, rfl⟩, oP, oR, oX, sX, (show w.heap.size ≤ g by omega), hbw⟩
      case round =>
        clear oM oP oR oX sX hbw hbx2 hb
        obtain ⟨n, cur, u, rfl, hnn, hcl, hco, oP, oR, oX, sU, fU, hbr⟩ := hrel
        have sU' := sU
        obtain ⟨ua, uc, rfl, _, _, _⟩ := sU.open
        obtain ⟨rP, fP⟩ := oP.rules
        obtain ⟨rX, fX⟩ := oX.rules
        have hxlt := oX.lt
        go_wp2_with fail
        refine (fill_any T C _ cur fn fd _ sU' (by omega) (by omega) (by omega) (by omega) (by rw [hcl.out, HN.out]) p2).mono ?_
        rintro e w2 ⟨u2, rfl, s2, f2, hb2⟩
        clear rP fP rX fX
        have oP := oP.below hb2
        have oR := oR.below hb2
        have oX := oX.below hb2
        have sU := sU'.below hb2
        have hbr := below_to hbr hb2
        have hxlt2 := oX.lt
        have s2' := s2
        obtain ⟨ub, uc2, rfl, _, _, _⟩ := s2.open
        clear s2 sU'
        obtain ⟨rX, fX⟩ := oX.rules
        have zw := hb2.size
        clear hb2
        go_wp2_with fail
        refine (equal_any _ _ _ cur _ (s2'.below (ba1 _ _)) (sU.below (ba1 _ _))).mono ?_
        rintro e w3 ⟨rfl, hb3⟩
        have hB := below_to (ba1 _ _) hb3
        clear rX fX
        have oN := (Own.new w2 24 [.int .i64 T, .int .i64 C, .slice ub (fillL T C cur fn fd).length uc2]).below hb3
        have oP := oP.below hB
        have oR := oR.below hB
        have oX := oX.below hB
        have sU := sU.below hB
        have s2 := s2'.below hB
        have hbr := below_to hbr hB
        clear hB hb3 s2'
        obtain ⟨rX, fX⟩ := oX.rules
        by_cases hst : fillL T C cur fn fd = cur
        · have bst : decide (fillL T C cur fn fd = cur) = true := by simpa using hst
          have HC : Hid (cloL T C xs fn fd = cur ∧ cloN T C xs fn fd = n) := by
            show _ ∧ _
            have h := hco.out
            rw [clo_stop _ hst] at h
            exact ⟨h.1, by omega⟩
          obtain ⟨rR, fR⟩ := oR.rules
          clear hst hco
          go_wp2
          refine bodyPost_ret (v := .tuple #[.agg #[.int .i64 T, .int .i64 C, .slice ua cur.length uc], .int .i64 n, .int .i64 0]) (by simp [results, Try.results28, go_sem, rR]) rfl ⟨.slice ua cur.length uc, ?_, ?_, fU, ?_⟩
          · rw [P.out, zt_eq rfl, zt_eq rfl, zt_eq rfl, HC.out.2]
          · rw [P.out, zl_eq rfl, HC.out.1]
            have a1 := sU.box oR (fun y hy => by simp at hy) 0 (.int .i64 T)
            have a2 := a1.box (oR.set 0 _) (fun y hy => by simp at hy) 1 (.int .i64 C)
            exact a2.box ((oR.set 0 _).set 1 _) (fun y hy => by simp at hy) 2 _
          · repeat (refine Below.setCell ?_ (by first | omega | (simp; omega)) _)
            exact hbr
        · have bst : decide (fillL T C cur fn fd = cur) = false := by simpa using hst
          have hlt := nf_lt cur (fillL T C cur fn fd) (fill_len T C cur fn fd).symm (fill_more T C cur fn fd)
          have hlt2 := hlt.2 (Ne.symm hst)
          have HC : Hid (cloL T C xs fn fd = (clo T C fn fd (600 - (n + 1)) (fillL T C cur fn fd)).1 ∧ cloN T C xs fn fd = (clo T C fn fd (600 - (n + 1)) (fillL T C cur fn fd)).2 + (n + 1)) := by
            show _ ∧ _
            have h := hco.out
            obtain ⟨g1, g2⟩ := clo_go (600 - n) (by omega) hst
            rw [show 600 - n - 1 = 600 - (n + 1) by omega] at g1 g2
            exact ⟨h.1.trans g1, by omega⟩
          have HL : Hid ((fillL T C cur fn fd).length = xs.length) := by show _ = _; rw [fill_len, hcl.out]
          obtain ⟨rN, fN⟩ := oN.rules
          have hnx : ¬ w2.heap.size = bx := by omega
          have hxn : ¬ bx = w2.heap.size := by omega
          clear hst hco hlt
          go_wp2
          go_roundw
          case rel =>
            refine ⟨n + 1, _, _, by go_num, by omega, HL, HC, ((oP.other (by omega) _ _).other (by omega) _ _).other (by omega) _ _, ((oR.other (by omega) _ _).other (by omega) _ _).other (by omega) _ _, ((oX.set 0 _).set 1 _).set 2 _, ?_, ?_, ?_⟩
            · have a1 := s2.box oX (fun y hy => by simp at hy) 0 (.int .i64 T)
              have a2 := a1.box (oX.set 0 _) (fun y hy => by simp at hy) 1 (.int .i64 C)
              exact a2.box ((oX.set 0 _).set 1 _) (fun y hy => by simp at hy) 2 _
            · exact f2.mono (by omega)
            · repeat (refine Below.setCell ?_ (by first | omega | (simp; omega)) _)
              exact hbr
          case measure => simp [intOf]; omega
  · have b1 : (ferr t c xs.length fn fd != 0) = true := by simp [p]
    have P := Lib.hid p
    clear p
    go_enter Try.func28, Try.ntmps28
    go_wp2_with fail
    refine (checkFill_any _ _ _ xs _ _ _ (hs.below (ba3 _ _ _ _)) h1 h2).mono ?_
    rintro e w1 ⟨rfl, hb1⟩
    obtain ⟨c1, f1⟩ := bcell hb1
    have z1 := (hb1).size
    try simp at z1
    try simp at c1
    try simp at f1
    have z1a : w.heap.size < w1.heap.size := by omega
    have z1b : w.heap.size + 1 < w1.heap.size := by omega
    have z1c : w.heap.size + 1 + 1 < w1.heap.size := by omega
    have hb := below_to (ba3 _ _ _ _) hb1
    go_wp2
    refine bodyPost_ret (v := .tuple #[.agg #[.int .i64 0, .int .i64 0, .slice none 0 0], .int .i64 0, .int .i64 (ferr t c xs.length fn fd)]) (by simp [results, Try.results28, go_sem, c1]) rfl ⟨.slice none 0 0, ?_, ?_, trivial, ?_⟩
    · rw [zt_ne P.out, zt_ne P.out, zt_ne P.out]
    · rw [zl_ne P.out]; exact sb_nil _
    · repeat (refine Below.setCell ?_ (by first | omega | (simp; omega)) _)
      exact hb

end Go.Proofs.Ytpkggglifahioaa
