/- What is proved here: the walk of the law FlagStrings: it returns true whatever mask and string come in. -/
import Derived.Test.YtpkggglifahioaaStrE
import Derived.Test.YtpkggglifahioaaFlagA
namespace Go.Proofs.Ytpkggglifahioaa
open Go.RowKit

theorem msame_self' (t c : Int) (xs : List Bool) : msame t c t c xs xs = true := by unfold msame; simp
theorem fst10_eq {l : List UInt8} {C : Nat} (h1 : ∀ i, i < C → l.getD i 0 ≠ 10) (h2 : l.getD C 0 = 10) (h3 : C < l.length) : fst10 l = C := by
  rcases Nat.lt_trichotomy (fst10 l) C with h | h | h
  · exact absurd (fst10_at l (by omega)) (h1 _ h)
  · exact h
  · exact absurd h2 (fst10_ne l C h)
theorem parse_text {t c : Int} {xs : List Bool} (h : mchk t c xs.length = 0) : perr (mtext t c xs) = 0 ∧ pT (mtext t c xs) = t ∧ pCh (mtext t c xs) = c ∧ pB (mtext t c xs) = xs := by
  rw [mtext_ok h]
  obtain ⟨t1, t2, c1, c2, hn⟩ := mchk_ok h
  obtain ⟨T, rfl⟩ := Int.eq_ofNat_of_zero_le (show 0 ≤ t by omega)
  obtain ⟨C, rfl⟩ := Int.eq_ofNat_of_zero_le (show 0 ≤ c by omega)
  rw [cast_mul] at hn
  have hn' : xs.length = T * C := by exact_mod_cast hn
  rw [Int.toNat_natCast, hn']
  have hC : 0 < C := by omega
  have hT : 0 < T := by omega
  have hl := txt_len xs C hC T
  have hg := txt_get xs C hC T 0
  obtain ⟨hb1, hb2⟩ := bit_txt hC hn'
  have hpos : C + 1 ≤ T * (C + 1) := Nat.le_mul_of_pos_left _ hT
  have hf : fst10 (txtN xs C (T * C)) = C := by
    refine fst10_eq (fun i hi => ?_) ?_ (by omega)
    · have := hg i hT (by omega)
      rw [Nat.zero_mul, Nat.zero_add, if_neg (by omega)] at this
      rw [List.getD_eq_getElem?_getD, this]; exact ch_ne _
    · have := hg C hT (Nat.le_refl _)
      rw [Nat.zero_mul, Nat.zero_add, if_pos rfl] at this
      rw [List.getD_eq_getElem?_getD, this]; rfl
  have hdiv : T * (C + 1) / (C + 1) = T := Nat.mul_div_cancel _ (by omega)
  have hgood : pgood (txtN xs C (T * C)) = true := pgood_yes (by
    rw [hf, hl, hdiv, Nat.mul_mod_left]
    exact ⟨by omega, by omega, rfl, by omega, hb2⟩)
  obtain ⟨g1, g2, g3, g4⟩ := p_good hgood
  rw [hf, hl] at g2 g4
  rw [hf] at g3
  rw [hdiv] at g2
  exact ⟨g1, g2, g3, g4.trans hb1⟩
theorem pgood_out {l : List UInt8} (h : pgood l = true) : fst10 l ≠ 0 ∧ fst10 l ≤ 16 ∧ l.length % (fst10 l + 1) = 0 ∧ l.length / (fst10 l + 1) ≤ 32 ∧ okN l (fst10 l) l.length = true := by
  unfold pgood at h; simpa [and_assoc] using h
theorem perr_0 {l : List UInt8} (h : perr l = 0) : pgood l = true := by
  unfold perr at h; split at h
  · assumption
  · omega
theorem text_parse {l : List UInt8} (h : perr l = 0) : mchk (pT l) (pCh l) (pB l).length = 0 ∧ mtext (pT l) (pCh l) (pB l) = l := by
  have hg := perr_0 h
  obtain ⟨a1, a2, a3, a4, a5⟩ := pgood_out hg
  obtain ⟨g1, g2, g3, g4⟩ := p_good hg
  have hfl := fst10_le l
  generalize hC : fst10 l = C at *
  generalize hT : l.length / (C + 1) = T at *
  have hlen : l.length = T * (C + 1) := by
    have h := Nat.div_add_mod l.length (C + 1)
    rw [a3, hT, Nat.add_zero, Nat.mul_comm] at h; omega
  have hTp : 1 ≤ T := by
    rcases Nat.eq_zero_or_pos T with h | h
    · rw [h, Nat.zero_mul] at hlen; omega
    · exact h
  have hbl := (bit_spec l C T 0 (Nat.zero_le _)).1
  simp only [Nat.add_zero] at hbl
  rw [← hlen] at hbl
  have hm : mchk (T : Int) (C : Int) (bitN l C l.length).length = 0 := mchk_0 (by omega) (by
    intro h
    rcases h with h | h | h
    · omega
    · omega
    · apply h; rw [hbl]; simp)
  rw [g2, g3, g4]
  refine ⟨hm, ?_⟩
  rw [mtext_ok hm, Int.toNat_natCast, hbl]
  exact (txt_bit (by omega) hlen).2 a5
theorem mtext_len (t c : Int) (xs : List Bool) : (mtext t c xs).length ≤ 2 * xs.length := by
  unfold mtext; split
  · exact txt_bd _ _ _
  · simp

theorem text_any' (t c : Int) (v : Value) (xs : List Bool) (w : World) (h : SB w v xs) :
    Calls Try.prog 22 #[.agg #[.int .i64 t, .int .i64 c, v]] w fun e w' => e = .returned (.tuple #[.string (bstr (mtext t c xs)), .int .i64 (mchk t c xs.length)]) ∧ Below w.heap.size w w' := text_any t c v xs w h

set_option maxRecDepth 100000 in
set_option maxHeartbeats 8000000 in
theorem strings_any (t c : Int) (v : Value) (xs : List Bool) (l : List UInt8) (w : World) (h : SB w v xs) (hll : l.length ≤ 9223372036854775807) :
    Calls Try.prog 4 #[.agg #[.int .i64 t, .int .i64 c, v], .string (bstr l)] w fun e w' => e = .returned (.bool true) ∧ Below w.heap.size w w' := by
  have hs := h
  have hsz := bstr_size l
  obtain ⟨ad, cap, rfl, h1, h2, h3⟩ := h.open
  clear h h3
  by_cases g1 : 600 < xs.length
  · have b1 : decide (600 < xs.length) = true := by simpa using g1
    go_enter Try.func4, Try.ntmps4
    go_wp2_with fail
    refine (great_any _ _ _ xs _ (hs.below (ba1 _ _))).mono ?_
    rintro e w1 ⟨rfl, hb1⟩
    go_wp2
    go_ret
    exact ⟨rfl, below_to (ba1 _ _) hb1⟩
  · have b1 : decide (600 < xs.length) = false := by simpa using g1
    by_cases g2 : 2000 < l.length
    · go_enter Try.func4, Try.ntmps4
      go_wp2_with fail
      refine (great_any _ _ _ xs _ (hs.below (ba1 _ _))).mono ?_
      rintro e w1 ⟨rfl, hb1⟩
      go_wp2
      go_ret
      exact ⟨rfl, below_to (ba1 _ _) hb1⟩
    · go_enter Try.func4, Try.ntmps4
      go_wp2_with fail
      refine (great_any _ _ _ xs _ (hs.below (ba1 _ _))).mono ?_
      rintro e w1 ⟨rfl, hb1⟩
      have hb := below_to (ba1 _ _) hb1
      have a0 : w1.cell? ⟨w.heap.size, 0, none⟩ = some (.int .i64 t) := below_cell hb1 (by simp [go_sem])
      have a1 : w1.cell? ⟨w.heap.size, 1, none⟩ = some (.int .i64 c) := below_cell hb1 (by simp [go_sem])
      have a2 : w1.cell? ⟨w.heap.size, 2, none⟩ = some (.slice ad xs.length cap) := below_cell hb1 (by simp [go_sem])
      clear hb1
      go_wp2_with fail
      refine (text_any' _ _ _ xs _ (hs.below hb)).mono ?_
      rintro e w2 ⟨rfl, hb2⟩
      have hbb := below_to hb hb2
      have a0 := below_cell hb2 a0
      have a1 := below_cell hb2 a1
      have a2 := below_cell hb2 a2
      clear hb2 hb
      go_wp2_with fail
      refine (rtext_any _ _ _ xs _ (hs.below hbb)).mono ?_
      rintro e w3 ⟨rfl, hb3⟩
      have hb := below_to hbb hb3
      have a0 := below_cell hb3 a0
      have a1 := below_cell hb3 a1
      have a2 := below_cell hb3 a2
      clear hb3 hbb
      go_wp2_with fail
      refine (parse_any l _ (by omega)).mono ?_
      rintro e w4 ⟨u, rfl, su, fu, hb4⟩
      have hbb := below_to hb hb4
      have a0 := below_cell hb4 a0
      have a1 := below_cell hb4 a1
      have a2 := below_cell hb4 a2
      clear hb4 hb
      have su' := su
      obtain ⟨ua, uc, rfl, u1, u2, u3⟩ := su.open
      clear su u3
      go_wp2_with fail
      refine (rparse_any l _ (by omega)).mono ?_
      rintro e w5 ⟨u', rfl, sv, fv, hb5⟩
      have hb := below_to hbb (below_to (ba1 _ _) hb5)
      have x0 : w5.cell? ⟨w4.heap.size, 0, none⟩ = some (.int .i64 (pT l)) := below_cell hb5 (by simp [go_sem])
      have x1 : w5.cell? ⟨w4.heap.size, 1, none⟩ = some (.int .i64 (pCh l)) := below_cell hb5 (by simp [go_sem])
      have x2 : w5.cell? ⟨w4.heap.size, 2, none⟩ = some (.slice ua (pB l).length uc) := below_cell hb5 (by simp [go_sem])
      have a0 := below_cell (below_to (ba1 _ _) hb5) a0
      have a1 := below_cell (below_to (ba1 _ _) hb5) a1
      have a2 := below_cell (below_to (ba1 _ _) hb5) a2
      have su := su'.below (below_to (ba1 _ _) hb5)
      have z4 := bsz1 hb5
      clear hb5 hbb su'
      have sv' := sv
      obtain ⟨va, vc, rfl, v1, v2, v3⟩ := sv.open
      clear sv v3
      have hmx := msame_self' (pT l) (pCh l) (pB l)
      have HM := Lib.hid hmx
      clear hmx
      go_wp2_with fail
      refine (same_any _ _ _ _ _ _ (pB l) (pB l) _ (su.below (ba1 _ _)) (sv'.below (ba1 _ _))).mono ?_
      rintro e w6 ⟨rfl, hb6⟩
      rw [HM.out]
      have hbb := below_to hb (below_to (ba1 _ _) hb6)
      have a0 := below_cell (below_to (ba1 _ _) hb6) a0
      have a1 := below_cell (below_to (ba1 _ _) hb6) a1
      have a2 := below_cell (below_to (ba1 _ _) hb6) a2
      have x0 := below_cell (below_to (ba1 _ _) hb6) x0
      have x1 := below_cell (below_to (ba1 _ _) hb6) x1
      have x2 := below_cell (below_to (ba1 _ _) hb6) x2
      have su := su.below (below_to (ba1 _ _) hb6)
      clear hb6 hb sv' HM
      by_cases pm : mchk t c xs.length = 0
      · have bm : (mchk t c xs.length == 0) = true := by simp [pm]
        obtain ⟨t1, t2, t3, t4⟩ := parse_text pm
        have hml := mtext_len t c xs
        have PT : Hid (msame (pT (mtext t c xs)) (pCh (mtext t c xs)) t c (pB (mtext t c xs)) xs = true) := by show _ = _; rw [t2, t3, t4]; exact msame_self' _ _ _
        have be : (perr (mtext t c xs) != 0) = false := by simp [t1]
        have P1 := Lib.hid pm
        clear pm t1 t2 t3 t4
        go_wp2_with fail
        refine (parse_any (mtext t c xs) _ (by omega)).mono ?_
        rintro e w7 ⟨u7, rfl, s7, f7, hb7⟩
        have hb := below_to hbb hb7
        have a0 := below_cell hb7 a0
        have a1 := below_cell hb7 a1
        have a2 := below_cell hb7 a2
        have x0 := below_cell hb7 x0
        have x1 := below_cell hb7 x1
        have x2 := below_cell hb7 x2
        have su := su.below hb7
        have s7' := s7
        clear hb7 hbb
        obtain ⟨ua7, uc7, rfl, _, _, _⟩ := s7.open
        clear s7
        have z7 : w.heap.size < w7.heap.size := World.block_lt_of_cell? w7 _ a0
        go_wp2_with fail
        refine (same_any _ _ _ _ _ _ (pB (mtext t c xs)) xs _ (s7'.below (ba1 _ _)) (hs.below (below_to hb (ba1 _ _)))).mono ?_
        rintro e w8 ⟨rfl, hb8⟩
        rw [PT.out]
        have hbb := below_to hb (below_to (ba1 _ _) hb8)
        have x0 := below_cell (below_to (ba1 _ _) hb8) x0
        have x1 := below_cell (below_to (ba1 _ _) hb8) x1
        have x2 := below_cell (below_to (ba1 _ _) hb8) x2
        have su := su.below (below_to (ba1 _ _) hb8)
        clear hb8 hb s7' PT a0 a1 a2
        by_cases pg : perr l = 0
        · have bg : (perr l == 0) = true := by simp [pg]
          obtain ⟨q1, q2⟩ := text_parse pg
          have be2 : (mchk (pT l) (pCh l) (pB l).length == 0) = true := by simp [q1]
          have Q2 := Lib.hid q2
          clear pg q1 q2
          go_wp2_with fail
          refine (text_any' _ _ _ (pB l) _ su).mono ?_
          rintro e w9 ⟨rfl, hb9⟩
          rw [Q2.out]
          go_wp2
          go_ret
          exact ⟨rfl, below_to hbb hb9⟩
        · have bg : (perr l == 0) = false := by simp [pg]
          go_wp2
          go_ret
          exact ⟨rfl, hbb⟩
      · have bm : (mchk t c xs.length == 0) = false := by simp [pm]
        by_cases pg : perr l = 0
        · have bg : (perr l == 0) = true := by simp [pg]
          obtain ⟨q1, q2⟩ := text_parse pg
          have be2 : (mchk (pT l) (pCh l) (pB l).length == 0) = true := by simp [q1]
          have Q2 := Lib.hid q2
          clear pg q1 q2 pm
          go_wp2_with fail
          refine (text_any' _ _ _ (pB l) _ su).mono ?_
          rintro e w9 ⟨rfl, hb9⟩
          rw [Q2.out]
          go_wp2
          go_ret
          exact ⟨rfl, below_to hbb hb9⟩
        · have bg : (perr l == 0) = false := by simp [pg]
          go_wp2
          go_ret
          exact ⟨rfl, hbb⟩

theorem strings_any' (t c : Int) (v : Value) (xs : List Bool) (s : ByteArray) (w : World) (h : SB w v xs) (hll : s.size ≤ 9223372036854775807) :
    Calls Try.prog 4 #[.agg #[.int .i64 t, .int .i64 c, v], .string s] w fun e w' => e = .returned (.bool true) ∧ Below w.heap.size w w' := by
  have e : s = bstr s.data.toList := by cases s; rfl
  have h2 : s.data.toList.length ≤ 9223372036854775807 := by simpa using hll
  rw [e]
  exact strings_any t c v xs s.data.toList w h h2

end Go.Proofs.Ytpkggglifahioaa
