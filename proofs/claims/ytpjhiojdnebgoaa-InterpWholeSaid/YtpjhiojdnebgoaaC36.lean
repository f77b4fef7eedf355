/- What is proved here: contracts of functions and plain facts, several texts in one; each one says ahead what it proves, and its conditions. -/
import Derived.Test.YtpjhiojdnebgoaaC25
import Derived.Test.YtpjhiojdnebgoaaC35
import Derived.Test.YtpjhiojdnebgoaaC24
import Derived.Test.YtpjhiojdnebgoaaC23
import Derived.IntWalk
import Derived.Deep.DeepCutAuto
/- What is proved here: the contract of interp.Read. Condition: a slice of 64-bit numbers, 64-bit numbers. -/
namespace Go.Proofs.Ytpjhiojdnebgoaa
open Go.RowKit

theorem fread_4 {l : List Int} {n fn fd : Int} (h : 256 < l.length) : fread l n fn fd = ([], 4) := by
  have e : levE l = 4 := by unfold levE; rw [if_pos h]
  unfold fread; rw [e]; rfl
theorem fread_8 {l : List Int} {n fn fd : Int} (h : ¬ 256 < l.length) (hl : levB l = false) : fread l n fn fd = ([], 8) := by
  have e : levE l = 8 := by unfold levE; rw [if_neg h, if_pos hl]
  unfold fread; rw [e]; rfl
theorem levE_0 {l : List Int} (h : ¬ 256 < l.length) (hl : levB l = true) : levE l = 0 := by unfold levE; rw [if_neg h, if_neg (by rw [hl]; decide)]
theorem fread_e {l : List Int} {n fn fd : Int} (h : levE l = 0) (ht : (ftaps n fn fd).2 ≠ 0) : fread l n fn fd = ([], (ftaps n fn fd).2) := by
  unfold fread; rw [if_neg (by rw [h]; simp), if_pos ht]
theorem fread_0 {l : List Int} {n fn fd : Int} (h : levE l = 0) (ht : (ftaps n fn fd).2 = 0) : fread l n fn fd = ffilt (wholes l) (ftaps n fn fd).1 := by
  unfold fread; rw [if_neg (by rw [h]; simp), if_neg (by rw [ht]; simp)]
set_option maxRecDepth 100000 in
set_option maxHeartbeats 16000000 in
theorem iread_any (l : List Int) (v : Value) (n fn fd : Int) (w : World) (hs : SI w v l) (hl : ∀ i (h : i < l.length), i64 l[i]) (j1 : i64 n) (j2 : i64 fn) (j3 : i64 fd) :
    Calls Try.prog 15 #[v, .int .i64 n, .agg #[.int .i64 fn, .int .i64 fd]] w (rows_post w (fread l n fn fd)) := by
  have S0 := Lib.hid hs
  have HI := Lib.hid (wholes_FI hl)
  have J1 := Lib.hid j1
  have J2 := Lib.hid j2
  have J3 := Lib.hid j3
  obtain ⟨ad, cap, rfl, h1, h2, _⟩ := hs.open
  clear hs hl j1 j2 j3
  have oF := Own.new w 24 [.int .i64 fn, .int .i64 fd]
  have hB := ba1 w (.cells #[.int .i64 fn, .int .i64 fd] 24)
  by_cases hm : 256 < l.length
  · have HV := Lib.hid (fread_4 (n := n) (fn := fn) (fd := fd) hm)
    have b0 : decide (256 < (l.length : Int)) = true := by simp; omega
    go_enter Try.func15, Try.ntmps15
    go_wp2
    go_ret2
    exact ⟨.slice none 0 0, by rw [HV.out]; try rfl, by rw [HV.out]; exact sf_nil _, hB⟩
  have b0 : decide (256 < (l.length : Int)) = false := by simp; omega
  have l256 : l.length ≤ 256 := by omega
  by_cases hv : levB l = false
  · have HV := Lib.hid (fread_8 (n := n) (fn := fn) (fd := fd) hm hv)
    have HL := Lib.hid hv
    clear hm hv
    go_enter Try.func15, Try.ntmps15
    obtain ⟨rF, fF⟩ := oF.rules
    have zF := oF.lt
    go_wp2_with fail
    refine (ilev_any l _ _ (S0.out.below hB)).mono ?_
    rintro e y1 ⟨rfl, hq⟩
    clear rF fF zF
    replace oF := oF.below hq
    replace hB := below_to hB hq
    clear hq
    obtain ⟨rF, fF⟩ := oF.rules
    have zF := oF.lt
    rw [HL.out]
    go_wp2
    go_ret2
    exact ⟨.slice none 0 0, by rw [HV.out]; try rfl, by rw [HV.out]; exact sf_nil _, hB⟩
  have HL : Hid (levB l = true) := by show _ = _; simpa using hv
  have HE := Lib.hid (levE_0 hm HL.out)
  clear hm hv
  go_enter Try.func15, Try.ntmps15
  obtain ⟨rF, fF⟩ := oF.rules
  have zF := oF.lt
  go_wp2_with fail
  refine (ilev_any l _ _ (S0.out.below hB)).mono ?_
  rintro e y1 ⟨rfl, hq⟩
  clear rF fF zF
  replace oF := oF.below hq
  replace hB := below_to hB hq
  clear hq
  obtain ⟨rF, fF⟩ := oF.rules
  have zF := oF.lt
  rw [HL.out]
  go_wp2_with fail
  refine (itaps_any n fn fd _ J1.out J2.out J3.out).mono ?_
  rintro e y2 ⟨ut, rfl, st, hq⟩
  clear rF fF zF
  replace oF := oF.below hq
  replace hB := below_to hB hq
  clear hq
  have hB2 := hB
  have HT := Lib.hid (ftaps_FI n fn fd)
  by_cases he : (ftaps n fn fd).2 = 0
  case neg =>
    have HV := Lib.hid (fread_e HE.out he)
    have b1 : ((ftaps n fn fd).2 != 0) = true := by simpa using he
    clear he
    generalize ftaps n fn fd = T at *
    go_wp2
    go_ret2
    exact ⟨.slice none 0 0, by rw [HV.out]; try rfl, by rw [HV.out]; exact sf_nil _, hB⟩
  have HV := Lib.hid (fread_0 HE.out he)
  have b1 : ((ftaps n fn fd).2 != 0) = false := by simp [he]
  clear he
  generalize ftaps n fn fd = T at *
  have WL := Lib.hid (wholes_len l)
  have MK := mk_fracs l.length (l.length : Int) rfl (by omega)
  go_wp2
  clear MK oF
  have oO := Own.new y2 24 (fcs (List.replicate l.length (0, 0)))
  have hy := ba1 y2 (.cells (fcs (List.replicate l.length (0, 0))).toArray 24)
  have ST := Lib.hid st
  clear st
  replace hB := below_to hB hy
  have zG : w.heap.size ≤ y2.heap.size := hB2.size
  obtain ⟨G, hG⟩ : ∃ G, G = y2.heap.size := ⟨_, rfl⟩
  have zY : y2.heap.size ≤ G := by rw [hG]; exact Nat.le_refl _
  rw [← hG] at oO ⊢
  clear hG hB2
  go_loopw [33] (fun i wr => ∃ m : Nat, m ≤ l.length ∧ i = .int .i64 m ∧ Own wr G 24 (fcs (wholes (l.take m) ++ List.replicate (l.length - m) (0, 0))) ∧ Below w.heap.size w wr ∧ Below y2.heap.size y2 wr) (fun i _ => l.length - (intOf i).toNat)
  case atStart => exact ⟨0, Nat.zero_le _, rfl, oO, hB, hy⟩
  case round =>
    clear oO hB hy
    obtain ⟨m, hm, rfl, oO, hB, hY⟩ := hrel
    rename World => W
    have RL : Hid ((wholes (l.take m)).length = m) := by show _ = _; rw [wholes_len, List.length_take]; omega
    by_cases hlt : m < l.length
    · obtain ⟨_, _, e, _, _, H⟩ := (S0.out.below hB).open
      cases e
      obtain ⟨b', off', rfl, c1⟩ := H.out m hlt
      clear H
      have HE1 := Lib.hid (wholes_take hlt)
      generalize l[m] = x at *
      obtain ⟨v1, v2, g1, g2⟩ := fcs_some (wholes (l.take m) ++ List.replicate (l.length - m) (0, 0)) m (by have := RL.out; simp; omega)
      have zo := oO.lt
      obtain ⟨rO, fO⟩ := oO.rules
      go_wp2
      go_roundw
      case rel =>
        refine ⟨m + 1, by omega, by go_num, ?_, ?_, ?_⟩
        · have o2 := (oO.set (m * 2) (.int .i64 x)).set (m * 2 + 1) (.int .i64 1)
          rw [fcs_set _ m (x, 1), fill_rows _ m l.length (x, 1) RL.out hlt] at o2
          rw [HE1.out]
          exact o2
        · exact (hB.setCell (p := ⟨G, m * 2, none⟩) (by simp; omega) (.int .i64 x)).setCell (p := ⟨G, m * 2 + 1, none⟩) (by simp; omega) (.int .i64 1)
        · exact (hY.setCell (p := ⟨G, m * 2, none⟩) (by simp; omega) (.int .i64 x)).setCell (p := ⟨G, m * 2 + 1, none⟩) (by simp; omega) (.int .i64 1)
      case measure => simp [intOf]; try omega
    · obtain rfl : m = l.length := by omega
      have hsl : SF W (.slice (some ⟨G, 0, none⟩) l.length l.length) (wholes l) := by
        unfold SF
        rw [WL.out]
        have := oO.sl (n := l.length) l.length (Nat.le_refl _) (by omega) (fcs (wholes l)) ⟨[], by rw [List.take_length, Nat.sub_self]; simp⟩
        exact this
      clear oO
      go_wp2_with fail
      refine (ifilt_any (wholes l) T.1 _ _ _ hsl (ST.out.below hY) HI.out HT.out).mono ?_
      rintro e y3 ⟨uf', rfl, sf', hq⟩
      replace hB := below_to hB hq
      go_wp2
      go_ret2
      rw [HV.out]
      exact ⟨uf', rfl, sf', hB⟩
end Go.Proofs.Ytpjhiojdnebgoaa
