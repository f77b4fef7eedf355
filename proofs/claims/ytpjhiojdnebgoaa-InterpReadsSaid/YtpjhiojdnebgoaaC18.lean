/- What is proved here: contracts of functions and plain facts, several texts in one; each one says ahead what it proves, and its conditions. -/
import Derived.Test.YtpjhiojdnebgoaaC16
import Derived.Test.YtpjhiojdnebgoaaC17
import Derived.Test.YtpjhiojdnebgoaaC06
/- What is proved here: the contract of interp.Taps. Condition: 64-bit numbers. -/
namespace Go.Proofs.Ytpjhiojdnebgoaa
open Go.RowKit

set_option maxRecDepth 100000 in
set_option maxHeartbeats 8000000 in
theorem itaps_any (n fn fd : Int) (w : World) (j1 : i64 n) (j2 : i64 fn) (j3 : i64 fd) :
    Calls Try.prog 20 #[.int .i64 n, .agg #[.int .i64 fn, .int .i64 fd]] w (rows_post w (ftaps n fn fd)) := by
  have J2 := Lib.hid j2
  have J3 := Lib.hid j3
  clear j2 j3
  by_cases hm : n < 0 ∨ 4 < n
  · have HV : Hid (ftaps n fn fd = ([], 2)) := if_pos hm
    by_cases hm1 : n < 0
    · clear hm
      go_enter Try.func20, Try.ntmps20
      go_wp2
      go_ret2
      exact ⟨.slice none 0 0, by rw [HV.out]; try rfl, by rw [HV.out]; exact sf_nil _, ba1 w _⟩
    · have hm2 : 4 < n := by omega
      have q1 : decide (n < 0) = false := by simpa using hm1
      clear hm
      go_enter Try.func20, Try.ntmps20
      go_wp2
      go_ret2
      exact ⟨.slice none 0 0, by rw [HV.out]; try rfl, by rw [HV.out]; exact sf_nil _, ba1 w _⟩
  have HV : Hid (ftaps n fn fd = if partB fn fd = false then ([], 8) else (tapsN n.toNat fn fd (n.toNat + 1), 0)) := if_neg hm
  obtain ⟨N, rfl⟩ := Int.eq_ofNat_of_zero_le (show 0 ≤ n by omega)
  have hN : N ≤ 4 := by omega
  have q1 : decide ((N : Int) < 0) = false := by simp
  have q2 : decide (4 < (N : Int)) = false := by simp; omega
  clear hm j1
  rw [Int.toNat_natCast] at HV
  go_enter Try.func20, Try.ntmps20
  have oF := Own.new w 24 [.int .i64 fn, .int .i64 fd]
  have hB := ba1 w (.cells #[.int .i64 fn, .int .i64 fd] 24)
  obtain ⟨rF, fF⟩ := oF.rules
  have zF := oF.lt
  go_wp2_with fail
  refine (ipart_any fn fd _ J2.out J3.out).mono ?_
  rintro e y1 ⟨rfl, hq⟩
  clear rF fF zF
  replace oF := oF.below hq
  replace hB := below_to hB hq
  clear hq
  obtain ⟨rF, fF⟩ := oF.rules
  have zF := oF.lt
  by_cases hp : partB fn fd = true
  case neg =>
    have hp' : partB fn fd = false := by simpa using hp
    have HV2 : Hid (ftaps N fn fd = ([], 8)) := HV.out.trans (if_pos hp')
    rw [hp']
    clear hp hp' HV
    go_wp2
    go_ret2
    exact ⟨.slice none 0 0, by rw [HV2.out]; try rfl, by rw [HV2.out]; exact sf_nil _, hB⟩
  have HP := Lib.hid hp
  have HV2 : Hid (ftaps N fn fd = (tapsN N fn fd (N + 1), 0)) := HV.out.trans (if_neg (by rw [hp]; decide))
  rw [hp]
  clear hp HV
  obtain ⟨M, hM⟩ : ∃ M, M = N + 1 := ⟨_, rfl⟩
  have HM := Lib.hid hM
  have hM5 : M ≤ 5 := by omega
  have MK := mk_fracs M ((N : Int) + 1) (by omega) (by omega)
  rw [← hM] at HV2
  clear hM
  have a1 : IntKind.i64.wrap ((N : Int) + 1) = (N : Int) + 1 := IntWalk.i64_in _ (by omega)
  go_wp2
  clear MK
  have oO := Own.new y1 24 (fcs (List.replicate M (0, 0)))
  have hy := ba1 y1 (.cells (fcs (List.replicate M (0, 0))).toArray 24)
  replace oF := oF.below hy
  replace hB := below_to hB hy
  have zG : w.heap.size < y1.heap.size := zF
  clear rF fF zF hy
  obtain ⟨G, hG⟩ : ∃ G, G = y1.heap.size := ⟨_, rfl⟩
  rw [← hG] at oO zG ⊢
  clear hG
  go_loopw [24] (fun i wr => ∃ m : Nat, m ≤ M ∧ i = .int .i64 m ∧ Own wr w.heap.size 24 [.int .i64 fn, .int .i64 fd] ∧ Own wr G 24 (fcs (tapsN N fn fd m ++ List.replicate (M - m) (0, 0))) ∧ Below w.heap.size w wr) (fun i _ => M - (intOf i).toNat)
  case atStart => exact ⟨0, Nat.zero_le _, rfl, oF, oO, hB⟩
  case round =>
    clear oF oO hB
    obtain ⟨m, hm, rfl, oF, oO, hB⟩ := hrel
    rename World => W
    have RL := Lib.hid (tapsN_len N fn fd m)
    by_cases hlt : m < M
    · have HE1 := Lib.hid (tapsN_succ N fn fd m)
      have hmN : m ≤ N := by have := HM.out; omega
      obtain ⟨rF, fF⟩ := oF.rules
      have zF := oF.lt
      go_wp2_with fail
      refine (itap_any N m fn fd _ HP.out hN hmN).mono ?_
      rintro e y2 ⟨rfl, hq⟩
      clear rF fF zF
      replace oF := oF.below hq
      replace oO := oO.below hq
      replace hB := below_to hB hq
      clear hq
      obtain ⟨rF, fF⟩ := oF.rules
      have zF := oF.lt
      generalize (tapV N m fn fd (N + 1)) = v at *
      obtain ⟨v1, v2, g1, g2⟩ := fcs_some (tapsN N fn fd m ++ List.replicate (M - m) (0, 0)) m (by have := RL.out; simp; omega)
      clear rF fF zF
      have zo := oO.lt
      obtain ⟨rO, fO⟩ := oO.rules
      have zO := oO.lt
      go_wp2
      go_roundw
      case rel =>
        refine ⟨m + 1, by omega, by go_num, ?_, ?_, ?_⟩
        · exact ((oF.other (g' := G) (by omega) _ _).other (g' := G) (by omega) _ _).alloc _
        · have o2 := (oO.set (m * 2) (.int .i64 v.1)).set (m * 2 + 1) (.int .i64 v.2)
          rw [fcs_set _ m (v.1, v.2), fill_rows _ m M (v.1, v.2) RL.out hlt] at o2
          rw [HE1.out]
          exact o2.alloc _
        · exact ((hB.setCell (p := ⟨G, m * 2, none⟩) (by simp; omega) (.int .i64 v.1)).setCell (p := ⟨G, m * 2 + 1, none⟩) (by simp; omega) (.int .i64 v.2)).alloc (by have := hB.size; simp; omega) _
      case measure => simp [intOf]; try omega
    · obtain rfl : m = M := by omega
      have hsl : Sl W (.slice (some ⟨G, 0, none⟩) m m) m (fcs (tapsN N fn fd m)) := by
        have := oO.sl (n := m) m (Nat.le_refl _) (by omega) (fcs (tapsN N fn fd m)) ⟨[], by rw [Nat.sub_self]; simp⟩
        exact this
      clear oO
      go_wp2
      go_ret2
      refine ⟨.slice (some ⟨G, 0, none⟩) m m, by rw [HV2.out]; try rfl, ?_, hB⟩
      rw [HV2.out]
      unfold SF
      rw [RL.out]
      exact hsl
end Go.Proofs.Ytpjhiojdnebgoaa
