/- What is proved here: contracts of functions and plain facts, several texts in one; each one says ahead what it proves, and its conditions. -/
import Derived.Test.YtpjhiojdnebgoaaC23
import Derived.Test.YtpjhiojdnebgoaaC12
import Derived.Test.YtpjhiojdnebgoaaC24
import Derived.Test.YtpjhiojdnebgoaaC01
import Derived.Deep.DeepCutAuto
import Derived.IntWalk
/- What is proved here: the contract of interp.tapOf. Condition: a part, a degree of at most 4, and an index within it. -/
namespace Go.Proofs.Ytpjhiojdnebgoaa
open Go.RowKit

theorem t_small {a : Int} (h1 : -1000 ≤ a) (h2 : a ≤ 1000) : i64 a := ⟨by omega, by omega⟩
theorem part_i64 {n d : Int} (h : partB n d = true) : i64 n ∧ i64 d := by
  unfold partB at h
  simp only [Bool.and_eq_true, decide_eq_true_eq] at h
  exact ⟨t_small (by omega) (by omega), t_small (by omega) (by omega)⟩
set_option maxRecDepth 100000 in
set_option maxHeartbeats 8000000 in
theorem itap_any (n j : Nat) (fn fd : Int) (w : World) (hp : partB fn fd = true) (hn : n ≤ 4) (hj : j ≤ n) :
    Calls Try.prog 55 #[.int .i64 n, .int .i64 j, .agg #[.int .i64 fn, .int .i64 fd]] w fun e w' => e = .returned (.tuple #[.agg #[.int .i64 (tapV n j fn fd (n + 1)).1, .int .i64 (tapV n j fn fd (n + 1)).2], .int .i64 0]) ∧ Below w.heap.size w w' := by
  have HP := Lib.hid hp
  have JF := Lib.hid (part_i64 hp)
  clear hp
  go_enter Try.func55, Try.ntmps55
  go_wp2_with fail
  have oF := ((Own.new w 24 [.int .i64 fn, .int .i64 fd]).alloc (.cells #[.int .i64 0, .int .i64 0] 24)).alloc (.cells #[.int .i64 1, .int .i64 1] 24)
  have oR := (own_second w 24 [.int .i64 0, .int .i64 0] (.cells #[.int .i64 fn, .int .i64 fd] 24)).alloc (.cells #[.int .i64 1, .int .i64 1] 24)
  have oS := own_third w 24 [.int .i64 1, .int .i64 1] (.cells #[.int .i64 fn, .int .i64 fd] 24) (.cells #[.int .i64 0, .int .i64 0] 24)
  have hB := ba3 w (.cells #[.int .i64 fn, .int .i64 fd] 24) (.cells #[.int .i64 0, .int .i64 0] 24) (.cells #[.int .i64 1, .int .i64 1] 24)
  go_loopw [9] (fun i wr => ∃ k : Nat, k ≤ n + 1 ∧ i = .int .i64 k ∧ Own wr w.heap.size 24 [.int .i64 fn, .int .i64 fd] ∧ Own wr (w.heap.size + 1) 24 [.int .i64 0, .int .i64 0] ∧ Own wr (w.heap.size + 1 + 1) 24 [.int .i64 (tapV n j fn fd k).1, .int .i64 (tapV n j fn fd k).2] ∧ Below w.heap.size w wr) (fun i _ => n + 1 - (intOf i).toNat)
  case atStart => exact ⟨0, Nat.zero_le _, rfl, oF, oR, oS, hB⟩
  case round =>
    clear oF oR oS hB
    obtain ⟨k, hk, rfl, oF, oR, oS, hB⟩ := hrel
    rename World => W
    by_cases hlt : k ≤ n
    case neg =>
      obtain rfl : k = n + 1 := by omega
      have zk : ¬ ((n + 1 : Nat) : Int) ≤ (n : Int) := by omega
      obtain ⟨vn, hvn⟩ : ∃ v, v = (tapV n j fn fd (n + 1)).1 := ⟨_, rfl⟩
      obtain ⟨vd, hvd⟩ : ∃ v, v = (tapV n j fn fd (n + 1)).2 := ⟨_, rfl⟩
      rw [← hvn, ← hvd] at oS
      have HN := Lib.hid hvn
      have HD := Lib.hid hvd
      clear hvn hvd
      obtain ⟨rR, fR⟩ := oR.rules
      have zR := oR.lt
      obtain ⟨rS, fS⟩ := oS.rules
      have zS := oS.lt
      go_wp2
      replace oR := ((oR).set 0 (.int .i64 vn)).set 1 (.int .i64 vd)
      replace hB := ((hB).setCell (p := ⟨w.heap.size + 1, 0, none⟩) (by first | omega | (simp; done) | (simp; omega)) (.int .i64 vn)).setCell (p := ⟨w.heap.size + 1, 1, none⟩) (by first | omega | (simp; done) | (simp; omega)) (.int .i64 vd)
      refine bp_gen' (fun W => Own W _ _ _ ∧ Below w.heap.size w W) ⟨oR, hB⟩ ?_
      rintro wz ⟨oz, bz⟩
      obtain ⟨rz, fz⟩ := oz.rules
      clear oz
      refine bodyPost_ret (v := .tuple #[.agg #[.int .i64 vn, .int .i64 vd], .int .i64 0]) (by simp [results, Try.results55, go_sem, rz]) rfl ⟨by rw [HN.out, HD.out], ?_⟩
      exact bz
    by_cases hkj : k = j
    · subst hkj
      have HV := Lib.hid (tapV_same (n := n) (j := k) (fn := fn) (fd := fd))
      go_wp2
      go_roundw
      case rel => exact ⟨k + 1, by omega, by go_num, oF, oR, by rw [HV.out]; exact oS, hB⟩
      case measure => simp [intOf]; try omega
    have bj : ((k : Int) == (j : Int)) = false := by simp; omega
    have TK := Lib.hid (tap_ok HP.out hn hj hlt hkj)
    have HV := Lib.hid (tapV_succ (n := n) (fn := fn) (fd := fd) hkj)
    have HV1 := Lib.hid (congrArg Prod.fst HV.out)
    have HV2 := Lib.hid (congrArg Prod.snd HV.out)
    have HT : Hid (tapT n k fn fd = fadd ((n / 2 : Nat) - (k : Int)) 1 fn fd) := rfl
    have HC : Hid (tapC n j k fn fd = fdiv (tapT n k fn fd).n (tapT n k fn fd).d ((j : Int) - (k : Int)) 1) := rfl
    have HM : Hid (tapM n j k fn fd = fmul (tapV n j fn fd k).1 (tapV n j fn fd k).2 (tapC n j k fn fd).n (tapC n j k fn fd).d) := rfl
    have J0 := Lib.hid (t_small (a := ((n / 2 : Nat) : Int) - (k : Int)) (by omega) (by omega))
    have J1 := Lib.hid (t_small (a := (j : Int) - (k : Int)) (by omega) (by omega))
    have J2 := Lib.hid (tapV_i64 n j fn fd k)
    have JT : Hid (i64 (tapT n k fn fd).n ∧ i64 (tapT n k fn fd).d) := fadd_i64 _ _ _ _
    have JC : Hid (i64 (tapC n j k fn fd).n ∧ i64 (tapC n j k fn fd).d) := fdiv_i64 _ _ _ _
    have ET : ((tapT n k fn fd).e != 0) = false := by simp [TK.out.t]
    have EC : ((tapC n j k fn fd).e != 0) = false := by simp [TK.out.c]
    have EM : ((tapM n j k fn fd).e != 0) = false := by simp [TK.out.m]
    have q2 : Int.tdiv (n : Int) 2 = ((n / 2 : Nat) : Int) := by rw [Int.tdiv_eq_ediv_of_nonneg (by omega)]; omega
    have hn2 : n / 2 ≤ 2 := by omega
    generalize n / 2 = h at *
    generalize (tapV n j fn fd k).1 = vn at *
    generalize (tapV n j fn fd k).2 = vd at *
    generalize tapM n j k fn fd = pm at *
    generalize tapC n j k fn fd = pc at *
    generalize tapT n k fn fd = pt at *
    have a1 : IntKind.i64.wrap ((h : Int) - (k : Int)) = (h : Int) - (k : Int) := IntWalk.i64_in _ (by omega)
    have a2 : IntKind.i64.wrap ((j : Int) - (k : Int)) = (j : Int) - (k : Int) := IntWalk.i64_in _ (by omega)
    have a3 : IntKind.i64.wrap (h : Int) = (h : Int) := IntWalk.i64_in _ (by omega)
    obtain ⟨rF, fF⟩ := oF.rules
    have zF := oF.lt
    obtain ⟨rR, fR⟩ := oR.rules
    have zR := oR.lt
    obtain ⟨rS, fS⟩ := oS.rules
    have zS := oS.lt
    go_wp2_with fail
    refine (fadd_any _ _ fn fd _ J0.out i_one JF.out.1 JF.out.2).mono ?_
    rintro e y1 ⟨rfl, hq⟩
    clear rF fF zF rR fR zR rS fS zS
    replace oF := oF.below hq
    replace oR := oR.below hq
    replace oS := oS.below hq
    replace hB := below_to hB hq
    clear hq
    obtain ⟨rF, fF⟩ := oF.rules
    have zF := oF.lt
    obtain ⟨rR, fR⟩ := oR.rules
    have zR := oR.lt
    obtain ⟨rS, fS⟩ := oS.rules
    have zS := oS.lt
    rw [← HT.out]
    go_wp2_with fail
    have oD := Own.new y1 24 [.int .i64 pt.n, .int .i64 pt.d]
    refine (fdiv_any _ _ _ _ _ JT.out.1 JT.out.2 J1.out i_one).mono ?_
    rintro e y2 ⟨rfl, hq⟩
    rw [← HC.out]
    replace hq := below_to (ba1 y1 (.cells #[.int .i64 pt.n, .int .i64 pt.d] 24)) hq
    clear oD rF fF zF rR fR zR rS fS zS
    replace oF := oF.below hq
    replace oR := oR.below hq
    replace oS := oS.below hq
    replace hB := below_to hB hq
    clear hq
    obtain ⟨rF, fF⟩ := oF.rules
    have zF := oF.lt
    obtain ⟨rR, fR⟩ := oR.rules
    have zR := oR.lt
    obtain ⟨rS, fS⟩ := oS.rules
    have zS := oS.lt
    go_wp2_with fail
    refine (fmul_any vn vd pc.n pc.d _ J2.out.1 J2.out.2 JC.out.1 JC.out.2).mono ?_
    rintro e y3 ⟨rfl, hq⟩
    rw [← HM.out]
    replace hq := below_to (ba1 y2 (.cells #[.int .i64 pc.n, .int .i64 pc.d] 24)) hq
    clear rF fF zF rR fR zR rS fS zS
    replace oF := oF.below hq
    replace oR := oR.below hq
    replace oS := oS.below hq
    replace hB := below_to hB hq
    clear hq
    obtain ⟨rS, fS⟩ := oS.rules
    have zS := oS.lt
    go_wp2
    go_roundw
    replace oF := ((oF).other (g' := w.heap.size + 1 + 1) (by first | omega | (simp; done) | (simp; omega)) 0 (.int .i64 pm.n)).other (g' := w.heap.size + 1 + 1) (by first | omega | (simp; done) | (simp; omega)) 1 (.int .i64 pm.d)
    replace oR := ((oR).other (g' := w.heap.size + 1 + 1) (by first | omega | (simp; done) | (simp; omega)) 0 (.int .i64 pm.n)).other (g' := w.heap.size + 1 + 1) (by first | omega | (simp; done) | (simp; omega)) 1 (.int .i64 pm.d)
    replace oS := ((oS).set 0 (.int .i64 pm.n)).set 1 (.int .i64 pm.d)
    replace hB := ((hB).setCell (p := ⟨w.heap.size + 1 + 1, 0, none⟩) (by first | omega | (simp; done) | (simp; omega)) (.int .i64 pm.n)).setCell (p := ⟨w.heap.size + 1 + 1, 1, none⟩) (by first | omega | (simp; done) | (simp; omega)) (.int .i64 pm.d)
    case rel => exact ⟨k + 1, by omega, by go_num, oF, oR, by rw [HV1.out, HV2.out]; exact oS, hB⟩
    case measure => simp [intOf]; try omega
end Go.Proofs.Ytpjhiojdnebgoaa

/- What is proved here: the contract of interp.Taps. Condition: 64-bit numbers. -/
namespace Go.Proofs.Ytpjhiojdnebgoaa
open Go.RowKit

set_option maxRecDepth 100000 in
set_option maxHeartbeats 8000000 in
theorem itaps_any (n fn fd : Int) (w : World) (j1 : i64 n) (j2 : i64 fn) (j3 : i64 fd) :
    Calls Try.prog 20 #[.int .i64 n, .agg #[.int .i64 fn, .int .i64 fd]] w (rows_post w (ftaps n fn fd)) := by
  have J2 := Lib.hid j2
  have J3 := Lib.hid j3
  clear j2 j3
  by_cases hm : n < 0 ∨ 4 < n
  · have HV : Hid (ftaps n fn fd = ([], 2)) := if_pos hm
    by_cases hm1 : n < 0
    · clear hm
      go_enter Try.func20, Try.ntmps20
      go_wp2
      go_ret2
      exact ⟨.slice none 0 0, by rw [HV.out]; try rfl, by rw [HV.out]; exact sf_nil _, ba1 w _⟩
    · have hm2 : 4 < n := by omega
      have q1 : decide (n < 0) = false := by simpa using hm1
      clear hm
      go_enter Try.func20, Try.ntmps20
      go_wp2
      go_ret2
      exact ⟨.slice none 0 0, by rw [HV.out]; try rfl, by rw [HV.out]; exact sf_nil _, ba1 w _⟩
  have HV : Hid (ftaps n fn fd = if partB fn fd = false then ([], 8) else (tapsN n.toNat fn fd (n.toNat + 1), 0)) := if_neg hm
  obtain ⟨N, rfl⟩ := Int.eq_ofNat_of_zero_le (show 0 ≤ n by omega)
  have hN : N ≤ 4 := by omega
  have q1 : decide ((N : Int) < 0) = false := by simp
  have q2 : decide (4 < (N : Int)) = false := by simp; omega
  clear hm j1
  rw [Int.toNat_natCast] at HV
  go_enter Try.func20, Try.ntmps20
  have oF := Own.new w 24 [.int .i64 fn, .int .i64 fd]
  have hB := ba1 w (.cells #[.int .i64 fn, .int .i64 fd] 24)
  obtain ⟨rF, fF⟩ := oF.rules
  have zF := oF.lt
  go_wp2_with fail
  refine (ipart_any fn fd _ J2.out J3.out).mono ?_
  rintro e y1 ⟨rfl, hq⟩
  clear rF fF zF
  replace oF := oF.below hq
  replace hB := below_to hB hq
  clear hq
  obtain ⟨rF, fF⟩ := oF.rules
  have zF := oF.lt
  by_cases hp : partB fn fd = true
  case neg =>
    have hp' : partB fn fd = false := by simpa using hp
    have HV2 : Hid (ftaps N fn fd = ([], 8)) := HV.out.trans (if_pos hp')
    rw [hp']
    clear hp hp' HV
    go_wp2
    go_ret2
    exact ⟨.slice none 0 0, by rw [HV2.out]; try rfl, by rw [HV2.out]; exact sf_nil _, hB⟩
  have HP := Lib.hid hp
  have HV2 : Hid (ftaps N fn fd = (tapsN N fn fd (N + 1), 0)) := HV.out.trans (if_neg (by rw [hp]; decide))
  rw [hp]
  clear hp HV
  obtain ⟨M, hM⟩ : ∃ M, M = N + 1 := ⟨_, rfl⟩
  have HM := Lib.hid hM
  have hM5 : M ≤ 5 := by omega
  have MK := mk_fracs M ((N : Int) + 1) (by omega) (by omega)
  rw [← hM] at HV2
  clear hM
  have a1 : IntKind.i64.wrap ((N : Int) + 1) = (N : Int) + 1 := IntWalk.i64_in _ (by omega)
  go_wp2
  clear MK
  have oO := Own.new y1 24 (fcs (List.replicate M (0, 0)))
  have hy := ba1 y1 (.cells (fcs (List.replicate M (0, 0))).toArray 24)
  replace oF := oF.below hy
  replace hB := below_to hB hy
  have zG : w.heap.size < y1.heap.size := zF
  clear rF fF zF hy
  obtain ⟨G, hG⟩ : ∃ G, G = y1.heap.size := ⟨_, rfl⟩
  rw [← hG] at oO zG ⊢
  clear hG
  go_loopw [24] (fun i wr => ∃ m : Nat, m ≤ M ∧ i = .int .i64 m ∧ Own wr w.heap.size 24 [.int .i64 fn, .int .i64 fd] ∧ Own wr G 24 (fcs (tapsN N fn fd m ++ List.replicate (M - m) (0, 0))) ∧ Below w.heap.size w wr) (fun i _ => M - (intOf i).toNat)
  case atStart => exact ⟨0, Nat.zero_le _, rfl, oF, oO, hB⟩
  case round =>
    clear oF oO hB
    obtain ⟨m, hm, rfl, oF, oO, hB⟩ := hrel
    rename World => W
    have RL := Lib.hid (tapsN_len N fn fd m)
    by_cases hlt : m < M
    · have HE1 := Lib.hid (tapsN_succ N fn fd m)
      have hmN : m ≤ N := by have := HM.out; omega
      obtain ⟨rF, fF⟩ := oF.rules
      have zF := oF.lt
      go_wp2_with fail
      refine (itap_any N m fn fd _ HP.out hN hmN).mono ?_
      rintro e y2 ⟨rfl, hq⟩
      clear rF fF zF
      replace oF := oF.below hq
      replace oO := oO.below hq
      replace hB := below_to hB hq
      clear hq
      obtain ⟨rF, fF⟩ := oF.rules
      have zF := oF.lt
      generalize (tapV N m fn fd (N + 1)) = v at *
      obtain ⟨v1, v2, g1, g2⟩ := fcs_some (tapsN N fn fd m ++ List.replicate (M - m) (0, 0)) m (by have := RL.out; simp; omega)
      clear rF fF zF
      have zo := oO.lt
      obtain ⟨rO, fO⟩ := oO.rules
      have zO := oO.lt
      go_wp2
      go_roundw
      case rel =>
        refine ⟨m + 1, by omega, by go_num, ?_, ?_, ?_⟩
        · exact ((oF.other (g' := G) (by omega) _ _).other (g' := G) (by omega) _ _).alloc _
        · have o2 := (oO.set (m * 2) (.int .i64 v.1)).set (m * 2 + 1) (.int .i64 v.2)
          rw [fcs_set _ m (v.1, v.2), fill_rows _ m M (v.1, v.2) RL.out hlt] at o2
          rw [HE1.out]
          exact o2.alloc _
        · exact ((hB.setCell (p := ⟨G, m * 2, none⟩) (by simp; omega) (.int .i64 v.1)).setCell (p := ⟨G, m * 2 + 1, none⟩) (by simp; omega) (.int .i64 v.2)).alloc (by have := hB.size; simp; omega) _
      case measure => simp [intOf]; try omega
    · obtain rfl : m = M := by omega
      have hsl : Sl W (.slice (some ⟨G, 0, none⟩) m m) m (fcs (tapsN N fn fd m)) := by
        have := oO.sl (n := m) m (Nat.le_refl _) (by omega) (fcs (tapsN N fn fd m)) ⟨[], by rw [Nat.sub_self]; simp⟩
        exact this
      clear oO
      go_wp2
      go_ret2
      refine ⟨.slice (some ⟨G, 0, none⟩) m m, by rw [HV2.out]; try rfl, ?_, hB⟩
      rw [HV2.out]
      unfold SF
      rw [RL.out]
      exact hsl
end Go.Proofs.Ytpjhiojdnebgoaa
