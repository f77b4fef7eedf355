/- What is proved here: contracts of functions and plain facts, several texts in one; each one says ahead what it proves, and its conditions. -/
import Derived.Test.YtpjhiojdnebgoaaC25
import Derived.Test.YtpjhiojdnebgoaaC21
import Derived.Test.YtpjhiojdnebgoaaC26
import Derived.Test.YtpjhiojdnebgoaaC24
import Derived.Test.YtpjhiojdnebgoaaC23
import Derived.Test.YtpjhiojdnebgoaaC01
/- What is proved here: the contract of fringeref15.tapped. Condition: a part, a degree of at most 4, and an index within it. -/
namespace Go.Proofs.Ytpjhiojdnebgoaa
open Go.RowKit

set_option maxRecDepth 100000 in
set_option maxHeartbeats 8000000 in
theorem ritap_any (n j : Nat) (fn fd : Int) (w : World) (hp : partB fn fd = true) (hn : n ≤ 4) (hj : j ≤ n) :
    Calls Try.prog 56 #[.int .i64 n, .agg #[.int .i64 fn, .int .i64 fd], .int .i64 j] w fun e w' => e = .returned (.agg #[.int .i64 (tapV n j fn fd (n + 1)).1, .int .i64 (tapV n j fn fd (n + 1)).2]) ∧ Below w.heap.size w w' := by
  have HP := Lib.hid hp
  have JF := Lib.hid (part_i64 hp)
  clear hp
  have q2 : Int.tdiv (n : Int) 2 = ((n / 2 : Nat) : Int) := by rw [Int.tdiv_eq_ediv_of_nonneg (by omega)]; omega
  have hn2 : n / 2 ≤ 2 := by omega
  have HA : Hid (atF n fn fd = fadd ((n / 2 : Nat) : Int) 1 fn fd) := rfl
  have J0 := Lib.hid (t_small (a := ((n / 2 : Nat) : Int)) (by omega) (by omega))
  have JA : Hid (i64 (atF n fn fd).n ∧ i64 (atF n fn fd).d) := fadd_i64 _ _ _ _
  have AK : Hid (∀ k, tapA n k fn fd = fsub (atF n fn fd).n (atF n fn fd).d (k : Int) 1) := fun _ => rfl
  obtain ⟨h, hh⟩ : ∃ h, h = n / 2 := ⟨_, rfl⟩
  rw [← hh] at q2 hn2 HA J0
  clear hh
  generalize atF n fn fd = pa at *
  have a3 : IntKind.i64.wrap (h : Int) = (h : Int) := IntWalk.i64_in _ (by omega)
  go_enter Try.func56, Try.ntmps56
  have oF := (Own.new w 24 [.int .i64 fn, .int .i64 fd]).alloc (.cells #[.int .i64 0, .int .i64 0] 24)
  have oR := own_second w 24 [.int .i64 0, .int .i64 0] (.cells #[.int .i64 fn, .int .i64 fd] 24)
  have hB := ba2 w (.cells #[.int .i64 fn, .int .i64 fd] 24) (.cells #[.int .i64 0, .int .i64 0] 24)
  obtain ⟨rF, fF⟩ := oF.rules
  have zF := oF.lt
  obtain ⟨rR, fR⟩ := oR.rules
  have zR := oR.lt
  go_wp2_with fail
  refine (radd_any _ _ fn fd _ J0.out i_one JF.out.1 JF.out.2).mono ?_
  rintro e y1 ⟨rfl, hq⟩
  clear rF fF zF rR fR zR
  replace oF := oF.below hq
  replace oR := oR.below hq
  replace hB := below_to hB hq
  clear hq
  obtain ⟨rF, fF⟩ := oF.rules
  have zF := oF.lt
  obtain ⟨rR, fR⟩ := oR.rules
  have zR := oR.lt
  rw [← HA.out]
  clear oF rF fF zF
  go_wp2_with fail
  have oA := (Own.new y1 24 [.int .i64 pa.n, .int .i64 pa.d]).alloc (.cells #[.int .i64 1, .int .i64 1] 24)
  have oS := own_second y1 24 [.int .i64 1, .int .i64 1] (.cells #[.int .i64 pa.n, .int .i64 pa.d] 24)
  have hy := ba2 y1 (.cells #[.int .i64 pa.n, .int .i64 pa.d] 24) (.cells #[.int .i64 1, .int .i64 1] 24)
  have zG : w.heap.size + 1 < y1.heap.size := zR
  replace oR := oR.below hy
  replace hB := below_to hB hy
  clear rR fR zR hy
  obtain ⟨GA, hG⟩ : ∃ G, G = y1.heap.size := ⟨_, rfl⟩
  rw [← hG] at oA oS zG ⊢
  clear hG
  go_loopw [10] (fun i wr => ∃ k : Nat, k ≤ n + 1 ∧ i = .int .i64 k ∧ Own wr (w.heap.size + 1) 24 [.int .i64 0, .int .i64 0] ∧ Own wr GA 24 [.int .i64 pa.n, .int .i64 pa.d] ∧ Own wr (GA + 1) 24 [.int .i64 (tapV n j fn fd k).1, .int .i64 (tapV n j fn fd k).2] ∧ Below w.heap.size w wr) (fun i _ => n + 1 - (intOf i).toNat)
  case atStart => exact ⟨0, Nat.zero_le _, rfl, oR, oA, oS, hB⟩
  case round =>
    clear oR oA oS hB
    obtain ⟨k, hk, rfl, oR, oA, oS, hB⟩ := hrel
    rename World => W
    by_cases hlt : k ≤ n
    case neg =>
      obtain rfl : k = n + 1 := by omega
      have zk : ¬ ((n + 1 : Nat) : Int) ≤ (n : Int) := by omega
      obtain ⟨vn, hvn⟩ : ∃ v, v = (tapV n j fn fd (n + 1)).1 := ⟨_, rfl⟩
      obtain ⟨vd, hvd⟩ : ∃ v, v = (tapV n j fn fd (n + 1)).2 := ⟨_, rfl⟩
      rw [← hvn, ← hvd] at oS
      have HN := Lib.hid hvn
      have HD := Lib.hid hvd
      clear hvn hvd
      obtain ⟨rR, fR⟩ := oR.rules
      have zR := oR.lt
      obtain ⟨rS, fS⟩ := oS.rules
      have zS := oS.lt
      go_wp2
      replace oR := ((oR).set 0 (.int .i64 vn)).set 1 (.int .i64 vd)
      replace hB := ((hB).setCell (p := ⟨w.heap.size + 1, 0, none⟩) (by first | omega | (simp; done) | (simp; omega)) (.int .i64 vn)).setCell (p := ⟨w.heap.size + 1, 1, none⟩) (by first | omega | (simp; done) | (simp; omega)) (.int .i64 vd)
      refine bp_gen' (fun W => Own W _ _ _ ∧ Below w.heap.size w W) ⟨oR, hB⟩ ?_
      rintro wz ⟨oz, bz⟩
      obtain ⟨rz, fz⟩ := oz.rules
      clear oz
      refine bodyPost_ret (v := .agg #[.int .i64 vn, .int .i64 vd]) (by simp [results, Try.results56, go_sem, rz]) rfl ⟨by rw [HN.out, HD.out], ?_⟩
      exact bz
    by_cases hkj : k = j
    · subst hkj
      have HV := Lib.hid (tapV_same (n := n) (j := k) (fn := fn) (fd := fd))
      go_wp2
      go_roundw
      case rel => exact ⟨k + 1, by omega, by go_num, oR, oA, by rw [HV.out]; exact oS, hB⟩
      case measure => simp [intOf]; try omega
    have bj : ((k : Int) == (j : Int)) = false := by simp; omega
    have TK := Lib.hid (tap_ok HP.out hn hj hlt hkj)
    have HV := Lib.hid (tapV_succ (n := n) (fn := fn) (fd := fd) hkj)
    have HV1 := Lib.hid (congrArg Prod.fst HV.out)
    have HV2 := Lib.hid (congrArg Prod.snd HV.out)
    have A1 := Lib.hid TK.out.a1
    have A2 := Lib.hid TK.out.a2
    have HK := Lib.hid (AK.out k)
    have HC : Hid (tapC n j k fn fd = fdiv (tapT n k fn fd).n (tapT n k fn fd).d ((j : Int) - (k : Int)) 1) := rfl
    have HM : Hid (tapM n j k fn fd = fmul (tapV n j fn fd k).1 (tapV n j fn fd k).2 (tapC n j k fn fd).n (tapC n j k fn fd).d) := rfl
    have J3 := Lib.hid (t_small (a := (k : Int)) (by omega) (by omega))
    have J1 := Lib.hid (t_small (a := (j : Int) - (k : Int)) (by omega) (by omega))
    have J2 := Lib.hid (tapV_i64 n j fn fd k)
    have JT : Hid (i64 (tapT n k fn fd).n ∧ i64 (tapT n k fn fd).d) := fadd_i64 _ _ _ _
    have JC : Hid (i64 (tapC n j k fn fd).n ∧ i64 (tapC n j k fn fd).d) := fdiv_i64 _ _ _ _
    clear TK HV
    generalize (tapV n j fn fd k).1 = vn at *
    generalize (tapV n j fn fd k).2 = vd at *
    generalize tapM n j k fn fd = pm at *
    generalize tapC n j k fn fd = pc at *
    generalize tapT n k fn fd = pt at *
    generalize tapA n k fn fd = pq at *
    have a2 : IntKind.i64.wrap ((j : Int) - (k : Int)) = (j : Int) - (k : Int) := IntWalk.i64_in _ (by omega)
    obtain ⟨rR, fR⟩ := oR.rules
    have zR := oR.lt
    obtain ⟨rA, fA⟩ := oA.rules
    have zA := oA.lt
    obtain ⟨rS, fS⟩ := oS.rules
    have zS := oS.lt
    go_wp2_with fail
    refine (rsub_any _ _ _ _ _ JA.out.1 JA.out.2 J3.out i_one).mono ?_
    rintro e y2 ⟨rfl, hq⟩
    clear rR fR zR rA fA zA rS fS zS
    replace oR := oR.below hq
    replace oA := oA.below hq
    replace oS := oS.below hq
    replace hB := below_to hB hq
    clear hq
    obtain ⟨rR, fR⟩ := oR.rules
    have zR := oR.lt
    obtain ⟨rA, fA⟩ := oA.rules
    have zA := oA.lt
    obtain ⟨rS, fS⟩ := oS.rules
    have zS := oS.lt
    rw [← HK.out, A1.out, A2.out]
    go_wp2_with fail
    refine (rdiv_any _ _ _ _ _ JT.out.1 JT.out.2 J1.out i_one).mono ?_
    rintro e y3 ⟨rfl, hq⟩
    rw [← HC.out]
    replace hq := below_to (ba1 y2 (.cells #[.int .i64 pt.n, .int .i64 pt.d] 24)) hq
    clear rR fR zR rA fA zA rS fS zS
    replace oR := oR.below hq
    replace oA := oA.below hq
    replace oS := oS.below hq
    replace hB := below_to hB hq
    clear hq
    obtain ⟨rR, fR⟩ := oR.rules
    have zR := oR.lt
    obtain ⟨rA, fA⟩ := oA.rules
    have zA := oA.lt
    obtain ⟨rS, fS⟩ := oS.rules
    have zS := oS.lt
    go_wp2_with fail
    refine (rmul_any vn vd pc.n pc.d _ J2.out.1 J2.out.2 JC.out.1 JC.out.2).mono ?_
    rintro e y4 ⟨rfl, hq⟩
    rw [← HM.out]
    replace hq := below_to (ba1 y3 (.cells #[.int .i64 pc.n, .int .i64 pc.d] 24)) hq
    clear rR fR zR rA fA zA rS fS zS
    replace oR := oR.below hq
    replace oA := oA.below hq
    replace oS := oS.below hq
    replace hB := below_to hB hq
    clear hq
    obtain ⟨rS, fS⟩ := oS.rules
    have zS := oS.lt
    go_wp2
    go_roundw
    replace oR := ((oR).other (g' := GA + 1) (by first | omega | (simp; done) | (simp; omega)) 0 (.int .i64 pm.n)).other (g' := GA + 1) (by first | omega | (simp; done) | (simp; omega)) 1 (.int .i64 pm.d)
    replace oA := ((oA).other (g' := GA + 1) (by first | omega | (simp; done) | (simp; omega)) 0 (.int .i64 pm.n)).other (g' := GA + 1) (by first | omega | (simp; done) | (simp; omega)) 1 (.int .i64 pm.d)
    replace oS := ((oS).set 0 (.int .i64 pm.n)).set 1 (.int .i64 pm.d)
    replace hB := ((hB).setCell (p := ⟨GA + 1, 0, none⟩) (by first | omega | (simp; done) | (simp; omega)) (.int .i64 pm.n)).setCell (p := ⟨GA + 1, 1, none⟩) (by first | omega | (simp; done) | (simp; omega)) (.int .i64 pm.d)
    case rel => exact ⟨k + 1, by omega, by go_num, oR, oA, by rw [HV1.out, HV2.out]; exact oS, hB⟩
    case measure => simp [intOf]; try omega
end Go.Proofs.Ytpjhiojdnebgoaa

/- What is proved here: the contracts of fringeref15.Taps and Whole. Condition: 64-bit numbers, a slice that can be read with at most 300 numbers. -/
namespace Go.Proofs.Ytpjhiojdnebgoaa
open Go.RowKit

set_option maxRecDepth 100000 in
set_option maxHeartbeats 8000000 in
theorem ritaps_any (n fn fd : Int) (w : World) (j1 : i64 n) (j2 : i64 fn) (j3 : i64 fd) :
    Calls Try.prog 21 #[.int .i64 n, .agg #[.int .i64 fn, .int .i64 fd]] w (rows_post w (ftaps n fn fd)) := by
  have J2 := Lib.hid j2
  have J3 := Lib.hid j3
  clear j2 j3
  by_cases hm : n < 0 ∨ 4 < n
  · have HV : Hid (ftaps n fn fd = ([], 2)) := if_pos hm
    by_cases hm1 : n < 0
    · clear hm
      go_enter Try.func21, Try.ntmps21
      go_wp2
      go_ret2
      exact ⟨.slice none 0 0, by rw [HV.out]; try rfl, by rw [HV.out]; exact sf_nil _, ba1 w _⟩
    · have hm2 : 4 < n := by omega
      have q1 : decide (n < 0) = false := by simpa using hm1
      clear hm
      go_enter Try.func21, Try.ntmps21
      go_wp2
      go_ret2
      exact ⟨.slice none 0 0, by rw [HV.out]; try rfl, by rw [HV.out]; exact sf_nil _, ba1 w _⟩
  have HV : Hid (ftaps n fn fd = if partB fn fd = false then ([], 8) else (tapsN n.toNat fn fd (n.toNat + 1), 0)) := if_neg hm
  obtain ⟨N, rfl⟩ := Int.eq_ofNat_of_zero_le (show 0 ≤ n by omega)
  have hN : N ≤ 4 := by omega
  have q1 : decide ((N : Int) < 0) = false := by simp
  have q2 : decide (4 < (N : Int)) = false := by simp; omega
  clear hm j1
  rw [Int.toNat_natCast] at HV
  go_enter Try.func21, Try.ntmps21
  have oF := Own.new w 24 [.int .i64 fn, .int .i64 fd]
  have hB := ba1 w (.cells #[.int .i64 fn, .int .i64 fd] 24)
  obtain ⟨rF, fF⟩ := oF.rules
  have zF := oF.lt
  go_wp2_with fail
  refine (ripart_any fn fd _ J2.out J3.out).mono ?_
  rintro e y1 ⟨rfl, hq⟩
  clear rF fF zF
  replace oF := oF.below hq
  replace hB := below_to hB hq
  clear hq
  obtain ⟨rF, fF⟩ := oF.rules
  have zF := oF.lt
  by_cases hp : partB fn fd = true
  case neg =>
    have hp' : partB fn fd = false := by simpa using hp
    have HV2 : Hid (ftaps N fn fd = ([], 8)) := HV.out.trans (if_pos hp')
    rw [hp']
    clear hp hp' HV
    go_wp2
    go_ret2
    exact ⟨.slice none 0 0, by rw [HV2.out]; try rfl, by rw [HV2.out]; exact sf_nil _, hB⟩
  have HP := Lib.hid hp
  have HV2 : Hid (ftaps N fn fd = (tapsN N fn fd (N + 1), 0)) := HV.out.trans (if_neg (by rw [hp]; decide))
  rw [hp]
  clear hp HV
  go_wp2
  clear rF fF zF
  go_loopw [6, 7] (fun ov i wr => ∃ m : Nat, m ≤ N + 1 ∧ i = .int .i64 m ∧ wr.ownsRow y1.heap.size 24 2 ov m (fcs (tapsN N fn fd m)) ∧ Below y1.heap.size y1 wr) (fun _ i _ => N + 1 - (intOf i).toNat)
  case atStart => exact ⟨0, Nat.zero_le _, rfl, World.ownsRow_nil _ _ _ _, Below.refl _ _⟩
  case round =>
    obtain ⟨m, hm, rfl, ow, hW⟩ := hrel
    rename World => W
    replace oF := oF.below hW
    by_cases hlt : m ≤ N
    · have HE1 := Lib.hid (congrArg fcs (tapsN_succ N fn fd m))
      obtain ⟨rF, fF⟩ := oF.rules
      have zF := oF.lt
      go_wp2_with fail
      refine (ritap_any N m fn fd _ HP.out hN hlt).mono ?_
      rintro e y2 ⟨rfl, hq⟩
      clear rF fF zF
      replace ow := owns_at ow hq
      replace hW := below_to hW hq
      clear hq oF
      generalize (tapV N m fn fd (N + 1)) = v at *
      have zr := hW.size
      go_wp2_with (at_builtin; refine wpList_app _ rfl _ _ _ rfl y1.heap.size 24 2 16 (.agg #[.int .i64 0, .int .i64 0]) Try.underlying26 Try.infoFrac rfl (by omega) (by omega) _ m _ rfl (ow.alloc _) (by omega) (by simp; omega) y2.heap.size [.int .i64 v.1, .int .i64 v.2] (0, 0) rfl (heap_alloc_new y2 _) rfl (by simp [Value.oneCell']) ?_; intro g cap2 w9 hown hg hbw)
      go_roundw
      case rel =>
        refine ⟨m + 1, by omega, by go_num, ?_, ?_⟩
        · rw [HE1.out, fcs_append]; exact hown
        · exact (below_to hW (ba1 _ _)).trans (hbw.mono (Nat.le_refl _))
      case measure => simp [intOf]; try omega
    · obtain rfl : m = N + 1 := by omega
      have zk : ¬ ((N + 1 : Nat) : Int) ≤ (N : Int) := by omega
      have hsl := owns_sl ow (by omega)
      clear ow
      go_wp2
      go_ret2
      refine ⟨u6, by rw [HV2.out]; try rfl, ?_, below_to hB hW⟩
      rw [HV2.out]
      unfold SF
      rw [tapsN_len]
      exact hsl
set_option maxRecDepth 100000 in
set_option maxHeartbeats 8000000 in
theorem riwhole_any (l : List Int) (v : Value) (w : World) (hs : SI w v l) (hl : l.length ≤ 300) :
    Calls Try.prog 50 #[v] w fun e w' => ∃ u, e = .returned u ∧ SF w' u (wholes l) ∧ Below w.heap.size w w' := by
  have S0 := Lib.hid hs
  obtain ⟨ad, cap, rfl, h1, h2, _⟩ := hs.open
  clear hs
  go_enter Try.func50, Try.ntmps50
  go_wp2
  go_loopw [3, 4] (fun ov i wr => ∃ m : Nat, m ≤ l.length ∧ i = .int .i64 m ∧ wr.ownsRow w.heap.size 24 2 ov m (fcs (wholes (l.take m))) ∧ Below w.heap.size w wr) (fun _ i _ => l.length - (intOf i).toNat)
  case atStart => exact ⟨0, Nat.zero_le _, rfl, World.ownsRow_nil _ _ _ _, Below.refl _ _⟩
  case round =>
    obtain ⟨m, hm, rfl, ow, hW⟩ := hrel
    rename World => W
    by_cases hlt : m < l.length
    · obtain ⟨_, _, e, _, _, H⟩ := (S0.out.below hW).open
      cases e
      obtain ⟨b', off', rfl, c1⟩ := H.out m hlt
      clear H
      have HE1 := Lib.hid (congrArg fcs (wholes_take hlt))
      generalize l[m] = x at *
      have zr := hW.size
      go_wp2_with (at_builtin; refine wpList_app _ rfl _ _ _ rfl w.heap.size 24 2 16 (.agg #[.int .i64 0, .int .i64 0]) Try.underlying26 Try.infoFrac rfl (by omega) (by omega) _ m _ rfl (ow.alloc _) (by omega) (by simp; omega) W.heap.size [.int .i64 x, .int .i64 1] (0, 0) rfl (heap_alloc_new W _) rfl (by simp [Value.oneCell']) ?_; intro g cap2 w9 hown hg hbw)
      go_roundw
      case rel =>
        refine ⟨m + 1, by omega, by go_num, ?_, ?_⟩
        · rw [HE1.out, fcs_append]; exact hown
        · exact (below_to hW (ba1 _ _)).trans (hbw.mono (Nat.le_refl _))
      case measure => simp [intOf]; try omega
    · obtain rfl : m = l.length := by omega
      have hsl := owns_sl ow (by omega)
      clear ow
      go_wp2
      go_ret
      refine ⟨u3, rfl, ?_, hW⟩
      unfold SF
      rw [List.take_length] at hsl
      rw [wholes_len]
      exact hsl
end Go.Proofs.Ytpjhiojdnebgoaa
