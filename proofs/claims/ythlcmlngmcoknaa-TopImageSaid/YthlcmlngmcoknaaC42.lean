/- What is proved here: contracts of functions and plain facts, several texts in one; each one says ahead what it proves, and its conditions. -/
import Derived.Test.YthlcmlngmcoknaaC29
import Derived.Test.YthlcmlngmcoknaaC38
import Derived.Test.YthlcmlngmcoknaaC11
/- What is proved here: the contract of sparse.Bright. Condition: a slice of fractions that can be read. -/
namespace Go.Proofs.Ythlcmlngmcoknaa
open Go.RowKit

set_option maxRecDepth 100000 in
set_option maxHeartbeats 8000000 in
theorem sbright_any (x : List (Int × Int)) (v : Value) (w : World) (hv : SF w v x) (ix : FI x) :
    Calls Try.prog 144 #[v] w fun e w' => e = .returned (.tuple #[.agg #[.int .i64 (sBright x).n, .int .i64 (sBright x).d], .int .i64 (sBright x).e]) ∧ Below w.heap.size w w' := by
  have IX := Lib.hid ix
  obtain ⟨adx, capx, rfl, hx1, hx2, _⟩ := hv.open
  clear ix
  by_cases h3 : 3 < (x.length : Int)
  · have HV := Lib.hid (sBright_4 (x := x) (by omega))
    have b1 : decide (3 < (x.length : Int)) = true := by simpa using h3
    go_enter Try.func144, Try.ntmps144
    go_wp2
    have oR := Own.new w 78 [.int .i64 0, .int .i64 0]
    have hB := ba1 w (.cells #[.int .i64 0, .int .i64 0] 78)
    refine bp_gen' (fun W => Own W _ _ _ ∧ Below w.heap.size w W) ⟨oR, hB⟩ ?_
    rintro wz ⟨oz, bz⟩
    obtain ⟨rz, fz⟩ := oz.rules
    clear oz
    refine bodyPost_ret (v := .tuple #[.agg #[.int .i64 0, .int .i64 0], .int .i64 4]) (by simp [results, Try.results144, go_sem, rz]) rfl ⟨by rw [HV.out], ?_⟩
    exact bz
  have b1 : decide (3 < (x.length : Int)) = false := by simpa using h3
  have H3 : Hid (¬ 3 < x.length) := by show ¬ _; omega
  go_enter Try.func144, Try.ntmps144
  have oR := Own.new w 78 [.int .i64 0, .int .i64 0]
  have hB := ba1 w (.cells #[.int .i64 0, .int .i64 0] 78)
  have SX := Lib.hid (hv.below hB)
  clear hv
  go_wp2_with fail
  generalize w.alloc (.cells #[.int .i64 0, .int .i64 0] 78) = y1 at *
  have oR0 := Lib.hid oR
  have zR0 := oR.lt
  clear oR
  go_loopw [16] (fun i wr => ∃ k : Nat, k ≤ x.length ∧ i = .int .i64 k ∧ Hid (fvalid (x.take k) = true) ∧ Below y1.heap.size y1 wr) (fun i _ => x.length - (intOf i).toNat)
  case atStart => exact ⟨0, Nat.zero_le _, rfl, rfl, Below.refl _ _⟩
  case round =>
    obtain ⟨k, hk, rfl, hv, hW⟩ := hrel
    rename World => W
    by_cases hlt : k < x.length
    · obtain ⟨_, _, e, _, _, H⟩ := (SX.out.below hW).open
      cases e
      obtain ⟨b', off', rfl, c1, c2⟩ := H.out k hlt
      obtain ⟨i1, i2⟩ := IX.out.get k hlt
      clear H
      have XT := Lib.hid (fun h => fvalid_take hlt hv.out h)
      have XN := Lib.hid (fun h => sBright_8 H3.out (fvalid_not (k := k) hlt h))
      generalize x[k].1 = n1 at *
      generalize x[k].2 = d1 at *
      go_wp2_with fail
      refine (check_any n1 d1 _ i1 i2).mono ?_
      rintro e y2 ⟨rfl, hq⟩
      replace hW := below_to hW (below_to (ba1 W _) hq)
      clear hq
      by_cases h1 : fchk n1 d1 = 0
      · have b3 : (fchk n1 d1 != 0) = false := by simp [h1]
        have HV := Lib.hid (XT.out h1)
        clear h1 XT XN
        go_wp2
        go_roundw
        case rel => exact ⟨k + 1, by omega, by go_num, HV, hW⟩
        case measure => simp [intOf]; try omega
      · have b3 : (fchk n1 d1 != 0) = true := by simpa using h1
        have HV := Lib.hid (XN.out h1)
        have oR := oR0.out.below hW
        replace hB := below_to hB hW
        clear h1 XT XN hW
        obtain ⟨rR, fR⟩ := oR.rules
        have zR := oR.lt
        go_wp2
        replace oR := ((oR).set 0 (.int .i64 0)).set 1 (.int .i64 0)
        replace hB := ((hB).setCell (p := ⟨w.heap.size, 0, none⟩) (by first | omega | (simp; done) | (simp; omega)) (.int .i64 0)).setCell (p := ⟨w.heap.size, 1, none⟩) (by first | omega | (simp; done) | (simp; omega)) (.int .i64 0)
        refine bp_gen' (fun W => Own W _ _ _ ∧ Below w.heap.size w W) ⟨oR, hB⟩ ?_
        rintro wz ⟨oz, bz⟩
        obtain ⟨rz, fz⟩ := oz.rules
        clear oz
        refine bodyPost_ret (v := .tuple #[.agg #[.int .i64 0, .int .i64 0], .int .i64 8]) (by simp [results, Try.results144, go_sem, rz]) rfl ⟨by rw [HV.out], ?_⟩
        exact bz
    · have hv' : fvalid x = true := by
        have := hv.out
        rw [List.take_of_length_le (by omega)] at this
        exact this
      have HV := Lib.hid (sBright_0 H3.out hv')
      have FV : Hid (∀ i (h : i < x.length), fchk x[i].1 x[i].2 = 0) := fun i hi => fvalid_get hv' i hi
      clear hv hv'
      go_wp2_with fail
      refine (swhole_any 0 _).mono ?_
      rintro e y2 ⟨rfl, hq⟩
      replace hW := below_to hW hq
      clear hq
      go_wp2_with fail
      have oV := Own.new y2 78 [.int .i64 0, .int .i64 1]
      have hU := ba1 y2 (.cells #[.int .i64 0, .int .i64 1] 78)
      have oR1 := Lib.hid (oR0.out.below hW)
      have zR1 := oR1.out.lt
      have SX1 := Lib.hid (SX.out.below hW)
      replace hB := below_to hB hW
      obtain ⟨GV, hG⟩ : ∃ G, G = y2.heap.size := ⟨_, rfl⟩
      have zG : w.heap.size < GV := by rw [hG]; exact zR1
      have zG1 : y2.heap.size ≤ GV := by rw [hG]; exact Nat.le_refl _
      have zG2 : w.heap.size ≤ GV := by omega
      rw [← hG] at oV ⊢
      clear hG hW oR0 SX
      go_loopw [28] (fun i wr => ∃ k : Nat, k ≤ x.length ∧ i = .int .i64 k ∧ Hid ((hsum x k).e = 0) ∧ Own wr GV 78 [.int .i64 (hsum x k).n, .int .i64 (hsum x k).d] ∧ Below y2.heap.size y2 wr) (fun i _ => x.length - (intOf i).toNat)
      case atStart => exact ⟨0, Nat.zero_le _, rfl, rfl, oV, hU⟩
      case round =>
        clear oV hU
        obtain ⟨k, hk, rfl, he, oV, hU⟩ := hrel
        rename World => Y
        have oR := oR1.out.below hU
        by_cases hlt : k < x.length
        · obtain ⟨_, _, e, _, _, H⟩ := (SX1.out.below hU).open
          cases e
          obtain ⟨b, off, rfl, c1, c2⟩ := H.out k hlt
          clear H
          have J1 := Lib.hid (hsum_i64 x k)
          have J3 := Lib.hid (fr_i64 (FV.out k hlt))
          have F2 := Lib.hid (hsum_FOk FV.out (k + 1) hlt)
          have HP := Lib.hid (hsum_succ hlt he.out)
          have HE := Lib.hid (fun h => hsum_end (x := x) hlt h F2.out)
          generalize x[k].1 = rn at *
          generalize x[k].2 = rd at *
          generalize (hsum x k).n = sn at *
          generalize (hsum x k).d = sd at *
          generalize hpp : hsum x (k + 1) = p at *
          have HPP := Lib.hid hpp
          clear hpp
          obtain ⟨rR, fR⟩ := oR.rules
          have zR := oR.lt
          obtain ⟨rV, fV⟩ := oV.rules
          have zV := oV.lt
          go_wp2_with fail
          refine (fadd_any sn sd rn rd _ J1.out.1 J1.out.2 J3.out.1 J3.out.2).mono ?_
          rintro e y3 ⟨rfl, hq⟩
          replace hq := below_to (ba1 Y _) hq
          clear rR fR zR rV fV zV
          replace oR := oR.below hq
          replace oV := oV.below hq
          replace hU := below_to hU hq
          clear hq
          obtain ⟨rR, fR⟩ := oR.rules
          have zR := oR.lt
          obtain ⟨rV, fV⟩ := oV.rules
          have zV := oV.lt
          rw [← HP.out]
          by_cases h2 : p.e = 0
          · have b3 : (p.e != 0) = false := by simp [h2]
            have E2 := Lib.hid h2
            clear h2
            go_wp2
            go_roundw
            replace oV := ((oV).set 0 (.int .i64 p.n)).set 1 (.int .i64 p.d)
            replace hU := ((hU).setCell (p := ⟨GV, 0, none⟩) (by first | omega | (simp; done) | (simp; omega)) (.int .i64 p.n)).setCell (p := ⟨GV, 1, none⟩) (by first | omega | (simp; done) | (simp; omega)) (.int .i64 p.d)
            case rel => exact ⟨k + 1, by omega, by go_num, by rw [HPP.out]; exact E2, by rw [HPP.out]; exact oV, hU⟩
            case measure => simp [intOf]; try omega
          · have b3 : (p.e != 0) = true := by simpa using h2
            have HV2 := Lib.hid (HE.out h2)
            have E16 : Hid (p.e = 16) := congrArg FR.e (F2.out.e h2)
            replace hB := below_to hB hU
            clear h2 hU
            go_wp2
            replace oR := ((((oR).other (g' := GV) (by first | omega | (simp; done) | (simp; omega)) 0 (.int .i64 p.n)).other (g' := GV) (by first | omega | (simp; done) | (simp; omega)) 1 (.int .i64 p.d)).set 0 (.int .i64 0)).set 1 (.int .i64 0)
            replace hB := ((((hB).setCell (p := ⟨GV, 0, none⟩) (by first | omega | (simp; done) | (simp; omega)) (.int .i64 p.n)).setCell (p := ⟨GV, 1, none⟩) (by first | omega | (simp; done) | (simp; omega)) (.int .i64 p.d)).setCell (p := ⟨w.heap.size, 0, none⟩) (by first | omega | (simp; done) | (simp; omega)) (.int .i64 0)).setCell (p := ⟨w.heap.size, 1, none⟩) (by first | omega | (simp; done) | (simp; omega)) (.int .i64 0)
            refine bp_gen' (fun W => Own W _ _ _ ∧ Below w.heap.size w W) ⟨oR, hB⟩ ?_
            rintro wz ⟨oz, bz⟩
            obtain ⟨rz, fz⟩ := oz.rules
            clear oz
            refine bodyPost_ret (v := .tuple #[.agg #[.int .i64 0, .int .i64 0], .int .i64 p.e]) (by simp [results, Try.results144, go_sem, rz]) rfl ⟨by rw [HV.out, HV2.out, E16.out], ?_⟩
            exact bz
        · obtain rfl : k = x.length := by omega
          obtain ⟨p, hp⟩ : ∃ p, p = hsum x x.length := ⟨_, rfl⟩
          rw [← hp] at he oV
          have HP := Lib.hid hp
          replace hB := below_to hB hU
          clear hp hU
          obtain ⟨rR, fR⟩ := oR.rules
          have zR := oR.lt
          obtain ⟨rV, fV⟩ := oV.rules
          have zV := oV.lt
          go_wp2
          replace oR := ((oR).set 0 (.int .i64 p.n)).set 1 (.int .i64 p.d)
          replace hB := ((hB).setCell (p := ⟨w.heap.size, 0, none⟩) (by first | omega | (simp; done) | (simp; omega)) (.int .i64 p.n)).setCell (p := ⟨w.heap.size, 1, none⟩) (by first | omega | (simp; done) | (simp; omega)) (.int .i64 p.d)
          refine bp_gen' (fun W => Own W _ _ _ ∧ Below w.heap.size w W) ⟨oR, hB⟩ ?_
          rintro wz ⟨oz, bz⟩
          obtain ⟨rz, fz⟩ := oz.rules
          clear oz
          refine bodyPost_ret (v := .tuple #[.agg #[.int .i64 p.n, .int .i64 p.d], .int .i64 0]) (by simp [results, Try.results144, go_sem, rz]) rfl ⟨by rw [HV.out, ← HP.out, he.out], ?_⟩
          exact bz
end Go.Proofs.Ythlcmlngmcoknaa
