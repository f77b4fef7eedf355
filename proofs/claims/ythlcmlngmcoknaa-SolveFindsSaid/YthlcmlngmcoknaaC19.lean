/- What is proved here: contracts of functions and plain facts, several texts in one; each one says ahead what it proves, and its conditions. -/
import Derived.Test.YthlcmlngmcoknaaC16
import Derived.Test.YthlcmlngmcoknaaC09
import Derived.Test.YthlcmlngmcoknaaC18
import Derived.Deep.DeepCutAuto
import Derived.Test.YthlcmlngmcoknaaC02
import Derived.Test.YthlcmlngmcoknaaC03
/- What is proved here: the contract of solve.Accept. Condition: a system and a slice of fractions that can be read. -/
namespace Go.Proofs.Ythlcmlngmcoknaa
open Go.RowKit

theorem o_side {b : Int} (h : -99 ≤ b ∧ b ≤ 99) : i64 b := ⟨by omega, by omega⟩
set_option maxRecDepth 100000 in
set_option maxHeartbeats 8000000 in
theorem oaccept_any (A : List (List Int)) (B : List Int) (x : List (Int × Int)) (va vb vx : Value) (w : World) (hA : SS w va A) (hB : SI w vb B) (hx : SF w vx x) (ix : FI x) :
    Calls Try.prog 24 #[.agg #[va, vb], vx] w fun e w' => e = .returned (.tuple #[.bool (oaccept A B x).1, .int .i64 (oaccept A B x).2]) ∧ Below w.heap.size w w' := by
  have IX := Lib.hid ix
  clear ix
  go_enter Try.func24, Try.ntmps24
  have oS := Own.new w 25 [va, vb]
  have hy := ba1 w (.cells #[va, vb] 25)
  replace hA := hA.below hy
  replace hB := hB.below hy
  replace hx := hx.below hy
  obtain ⟨rS, fS⟩ := oS.rules
  have zS := oS.lt
  go_wp2_with fail
  refine (ocheck_any A B _ _ _ hA hB).mono ?_
  rintro e y1 ⟨rfl, hq⟩
  clear rS fS zS
  replace oS := oS.below hq
  replace hA := hA.below hq
  replace hB := hB.below hq
  replace hx := hx.below hq
  replace hy := below_to hy hq
  clear hq
  obtain ⟨rS, fS⟩ := oS.rules
  have zS := oS.lt
  by_cases h0 : ocheck A B = 0
  case neg =>
    have HV := Lib.hid (oaccept_c (x := x) h0)
    have b1 : (ocheck A B != 0) = true := by simpa using h0
    clear h0 hA hB hx
    go_wp2
    go_ret2
    exact ⟨by rw [HV.out]; try rfl, hy⟩
  have SY := Lib.hid (sys_of h0)
  have E0 := Lib.hid (fun h => oaccept_f (x := x) h0 h)
  have E1 := Lib.hid (fun h => oaccept_0 (x := x) h0 h)
  rw [h0]
  clear h0
  have r1 := SY.out.rows.1
  have r6 := SY.out.rows.2
  have n1 := SY.out.cols.1
  have n6 := SY.out.cols.2
  have W0 := Lib.hid (SY.out.wide 0 r1)
  have BL := Lib.hid SY.out.right
  obtain ⟨ada, capa, e, ha1, ha2, H⟩ := hA.open
  subst e
  obtain ⟨b, off, ad0, cap0, rfl, d1, d2, d3, _⟩ := H.out 0 r1
  rw [W0.out] at d1 d2 d3
  rw [Nat.add_zero] at d1
  clear H
  have rows1 : (0 : Int) < A.length := by omega
  generalize hn : (A.getD 0 []).length = n at *
  have HN := Lib.hid hn
  clear hn
  go_wp2_with fail
  refine (ofrac_any x n _ _ hx IX.out).mono ?_
  rintro e y2 ⟨rfl, hq⟩
  clear d1
  clear rS fS zS
  replace oS := oS.below hq
  replace hA := hA.below hq
  replace hB := hB.below hq
  replace hx := hx.below hq
  replace hy := below_to hy hq
  clear hq
  obtain ⟨rS, fS⟩ := oS.rules
  have zS := oS.lt
  cases hf : frB x n with
  | false =>
    have HV := Lib.hid (E0.out hf)
    clear hf E0 E1
    go_wp2
    go_ret2
    exact ⟨by rw [HV.out]; try rfl, hy⟩
  | true =>
  have HV := Lib.hid (E1.out hf)
  obtain ⟨f1, f2⟩ := frB_of hf
  have F1 := Lib.hid f1
  have F2 := Lib.hid f2
  clear hf E0 E1 f1 f2
  obtain ⟨adx, capx, rfl, _, _, _⟩ := hx.open
  obtain ⟨adb, capb, rfl, _, _, _⟩ := hB.open
  have SA := Lib.hid hA
  have SB2 := Lib.hid hB
  have SX := Lib.hid hx
  have OS := Lib.hid oS
  clear hA hB hx
  go_wp2
  clear rS fS zS oS
  go_loopw [25] (fun i wr => ∃ k : Nat, k ≤ A.length ∧ i = .int .i64 k ∧ Hid (oacc A B x k = true) ∧ Below y2.heap.size y2 wr) (fun i _ => A.length + 1 - (intOf i).toNat)
  case atStart => exact ⟨0, Nat.zero_le _, rfl, rfl, Below.refl _ _⟩
  case round =>
    obtain ⟨k, hk, rfl, hv, hC⟩ := hrel
    rename World => W
    have oS := OS.out.below hC
    by_cases hlt : k < A.length
    · obtain ⟨_, _, e, _, _, H⟩ := (SA.out.below hC).open
      cases e
      obtain ⟨b', off', ad', cap', e, c1, c2, c3, s1⟩ := H.out k hlt
      cases e
      have hkB : k < B.length := by rw [BL.out]; exact hlt
      obtain ⟨_, _, e, _, _, HB⟩ := (SB2.out.below hC).open
      cases e
      obtain ⟨b2, off2, rfl, c4⟩ := HB.out k hkB
      clear H HB
      have WK : A[k].length = n := SY.out.wide k hlt
      have HS := Lib.hid (fun h => oacc_succ (x := x) hlt hkB hv.out h)
      have HN2 := Lib.hid (fun h => oacc_not (x := x) (n := A.length) hlt hlt hkB h)
      have CF : Hid (∀ i (h : i < A[k].length), -1000 ≤ A[k][i] ∧ A[k][i] ≤ 1000) := fun i h => by have := SY.out.coef k hlt i h; omega
      have WL := Lib.hid WK
      have S1 := Lib.hid s1
      clear s1 WK
      generalize A[k] = row at *
      generalize B[k] = bk at *
      obtain ⟨rS, fS⟩ := oS.rules
      have zS := oS.lt
      go_wp2_with fail
      refine (osums_any row x bk _ _ _ S1.out (SX.out.below hC) (by rw [WL.out, F1.out]; exact Nat.le_refl _) (by rw [WL.out]; exact n1) CF.out F2.out).mono ?_
      rintro e W2 ⟨rfl, hq⟩
      clear rS fS zS oS c1 c4
      replace hC := below_to hC hq
      clear hq
      cases hs : osums row x bk with
      | false =>
        have HZ := Lib.hid (HN2.out hs)
        clear HS HN2 hs
        go_wp2
        go_ret2
        exact ⟨by rw [HV.out, HZ.out]; try rfl, below_to hy hC⟩
      | true =>
        have HZ := Lib.hid (HS.out hs)
        clear HS HN2 hs
        go_wp2
        go_roundw
        case rel => exact ⟨k + 1, by omega, by go_num, HZ, hC⟩
        case measure => simp [intOf]; try omega
    · obtain rfl : k = A.length := by omega
      go_wp2
      go_ret2
      exact ⟨by rw [HV.out, hv.out]; try rfl, below_to hy hC⟩
end Go.Proofs.Ythlcmlngmcoknaa

/- What is proved here: the contract of solve.Holds. Condition: a system and a slice of fractions that can be read. -/
namespace Go.Proofs.Ythlcmlngmcoknaa
open Go.RowKit

theorem oint_info : (Try.prog.info? 3).map (fun i => (i.zero, i.size, i.bytes)) = some (some (.int .i64 0), 1, 8) := by kernel_rfl
theorem ics_app (xs ys : List Int) : ics (xs ++ ys) = ics xs ++ ics ys := by simp [ics]
theorem owns_SI {w : World} {B : Nat} {T : TypeId} {v : Value} {n : Nat} {xs : List Int} (h : w.ownsRow B T 1 v n (ics xs)) (hl : xs.length = n) (hn : n ≤ 9223372036854775807) : SI w v xs := by
  unfold SI; rw [hl]; exact owns_sl h hn
theorem ocol_get {A : List (List Int)} {k i : Nat} (h : i < (ocol A k).length) (h' : i < A.length) (hk : k < A[i].length) : (ocol A k)[i] = A[i][k] := by simp [ocol, List.getD, hk]
theorem ocol_take {A : List (List Int)} {k m : Nat} (hm : m < A.length) (hk : k < A[m].length) : (ocol A k).take (m + 1) = (ocol A k).take m ++ [A[m][k]] := by
  rw [List.take_succ_eq_append_getElem (by rw [ocol_len]; exact hm)]
  have : (ocol A k)[m]'(by rw [ocol_len]; exact hm) = A[m][k] := by unfold ocol; rw [List.getElem_map, getD_get hk]
  rw [this]
set_option maxRecDepth 100000 in
set_option maxHeartbeats 16000000 in
theorem oholds_any (A : List (List Int)) (B : List Int) (x : List (Int × Int)) (va vb vx : Value) (w : World) (hA : SS w va A) (hB : SI w vb B) (hx : SF w vx x) (ix : FI x) :
    Calls Try.prog 26 #[.agg #[va, vb], vx] w fun e w' => e = .returned (.tuple #[.bool (oholds A B x).1, .int .i64 (oholds A B x).2]) ∧ Below w.heap.size w w' := by
  have IX := Lib.hid ix
  clear ix
  go_enter Try.func26, Try.ntmps26
  have oS := Own.new w 25 [va, vb]
  have hy := ba1 w (.cells #[va, vb] 25)
  replace hA := hA.below hy
  replace hB := hB.below hy
  replace hx := hx.below hy
  obtain ⟨rS, fS⟩ := oS.rules
  have zS := oS.lt
  go_wp2_with fail
  refine (ocheck_any A B _ _ _ hA hB).mono ?_
  rintro e y1 ⟨rfl, hq⟩
  clear rS fS zS
  replace oS := oS.below hq
  replace hA := hA.below hq
  replace hB := hB.below hq
  replace hx := hx.below hq
  replace hy := below_to hy hq
  clear hq
  obtain ⟨rS, fS⟩ := oS.rules
  have zS := oS.lt
  by_cases h0 : ocheck A B = 0
  case neg =>
    have HV := Lib.hid (oholds_c (x := x) h0)
    have b1 : (ocheck A B != 0) = true := by simpa using h0
    clear h0 hA hB hx
    go_wp2
    go_ret2
    exact ⟨by rw [HV.out]; try rfl, hy⟩
  have SY := Lib.hid (sys_of h0)
  have E0 := Lib.hid (fun h => oholds_f (x := x) h0 h)
  have E1 := Lib.hid (fun h => oholds_0 (x := x) h0 h)
  rw [h0]
  clear h0
  have r1 := SY.out.rows.1
  have r6 := SY.out.rows.2
  have n1 := SY.out.cols.1
  have n6 := SY.out.cols.2
  have W0 := Lib.hid (SY.out.wide 0 r1)
  have BL := Lib.hid SY.out.right
  have SD : Hid (∀ i (h : i < B.length), -1000 ≤ B[i] ∧ B[i] ≤ 1000) := fun i h => by have := SY.out.side i h; omega
  obtain ⟨ada, capa, e, ha1, ha2, H⟩ := hA.open
  subst e
  have rows1 : (0 : Int) < A.length := by omega
  generalize hn : (A.getD 0 []).length = n at *
  have HN := Lib.hid hn
  clear hn H
  go_wp2_with fail
  refine (ofrac_any x A.length _ _ hx IX.out).mono ?_
  rintro e y2 ⟨rfl, hq⟩
  clear rS fS zS
  replace oS := oS.below hq
  replace hA := hA.below hq
  replace hB := hB.below hq
  replace hx := hx.below hq
  replace hy := below_to hy hq
  clear hq
  obtain ⟨rS, fS⟩ := oS.rules
  have zS := oS.lt
  cases hf : frB x A.length with
  | false =>
    have HV := Lib.hid (E0.out hf)
    clear hf E0 E1
    go_wp2
    go_ret2
    exact ⟨by rw [HV.out]; try rfl, hy⟩
  | true =>
  have HV := Lib.hid (E1.out hf)
  obtain ⟨f1, f2⟩ := frB_of hf
  have F1 := Lib.hid f1
  have F2 := Lib.hid f2
  clear hf E0 E1 f1 f2
  obtain ⟨adx, capx, rfl, _, _, _⟩ := hx.open
  obtain ⟨adb, capb, rfl, _, _, _⟩ := hB.open
  have SA := Lib.hid hA
  have SB2 := Lib.hid hB
  have SX := Lib.hid hx
  have OS := Lib.hid oS
  obtain ⟨_, _, e, _, _, H⟩ := hA.open
  cases e
  obtain ⟨b, off, ad0, cap0, rfl, d1, d2, d3, _⟩ := H.out 0 r1
  rw [W0.out] at d1 d2 d3
  rw [Nat.add_zero] at d1
  clear hA hB hx H
  go_wp2
  clear rS fS zS oS d1
  go_loopw [27] (fun i wr => ∃ k : Nat, k ≤ n ∧ i = .int .i64 k ∧ Hid (oh0 A x k = true) ∧ Below y2.heap.size y2 wr) (fun i _ => n + 1 - (intOf i).toNat)
  case atStart => exact ⟨0, Nat.zero_le _, rfl, rfl, Below.refl _ _⟩
  case round =>
    obtain ⟨k, hk, rfl, hv, hC⟩ := hrel
    rename World => W
    have oS := OS.out.below hC
    by_cases hlt : k < n
    · have HS := Lib.hid (fun h => oh0_succ (A := A) (y := x) hv.out h)
      have HN2 := Lib.hid (fun h => oh0_not (A := A) (y := x) hlt h)
      obtain ⟨rS, fS⟩ := oS.rules
      have zS := oS.lt
      go_wp2
      clear rS fS zS
      go_loopw [8, 33] (fun cv i wr => ∃ m : Nat, m ≤ A.length ∧ i = .int .i64 m ∧ wr.ownsRow W.heap.size 3 1 cv m (ics ((ocol A k).take m)) ∧ Below W.heap.size W wr) (fun _ i _ => A.length + 1 - (intOf i).toNat)
      case atStart => exact ⟨0, Nat.zero_le _, rfl, World.ownsRow_nil _ _ _ _, Below.refl _ _⟩
      case round =>
        obtain ⟨m, hm, rfl, og, hD⟩ := hrel
        rename World => Y
        by_cases hml : m < A.length
        · obtain ⟨_, _, e, _, _, H⟩ := (SA.out.below (below_to hC hD)).open
          cases e
          obtain ⟨b', off', ad', cap', e, c1, c2, c3, s1⟩ := H.out m hml
          cases e
          have WK : A[m].length = n := SY.out.wide m hml
          have hkm : k < A[m].length := by omega
          have OT := Lib.hid (ocol_take hml hkm)
          obtain ⟨_, _, e, _, _, HR⟩ := s1.open
          cases e
          obtain ⟨b3, off3, rfl, c4⟩ := HR.out k hkm
          clear H HR s1
          generalize A[m][k] = z at *
          rw [WK] at c1 c2 c3
          clear WK hkm
          have zD := hD.size
          have zb := World.block_lt_of_cell? _ _ c1
          have zb2 := World.block_lt_of_cell? _ _ c4
          simp only at zb zb2
          go_wp2_with (at_builtin; refine wpList_app _ rfl _ _ _ rfl W.heap.size 3 1 8 (.int .i64 0) Try.underlying23 oint_info rfl (by omega) (by omega) _ _ _ rfl (og.alloc _) (by omega) (by simp; omega) Y.heap.size [.int .i64 z] (0, 0) rfl (heap_alloc_new Y _) rfl (by simp [Value.oneCell']) ?_; intro g cap2 w2 hown hg hbw)
          go_roundw
          case rel =>
            refine ⟨m + 1, by omega, by go_num, ?_, ?_⟩
            · rw [OT.out, ics_app]; exact hown
            · exact (below_to hD (ba1 Y _)).trans (hbw.mono (Nat.le_refl _))
          case measure => simp [intOf]; try omega
        · obtain rfl : m = A.length := by omega
          have e0 : (ocol A k).take A.length = ocol A k := List.take_of_length_le (by rw [ocol_len]; exact Nat.le_refl _)
          rw [e0] at og
          have SC := Lib.hid (owns_SI og (ocol_len A k) (by omega))
          have CF : Hid (∀ i (h : i < (ocol A k).length), -1000 ≤ (ocol A k)[i] ∧ (ocol A k)[i] ≤ 1000) := fun i h => by
            have h' : i < A.length := by rw [ocol_len] at h; exact h
            have hw' := SY.out.wide i h'
            have hk' : k < A[i].length := by omega
            have e : (ocol A k)[i] = A[i][k] := ocol_get h h' hk'
            have := SY.out.coef i h' k hk'
            rw [e]; omega
          have CL := Lib.hid (ocol_len A k)
          have hE := below_to hC hD
          replace oS := oS.below hD
          clear og e0 hD hml hm
          generalize ocol A k = cl at *
          go_wp2_with fail
          refine (osums_any cl x 0 _ _ _ SC.out (SX.out.below hE) (by rw [CL.out, F1.out]; exact Nat.le_refl _) (by rw [CL.out]; exact r1) CF.out F2.out).mono ?_
          rintro e W2 ⟨rfl, hq⟩
          replace hE := below_to hE hq
          clear hq SC
          cases hs : osums cl x 0 with
          | false =>
            have HZ := Lib.hid (HN2.out hs)
            clear HS HN2 hs
            go_wp2
            go_ret2
            exact ⟨by rw [HV.out, HZ.out]; try rfl, below_to hy hE⟩
          | true =>
            have HZ := Lib.hid (HS.out hs)
            clear HS HN2 hs
            go_wp2
            go_roundw
            case rel => exact ⟨k + 1, by omega, by go_num, HZ, hE⟩
            case measure => simp [intOf]; try omega
    · obtain rfl : k = n := by omega
      obtain ⟨rS, fS⟩ := oS.rules
      have zS := oS.lt
      go_wp2_with fail
      refine (osums_any B x 1 _ _ _ (SB2.out.below hC) (SX.out.below hC) (by rw [BL.out, F1.out]; exact Nat.le_refl _) (by rw [BL.out]; exact r1) SD.out F2.out).mono ?_
      rintro e W2 ⟨rfl, hq⟩
      replace hC := below_to hC hq
      clear hq rS fS zS oS
      go_wp2
      go_ret2
      exact ⟨by rw [HV.out, hv.out]; simp, below_to hy hC⟩
end Go.Proofs.Ythlcmlngmcoknaa
