/- What is proved here: contracts of functions and plain facts, several texts in one; each one says ahead what it proves, and its conditions. -/
import Derived.Test.YthlcmlngmcoknaaC31
import Derived.Test.YthlcmlngmcoknaaC27
import Derived.Test.YthlcmlngmcoknaaC16
import Derived.Test.YthlcmlngmcoknaaC01
/- What is proved here: the contract of the reference's Holds of layer 29. Condition: a system and a slice of fractions that can be read. -/
namespace Go.Proofs.Ythlcmlngmcoknaa
open Go.RowKit

theorem oturnA_cf {A : List (List Int)} {B : List Int} (h : Sys A B (A.getD 0 []).length) : ∀ i (hi : i < (oturnA A B).length), (oturnA A B)[i].length = A.length ∧ ∀ j (hj : j < (oturnA A B)[i].length), -1000 ≤ (oturnA A B)[i][j] ∧ (oturnA A B)[i][j] ≤ 1000 := fun i hi => by
  have hi' := hi
  rw [oturnA_len] at hi'
  rcases Nat.lt_or_ge i (A.getD 0 []).length with h1 | h1
  · have e : (oturnA A B)[i] = ocol A i := by rw [← getD_get (d := []) hi]; exact oturnA_lo h1
    rw [e]
    refine ⟨ocol_len A i, fun j hj => ?_⟩
    have hj' : j < A.length := by rw [ocol_len] at hj; exact hj
    have hw := h.wide j hj'
    have hk : i < A[j].length := by omega
    rw [ocol_get hj hj' hk]
    have := h.coef j hj' i hk; omega
  · have hii : i = (A.getD 0 []).length := by omega
    subst hii
    have e : (oturnA A B)[(A.getD 0 []).length] = B := by rw [← getD_get (d := []) hi]; exact oturnA_hi
    rw [e]
    exact ⟨h.right, fun j hj => by have := h.side j hj; omega⟩
set_option maxRecDepth 100000 in
set_option maxHeartbeats 8000000 in
theorem roholds_any (A : List (List Int)) (B : List Int) (x : List (Int × Int)) (va vb vx : Value) (w : World) (hA : SS w va A) (hB : SI w vb B) (hx : SF w vx x) (ix : FI x) :
    Calls Try.prog 27 #[.agg #[va, vb], vx] w fun e w' => e = .returned (.tuple #[.bool (oholds A B x).1, .int .i64 (oholds A B x).2]) ∧ Below w.heap.size w w' := by
  have IX := Lib.hid ix
  clear ix
  go_enter Try.func27, Try.ntmps27
  have oS := Own.new w 25 [va, vb]
  have hy := ba1 w (.cells #[va, vb] 25)
  replace hA := hA.below hy
  replace hB := hB.below hy
  replace hx := hx.below hy
  obtain ⟨rS, fS⟩ := oS.rules
  have zS := oS.lt
  go_wp2_with fail
  refine (rocheck_any A B _ _ _ hA hB).mono ?_
  rintro e y1 ⟨rfl, hq⟩
  clear rS fS zS
  replace oS := oS.below hq
  replace hA := hA.below hq
  replace hB := hB.below hq
  replace hx := hx.below hq
  replace hy := below_to hy hq
  clear hq
  obtain ⟨rS, fS⟩ := oS.rules
  have zS := oS.lt
  by_cases h0 : ocheck A B = 0
  case neg =>
    have HV := Lib.hid (oholds_c (x := x) h0)
    have b1 : (ocheck A B != 0) = true := by simpa using h0
    clear h0 hx
    go_wp2_with fail
    refine (rocheck_any A B _ _ _ hA hB).mono ?_
    rintro e y1b ⟨rfl, hq⟩
    replace hy := below_to hy hq
    clear hq hA hB rS fS zS oS
    go_wp2
    go_ret2
    exact ⟨by rw [HV.out]; try rfl, hy⟩
  have SY := Lib.hid (sys_of h0)
  have E0 := Lib.hid (fun h => oholds_f (x := x) h0 h)
  have E1 := Lib.hid (fun h => oholds_0 (x := x) h0 h)
  have H0 := Lib.hid h0
  rw [h0]
  clear h0
  obtain ⟨ada, capa, e, ha1, ha2, H⟩ := hA.open
  subst e
  clear H
  go_wp2_with fail
  refine (rofrac_any x A.length _ _ hx IX.out).mono ?_
  rintro e y2 ⟨rfl, hq⟩
  clear rS fS zS
  replace oS := oS.below hq
  replace hA := hA.below hq
  replace hB := hB.below hq
  replace hx := hx.below hq
  replace hy := below_to hy hq
  clear hq
  obtain ⟨rS, fS⟩ := oS.rules
  have zS := oS.lt
  cases hf : frB x A.length with
  | false =>
    have HV := Lib.hid (E0.out hf)
    clear hf E0 E1
    go_wp2
    go_ret2
    exact ⟨by rw [HV.out]; try rfl, hy⟩
  | true =>
  have HV := Lib.hid (E1.out hf)
  have HVA := Lib.hid (oholds_acc (A := A) (B := B) (y := x))
  obtain ⟨f1, f2⟩ := frB_of hf
  have F1 := Lib.hid f1
  have F2 := Lib.hid f2
  have CF := Lib.hid (oturnA_cf SY.out)
  have TL := Lib.hid (oturnA_len A B)
  have TB := Lib.hid (oturnB_len A)
  have BB : Hid (∀ j (h : j < (oturnB A).length), i64 (oturnB A)[j]) := fun j h => by
    have : ∀ z ∈ oturnB A, i64 z := fun z hz => by
      unfold oturnB at hz
      rcases List.mem_append.1 hz with h1 | h1
      · rw [List.eq_of_mem_replicate h1]; exact i64_0
      · rw [List.mem_singleton.1 h1]; exact o_one
    exact this _ (List.getElem_mem h)
  clear hf E0 E1 f1 f2
  obtain ⟨adx, capx, rfl, _, _, _⟩ := hx.open
  have SX := Lib.hid hx
  go_wp2_with fail
  refine (roturn_any A B _ _ _ hA hB H0.out).mono ?_
  rintro e y3 ⟨u1, u2, rfl, s1, s2, hq⟩
  clear rS fS zS oS hA hB hx
  replace hy := below_to hy hq
  replace SX := Lib.hid (SX.out.below hq)
  clear hq
  have LE : (oturnB A).length = (oturnA A B).length := by rw [TL.out, TB.out]
  have LE2 := Lib.hid LE
  clear LE
  generalize oturnA A B = C at *
  generalize oturnB A = D at *
  obtain ⟨adc, capc, rfl, hc1, hc2, _⟩ := s1.open
  obtain ⟨add, capd, rfl, hd1, hd2, _⟩ := s2.open
  have SC := Lib.hid s1
  have SD := Lib.hid s2
  clear s1 s2
  go_wp2
  go_loopw [8] (fun i wr => ∃ k : Nat, k ≤ C.length ∧ i = .int .i64 k ∧ Hid (oacc C D x k = true) ∧ Below y3.heap.size y3 wr) (fun i _ => C.length + 1 - (intOf i).toNat)
  case atStart => exact ⟨0, Nat.zero_le _, rfl, rfl, Below.refl _ _⟩
  case round =>
    obtain ⟨k, hk, rfl, hv, hC⟩ := hrel
    rename World => W
    by_cases hlt : k < C.length
    · obtain ⟨_, _, e, _, _, H⟩ := (SC.out.below hC).open
      cases e
      obtain ⟨b', off', ad', cap', e, c1, c2, c3, s1⟩ := H.out k hlt
      cases e
      have hkB : k < D.length := by rw [LE2.out]; exact hlt
      obtain ⟨_, _, e, _, _, HB⟩ := (SD.out.below hC).open
      cases e
      obtain ⟨b2, off2, rfl, c4⟩ := HB.out k hkB
      clear H HB
      have WK := Lib.hid (CF.out k hlt).1
      have HS := Lib.hid (fun h => oacc_succ (x := x) hlt hkB hv.out h)
      have HN2 := Lib.hid (fun h => oacc_not (x := x) (n := C.length) hlt hlt hkB h)
      have CK := Lib.hid (CF.out k hlt).2
      have S1 := Lib.hid s1
      clear s1
      generalize C[k] = row at *
      generalize D[k] = bk at *
      have zb := World.block_lt_of_cell? _ _ c1
      have zb2 := World.block_lt_of_cell? _ _ c4
      simp only at zb zb2
      have gl := @grow_lt
      go_wp2
      go_wp2_with fail
      refine wp_region_st [.t [0, 1, 2, 3, 4, 5, 6, 7, 8], .f 9, .f 10] [11] (by kernel_rfl) (by kernel_rfl) (fun _ _ _ _ _ h => h) ?_
      refine wpX_t ?_
      try simp only [opsAt, List.getElem?_toArray, List.getElem?_cons_zero, List.getElem?_cons_succ, Option.getD_some]
      repeat (go_big_quiet_step (fail))
      refine wpQuiet_nil ?_
      refine wpX_f rfl rfl (fun K' hK' => ?_)
      go_simp
      refine (rof_any bk _).mono ?_
      rintro e z1 ⟨rfl, hq1⟩
      refine hK' _ _ (grow_of (below_to ((Below.refl _ _).drew) hq1)) ?_
      clear hK' K'
      refine wpX_f rfl rfl (fun K' hK' => ?_)
      go_simp
      refine (rogives_any row x bk _ _ _ (S1.out.below (below_to ((Below.refl W.heap.size W).drew) hq1)) ((SX.out.below hC).below (below_to ((Below.refl W.heap.size W).drew) hq1)) (by rw [WK.out, F1.out]; exact Nat.le_refl _) CK.out F2.out).mono ?_
      rintro e z2 ⟨rfl, hq2⟩
      refine hK' _ _ (grow_of (below_to (below_to ((Below.refl _ _).drew) hq1) hq2)) ?_
      clear hK' K'
      refine wpX_nil ?_
      try simp only [opsAt, List.getElem?_toArray, List.getElem?_cons_zero, List.getElem?_cons_succ, Option.getD_some]
      have hq := below_to (below_to ((Below.refl W.heap.size W).drew) hq1) hq2
      clear gl c1 c4 zb zb2
      replace hC := below_to hC hq
      clear hq hq1 hq2
      cases hs : osums row x bk with
      | false =>
        have HZ := Lib.hid (HN2.out hs)
        clear HS HN2 hs
        go_wp2
        go_ret2
        exact ⟨by rw [HV.out, ← HVA.out, HZ.out]; try rfl, below_to hy hC⟩
      | true =>
        have HZ := Lib.hid (HS.out hs)
        clear HS HN2 hs
        go_wp2
        go_roundw
        case rel => exact ⟨k + 1, by omega, by go_num, HZ, hC⟩
        case measure => simp [intOf]; try omega
    · obtain rfl : k = C.length := by omega
      go_wp2
      go_ret2
      exact ⟨by rw [HV.out, ← HVA.out, hv.out]; try rfl, below_to hy hC⟩
end Go.Proofs.Ythlcmlngmcoknaa
