/- What is proved here: the law SolveEither returns true. Condition: a system that can be read. -/
import Derived.Test.YthlcmlngmcoknaaC46
import Derived.Test.YthlcmlngmcoknaaC17
import Derived.Test.YthlcmlngmcoknaaC29
import Derived.Test.YthlcmlngmcoknaaC32
namespace Go.Proofs.Ythlcmlngmcoknaa
open Go.RowKit

theorem frB_fi {x : List (Int × Int)} {m : Nat} (h : frB x m = true) : FI x := fun p hp => by
  obtain ⟨i, hi, e⟩ := List.getElem_of_mem hp
  have := fr_i64 ((frB_of h).2 i hi)
  rw [← e]; exact this
theorem acc_fi {A : List (List Int)} {B : List Int} {x : List (Int × Int)} (h : oaccept A B x = (true, 0)) : FI x := by
  by_cases h0 : ocheck A B = 0
  · cases hf : frB x (A.getD 0 []).length with
    | true => exact frB_fi hf
    | false => rw [oaccept_f h0 hf] at h; cases h
  · rw [oaccept_c h0] at h; cases h
theorem hol_fi {A : List (List Int)} {B : List Int} {x : List (Int × Int)} (h : oholds A B x = (true, 0)) : FI x := by
  by_cases h0 : ocheck A B = 0
  · cases hf : frB x A.length with
    | true => exact frB_fi hf
    | false => rw [oholds_f h0 hf] at h; cases h
  · rw [oholds_c h0] at h; cases h
set_option maxRecDepth 100000 in
set_option maxHeartbeats 8000000 in
theorem solveEither_any (A : List (List Int)) (B : List Int) (va vb : Value) (w : World) (hA : SS w va A) (hB : SI w vb B) :
    Calls Try.prog 10 #[.agg #[va, vb]] w fun e w' => e = .returned (.bool true) ∧ Below w.heap.size w w' := by
  go_enter Try.func10, Try.ntmps10
  have oS := Own.new w 25 [va, vb]
  have hy := ba1 w (.cells #[va, vb] 25)
  replace hA := hA.below hy
  replace hB := hB.below hy
  obtain ⟨rS, fS⟩ := oS.rules
  have zS := oS.lt
  go_wp2_with fail
  refine (alive29_any _).mono ?_
  rintro e y1 ⟨rfl, hq⟩
  clear rS fS zS
  replace oS := oS.below hq
  replace hA := hA.below hq
  replace hB := hB.below hq
  replace hy := below_to hy hq
  clear hq
  obtain ⟨rS, fS⟩ := oS.rules
  have zS := oS.lt
  go_wp2_with fail
  refine (rocheck_any A B _ _ _ hA hB).mono ?_
  rintro e y2 ⟨rfl, hq⟩
  clear rS fS zS
  replace oS := oS.below hq
  replace hA := hA.below hq
  replace hB := hB.below hq
  replace hy := below_to hy hq
  clear hq
  obtain ⟨rS, fS⟩ := oS.rules
  have zS := oS.lt
  by_cases h0 : ocheck A B = 0
  case neg =>
    have b1 : (ocheck A B != 0) = true := by simpa using h0
    clear h0 hA hB
    go_wp2
    go_ret
    exact ⟨rfl, hy⟩
  have EI := Lib.hid (either_o A B)
  have AP := Lib.hid (fun h => accept_plain h0 h)
  have HP := Lib.hid (fun h => holds_plain h0 h)
  have S0 := Lib.hid (fun h => oSolve_0 h0 h)
  have S6 := Lib.hid (fun h => oSolve_6 h0 h)
  have R0 := Lib.hid (fun h => oRefute_0 h0 h)
  have R6 := Lib.hid (fun h => oRefute_6 h0 h)
  rw [h0]
  clear h0
  go_wp2_with fail
  refine (osolve_any A B va vb _ hA hB).mono ?_
  rintro e y3 ⟨x, bs, rfl, sx, sb, hq⟩
  clear sb
  clear rS fS zS
  replace oS := oS.below hq
  replace hA := hA.below hq
  replace hB := hB.below hq
  replace hy := below_to hy hq
  clear hq
  obtain ⟨rS, fS⟩ := oS.rules
  have zS := oS.lt
  go_wp2_with fail
  refine (orefute_any A B va vb _ hA hB).mono ?_
  rintro e y4 ⟨yv, rfl, sy, hq⟩
  replace sx := sx.below hq
  clear rS fS zS
  replace oS := oS.below hq
  replace hA := hA.below hq
  replace hB := hB.below hq
  replace hy := below_to hy hq
  clear hq
  obtain ⟨rS, fS⟩ := oS.rules
  have zS := oS.lt
  cases hs : solvB A.length (A.getD 0 []).length (ored A B) with
  | true =>
    have hr : solvB ((A.getD 0 []).length + 1) A.length (tred A B) = false := by rw [← Bool.not_eq_true]; exact EI.out.1 hs
    rw [S0.out hs] at sx ⊢
    rw [R6.out hr] at sy ⊢
    have AC := Lib.hid (AP.out hs)
    have XI := Lib.hid (acc_fi AC.out)
    clear hr hs EI AP HP S0 S6 R0 R6 sy
    simp only at sx
    generalize plist (A.getD 0 []).length (ored A B) = xs at *
    go_wp2_with fail
    refine (oaccept_any A B xs _ _ _ _ hA hB sx XI.out).mono ?_
    rintro e y5 ⟨rfl, hq⟩
    rw [AC.out]
    replace sx := sx.below hq
    clear rS fS zS
    replace oS := oS.below hq
    replace hA := hA.below hq
    replace hB := hB.below hq
    replace hy := below_to hy hq
    clear hq
    obtain ⟨rS, fS⟩ := oS.rules
    have zS := oS.lt
    go_wp2_with fail
    refine (roaccept_any A B xs _ _ _ _ hA hB sx XI.out).mono ?_
    rintro e y6 ⟨rfl, hq⟩
    rw [AC.out]
    replace hy := below_to hy hq
    clear hq rS fS zS oS hA hB sx
    go_wp2
    go_ret
    exact ⟨by first | rfl | simp, hy⟩
  | false =>
    have hr : solvB ((A.getD 0 []).length + 1) A.length (tred A B) = true := by
      cases h : solvB ((A.getD 0 []).length + 1) A.length (tred A B) with
      | true => rfl
      | false =>
        have := EI.out.2 (by rw [h]; decide)
        rw [hs] at this; cases this
    rw [S6.out hs] at sx ⊢
    rw [R0.out hr] at sy ⊢
    have AC := Lib.hid (HP.out hr)
    have XI := Lib.hid (hol_fi AC.out)
    clear hr hs EI AP HP S0 S6 R0 R6 sx
    simp only at sy
    generalize plist A.length (tred A B) = xs at *
    go_wp2_with fail
    refine (oholds_any A B xs _ _ _ _ hA hB sy XI.out).mono ?_
    rintro e y5 ⟨rfl, hq⟩
    rw [AC.out]
    replace sy := sy.below hq
    clear rS fS zS
    replace oS := oS.below hq
    replace hA := hA.below hq
    replace hB := hB.below hq
    replace hy := below_to hy hq
    clear hq
    obtain ⟨rS, fS⟩ := oS.rules
    have zS := oS.lt
    go_wp2_with fail
    refine (roholds_any A B xs _ _ _ _ hA hB sy XI.out).mono ?_
    rintro e y6 ⟨rfl, hq⟩
    rw [AC.out]
    replace hy := below_to hy hq
    clear hq rS fS zS oS hA hB sy
    go_wp2
    go_ret
    exact ⟨by first | rfl | simp, hy⟩
end Go.Proofs.Ythlcmlngmcoknaa
