/- What is proved here: contracts of functions and plain facts, several texts in one; each one says ahead what it proves, and its conditions. -/
import Derived.Test.YthlcmlngmcoknaaC46
import Derived.Test.YthlcmlngmcoknaaC49
import Derived.Test.YthlcmlngmcoknaaC50
import Derived.Test.YthlcmlngmcoknaaC17
import Derived.Test.YthlcmlngmcoknaaC20
import Derived.Test.YthlcmlngmcoknaaC25
/- What is proved here: the contracts of the reference's Rank, Solve and Refute of layer 29. Condition: a system that can be read. -/
namespace Go.Proofs.Ythlcmlngmcoknaa
open Go.RowKit

theorem wfr_get {l : List Int} {j : Nat} (hj : j < l.length) : (wfr l)[j]? = some (up ((l.getD j 0 : Int) : Rat)) := by
  unfold wfr
  rw [List.getElem?_map, List.getElem?_eq_getElem hj, getD_get hj]; rfl
/-- The rows of a system are those of its matrix. -/
theorem wR_mrq {A : List (List Int)} {B : List Int} (h : Sys A B (A.getD 0 []).length) {i : Nat} (hi : i < A.length) : wR A B i = mrq (oA A B) ((A.getD 0 []).length + 1) i := by
  have hw := h.wide i hi
  have hl : (dR A B i).length = (A.getD 0 []).length + 1 := by unfold dR; rw [getD_get hi, List.length_append, hw]; rfl
  refine List.ext_getElem? fun j => ?_
  rcases Nat.lt_or_ge j ((A.getD 0 []).length + 1) with hj | hj
  · unfold wR
    rw [wfr_get (by omega), mrq_get hj]
    congr 2
    unfold oA
    congr 1
    unfold dR oM
    rw [getD_get hi]
    by_cases h2 : j < (A.getD 0 []).length
    · rw [if_pos h2, List.getD_eq_getElem?_getD, List.getElem?_append_left (by omega), ← List.getD_eq_getElem?_getD]
      unfold cel; rw [getD_get hi]
    · obtain rfl : j = (A.getD 0 []).length := by omega
      rw [if_neg h2, List.getD_eq_getElem?_getD, List.getElem?_append_right (by omega), hw]; simp
  · rw [List.getElem?_eq_none (by unfold wR; rw [wfr_len]; omega), List.getElem?_eq_none (by rw [mrq_len]; omega)]
set_option maxRecDepth 100000 in
theorem fld_run2 (x : Value) (a : Option Addr) (n c : Nat) (w : World) : (Instr.field 100 (.agg #[x, .slice a n c]) 1).run Try.prog w = .ok (.slice a n c) w := by
  first | rfl | kernel_rfl
theorem gd_app_lt {l r : List Int} {j : Nat} (h : j < l.length) : (l ++ r).getD j 0 = l.getD j 0 := by
  rw [List.getD_eq_getElem?_getD, List.getElem?_append_left h, ← List.getD_eq_getElem?_getD]
theorem gd_app_end {l : List Int} {z : Int} {j : Nat} (h : j = l.length) : (l ++ [z]).getD j 0 = z := by
  subst h
  rw [List.getD_eq_getElem?_getD, List.getElem?_append_right (Nat.le_refl _)]; simp
section
variable {A : List (List Int)} {B : List Int}
/-- The turned rows. -/
theorem tR_mrq (h : Sys A B (A.getD 0 []).length) {i : Nat} (hi : i < (A.getD 0 []).length + 1) : wR (oturnA A B) (oturnB A) i = mrq (trn A.length (A.getD 0 []).length (oA A B)) (A.length + 1) i := by
  have hb := h.right
  have la : (oturnA A B).length = (A.getD 0 []).length + 1 := by unfold oturnA; simp
  have lb : (oturnB A).length = (A.getD 0 []).length + 1 := by unfold oturnB; simp
  have row : (oturnA A B).getD i [] = if i < (A.getD 0 []).length then ocol A i else B := by
    unfold oturnA
    by_cases h2 : i < (A.getD 0 []).length
    · rw [if_pos h2, List.getD_eq_getElem?_getD, List.getElem?_append_left (by simpa using h2), List.getElem?_map, List.getElem?_range h2]; rfl
    · obtain rfl : i = (A.getD 0 []).length := by omega
      rw [if_neg h2, List.getD_eq_getElem?_getD, List.getElem?_append_right (by simp)]; simp
  have side : (oturnB A).getD i 0 = if i < (A.getD 0 []).length then 0 else 1 := by
    unfold oturnB
    by_cases h2 : i < (A.getD 0 []).length
    · rw [if_pos h2, List.getD_eq_getElem?_getD, List.getElem?_append_left (by simpa using h2), List.getElem?_replicate, if_pos h2]; rfl
    · obtain rfl : i = (A.getD 0 []).length := by omega
      rw [if_neg h2, List.getD_eq_getElem?_getD, List.getElem?_append_right (by simp)]; simp
  have rl : ((oturnA A B).getD i []).length = A.length := by
    rw [row]; split
    · exact ocol_len A i
    · exact hb
  have hl : (dR (oturnA A B) (oturnB A) i).length = A.length + 1 := by unfold dR; rw [List.length_append, rl]; rfl
  refine List.ext_getElem? fun j => ?_
  rcases Nat.lt_or_ge j (A.length + 1) with hj | hj
  · unfold wR
    rw [wfr_get (by omega), mrq_get hj, tM_trn]
    congr 3
    unfold dR
    by_cases h2 : j < A.length
    · have tj : tM A B i j = oM A B j i := if_neg (by omega)
      rw [gd_app_lt (by rw [rl]; exact h2), row, tj]
      by_cases h3 : i < (A.getD 0 []).length
      · rw [if_pos h3]
        unfold ocol oM cel
        rw [if_pos h3, List.getD_eq_getElem?_getD, List.getElem?_map, List.getElem?_eq_getElem h2, getD_get h2]; rfl
      · obtain rfl : i = (A.getD 0 []).length := by omega
        rw [if_neg h3, ← (oM_hi h h2).1]
    · obtain rfl : j = A.length := by omega
      rw [gd_app_end rl.symm, side]
      have tj : tM A B i A.length = if i = (A.getD 0 []).length then 1 else 0 := if_pos rfl
      rw [tj]
      by_cases h3 : i < (A.getD 0 []).length
      · rw [if_pos h3, if_neg (by omega)]
      · rw [if_neg h3, if_pos (by omega)]
  · rw [List.getElem?_eq_none (by unfold wR; rw [wfr_len]; omega), List.getElem?_eq_none (by rw [mrq_len]; omega)]
end
set_option maxRecDepth 100000 in
set_option maxHeartbeats 16000000 in
theorem rrank_any (A : List (List Int)) (B : List Int) (va vb : Value) (w : World) (hA : SS w va A) (hB : SI w vb B) :
    Calls Try.prog 19 #[.agg #[va, vb]] w (orank_post w A B) := by
  go_enter Try.func19, Try.ntmps19
  have oS := Own.new w 25 [va, vb]
  have hy := ba1 w (.cells #[va, vb] 25)
  replace hA := hA.below hy
  replace hB := hB.below hy
  obtain ⟨rS, fS⟩ := oS.rules
  have zS := oS.lt
  go_wp2_with fail
  refine (rocheck_any A B _ _ _ hA hB).mono ?_
  rintro e y1 ⟨rfl, hq⟩
  clear rS fS zS
  replace oS := oS.below hq
  replace hA := hA.below hq
  replace hB := hB.below hq
  replace hy := below_to hy hq
  clear hq
  obtain ⟨rS, fS⟩ := oS.rules
  have zS := oS.lt
  by_cases h0 : ocheck A B = 0
  case neg =>
    have HV := Lib.hid (oRank_c h0)
    have b1 : (ocheck A B != 0) = true := by simpa using h0
    clear h0
    go_wp2_with fail
    refine (rocheck_any A B _ _ _ hA hB).mono ?_
    rintro e y2 ⟨rfl, hq⟩
    clear rS fS zS oS hA hB
    replace hy := below_to hy hq
    clear hq
    go_wp2
    go_ret2
    exact ⟨by rw [HV.out]; try rfl, hy⟩
  have SY := Lib.hid (sys_of h0)
  have H0 := Lib.hid h0
  have HV := Lib.hid (oRank_0 h0)
  rw [h0]
  clear h0
  have r1 := SY.out.rows.1
  have r6 := SY.out.rows.2
  have n1 := SY.out.cols.1
  have n6 := SY.out.cols.2
  have OR : Hid (red A.length (oA A B) (A.getD 0 []).length = ored A B) := rfl
  have WM := Lib.hid (fun (w' : World) (B' : Nat) (u : Value) (vs : List Value) (h : RowsQ w' B' 78 28 u A.length (wR A B) vs) => rows_matq (M := oA A B) (mw := (A.getD 0 []).length + 1) h r1 (by omega) (fun i hi => wR_mrq SY.out hi))
  have RD := Lib.hid (fun (w' : World) (B' g cap : Nat) rest bb cp ex hM hc => rreduce_any A.length (A.getD 0 []).length ((A.getD 0 []).length + 1) (oA A B) 7 11 w' B' g cap rest bb cp ex (tame_o SY.out) (whl_o A B _ _) hM rfl hc r1)
  have INR := Lib.hid (fun i j (hi : i < A.length) (hj : j ≤ (A.getD 0 []).length) => (o_inv A B).inrR (tame_o SY.out) (whl_o A B _ _) (Nat.le_refl _) hi hj)
  have RI := Lib.hid (o_inv A B)
  have WIDE := Lib.hid (fun (w' : World) hA hB => rwide_any A B va vb w' hA hB SY.out.right (by omega) (fun i hi => by rw [SY.out.wide i hi]; omega))
  generalize hn : (A.getD 0 []).length = n at *
  clear hn
  go_wp2_with fail
  refine (WIDE.out _ hA hB).mono ?_
  rintro e z1 ⟨u, vs, rfl, RB, hq⟩
  obtain ⟨g, cap, rest, bb, cp, ex, rfl, hc, hM⟩ := WM.out z1 _ u vs RB
  have hD := hq
  clear hq rS fS zS oS RB
  go_wp2_with fail
  refine (RD.out z1 _ g cap rest bb cp ex hM hc).mono ?_
  rintro e z2 ⟨ub, bb2, cp2, ex2, rest2, rfl, hM2, hU, hq⟩
  replace hD := hD.trans hq
  clear hq hM
  rw [OR.out] at hU hM2
  have RM : RdM z2 y1.heap.size z1.heap.size g cap A.length n (ored A B) ub rest2 bb2 cp2 ex2 := ⟨hM2, hU, hc, r1, by omega, n6⟩
  clear hM2
  obtain ⟨adu, capu, e, _, _, _⟩ := hU.open
  subst e
  have KB := bints_len (ored A B).bnd
  have FL := @fld_run2
  go_wp2
  go_ret2
  exact ⟨by rw [HV.out]; simp [KB], below_to hy hD⟩
set_option maxRecDepth 100000 in
set_option maxHeartbeats 16000000 in
theorem rsolve_any (A : List (List Int)) (B : List Int) (va vb : Value) (w : World) (hA : SS w va A) (hB : SI w vb B) :
    Calls Try.prog 20 #[.agg #[va, vb]] w (osolve_post w (oSolve A B)) := by
  go_enter Try.func20, Try.ntmps20
  have oS := Own.new w 25 [va, vb]
  have hy := ba1 w (.cells #[va, vb] 25)
  replace hA := hA.below hy
  replace hB := hB.below hy
  obtain ⟨rS, fS⟩ := oS.rules
  have zS := oS.lt
  go_wp2_with fail
  refine (rocheck_any A B _ _ _ hA hB).mono ?_
  rintro e y1 ⟨rfl, hq⟩
  clear rS fS zS
  replace oS := oS.below hq
  replace hA := hA.below hq
  replace hB := hB.below hq
  replace hy := below_to hy hq
  clear hq
  obtain ⟨rS, fS⟩ := oS.rules
  have zS := oS.lt
  by_cases h0 : ocheck A B = 0
  case neg =>
    have HV := Lib.hid (oSolve_c h0)
    have b1 : (ocheck A B != 0) = true := by simpa using h0
    clear h0
    go_wp2_with fail
    refine (rocheck_any A B _ _ _ hA hB).mono ?_
    rintro e y2 ⟨rfl, hq⟩
    clear rS fS zS oS hA hB
    replace hy := below_to hy hq
    clear hq
    go_wp2
    refine bodyPost_ret (v := .tuple #[.slice none 0 0, .slice none 0 0, .int .i64 (ocheck A B)]) (by simp [results, Try.results20, go_sem]) rfl ⟨_, _, by rw [HV.out], by rw [HV.out]; exact sf_nil _, by rw [HV.out]; exact sff_nil _, hy⟩
  have SY := Lib.hid (sys_of h0)
  have H0 := Lib.hid h0
  have HV6 := Lib.hid (fun h => oSolve_6 h0 h)
  have HV0 := Lib.hid (fun h => oSolve_0 h0 h)
  rw [h0]
  clear h0
  have r1 := SY.out.rows.1
  have r6 := SY.out.rows.2
  have n1 := SY.out.cols.1
  have n6 := SY.out.cols.2
  have OR : Hid (red A.length (oA A B) (A.getD 0 []).length = ored A B) := rfl
  have WM := Lib.hid (fun (w' : World) (B' : Nat) (u : Value) (vs : List Value) (h : RowsQ w' B' 78 28 u A.length (wR A B) vs) => rows_matq (M := oA A B) (mw := (A.getD 0 []).length + 1) h r1 (by omega) (fun i hi => wR_mrq SY.out hi))
  have RD := Lib.hid (fun (w' : World) (B' g cap : Nat) rest bb cp ex hM hc => rreduce_any A.length (A.getD 0 []).length ((A.getD 0 []).length + 1) (oA A B) 7 11 w' B' g cap rest bb cp ex (tame_o SY.out) (whl_o A B _ _) hM rfl hc r1)
  have INR := Lib.hid (fun i j (hi : i < A.length) (hj : j ≤ (A.getD 0 []).length) => (o_inv A B).inrR (tame_o SY.out) (whl_o A B _ _) (Nat.le_refl _) hi hj)
  have RI := Lib.hid (o_inv A B)
  have WIDE := Lib.hid (fun (w' : World) hA hB => rwide_any A B va vb w' hA hB SY.out.right (by omega) (fun i hi => by rw [SY.out.wide i hi]; omega))
  generalize hn : (A.getD 0 []).length = n at *
  clear hn
  go_wp2_with fail
  refine (WIDE.out _ hA hB).mono ?_
  rintro e z1 ⟨u, vs, rfl, RB, hq⟩
  obtain ⟨g, cap, rest, bb, cp, ex, rfl, hc, hM⟩ := WM.out z1 _ u vs RB
  have hD := hq
  clear hq rS fS zS oS RB
  go_wp2_with fail
  refine (RD.out z1 _ g cap rest bb cp ex hM hc).mono ?_
  rintro e z2 ⟨ub, bb2, cp2, ex2, rest2, rfl, hM2, hU, hq⟩
  replace hD := hD.trans hq
  clear hq hM
  rw [OR.out] at hU hM2
  have RM : RdM z2 y1.heap.size z1.heap.size g cap A.length n (ored A B) ub rest2 bb2 cp2 ex2 := ⟨hM2, hU, hc, r1, by omega, n6⟩
  clear hM2
  obtain ⟨adu, capu, e, _, _, _⟩ := hU.open
  subst e
  have oT := Own.new z2 100 [.slice (some ⟨g, 0, none⟩) A.length cap, .slice adu (bints (ored A B).bnd).length capu]
  have hq := ba1 z2 (.cells #[.slice (some ⟨g, 0, none⟩) A.length cap, .slice adu (bints (ored A B).bnd).length capu] 100)
  go_upto_region 4 with fail
  replace RM := RM.below hq
  replace hD := below_to hD hq
  clear hq hU
  obtain ⟨bT, hT⟩ : ∃ b, b = z2.heap.size := ⟨_, rfl⟩
  rw [← hT] at oT ⊢
  clear hT
  generalize z2.alloc (.cells #[.slice (some ⟨g, 0, none⟩) A.length cap, .slice adu (bints (ored A B).bnd).length capu] 100) = z3 at *
  obtain ⟨rT, fT⟩ := oT.rules
  have zT := oT.lt
  go_wp2_with fail
  refine (rsolvable_any RM).mono ?_
  rintro e z4 ⟨rfl, hq⟩
  clear rT fT zT
  replace oT := oT.below hq
  replace RM := RM.below hq
  replace hD := below_to hD hq
  clear hq
  cases hs : solvB A.length n (ored A B) with
  | false =>
    have HV := Lib.hid (HV6.out hs)
    clear hs RM oT
    go_wp2
    refine bodyPost_ret (v := .tuple #[.slice none 0 0, .slice none 0 0, .int .i64 6]) (by simp [results, Try.results20, go_sem]) rfl ⟨_, _, by rw [HV.out], by rw [HV.out]; exact sf_nil _, by rw [HV.out]; exact sff_nil _, below_to hy hD⟩
  | true =>
    have HV := Lib.hid (HV0.out hs)
    clear hs
    have INR2 := Lib.hid INR.out
    have oTH := Lib.hid oT
    obtain ⟨rT, fT⟩ := oT.rules
    have zT := oT.lt
    have gl := @grow_lt
    go_upto_region 6 with fail
    go_wp2_with fail
    refine wp_region_st [.t [0, 2], .f 1, .f 3] [4, 5, 6] (by kernel_rfl) (by kernel_rfl) (fun _ _ _ _ _ h => h) ?_
    refine wpX_t ?_
    try simp only [opsAt, List.getElem?_toArray, List.getElem?_cons_zero, List.getElem?_cons_succ, Option.getD_some]
    repeat (go_big_quiet_step (fail))
    refine wpQuiet_nil ?_
    have hR : Below z4.heap.size z4 z4.drew := (Below.refl _ _).drew
    refine wpX_f rfl rfl (fun K' hK' => ?_)
    go_simp
    refine (rplain_any (RM.below hR) RI.out).mono ?_
    rintro e z5 ⟨u1, rfl, s1, hq1⟩
    refine hK' _ _ (grow_of (below_to hR hq1)) ?_
    clear hK' K'
    replace hR := below_to hR hq1
    refine wpX_f rfl rfl (fun K' hK' => ?_)
    go_simp
    refine (rbasis_any (RM.below hR) RI.out INR.out).mono ?_
    rintro e z6 ⟨u2, rfl, s2, hq2⟩
    refine hK' _ _ (grow_of (below_to hR hq2)) ?_
    clear hK' K'
    replace hR := below_to hR hq2
    replace s1 := s1.below hq2
    refine wpX_nil ?_
    try simp only [opsAt, List.getElem?_toArray, List.getElem?_cons_zero, List.getElem?_cons_succ, Option.getD_some]
    clear gl rT fT zT oT oTH RM hq1 hq2
    replace hD := below_to hD hR
    go_wp2
    refine bodyPost_ret (v := .tuple #[u1, u2, .int .i64 0]) (by simp [results, Try.results20, go_sem]) rfl ⟨_, _, by rw [HV.out], by rw [HV.out]; exact s1, by rw [HV.out]; exact s2, below_to hy hD⟩
set_option maxRecDepth 100000 in
set_option maxHeartbeats 16000000 in
theorem rrefute_any (A : List (List Int)) (B : List Int) (va vb : Value) (w : World) (hA : SS w va A) (hB : SI w vb B) :
    Calls Try.prog 22 #[.agg #[va, vb]] w (orefute_post w (oRefute A B)) := by
  go_enter Try.func22, Try.ntmps22
  have oS := Own.new w 25 [va, vb]
  have hy := ba1 w (.cells #[va, vb] 25)
  replace hA := hA.below hy
  replace hB := hB.below hy
  obtain ⟨rS, fS⟩ := oS.rules
  have zS := oS.lt
  go_wp2_with fail
  refine (rocheck_any A B _ _ _ hA hB).mono ?_
  rintro e y1 ⟨rfl, hq⟩
  clear rS fS zS
  replace oS := oS.below hq
  replace hA := hA.below hq
  replace hB := hB.below hq
  replace hy := below_to hy hq
  clear hq
  obtain ⟨rS, fS⟩ := oS.rules
  have zS := oS.lt
  by_cases h0 : ocheck A B = 0
  case neg =>
    have HV := Lib.hid (oRefute_c h0)
    have b1 : (ocheck A B != 0) = true := by simpa using h0
    clear h0
    go_wp2_with fail
    refine (rocheck_any A B _ _ _ hA hB).mono ?_
    rintro e y2 ⟨rfl, hq⟩
    clear rS fS zS oS hA hB
    replace hy := below_to hy hq
    clear hq
    go_wp2
    go_ret2
    exact ⟨_, by rw [HV.out]; try rfl, by rw [HV.out]; exact sf_nil _, hy⟩
  have SY := Lib.hid (sys_of h0)
  have H0 := Lib.hid h0
  have HV6 := Lib.hid (fun h => oRefute_6 h0 h)
  have HV0 := Lib.hid (fun h => oRefute_0 h0 h)
  rw [h0]
  clear h0
  have r1 := SY.out.rows.1
  have r6 := SY.out.rows.2
  have n1 := SY.out.cols.1
  have n6 := SY.out.cols.2
  have OR : Hid (red ((A.getD 0 []).length + 1) (trn A.length (A.getD 0 []).length (oA A B)) A.length = tred A B) := rfl
  have TL : (oturnA A B).length = (A.getD 0 []).length + 1 := by unfold oturnA; simp
  have TB : (oturnB A).length = (A.getD 0 []).length + 1 := by unfold oturnB; simp
  have WM := Lib.hid (fun (w' : World) (B' : Nat) (u : Value) (vs : List Value) (h : RowsQ w' B' 78 28 u ((A.getD 0 []).length + 1) (wR (oturnA A B) (oturnB A)) vs) => rows_matq (M := trn A.length (A.getD 0 []).length (oA A B)) (mw := A.length + 1) h (by omega) (by omega) (fun i hi => tR_mrq SY.out hi))
  have RD := Lib.hid (fun (w' : World) (B' g cap : Nat) rest bb cp ex hM hc => rreduce_any ((A.getD 0 []).length + 1) A.length (A.length + 1) (trn A.length (A.getD 0 []).length (oA A B)) (A.getD 0 []).length (1 / 99) w' B' g cap rest bb cp ex (tame_t SY.out) (whl_t A B _ _) hM rfl hc (by omega))
  have RI := Lib.hid (t_inv A B)
  have TRL : Hid (∀ i (h : i < (oturnA A B).length), (oturnA A B)[i].length ≤ 100) := fun i h => by
    have hr := SY.out.right
    have hm : (oturnA A B)[i] ∈ oturnA A B := List.getElem_mem h
    generalize (oturnA A B)[i] = x at hm
    unfold oturnA at hm
    rcases List.mem_append.1 hm with h1 | h1
    · obtain ⟨k, _, rfl⟩ := List.mem_map.1 h1
      rw [ocol_len]; omega
    · rw [List.mem_singleton.1 h1]; omega
  have TLH := Lib.hid TL
  have TBH := Lib.hid TB
  clear TL TB
  generalize hn : (A.getD 0 []).length = n at *
  clear hn
  go_wp2_with fail
  refine (roturn_any A B _ _ _ hA hB H0.out).mono ?_
  rintro e z0 ⟨u1, u2, rfl, tA, tB, hq⟩
  have hD := hq
  clear hq rS fS zS oS
  go_wp2_with fail
  refine (rwide_any (oturnA A B) (oturnB A) u1 u2 _ tA tB (by rw [TLH.out, TBH.out]) (by rw [TLH.out]; omega) TRL.out).mono ?_
  rintro e z1 ⟨u, vs, rfl, RB, hq⟩
  rw [TLH.out] at RB
  obtain ⟨g, cap, rest, bb, cp, ex, rfl, hc, hM⟩ := WM.out z1 _ u vs RB
  have hs0 := hD.size
  replace hD := below_to hD hq
  clear hq RB tA tB
  go_wp2_with fail
  refine (RD.out z1 _ g cap rest bb cp ex hM hc).mono ?_
  rintro e z2 ⟨ub, bb2, cp2, ex2, rest2, rfl, hM2, hU, hq⟩
  replace hD := hD.trans (hq.mono hs0)
  clear hq hM
  rw [OR.out] at hU hM2
  have RM : RdM z2 z0.heap.size z1.heap.size g cap (n + 1) A.length (tred A B) ub rest2 bb2 cp2 ex2 := ⟨hM2, hU, hc, by omega, by omega, r6⟩
  clear hM2
  obtain ⟨adu, capu, e, _, _, _⟩ := hU.open
  subst e
  have oT := Own.new z2 100 [.slice (some ⟨g, 0, none⟩) (n + 1) cap, .slice adu (bints (tred A B).bnd).length capu]
  have hq := ba1 z2 (.cells #[.slice (some ⟨g, 0, none⟩) (n + 1) cap, .slice adu (bints (tred A B).bnd).length capu] 100)
  go_upto_region 4 with fail
  replace RM := RM.below hq
  replace hD := below_to hD hq
  clear hq hU
  obtain ⟨bT, hT⟩ : ∃ b, b = z2.heap.size := ⟨_, rfl⟩
  rw [← hT] at oT ⊢
  clear hT
  generalize z2.alloc (.cells #[.slice (some ⟨g, 0, none⟩) (n + 1) cap, .slice adu (bints (tred A B).bnd).length capu] 100) = z3 at *
  obtain ⟨rT, fT⟩ := oT.rules
  have zT := oT.lt
  go_wp2_with fail
  refine (rsolvable_any RM).mono ?_
  rintro e z4 ⟨rfl, hq⟩
  clear rT fT zT
  replace oT := oT.below hq
  replace RM := RM.below hq
  replace hD := below_to hD hq
  clear hq
  cases hs : solvB (n + 1) A.length (tred A B) with
  | false =>
    have HV := Lib.hid (HV6.out hs)
    clear hs RM oT
    go_wp2
    go_ret2
    exact ⟨_, by rw [HV.out]; try rfl, by rw [HV.out]; exact sf_nil _, below_to hy hD⟩
  | true =>
    have HV := Lib.hid (HV0.out hs)
    clear hs
    obtain ⟨rT, fT⟩ := oT.rules
    have zT := oT.lt
    go_wp2_with fail
    refine (rplain_any RM RI.out).mono ?_
    rintro e z5 ⟨u1, rfl, s1, hq⟩
    clear rT fT zT oT RM
    replace hD := below_to hD hq
    clear hq
    go_wp2
    go_ret2
    exact ⟨_, by rw [HV.out]; try rfl, by rw [HV.out]; exact s1, below_to hy hD⟩
end Go.Proofs.Ythlcmlngmcoknaa
