/- What is proved here: contracts of functions and plain facts, several texts in one; each one says ahead what it proves, and its conditions. -/
import Derived.Test.YtfoemacgmehpiaaM35
import Derived.Test.YtfoemacgmehpiaaM36
import Derived.Test.YtfoemacgmehpiaaM45
import Derived.Test.YtfoemacgmehpiaaM17
import Derived.Test.YtfoemacgmehpiaaM18
import Derived.Deep.DeepCutAuto
/- What is proved here: the contracts of fringeref37.Found, fringeref37.Solve and fringeref38.Solve: they return the solution and its set. Condition: a fit that can be read; Found: a valid one, and a cost from 0 to 1000. -/
namespace Go.Proofs.Ytfoemacgmehpiaa
open Go.RowKit

theorem rof98_as (A : List (List Int)) (B : List Int) (c : Int) (S n : Nat) (r : List (Int × Int) × Bool) (va vb : Value) (w : World) (hA : SS w va A) (hB : SI w vb B) (hF : Fit A B n) (hS : S < 2 ^ n) (c0 : 0 ≤ c) (c1 : c ≤ 1000) (hr : ofV A B c S n = r) :
    Calls Try.prog 98 #[.agg #[va, vb], .int .i64 (S : Int), .int .i64 c] w (of_post w r) := by
  subst hr; exact rof98_any A B c S n va vb w hA hB hF hS c0 c1
theorem rleast_as (l : List (Int × Int)) (c : Int) (b : Bool) (v : Value) (w : World) (c0 : 0 ≤ c) (c1 : c ≤ 1000) (hs : SF w v l) (hv : ∀ i (h : i < l.length), fchk l[i].1 l[i].2 = 0) (hr : leastB l c l.length = b) :
    Calls Try.prog 99 #[v, .int .i64 c] w fun e w' => e = .returned (.bool b) ∧ Below w.heap.size w w' := by
  subst hr; exact rleast_any l c v w c0 c1 hs hv
theorem rngr_as (A : List (List Int)) (B : List Int) (x : List (Int × Int)) (r : List (Int × Int) × Int) (va vb vx : Value) (w : World) (hA : SS w va A) (hB : SI w vb B) (hx : SF w vx x) (fx : FitX A B x) (hr : ngradient A B x = r) :
    Calls Try.prog 100 #[.agg #[va, vb], vx] w (rows_post w r) := by
  subst hr; exact rngr_any A B x va vb vx w hA hB hx fx
theorem map_val {g : Nat → Rat} {n : Nat} (hg : ∀ k, inr (g k)) : ∀ i (h : i < ((List.range n).map fun k => up (g k)).length), fchk ((List.range n).map fun k => up (g k))[i].1 ((List.range n).map fun k => up (g k))[i].2 = 0 := fun i h => by
  have e : ((List.range n).map fun k => up (g k))[i] = up (g i) := by simp
  rw [e]; exact up_chk (hg i)
def found_post (w : World) (r : List (Int × Int) × Nat) (e : Ending) (w' : World) : Prop := ∃ u, e = .returned (.tuple #[u, .int .i64 (r.2 : Int)]) ∧ SF w' u r.1 ∧ Below w.heap.size w w'
set_option maxRecDepth 100000 in
set_option maxHeartbeats 16000000 in
theorem rfound_any (A : List (List Int)) (B : List Int) (c : Int) (n : Nat) (va vb : Value) (w : World) (hA : SS w va A) (hB : SI w vb B) (hF : Fit A B n) (c0 : 0 ≤ c) (c1 : c ≤ 1000) :
    Calls Try.prog 83 #[.agg #[va, vb], .int .i64 c] w (found_post w (nsol A B c n, nS A B c)) := by
  have HF := Lib.hid hF
  have hr := hF.rows
  have n3 := hF.cols.2
  have hw0 := hF.wide 0 (by omega)
  clear hF
  obtain ⟨ada, capa, rfl, ha1, ha2, H⟩ := id hA.open
  obtain ⟨b0, o0, ad0, cap0, rfl, k1, k2, k3, _⟩ := H.out 0 hr.1
  clear H
  rw [hw0] at k1 k2 k3
  rw [Nat.add_zero] at k1
  clear hw0
  have C0 := Lib.hid c0
  have C1 := Lib.hid c1
  clear c0 c1
  go_enter Try.func83, Try.ntmps83
  have oS := Own.new w 25 [.slice (some ⟨b0, o0, none⟩) A.length capa, vb]
  have hy := ba1 w (.cells #[.slice (some ⟨b0, o0, none⟩) A.length capa, vb] 25)
  replace hA := hA.below hy
  replace hB := hB.below hy
  replace k1 := below_cell hy k1
  obtain ⟨rS, fS⟩ := oS.rules
  have zS := oS.lt
  go_wp2_with fail
  generalize w.alloc (.cells #[.slice (some ⟨b0, o0, none⟩) A.length capa, vb] 25) = y at *
  clear rS fS zS
  obtain ⟨rS, fS⟩ := oS.rules
  have zS := oS.lt
  go_wp2
  clear rS fS zS k1
  have HA := Lib.hid hA
  have HB := Lib.hid hB
  have OS := Lib.hid oS
  have HY := Lib.hid hy
  clear hA hB oS hy
  go_loopw [7] (fun i wr => ∃ T : Nat, T ≤ 2 ^ n ∧ i = .int .i64 T ∧ Hid (∀ S, S < T → good8 (nG A) (nD A B c) S = false) ∧ Below y.heap.size y wr) (fun i _ => 2 ^ n - (intOf i).toNat)
  case atStart => exact ⟨0, Nat.zero_le _, rfl, fun S h => absurd h (Nat.not_lt_zero S), Below.refl _ _⟩
  case round =>
    obtain ⟨T, hT, rfl, hg, hW⟩ := hrel
    rename World => W
    have pw := pow_wrap n3
    by_cases hlt : T < 2 ^ n
    · have t1 : (T : Int) < wrap64 (2 ^ n) := by rw [pw]; omega
      have t2 : decide ((T : Int) < wrap64 (2 ^ n)) = true := by simpa using t1
      have GS : Hid (good8 (nG A) (nD A B c) T = false → ∀ S, S < T + 1 → good8 (nG A) (nD A B c) S = false) := fun h S hS => by
        rcases Nat.lt_or_ge S T with h1 | h1
        · exact hg.out S h1
        · obtain rfl : S = T := by omega
          exact h
      have hTn := Lib.hid hlt
      have hgT := Lib.hid (fun h => nS_is (c := c) HF.out hlt h hg.out)
      have T8 : T < 8 := set8 n3 hlt
      clear hlt
      clear pw hg
      have hA := HA.out.below hW
      have hB := HB.out.below hW
      have oS := OS.out.below hW
      obtain ⟨rS, fS⟩ := oS.rules
      have zS := oS.lt
      by_cases hd : den8 (nG A) T = 0
      · have HV : ofV A B c T n = ([], false) := if_pos hd
        have gf : good8 (nG A) (nD A B c) T = false := by unfold good8; rw [hd]; rfl
        have GT := Lib.hid (GS.out gf)
        go_wp2_with fail
        refine (rof98_as A B c T n _ _ _ _ hA hB HF.out hTn.out C0.out C1.out HV).mono ?_
        rintro e y2 ⟨u, rfl, sx, hq⟩
        clear rS fS zS
        replace oS := oS.below hq
        replace hA := hA.below hq
        replace hB := hB.below hq
        replace hW := below_to hW hq
        clear hq
        obtain ⟨rS, fS⟩ := oS.rules
        have zS := oS.lt
        clear hA hB sx gf GS hgT hd HV t1 t2
        go_wp2
        go_roundw
        case rel => exact ⟨T + 1, hTn.out, by go_num, GT.out, hW⟩
        case measure => have := hTn.out; simp [intOf]; try omega
      have HV : ofV A B c T n = (xL A B c T n, true) := if_neg hd
      have GT := Lib.hid (good_tests (c := c) HF.out C0.out hTn.out hd)
      have FX := Lib.hid (fitX_of HF.out C0.out C1.out hTn.out hd)
      have XV := Lib.hid (xL_val HF.out C0.out C1.out hTn.out hd)
      have GR := Lib.hid (grad_free HF.out C0.out C1.out hTn.out hd).1
      have GV := Lib.hid (map_val (n := n) (grad_free HF.out C0.out C1.out hTn.out hd).2)
      have XE : Hid (nS A B c = T → xL A B c T n = nsol A B c n) := fun h => by unfold xL nsol; rw [← h]; rfl
      clear hd
      go_wp2_with fail
      refine (rof98_as A B c T n _ _ _ _ hA hB HF.out hTn.out C0.out C1.out HV).mono ?_
      rintro e y2 ⟨u, rfl, sx, hq⟩
      clear rS fS zS
      replace oS := oS.below hq
      replace hA := hA.below hq
      replace hB := hB.below hq
      replace hW := below_to hW hq
      clear hq
      obtain ⟨rS, fS⟩ := oS.rules
      have zS := oS.lt
      have sx' : SF y2 u (xL A B c T n) := sx
      clear sx HV t1 t2
      have xl : (xL A B c T n).length = n := xL_len
      obtain ⟨b1, hb1⟩ : ∃ b, b = leastB (xL A B c T n) 0 n := ⟨_, rfl⟩
      have HB1 : Hid (leastB (xL A B c T n) 0 (xL A B c T n).length = b1) := by show _ = _; rw [xl]; exact hb1.symm
      rw [← hb1] at GT
      clear hb1 xl
      go_wp2_with fail
      refine (rleast_as (xL A B c T n) 0 b1 _ _ (by decide) (by decide) sx' XV.out HB1.out).mono ?_
      rintro e y3 ⟨rfl, hq⟩
      clear rS fS zS
      replace oS := oS.below hq
      replace hA := hA.below hq
      replace hB := hB.below hq
      replace sx' := sx'.below hq
      replace hW := below_to hW hq
      clear hq
      obtain ⟨rS, fS⟩ := oS.rules
      have zS := oS.lt
      cases b1 with
      | false =>
        have GT2 := Lib.hid (GS.out (by rw [GT.out]; rfl))
        clear hA hB sx' GT GS hgT XE
        go_wp2
        go_roundw
        case rel => exact ⟨T + 1, hTn.out, by go_num, GT2.out, hW⟩
        case measure => have := hTn.out; simp [intOf]; try omega
      | true =>
        go_wp2_with fail
        refine (rngr_as A B (xL A B c T n) _ _ _ _ _ hA hB sx' FX.out GR.out).mono ?_
        rintro e y4 ⟨g, rfl, sg, hq⟩
        clear rS fS zS
        replace oS := oS.below hq
        replace hA := hA.below hq
        replace hB := hB.below hq
        replace sx' := sx'.below hq
        replace hW := below_to hW hq
        clear hq
        obtain ⟨rS, fS⟩ := oS.rules
        have zS := oS.lt
        have sg' : SF y4 g ((List.range n).map fun k => up (qgrd (fA A) (fB B) A.length (xS A B c T) k)) := sg
        clear sg
        obtain ⟨b2, hb2⟩ : ∃ b, b = leastB ((List.range n).map fun k => up (qgrd (fA A) (fB B) A.length (xS A B c T) k)) c n := ⟨_, rfl⟩
        have HB2 : Hid (leastB ((List.range n).map fun k => up (qgrd (fA A) (fB B) A.length (xS A B c T) k)) c ((List.range n).map fun k => up (qgrd (fA A) (fB B) A.length (xS A B c T) k)).length = b2) := by show _ = _; rw [show ((List.range n).map fun k => up (qgrd (fA A) (fB B) A.length (xS A B c T) k)).length = n from by simp]; exact hb2.symm
        rw [← hb2] at GT
        clear hb2
        go_wp2_with fail
        refine (rleast_as _ c b2 _ _ C0.out C1.out sg' GV.out HB2.out).mono ?_
        rintro e y5 ⟨rfl, hq⟩
        clear rS fS zS
        replace oS := oS.below hq
        replace hA := hA.below hq
        replace hB := hB.below hq
        replace sx' := sx'.below hq
        replace hW := below_to hW hq
        clear hq
        obtain ⟨rS, fS⟩ := oS.rules
        have zS := oS.lt
        clear hA hB sg'
        cases b2 with
        | false =>
          have GT2 := Lib.hid (GS.out (by rw [GT.out]; rfl))
          clear sx' GT GS hgT XE
          go_wp2
          go_roundw
          case rel => exact ⟨T + 1, hTn.out, by go_num, GT2.out, hW⟩
          case measure => have := hTn.out; simp [intOf]; try omega
        | true =>
          have hST : Hid (nS A B c = T) := hgT.out (by rw [GT.out]; rfl)
          have hE := Lib.hid (XE.out hST.out)
          have hy := below_to HY.out hW
          clear GT GS hgT XE
          go_wp2
          go_ret2
          exact ⟨u, by rw [hST.out]; rfl, by show SF _ _ (nsol A B c n); rw [← hE.out]; exact sx', hy⟩
    · exfalso
      have h2 := nS_spec (c := c) HF.out C0.out
      have h3 := hg.out (nS A B c) (by omega)
      rw [h2.2] at h3
      cases h3
theorem rfound_as (A : List (List Int)) (B : List Int) (c : Int) (r : List (Int × Int) × Nat) (va vb : Value) (w : World) (hA : SS w va A) (hB : SI w vb B) (hc : ncheck A B = 0) (c0 : 0 ≤ c) (c1 : c ≤ 1000) (hr : (nsol A B c (A.getD 0 []).length, nS A B c) = r) :
    Calls Try.prog 83 #[.agg #[va, vb], .int .i64 c] w (found_post w r) := by
  subst hr; exact rfound_any A B c _ va vb w hA hB (fit_of hc) c0 c1
set_option maxRecDepth 100000 in
set_option maxHeartbeats 4000000 in
theorem rsolve_any (A : List (List Int)) (B : List Int) (va vb : Value) (w : World) (hA : SS w va A) (hB : SI w vb B) :
    Calls Try.prog 48 #[.agg #[va, vb]] w (solve_post w (nSolve A B 0)) := by
  go_enter Try.func48, Try.ntmps48
  have oS := Own.new w 25 [va, vb]
  have hy := ba1 w (.cells #[va, vb] 25)
  replace hA := hA.below hy
  replace hB := hB.below hy
  obtain ⟨rS, fS⟩ := oS.rules
  have zS := oS.lt
  go_wp2_with fail
  refine (rncheck_any A B _ _ _ hA hB).mono ?_
  rintro e y1 ⟨rfl, hq⟩
  clear rS fS zS
  replace oS := oS.below hq
  replace hA := hA.below hq
  replace hB := hB.below hq
  replace hy := below_to hy hq
  clear hq
  obtain ⟨rS, fS⟩ := oS.rules
  have zS := oS.lt
  by_cases h0 : ncheck A B = 0
  case neg =>
    have HV : Hid (nSolve A B 0 = ([], 0, ncheck A B)) := if_neg h0
    have q0 : (ncheck A B != 0) = true := by simpa using h0
    clear hA hB h0
    go_wp2
    refine bodyPost_ret (v := .tuple #[.slice none 0 0, .int .i64 0, .int .i64 (ncheck A B)]) (by simp [results, Try.results48, go_sem]) rfl ⟨.slice none 0 0, by rw [HV.out]; try rfl, by rw [HV.out]; exact sf_nil _, hy⟩
  have HV : Hid (nSolve A B 0 = (nsol A B 0 (A.getD 0 []).length, nS A B 0, 0)) := if_pos h0
  have H0 := Lib.hid h0
  rw [h0]
  clear h0
  obtain ⟨r, hr⟩ : ∃ r, r = (nsol A B 0 (A.getD 0 []).length, nS A B 0) := ⟨_, rfl⟩
  have HR := Lib.hid hr.symm
  clear hr
  go_wp2_with fail
  refine (rfound_as A B 0 r _ _ _ hA hB H0.out (Int.le_refl 0) (by decide) HR.out).mono ?_
  rintro e y2 ⟨u, rfl, sx, hq⟩
  clear rS fS zS
  replace oS := oS.below hq
  replace hA := hA.below hq
  replace hB := hB.below hq
  replace hy := below_to hy hq
  clear hq
  obtain ⟨rS, fS⟩ := oS.rules
  have zS := oS.lt
  have sx' : SF y2 u r.1 := sx
  clear sx hA hB
  go_wp2
  have e1 : r.1 = nsol A B 0 (A.getD 0 []).length := by rw [← HR.out]
  have e2 : r.2 = nS A B 0 := by rw [← HR.out]
  refine bodyPost_ret (v := .tuple #[u, .int .i64 (r.2 : Int), .int .i64 0]) (by simp [results, Try.results48, go_sem]) rfl ⟨u, by rw [HV.out, e2]; try rfl, by rw [HV.out]; show SF _ _ (nsol A B 0 (A.getD 0 []).length); rw [← e1]; exact sx', hy⟩
set_option maxRecDepth 100000 in
set_option maxHeartbeats 4000000 in
theorem rssolve_any (A : List (List Int)) (B : List Int) (c : Int) (va vb : Value) (w : World) (hA : SS w va A) (hB : SI w vb B) :
    Calls Try.prog 49 #[.agg #[va, vb], .int .i64 c] w (solve_post w (sSolve A B c)) := by
  go_enter Try.func49, Try.ntmps49
  have oS := Own.new w 25 [va, vb]
  have hy := ba1 w (.cells #[va, vb] 25)
  replace hA := hA.below hy
  replace hB := hB.below hy
  obtain ⟨rS, fS⟩ := oS.rules
  have zS := oS.lt
  go_wp2_with fail
  refine (rscheck_any A B c _ _ _ hA hB).mono ?_
  rintro e y1 ⟨rfl, hq⟩
  clear rS fS zS
  replace oS := oS.below hq
  replace hA := hA.below hq
  replace hB := hB.below hq
  replace hy := below_to hy hq
  clear hq
  obtain ⟨rS, fS⟩ := oS.rules
  have zS := oS.lt
  by_cases h0 : scheck A B c = 0
  case neg =>
    have HV : Hid (sSolve A B c = ([], 0, scheck A B c)) := if_neg h0
    have q0 : (scheck A B c != 0) = true := by simpa using h0
    clear hA hB h0
    go_wp2
    refine bodyPost_ret (v := .tuple #[.slice none 0 0, .int .i64 0, .int .i64 (scheck A B c)]) (by simp [results, Try.results49, go_sem]) rfl ⟨.slice none 0 0, by rw [HV.out]; try rfl, by rw [HV.out]; exact sf_nil _, hy⟩
  have HV : Hid (sSolve A B c = (nsol A B c (A.getD 0 []).length, nS A B c, 0)) := if_pos h0
  obtain ⟨h9, c0, c1⟩ := scheck_of h0
  have H0 := Lib.hid h9
  have C0 := Lib.hid c0
  have C1 := Lib.hid c1
  rw [h0]
  clear h0 h9 c0 c1
  obtain ⟨r, hr⟩ : ∃ r, r = (nsol A B c (A.getD 0 []).length, nS A B c) := ⟨_, rfl⟩
  have HR := Lib.hid hr.symm
  clear hr
  go_wp2_with fail
  refine (rfound_as A B c r _ _ _ hA hB H0.out C0.out C1.out HR.out).mono ?_
  rintro e y2 ⟨u, rfl, sx, hq⟩
  clear rS fS zS
  replace oS := oS.below hq
  replace hA := hA.below hq
  replace hB := hB.below hq
  replace hy := below_to hy hq
  clear hq
  obtain ⟨rS, fS⟩ := oS.rules
  have zS := oS.lt
  have sx' : SF y2 u r.1 := sx
  clear sx hA hB
  go_wp2
  have e1 : r.1 = nsol A B c (A.getD 0 []).length := by rw [← HR.out]
  have e2 : r.2 = nS A B c := by rw [← HR.out]
  refine bodyPost_ret (v := .tuple #[u, .int .i64 (r.2 : Int), .int .i64 0]) (by simp [results, Try.results49, go_sem]) rfl ⟨u, by rw [HV.out, e2]; try rfl, by rw [HV.out]; show SF _ _ (nsol A B c (A.getD 0 []).length); rw [← e1]; exact sx', hy⟩
end Go.Proofs.Ytfoemacgmehpiaa
