/- What is proved here: the law WeightOrder returns true. Condition: a slice of visibilities, a 64-bit number. -/
import Derived.Test.YtpjhiojdnebgoaaC47
import Derived.Test.YtpjhiojdnebgoaaC12
import Derived.Test.YtpjhiojdnebgoaaC23
namespace Go.Proofs.Ytpjhiojdnebgoaa
open Go.RowKit

theorem rev_take {l : List Vs} {m : Nat} (hm : m < l.length) : l.reverse.take (m + 1) = l.reverse.take m ++ [l[l.length - 1 - m]] := by
  rw [List.take_succ_eq_append_getElem (by rw [List.length_reverse]; exact hm), List.getElem_reverse]
theorem by_take {l : List Vs} {b : Int} {m : Nat} (hm : m < l.length) : (l.map fun v => v.by b).take (m + 1) = (l.map fun v => v.by b).take m ++ [l[m].by b] := by
  rw [List.take_succ_eq_append_getElem (by rw [List.length_map]; exact hm), List.getElem_map]
/-- Scale of a valid visibility. -/
theorem scale_ok {v : Vs} {b : Int} (h : v.chk = 0) (h1 : 1 ≤ b) (h2 : b ≤ 1000000) : (wsc v.i v.j v.re v.im v.den v.n b = ⟨v.i, v.j, v.re, v.im, v.den, v.n * b, 0⟩ ∧ (v.by b).chk = 0) ∨ (wsc v.i v.j v.re v.im v.den v.n b).e = 16 := by
  by_cases h3 : 1000000 < v.n * b
  · right; rw [wsc_16 h (by omega) h3]
  · left
    refine ⟨wsc_0 h (by omega) h3, ?_⟩
    have c := Vs.chk_ok h
    have : 0 ≤ v.n * b := Int.mul_nonneg c.2.2.2.2.1 (by omega)
    exact vchk_yes c.1 c.2.1 c.2.2.1 c.2.2.2.1 this (show v.n * b ≤ 1000000 by omega)
theorem vall_by_take {l : List Vs} {b : Int} {m : Nat} (hm : m < l.length) (h : vall ((l.map fun v => v.by b).take m) = true) (hz : (l[m].by b).chk = 0) : vall ((l.map fun v => v.by b).take (m + 1)) = true := by
  rw [by_take hm, vall_append]; exact ⟨h, by rw [vall_cons]; exact ⟨hz, rfl⟩⟩
theorem owns_SV' {w : World} {B : Nat} {T : TypeId} {v : Value} {xs : List Vs} (h : w.ownsRow B T 6 v xs.length (vcs xs)) (hn : xs.length ≤ 9223372036854775807) : SV w v xs := owns_sl h hn
set_option maxRecDepth 100000 in
set_option maxHeartbeats 16000000 in
theorem weightOrder_any (l : List Vs) (n : Int) (v : Value) (w : World) (hs : SV w v l) :
    Calls Try.prog 12 #[v, .int .i64 n] w fun e w' => e = .returned (.bool true) ∧ Below w.heap.size w w' := by
  obtain ⟨ad, cap, rfl, h1, h2, _⟩ := hs.open
  go_enter Try.func12, Try.ntmps12
  go_wp2_with fail
  refine (alive22_any _).mono ?_
  rintro e y1 ⟨rfl, hB⟩
  have S0 := Lib.hid (hs.below hB)
  clear hs
  go_wp2_with fail
  refine (fit22_any l _ _ S0.out).mono ?_
  rintro e y2 ⟨rfl, hq⟩
  replace S0 := Lib.hid (S0.out.below hq)
  replace hB := below_to hB hq
  clear hq
  by_cases hf : (decide (l.length ≤ 250) && decide (vlist l = 0)) = true
  case neg =>
    rw [Bool.not_eq_true] at hf
    rw [hf]
    go_wp2
    go_ret
    exact ⟨rfl, hB⟩
  have hv : vlist l = 0 := by simp only [Bool.and_eq_true, decide_eq_true_eq] at hf; exact hf.2
  rw [hf]
  have HV := Lib.hid (vlist_0 hv)
  clear hf hv
  by_cases g0 : l.length = 0
  · have q0 : ((l.length : Int) == 0) = true := by simpa using g0
    clear g0
    go_wp2
    go_ret
    exact ⟨rfl, hB⟩
  have q0 : ((l.length : Int) == 0) = false := by simpa using g0
  have hl0 : 0 < l.length := by omega
  clear g0
  by_cases g1 : n < 1
  · have q1 : decide (n < 1) = true := by simpa using g1
    go_wp2
    go_ret
    exact ⟨rfl, hB⟩
  have q1 : decide (n < 1) = false := by simpa using g1
  by_cases g2 : 1000000 < n
  · have q2 : decide (n > 1000000) = true := by simpa using g2
    go_wp2
    go_ret
    exact ⟨rfl, hB⟩
  have q2 : decide (n > 1000000) = false := by simpa using g2
  have N1 : Hid (1 ≤ n ∧ n ≤ 1000000) := by show _ ∧ _; omega
  clear g1 g2
  have L200 : Hid (l.length ≤ 200) := HV.out.1
  go_wp2
  go_loopw [6, 8] (fun gv i wr => ∃ m : Nat, m ≤ l.length ∧ i = .int .i64 ((l.length : Int) - 1 - m) ∧ wr.ownsRow y2.heap.size 60 6 gv (l.reverse.take m).length (vcs (l.reverse.take m)) ∧ Below y2.heap.size y2 wr) (fun _ i _ => (intOf i + 1).toNat)
  case atStart => exact ⟨0, Nat.zero_le _, by simp, World.ownsRow_nil _ _ _ _, Below.refl _ _⟩
  case round =>
    obtain ⟨m, hm, rfl, og, hC⟩ := hrel
    rename World => W
    by_cases hml : m < l.length
    · obtain ⟨_, _, e, _, _, H⟩ := (S0.out.below hC).open
      cases e
      have hx : l.length - 1 - m < l.length := by omega
      obtain ⟨b, off, rfl, c0, c1, c2, c3, c4, c5⟩ := H.out (l.length - 1 - m) hx
      clear H
      have HT := Lib.hid (rev_take hml)
      have GL : (l.reverse.take m).length = m := by rw [List.length_take, List.length_reverse]; omega
      have GG := Lib.hid GL
      rw [GL] at og
      have ml : m ≤ 200 := by have := L200.out; omega
      generalize l[l.length - 1 - m] = x at *
      have VX : Hid (vcs [x] = [.int .i64 x.i, .int .i64 x.j, .int .i64 x.re, .int .i64 x.im, .int .i64 x.den, .int .i64 x.n]) := rfl
      have E1 : (l.length : Int) - 1 - m = ((l.length - 1 - m : Nat) : Int) := by omega
      have EM : Hid (((l.length - 1 - m : Nat) : Int) - 1 = (l.length : Int) - 1 - ((m + 1 : Nat) : Int)) := by show _ = _; omega
      rw [E1]
      clear E1
      generalize l.length - 1 - m = p at *
      have zS := hC.size
      have zb := World.block_lt_of_cell? _ _ c0
      simp only at zb
      clear GL
      go_wp2_with (at_builtin; refine wpList_app _ rfl _ _ _ rfl y2.heap.size 60 6 48 (.agg #[.int .i64 0, .int .i64 0, .int .i64 0, .int .i64 0, .int .i64 0, .int .i64 0]) Try.underlying55 vis_info rfl (by omega) (by omega) _ _ _ rfl (og.alloc _) (by omega) (by simp; omega) W.heap.size [.int .i64 x.i, .int .i64 x.j, .int .i64 x.re, .int .i64 x.im, .int .i64 x.den, .int .i64 x.n] (0, 0) rfl (heap_alloc_new W _) rfl (by simp [Value.oneCell']) ?_; intro g cap2 w2 hown hg hbw)
      go_roundw
      case rel =>
        refine ⟨m + 1, by omega, by rw [← EM.out], ?_, ?_⟩
        · have e1 : (l.reverse.take (m + 1)).length = m + 1 := by rw [HT.out, List.length_append, GG.out]; rfl
          rw [e1, HT.out, vcs_append, VX.out]; exact hown
        · exact (below_to hC (ba1 W _)).trans (hbw.mono (Nat.le_refl _))
      case measure => have := EM.out; simp [intOf]; try omega
    · obtain rfl : m = l.length := by omega
      rw [show (l.length : Int) - 1 - (l.length : Int) = -1 by omega]
      rw [show l.reverse.take l.length = l.reverse from List.take_of_length_le (by rw [List.length_reverse]; exact Nat.le_refl _)] at og
      have SR := Lib.hid (owns_SV' og (by rw [List.length_reverse]; omega))
      replace S0 := Lib.hid (S0.out.below hC)
      replace hB := below_to hB hC
      clear og hC hml hm
      go_wp2
      go_loopw [7, 9] (fun gv i wr => ∃ m : Nat, m ≤ l.length ∧ i = .int .i64 m ∧ Hid (vall ((l.map fun v => v.by n).take m) = true) ∧ wr.ownsRow W.heap.size 60 6 gv m (vcs ((l.map fun v => v.by n).take m)) ∧ Below W.heap.size W wr) (fun _ i _ => l.length + 1 - (intOf i).toNat)
      case atStart => exact ⟨0, Nat.zero_le _, rfl, rfl, World.ownsRow_nil _ _ _ _, Below.refl _ _⟩
      case round =>
        obtain ⟨m, hm, rfl, hvm, og, hC⟩ := hrel
        rename World => Y
        by_cases hml : m < l.length
        · obtain ⟨_, _, e, _, _, H⟩ := (S0.out.below hC).open
          cases e
          obtain ⟨b, off, rfl, c0, c1, c2, c3, c4, c5⟩ := H.out m hml
          clear H
          have HT := Lib.hid (by_take (b := n) hml)
          have SC := Lib.hid (scale_ok (vall_get HV.out.2 hml) N1.out.1 N1.out.2)
          have VT := Lib.hid (fun h => vall_by_take hml hvm.out h)
          have ml : m ≤ 200 := by have := L200.out; omega
          generalize l[m] = x at *
          go_wp2_with fail
          refine (vscale_any x.i x.j x.re x.im x.den x.n n _).mono ?_
          rintro e y3 ⟨rfl, hq⟩
          have og2 := owns_at og hq
          have hC2 := below_to hC hq
          clear og hC hq c0 c1 c2 c3 c4 c5
          generalize hr : wsc x.i x.j x.re x.im x.den x.n n = r at *
          have HR := Lib.hid hr
          clear hr
          rcases SC.out with ⟨hs1, hs2⟩ | hs1
          case inr =>
            have hq := ba1 y3 (.cells #[.int .i64 r.i, .int .i64 r.j, .int .i64 r.re, .int .i64 r.im, .int .i64 r.den, .int .i64 r.n] 60)
            rw [hs1]
            clear hs1 SC
            go_wp2
            go_ret
            exact ⟨rfl, below_to hB (below_to hC2 hq)⟩
          have oX := Own.new y3 60 [.int .i64 r.i, .int .i64 r.j, .int .i64 r.re, .int .i64 r.im, .int .i64 r.den, .int .i64 r.n]
          have hq := ba1 y3 (.cells #[.int .i64 r.i, .int .i64 r.j, .int .i64 r.re, .int .i64 r.im, .int .i64 r.den, .int .i64 r.n] 60)
          have HY := Lib.hid (VT.out hs2)
          have RE : r.e = 0 := by rw [hs1]
          have RV : Hid (vcs [x.by n] = [.int .i64 r.i, .int .i64 r.j, .int .i64 r.re, .int .i64 r.im, .int .i64 r.den, .int .i64 r.n]) := by show _ = _; rw [hs1]; rfl
          clear hs1 hs2 SC VT
          rw [RE]
          go_upto_region 13 with fail
          have og3 := owns_at og2 hq
          have hC3 := below_to hC2 hq
          clear og2 hC2 hq RE
          obtain ⟨bX, hX⟩ : ∃ B, B = y3.heap.size := ⟨_, rfl⟩
          rw [← hX] at oX ⊢
          clear hX
          generalize y3.alloc (.cells #[.int .i64 r.i, .int .i64 r.j, .int .i64 r.re, .int .i64 r.im, .int .i64 r.den, .int .i64 r.n] 60) = y4 at *
          have zS := hC3.size
          obtain ⟨rX, fX⟩ := oX.rules
          have zX := oX.lt
          go_wp2_with (at_builtin; refine wpList_app _ rfl _ _ _ rfl W.heap.size 60 6 48 (.agg #[.int .i64 0, .int .i64 0, .int .i64 0, .int .i64 0, .int .i64 0, .int .i64 0]) Try.underlying55 vis_info rfl (by omega) (by omega) _ _ _ rfl (og3.alloc _) (by omega) (by simp; omega) y4.heap.size [.int .i64 r.i, .int .i64 r.j, .int .i64 r.re, .int .i64 r.im, .int .i64 r.den, .int .i64 r.n] (0, 0) rfl (heap_alloc_new y4 _) rfl (by simp [Value.oneCell']) ?_; intro g cap2 w2 hown hg hbw)
          go_roundw
          case rel =>
            refine ⟨m + 1, by omega, by go_num, HY, ?_, ?_⟩
            · rw [HT.out, vcs_append, RV.out]; exact hown
            · exact (below_to hC3 (ba1 y4 _)).trans (hbw.mono (Nat.le_refl _))
          case measure => simp [intOf]; try omega
        · obtain rfl : m = l.length := by omega
          have e0 : (l.map fun v => v.by n).take l.length = l.map fun v => v.by n := List.take_of_length_le (by rw [List.length_map]; exact Nat.le_refl _)
          rw [e0] at og hvm
          have e1 : (l.map fun v => v.by n).length = l.length := List.length_map ..
          have SM : Hid (SV Y _ (l.map fun v => v.by n)) := owns_SV' (by rw [e1]; exact og) (by rw [e1]; omega)
          replace S0 := Lib.hid (S0.out.below hC)
          replace SR := Lib.hid (SR.out.below hC)
          replace hB := below_to hB hC
          have VB := Lib.hid hvm.out
          have K1 := Lib.hid (fun h1 h2 => turned_mean (l := l) h1 h2)
          have K2 := Lib.hid (turned_18 HV.out.2 L200.out hl0)
          have K3 := Lib.hid (fun h1 h2 => more_mean (l := l) N1.out.1 h1 h2)
          have K4 := Lib.hid (more_18 N1.out.1 HV.out.2 L200.out hl0 VB.out)
          clear e0 e1 og hvm hC hml hm
          go_wp2_with fail
          refine (vMean_any l _ _ S0.out).mono ?_
          rintro e z1 ⟨rfl, hq⟩
          replace hB := below_to hB hq
          replace SR := Lib.hid (SR.out.below hq)
          replace SM := Lib.hid (SM.out.below hq)
          clear hq
          generalize hra : vMean l = ra at *
          have RA := Lib.hid hra
          clear hra S0
          unfold VR.res
          have oA := Own.new z1 60 [.int .i64 ra.i, .int .i64 ra.j, .int .i64 ra.re, .int .i64 ra.im, .int .i64 ra.den, .int .i64 ra.n]
          have hq := ba1 z1 (.cells #[.int .i64 ra.i, .int .i64 ra.j, .int .i64 ra.re, .int .i64 ra.im, .int .i64 ra.den, .int .i64 ra.n] 60)
          go_upto_region 17 with fail
          replace hB := below_to hB hq
          replace SR := Lib.hid (SR.out.below hq)
          replace SM := Lib.hid (SM.out.below hq)
          clear hq
          obtain ⟨bA, hA⟩ : ∃ B, B = z1.heap.size := ⟨_, rfl⟩
          rw [← hA] at oA ⊢
          clear hA
          generalize z1.alloc (.cells #[.int .i64 ra.i, .int .i64 ra.j, .int .i64 ra.re, .int .i64 ra.im, .int .i64 ra.den, .int .i64 ra.n] 60) = z2 at *
          go_wp2_with fail
          refine (vMean_any l.reverse _ _ SR.out).mono ?_
          rintro e z3 ⟨rfl, hq⟩
          replace hB := below_to hB hq
          replace SM := Lib.hid (SM.out.below hq)
          replace oA := oA.below hq
          clear hq
          generalize hrb : vMean l.reverse = rb at *
          have RB := Lib.hid hrb
          clear hrb SR
          unfold VR.res
          have oB := Own.new z3 60 [.int .i64 rb.i, .int .i64 rb.j, .int .i64 rb.re, .int .i64 rb.im, .int .i64 rb.den, .int .i64 rb.n]
          have hq := ba1 z3 (.cells #[.int .i64 rb.i, .int .i64 rb.j, .int .i64 rb.re, .int .i64 rb.im, .int .i64 rb.den, .int .i64 rb.n] 60)
          go_upto_region 18 with fail
          replace hB := below_to hB hq
          replace SM := Lib.hid (SM.out.below hq)
          replace oA := oA.below hq
          clear hq
          obtain ⟨bB, hB⟩ : ∃ B, B = z3.heap.size := ⟨_, rfl⟩
          rw [← hB] at oB ⊢
          clear hB
          generalize z3.alloc (.cells #[.int .i64 rb.i, .int .i64 rb.j, .int .i64 rb.re, .int .i64 rb.im, .int .i64 rb.den, .int .i64 rb.n] 60) = z4 at *
          go_wp2_with fail
          refine (vMean_any (l.map fun v => v.by n) _ _ SM.out).mono ?_
          rintro e z5 ⟨rfl, hq⟩
          replace hB := below_to hB hq
          replace oA := oA.below hq
          replace oB := oB.below hq
          clear hq
          generalize hrc : vMean (l.map fun v => v.by n) = rc at *
          have RC := Lib.hid hrc
          clear hrc SM
          unfold VR.res
          have oC := Own.new z5 60 [.int .i64 rc.i, .int .i64 rc.j, .int .i64 rc.re, .int .i64 rc.im, .int .i64 rc.den, .int .i64 rc.n]
          have hq := ba1 z5 (.cells #[.int .i64 rc.i, .int .i64 rc.j, .int .i64 rc.re, .int .i64 rc.im, .int .i64 rc.den, .int .i64 rc.n] 60)
          go_upto_region 19 with fail
          replace hB := below_to hB hq
          replace oA := oA.below hq
          replace oB := oB.below hq
          clear hq
          obtain ⟨bC, hC⟩ : ∃ B, B = z5.heap.size := ⟨_, rfl⟩
          rw [← hC] at oC ⊢
          clear hC
          generalize z5.alloc (.cells #[.int .i64 rc.i, .int .i64 rc.j, .int .i64 rc.re, .int .i64 rc.im, .int .i64 rc.den, .int .i64 rc.n] 60) = z6 at *
          by_cases f1 : ra.e = 0
          · have q3 : (ra.e == 0) = true := by simp [f1]
            have q4 : (ra.e == 18) = false := by simp [f1]
            have nb : ¬ rb.e = 18 := fun h => by have := K2.out.1 h; rw [f1] at this; cases this
            have nc : ¬ rc.e = 18 := fun h => by have := K4.out.1 h; rw [f1] at this; cases this
            have q5 : (rb.e == 18) = false := by simpa using nb
            have q6 : (rc.e == 18) = false := by simpa using nc
            have M3 : Hid (rc.e = 0 → rc = ⟨ra.i, ra.j, ra.re, ra.im, ra.den, ra.n * n, 0⟩) := fun h => K3.out f1 h
            have M1 : Hid (rb.e = 0 → rb = ra) := fun h => K1.out f1 h
            have AN : Hid (0 ≤ ra.n ∧ ra.n ≤ 1000000) := by
              obtain ⟨_, _, _, w1, w2, _, hv⟩ := vMean_is (l := l) (by rw [RA.out]; exact f1) hl0
              rw [RA.out] at hv
              rw [hv]; exact ⟨by show 0 ≤ ws l; omega, w2⟩
            have WN : wrap64 (n * ra.n) = ra.n * n := by
              rw [Int.mul_comm]
              have a := AN.out
              have c := N1.out
              have b1 := Int.mul_nonneg a.1 (show 0 ≤ n by omega)
              have b2 := Int.mul_le_mul_of_nonneg_right (a := ra.n) (b := 1000000) (c := n) a.2 (by omega)
              unfold wrap64; omega
            clear nb nc K1 K2 K3 K4 AN RA RB RC
            by_cases f2 : rb.e = 0
            · have h := M1.out f2
              subst h
              by_cases f3 : rc.e = 0
              · have h := M3.out f3
                subst h
                clear M1 M3
                obtain ⟨rA, fA⟩ := oA.rules
                have zA := oA.lt
                obtain ⟨rB, fB⟩ := oB.rules
                have zB := oB.lt
                obtain ⟨rC, fC⟩ := oC.rules
                have zC := oC.lt
                go_wp2
                go_ret
                exact ⟨by simp, hB⟩
              · have q8 : (rc.e == 0) = false := by simpa using f3
                clear M1 M3
                obtain ⟨rA, fA⟩ := oA.rules
                have zA := oA.lt
                obtain ⟨rB, fB⟩ := oB.rules
                have zB := oB.lt
                go_wp2
                go_ret
                exact ⟨by simp, hB⟩
            · have q7 : (rb.e == 0) = false := by simpa using f2
              by_cases f3 : rc.e = 0
              · have h := M3.out f3
                subst h
                clear M1 M3
                obtain ⟨rA, fA⟩ := oA.rules
                have zA := oA.lt
                obtain ⟨rC, fC⟩ := oC.rules
                have zC := oC.lt
                go_wp2
                go_ret
                exact ⟨by simp, hB⟩
              · have q8 : (rc.e == 0) = false := by simpa using f3
                clear M1 M3
                go_wp2
                go_ret
                exact ⟨by simp, hB⟩
          · have q3 : (ra.e == 0) = false := by simpa using f1
            by_cases f2 : ra.e = 18
            · have g2 : rb.e = 18 := K2.out.2 f2
              have g3 : rc.e = 18 := K4.out.2 f2
              rw [f2] at q3 ⊢
              rw [g2, g3]
              clear RA RB RC K1 K2 K3 K4
              go_wp2
              go_ret
              exact ⟨by simp, hB⟩
            · have q4 : (ra.e == 18) = false := by simpa using f2
              have q5 : (rb.e == 18) = false := by simp; exact fun h => f2 (K2.out.1 h)
              have q6 : (rc.e == 18) = false := by simp; exact fun h => f2 (K4.out.1 h)
              clear RA RB RC K1 K2 K3 K4
              go_wp2
              go_ret
              exact ⟨by simp, hB⟩
          
end Go.Proofs.Ytpjhiojdnebgoaa

