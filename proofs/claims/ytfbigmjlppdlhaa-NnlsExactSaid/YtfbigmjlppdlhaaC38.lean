/- What is proved here: contracts of functions and plain facts, several texts in one; each one says ahead what it proves, and its conditions. -/
import Derived.Test.YtfbigmjlppdlhaaC36
import Derived.Test.YtfbigmjlppdlhaaC37
import Derived.Test.YtfbigmjlppdlhaaC06
import Derived.Test.YtfbigmjlppdlhaaC04
import Derived.Test.YtfbigmjlppdlhaaC05
import Derived.Test.YtfbigmjlppdlhaaC01
import Derived.Test.YtfbigmjlppdlhaaC32
import Derived.Test.YtfbigmjlppdlhaaC23
import Derived.Test.YtfbigmjlppdlhaaC35
/- What is proved here: small forms of the contracts of Product and abs; the order of two fractions decides their equality. Condition: 64-bit numbers. -/
namespace Go.Proofs.Ytfbigmjlppdlhaa
open Go.RowKit

theorem product_of (m n : Int) (a b : Nat) (w : World) (hm : m = a) (hn : n = b) (ha : a ≤ 18446744073709551615) (hb : b ≤ 18446744073709551615) :
    Calls Try.prog 111 #[.int .u64 m, .int .u64 n] w fun e w' => e = .returned (.agg #[.int .u64 (dg (a * b) 0), .int .u64 (dg (a * b) 1), .int .u64 (dg (a * b) 2), .int .u64 (dg (a * b) 3)]) ∧ Below w.heap.size w w' := by
  subst hm hn; exact product_any a b w ha hb
theorem abs_grow (n : Int) (w : World) (h1 : -9223372036854775808 ≤ n) (h2 : n ≤ 9223372036854775807) :
    Calls Try.prog 104 #[.int .i64 n] w fun e w' => e = .returned (.int .u64 (n.natAbs : Int)) ∧ Below w.heap.size w w' :=
  (abs_any n w h1 h2).mono fun e w' ⟨he, hw⟩ => ⟨he, by subst hw; exact Below.refl _ _⟩

theorem fcmp_self (n d : Int) : fcmp n d n d = 0 := by unfold fcmp; rw [if_neg (by omega), if_pos rfl]
theorem fcmp_eq {an ad bn bd : Int} (h1 : fchk an ad = 0) (h2 : fchk bn bd = 0) (h : fcmp an ad bn bd = 0) : an = bn ∧ ad = bd := by
  obtain ⟨u1, u2, u3, u4, u5⟩ := fok_of h1
  obtain ⟨v1, v2, v3, v4, v5⟩ := fok_of h2
  have he : an * bd = bn * ad := by
    unfold fcmp at h; split at h
    · omega
    · split at h
      · assumption
      · omega
  have hn : an.natAbs * bd.natAbs = bn.natAbs * ad.natAbs := by rw [← Int.natAbs_mul, ← Int.natAbs_mul, he]
  have d1 : bd.natAbs ∣ ad.natAbs := by
    have : bd.natAbs ∣ bn.natAbs * ad.natAbs := ⟨an.natAbs, by rw [← hn, Nat.mul_comm]⟩
    exact (Nat.Coprime.dvd_of_dvd_mul_left (Nat.Coprime.symm v5) this)
  have d2 : ad.natAbs ∣ bd.natAbs := by
    have : ad.natAbs ∣ an.natAbs * bd.natAbs := ⟨bn.natAbs, by rw [hn, Nat.mul_comm]⟩
    exact (Nat.Coprime.dvd_of_dvd_mul_left (Nat.Coprime.symm u5) this)
  have e1 := Nat.dvd_antisymm d1 d2
  have e2 : ad = bd := by omega
  subst e2
  exact ⟨Int.eq_of_mul_eq_mul_right (by omega) he, rfl⟩
theorem fcmp_cases (an ad bn bd : Int) : fcmp an ad bn bd = -1 ∨ fcmp an ad bn bd = 0 ∨ fcmp an ad bn bd = 1 := by
  unfold fcmp; split
  · simp
  · split <;> simp

end Go.Proofs.Ytfbigmjlppdlhaa

/- What is proved here: the contract of fringelaw37.ints. Condition: a slice of 64-bit numbers, at most 100. -/
namespace Go.Proofs.Ytfbigmjlppdlhaa
open Go.RowKit

set_option maxRecDepth 100000 in
set_option maxHeartbeats 4000000 in
theorem ints37_any (l : List Int) (v : Value) (w : World) (hs : SI w v l) (hl : l.length ≤ 100) : Calls Try.prog 51 #[v] w (fracs_post w (l.map fun n => (n, 1))) := by
  have hs0 := Lib.hid hs
  obtain ⟨ad, cap, rfl, h1, h2, _⟩ := hs.open
  clear hs
  go_enter Try.func51, Try.ntmps51
  go_wp2
  go_loopw [3, 4] (fun ov i wr => ∃ m : Nat, m ≤ l.length ∧ i = .int .i64 m ∧ wr.ownsRow w.heap.size 34 2 ov m (fcs ((l.take m).map fun n => (n, 1))) ∧ Below w.heap.size w wr) (fun _ i _ => l.length - (intOf i).toNat)
  case atStart => exact ⟨0, Nat.zero_le _, rfl, World.ownsRow_nil _ _ _ _, Below.refl _ _⟩
  case round =>
    obtain ⟨m, hm, rfl, ow, hW⟩ := hrel
    rename World => W
    by_cases hlt : m < l.length
    · obtain ⟨_, _, e, _, _, H⟩ := (hs0.out.below hW).open
      cases e
      obtain ⟨b, off, rfl, c1⟩ := H.out m hlt
      clear H
      have HE : Hid (((l.take (m + 1)).map fun n => ((n, 1) : Int × Int)) = ((l.take m).map fun n => ((n, 1) : Int × Int)) ++ [(l[m], 1)]) := by
        show _ = _
        rw [List.take_succ_eq_append_getElem hlt, List.map_append]; rfl
      generalize l[m] = lm at *
      go_wp2_with fail
      refine (rof_any lm _).mono ?_
      rintro e y2 ⟨rfl, hq⟩
      replace ow := owns_at ow hq
      replace hW := below_to hW hq
      clear hq c1
      have zr := hW.size
      go_wp2_with (at_builtin; refine wpList_app _ rfl _ _ _ rfl w.heap.size 34 2 16 (.agg #[.int .i64 0, .int .i64 0]) Try.underlying26 Try.infoFrac rfl (by omega) (by omega) _ m _ rfl (ow.alloc _) (by omega) (by simp; omega) y2.heap.size [.int .i64 lm, .int .i64 1] (0, 0) rfl (heap_alloc_new y2 _) rfl (by simp [Value.oneCell']) ?_; intro g cap2 w9 hown hg hbw)
      go_roundw
      case rel =>
        refine ⟨m + 1, by omega, by go_num, ?_, ?_⟩
        · rw [HE.out, fcs_append]; exact hown
        · exact (below_to hW (ba1 y2 _)).trans (hbw.mono (Nat.le_refl _))
      case measure => simp [intOf]; try omega
    · obtain rfl : m = l.length := by omega
      have hsl : SF W u3 (l.map fun n => (n, 1)) := by
        have h9 := owns_sl ow (by omega)
        rw [List.take_of_length_le (Nat.le_refl _)] at h9
        unfold SF
        rw [List.length_map]
        exact h9
      clear ow
      go_wp2
      go_ret
      exact ⟨u3, rfl, hsl, hW⟩
end Go.Proofs.Ytfbigmjlppdlhaa

/- What is proved here: the contract of frac.Make. Condition: the numbers are 64-bit integers. -/
namespace Go.Proofs.Ytfbigmjlppdlhaa
open Go.RowKit

set_option maxHeartbeats 800000 in
theorem make_any (num den : Int) (w : World) (h1 : i64 num) (h2 : i64 den) :
    Calls Try.prog 98 #[.int .i64 num, .int .i64 den] w fun e w' => e = .returned (.tuple #[.agg #[.int .i64 (fmk num den).n, .int .i64 (fmk num den).d], .int .i64 (fmk num den).e]) ∧ Below w.heap.size w w' := by
  by_cases h : den = 0
  · subst h
    rw [fmk_0]
    go_enter Try.func98, Try.ntmps98
    go_wp2
    exact bodyPost_ret (v := .tuple #[.agg #[.int .i64 0, .int .i64 0], .int .i64 18]) (by simp [results, Try.results98, go_sem]) rfl ⟨rfl, ba1 _ _⟩
  · have H := Lib.hid (fmk_ne (num := num) h)
    obtain ⟨n1, n2⟩ := h1
    obtain ⟨d1, d2⟩ := h2
    have b1 : (den == 0) = false := by simpa using h
    have hg : 0 < Nat.gcd num.natAbs den.natAbs := Nat.gcd_pos_of_pos_right _ (by omega)
    have hgl : Nat.gcd num.natAbs den.natAbs ≤ den.natAbs := Nat.gcd_le_right _ (by omega)
    have na : num.natAbs ≤ 9223372036854775808 := by omega
    have da : den.natAbs ≤ 9223372036854775808 := by omega
    have q1 := quo_bd num.natAbs (Nat.gcd num.natAbs den.natAbs) na
    have q2 := quo_bd den.natAbs (Nat.gcd num.natAbs den.natAbs) da
    have e1 := wrap_quo num.natAbs (Nat.gcd num.natAbs den.natAbs) na
    have e2 := wrap_quo den.natAbs (Nat.gcd num.natAbs den.natAbs) da
    generalize hgg : Nat.gcd num.natAbs den.natAbs = g at *
    have HG := Lib.hid hgg
    have g0 : ((g : Int) == 0) = false := by simp; omega
    have g1 : ¬ ((g : Int) = 0) := by omega
    clear hgg h
    go_enter Try.func98, Try.ntmps98
    go_wp2_with fail
    refine (size_any _ _ (by omega) (by omega)).mono ?_
    rintro e _ ⟨rfl, rfl⟩
    go_wp2_with fail
    refine (size_any _ _ (by omega) (by omega)).mono ?_
    rintro e _ ⟨rfl, rfl⟩
    go_wp2_with fail
    refine (gcd_any _ _ _ (by omega) (by omega)).mono ?_
    rintro e w1 ⟨rfl, nd, rfl⟩
    rw [HG.out]
    go_wp2_with fail
    refine wp_region_st [.t [0, 1, 2, 3, 4, 5, 6, 7, 8, 9, 10], .f 11, .t [12, 13]] [14, 15] (by kernel_rfl) (by kernel_rfl) (fun _ _ _ _ _ h => h) ?_
    refine wpX_t ?_
    try simp only [opsAt, List.getElem?_toArray, List.getElem?_cons_zero, List.getElem?_cons_succ, Option.getD_some]
    repeat (go_big_quiet_step (fail))
    refine wpQuiet_nil ?_
    refine wpX_f rfl rfl (fun K' hK' => ?_)
    go_simp
    refine (build_any _ _ _ _ (by omega) (by omega) (by omega) (by omega)).mono ?_
    rintro e w1 ⟨rfl, hb1⟩
    refine hK' _ _ (grow_of (below_to ((Below.refl _ _).drew) hb1)) ?_
    clear hK' K'
    obtain ⟨c1, f1⟩ := bcell hb1
    have z1 := (hb1).size
    try simp at z1
    try simp at c1
    try simp at f1
    refine wpX_t ?_
    try simp only [opsAt, List.getElem?_toArray, List.getElem?_cons_zero, List.getElem?_cons_succ, Option.getD_some]
    repeat (go_big_quiet_step (fail))
    refine wpQuiet_nil ?_
    refine wpX_nil ?_
    try simp only [opsAt, List.getElem?_toArray, List.getElem?_cons_zero, List.getElem?_cons_succ, Option.getD_some]
    go_wp2
    generalize hr : bld (!decide (num < 0) == decide (den < 0)) (↑num.natAbs / ↑g) (↑den.natAbs / ↑g) = r at *
    have HR : Hid (fmk num den = r) := by show _ = _; rw [H.out, ← hr]; rfl
    clear hr H
    refine bodyPost_ret (v := .tuple #[.agg #[.int .i64 r.n, .int .i64 r.d], .int .i64 r.e]) (by simp [results, Try.results98, go_sem, c1]) rfl ⟨by rw [HR.out], ?_⟩
    repeat (refine Below.setCell ?_ (by first | omega | (simp; done) | (simp; omega)) _)
    exact below_to (ba1 _ _) (below_to (below_drewN _ _) hb1)

end Go.Proofs.Ytfbigmjlppdlhaa

/- What is proved here: the contract of nnls.column. Condition: a list of rows that can be read, of which each has the column. -/
namespace Go.Proofs.Ytfbigmjlppdlhaa
open Go.RowKit

def ints_post (w : World) (xs : List Int) (e : Ending) (w' : World) : Prop := ∃ u, e = .returned u ∧ SI w' u xs ∧ Below w.heap.size w w'
set_option maxRecDepth 100000 in
set_option maxHeartbeats 4000000 in
theorem ncol_any (A : List (List Int)) (k : Nat) (va vb : Value) (w : World) (hA : SS w va A) (l1 : A.length ≤ 100) (hk : ∀ i (h : i < A.length), k < A[i].length) :
    Calls Try.prog 70 #[.agg #[va, vb], .int .i64 k] w (ints_post w (colOf A k)) := by
  have HK := Lib.hid hk
  obtain ⟨ada, capa, rfl, ha1, ha2, _⟩ := hA.open
  clear hk
  go_enter Try.func70, Try.ntmps70
  have oS := Own.new w 25 [.slice ada A.length capa, vb]
  have hy := ba1 w (.cells #[.slice ada A.length capa, vb] 25)
  have SA := Lib.hid (hA.below hy)
  clear hA
  have MK := mk_ints A.length (by omega)
  obtain ⟨rS, fS⟩ := oS.rules
  have zS := oS.lt
  go_wp2
  clear MK rS fS zS
  have oC := own_second w 3 (ics (List.replicate A.length 0)) (.cells #[.slice ada A.length capa, vb] 25)
  have hW := ba1 (w.alloc (.cells #[.slice ada A.length capa, vb] 25)) (.cells (ics (List.replicate A.length 0)).toArray 3)
  have zS := oS.lt
  go_loopw [15] (fun i wr => ∃ m : Nat, m ≤ A.length ∧ i = .int .i64 m ∧ Own wr (w.heap.size + 1) 3 (ics ((colOf A k).take m ++ List.replicate (A.length - m) 0)) ∧ Below (w.alloc (.cells #[.slice ada A.length capa, vb] 25)).heap.size (w.alloc (.cells #[.slice ada A.length capa, vb] 25)) wr) (fun i _ => A.length - (intOf i).toNat)
  case atStart => exact ⟨0, Nat.zero_le _, rfl, by simpa using oC, hW⟩
  case round =>
    clear oC hW
    obtain ⟨m, hm, rfl, oC, hW⟩ := hrel
    rename World => W
    by_cases hlt : m < A.length
    · obtain ⟨_, _, e, _, _, H⟩ := (SA.out.below hW).open
      cases e
      obtain ⟨b, off, ad', cap', rfl, c1, c2, c3, sR⟩ := H.out m hlt
      obtain ⟨_, _, e, _, _, H'⟩ := sR.open
      cases e
      have hkm := HK.out m hlt
      obtain ⟨b', off', rfl, c4⟩ := H'.out k hkm
      have CG := Lib.hid (colOf_get (k := k) hlt)
      rw [cel_get hlt hkm] at CG
      clear H H' sR
      generalize A[m][k] = amk at *
      generalize A[m].length = rl at *
      obtain ⟨v1, g1⟩ := ics_some ((colOf A k).take m ++ List.replicate (A.length - m) 0) m (by have := colOf_len A k; simp; omega)
      obtain ⟨rC, fC⟩ := oC.rules
      have zC := oC.lt
      go_wp2
      go_roundw
      case rel =>
        refine ⟨m + 1, by omega, by go_num, ?_, ?_⟩
        · have o2 := oC.set m (.int .i64 amk)
          unfold ics at o2 ⊢
          rw [fill_set (colOf A k) 0 (Value.int .i64) m A.length (colOf_len A k) hlt amk CG.out] at o2
          exact o2
        · exact hW.setCell (p := ⟨w.heap.size + 1, m, none⟩) (by simp) _
      case measure => simp [intOf]; try omega
    · obtain rfl : m = A.length := by omega
      have hsl : SI W (.slice (some ⟨w.heap.size + 1, 0, none⟩) A.length A.length) (colOf A k) := by
        unfold SI
        rw [colOf_len]
        exact oC.sl (n := A.length) A.length (Nat.le_refl _) (by omega) _ ⟨[], by rw [Nat.sub_self, List.take_of_length_le (by rw [colOf_len]; exact Nat.le_refl _)]; simp [ics]⟩
      clear oC
      go_wp2
      go_ret
      exact ⟨_, rfl, hsl, below_to hy hW⟩
end Go.Proofs.Ytfbigmjlppdlhaa

/- What is proved here: the contracts of fringeref37.Point and Both. Condition: a system and a slice of fractions that can be read; Point: a system that has a row. -/
namespace Go.Proofs.Ytfbigmjlppdlhaa
open Go.RowKit

set_option maxRecDepth 100000 in
set_option maxHeartbeats 4000000 in
theorem rnpt_any (A : List (List Int)) (x : List (Int × Int)) (va vb vx : Value) (w : World) (hA : SS w va A) (hx : SF w vx x) (ix : FI x) (l1 : 0 < A.length) :
    Calls Try.prog 60 #[.agg #[va, vb], vx] w fun e w' => e = .returned (.bool (pointB (A.getD 0 []).length x)) ∧ Below w.heap.size w w' := by
  have IX := Lib.hid ix
  obtain ⟨ada, capa, rfl, ha1, ha2, _⟩ := hA.open
  obtain ⟨adx, capx, rfl, hx1, hx2, _⟩ := hx.open
  clear ix
  have G0 : Hid ((A.getD 0 []).length = A[0].length) := by show _ = _; rw [getD_get l1]
  go_enter Try.func60, Try.ntmps60
  have oS := Own.new w 25 [.slice ada A.length capa, vb]
  have hy := ba1 w (.cells #[.slice ada A.length capa, vb] 25)
  have SA := Lib.hid (hA.below hy)
  have SX := Lib.hid (hx.below hy)
  clear hA hx
  go_wp2_with fail
  generalize w.alloc (.cells #[.slice ada A.length capa, vb] 25) = y1 at *
  go_loopw [5] (fun i wr => ∃ k : Nat, k ≤ x.length ∧ i = .int .i64 k ∧ Hid ((x.take k).all ptB = true) ∧ Below y1.heap.size y1 wr) (fun i _ => x.length - (intOf i).toNat)
  case atStart => exact ⟨0, Nat.zero_le _, rfl, rfl, Below.refl _ _⟩
  case round =>
    obtain ⟨k, hk, rfl, hv, hW⟩ := hrel
    rename World => W
    by_cases hlt : k < x.length
    · obtain ⟨_, _, e, _, _, H⟩ := (SX.out.below hW).open
      cases e
      obtain ⟨b', off', rfl, c1, c2⟩ := H.out k hlt
      obtain ⟨i1, i2⟩ := IX.out.get k hlt
      clear H
      have XN := Lib.hid (fun h => pointB_all (n := (A.getD 0 []).length) (all_not (p := ptB) hlt h))
      have XT := Lib.hid (fun h => all_take (p := ptB) hlt hv.out h)
      have K1 := Lib.hid (ptB_chk (p := x[k]))
      have K2 := Lib.hid (ptB_neg (p := x[k]))
      have K3 := Lib.hid (ptB_ok (p := x[k]))
      generalize x[k].1 = n1 at *
      generalize x[k].2 = d1 at *
      go_wp2_with fail
      refine (rcheck_any n1 d1 _ i1 i2).mono ?_
      rintro e y2 ⟨rfl, hq⟩
      replace c1 := below_cell hq c1
      replace c2 := below_cell hq c2
      replace hW := below_to hW hq
      clear hq
      by_cases h1 : fchk n1 d1 = 0
      case neg =>
        have HV := Lib.hid (XN.out (K1.out h1))
        have b3 : (fchk n1 d1 != 0) = true := by simpa using h1
        clear h1 XN XT K1 K2 K3
        go_wp2
        go_ret
        exact ⟨by rw [HV.out]; try rfl, below_to hy hW⟩
      have b3 : (fchk n1 d1 != 0) = false := by simp [h1]
      by_cases h2 : n1 < 0
      · have HV := Lib.hid (XN.out (K2.out h2))
        have b4 : decide (n1 < 0) = true := by simpa using h2
        clear h1 XN XT K1 K2 K3
        go_wp2
        go_ret
        exact ⟨by rw [HV.out]; try rfl, below_to hy hW⟩
      have b4 : decide (n1 < 0) = false := by simpa using h2
      have HV := Lib.hid (XT.out (K3.out h1 (by omega)))
      clear h1 XN XT K1 K2 K3
      go_wp2
      go_roundw
      case rel => exact ⟨k + 1, by omega, by go_num, HV, hW⟩
      case measure => simp [intOf]; try omega
    · have HV := Lib.hid (pointB_ok (n := (A.getD 0 []).length) (all_end hlt hv.out))
      obtain ⟨_, _, e, _, _, H⟩ := (SA.out.below hW).open
      cases e
      obtain ⟨b, off, ad0, cap0, rfl, d1, d2, d3, _⟩ := H.out 0 l1
      rw [Nat.add_zero] at d1
      clear H
      generalize A[0].length = n at *
      replace oS := oS.below hW
      obtain ⟨rS, fS⟩ := oS.rules
      have zS := oS.lt
      by_cases hl : x.length = n
      · have b5 : ((x.length : Int) == (n : Int)) = true := by simp [hl]
        have HL : Hid (decide (x.length = n) = true) := by show _ = _; simp [hl]
        clear hl
        go_wp2
        go_ret
        exact ⟨by rw [HV.out, G0.out, HL.out]; try rfl, below_to hy hW⟩
      · have b5 : ((x.length : Int) == (n : Int)) = false := by simp; omega
        have HL : Hid (decide (x.length = n) = false) := by show _ = _; simp [hl]
        clear hl
        go_wp2
        go_ret
        exact ⟨by rw [HV.out, G0.out, HL.out]; try rfl, below_to hy hW⟩
set_option maxRecDepth 100000 in
set_option maxHeartbeats 4000000 in
theorem rnboth_any (A : List (List Int)) (B : List Int) (x : List (Int × Int)) (va vb vx : Value) (w : World) (hA : SS w va A) (hB : SI w vb B) (hx : SF w vx x) (ix : FI x) :
    Calls Try.prog 68 #[.agg #[va, vb], vx] w fun e w' => e = .returned (.int .i64 (npoint A B x)) ∧ Below w.heap.size w w' := by
  have IX := Lib.hid ix
  clear ix
  go_enter Try.func68, Try.ntmps68
  have oS := Own.new w 25 [va, vb]
  have hy := ba1 w (.cells #[va, vb] 25)
  replace hA := hA.below hy
  replace hB := hB.below hy
  replace hx := hx.below hy
  obtain ⟨rS, fS⟩ := oS.rules
  have zS := oS.lt
  go_wp2_with fail
  refine (rncheck_any A B _ _ _ hA hB).mono ?_
  rintro e y1 ⟨rfl, hq⟩
  clear rS fS zS
  replace oS := oS.below hq
  replace hA := hA.below hq
  replace hB := hB.below hq
  replace hx := hx.below hq
  replace hy := below_to hy hq
  clear hq
  obtain ⟨rS, fS⟩ := oS.rules
  have zS := oS.lt
  by_cases h0 : ncheck A B = 0
  case neg =>
    have HV := Lib.hid (npoint_c (x := x) h0)
    have b1 : (ncheck A B != 0) = true := by simpa using h0
    clear h0 hA hB hx
    go_wp2
    go_ret
    exact ⟨by rw [HV.out]; try rfl, hy⟩
  have b1 : (ncheck A B != 0) = false := by simp [h0]
  have H0 := Lib.hid h0
  have l1 := ncheck_len h0
  clear h0
  go_wp2_with fail
  refine (rnpt_any A x _ _ _ _ hA hx IX.out l1).mono ?_
  rintro e y2 ⟨rfl, hq⟩
  clear rS fS zS
  replace oS := oS.below hq
  replace hA := hA.below hq
  replace hB := hB.below hq
  replace hx := hx.below hq
  replace hy := below_to hy hq
  clear hq
  obtain ⟨rS, fS⟩ := oS.rules
  have zS := oS.lt
  by_cases hp : pointB (A.getD 0 []).length x = true
  · have HV := Lib.hid (npoint_0 H0.out hp)
    rw [hp]
    clear hp hA hB hx
    go_wp2
    go_ret
    exact ⟨by rw [HV.out]; try rfl, hy⟩
  · have hp' : pointB (A.getD 0 []).length x = false := by simpa using hp
    have HV := Lib.hid (npoint_2 H0.out hp')
    rw [hp']
    clear hp hp' hA hB hx
    go_wp2
    go_ret
    exact ⟨by rw [HV.out]; try rfl, hy⟩
end Go.Proofs.Ytfbigmjlppdlhaa
