/- What is proved here: contracts of functions and plain facts, several texts in one; each one says ahead what it proves, and its conditions. -/
import Derived.Test.YtfbigmjlppdlhaaC19
import Derived.Test.YtfbigmjlppdlhaaC38
/- What is proved here: the contract of nnls.Gradient. Condition: a system and a slice of fractions that can be read. -/
namespace Go.Proofs.Ytfbigmjlppdlhaa
open Go.RowKit

set_option maxRecDepth 100000 in
set_option maxHeartbeats 16000000 in
theorem ngrad_own (A : List (List Int)) (B : List Int) (x : List (Int × Int)) (va vb vx : Value) (w : World) (hA : SS w va A) (hB : SI w vb B) (hx : SF w vx x) (ix : FI x) :
    Calls Try.prog 18 #[.agg #[va, vb], vx] w (rows_own w (nGradient A B x)) := by
  have IX := Lib.hid ix
  obtain ⟨adx, capx, rfl, hx1, hx2, _⟩ := hx.open
  clear ix
  go_enter Try.func18, Try.ntmps18
  have oS := Own.new w 25 [va, vb]
  have hy := ba1 w (.cells #[va, vb] 25)
  replace hA := hA.below hy
  replace hB := hB.below hy
  replace hx := hx.below hy
  obtain ⟨rS, fS⟩ := oS.rules
  have zS := oS.lt
  go_wp2_with fail
  refine (nresid_any A B x _ _ _ _ hA hB hx IX.out).mono ?_
  rintro e y1 ⟨u, rfl, su, hq⟩
  clear rS fS zS
  replace oS := oS.below hq
  replace hA := hA.below hq
  replace hB := hB.below hq
  replace hx := hx.below hq
  replace hy := below_to hy hq
  clear hq
  obtain ⟨rS, fS⟩ := oS.rules
  have zS := oS.lt
  by_cases h0 : (nResidual A B x).2 = 0
  case neg =>
    have HV := Lib.hid (nGrad_1 h0)
    have b1 : ((nResidual A B x).2 != 0) = true := by simpa using h0
    clear h0 hA hB hx su
    go_wp2
    go_ret2
    exact ⟨.slice none 0 0, by rw [HV.out]; try rfl, by rw [HV.out]; exact owns_nil _ _, hy⟩
  have b1 : ((nResidual A B x).2 != 0) = false := by simp [h0]
  have HV := Lib.hid (nGrad_0 h0)
  obtain ⟨hp, hpe⟩ := nresid_parts h0
  have FX := Lib.hid (FitX.of hp)
  have RO := Lib.hid (resid_ok FX.out (by rw [← hpe]; exact h0))
  rw [← hpe] at RO
  have l1 : A.length ≤ 100 := FX.out.few.1
  have l2 : x.length ≤ 100 := FX.out.few.2
  clear h0 hp hpe
  generalize (nResidual A B x).1 = rs at *
  obtain ⟨adu, capu, rfl, hu1, hu2, _⟩ := su.open
  have SA := Lib.hid hA
  have SU := Lib.hid su
  clear hA hB hx su
  have MK := mk_fracs0 x.length (by omega)
  go_wp2
  clear MK
  have ow := owns_made y1 x.length (by omega) 34 y1.heap.size (Nat.le_refl _)
  have hW := ba1 y1 (.cells (fcs (List.replicate x.length (0, 0))).toArray 34)
  clear rS fS zS
  go_loopw [8, 26] (fun ov i wr => ∃ m : Nat, m ≤ x.length ∧ i = .int .i64 m ∧ Hid ((rowsOf (fun k => gsum (colT A rs k) A.length) m).2 = 0) ∧ wr.ownsRow y1.heap.size 34 2 ov m (fcs (rowsOf (fun k => gsum (colT A rs k) A.length) m).1) ∧ Below y1.heap.size y1 wr) (fun _ i _ => x.length - (intOf i).toNat)
  case atStart => exact ⟨0, Nat.zero_le _, rfl, rfl, ow, hW⟩
  case round =>
    clear ow hW
    obtain ⟨m, hm, rfl, hr, ow, hW⟩ := hrel
    rename World => W
    by_cases hlt : m < x.length
    · have HD := Lib.hid (col_dot (A := A) (r := rs) (k := m))
      have RE := Lib.hid (fun h => rows_end (N := x.length) hr.out hlt h)
      have RS := Lib.hid (fun h => rows_succ (f := fun k => gsum (colT A rs k) A.length) hr.out h)
      have HC := Lib.hid (FX.out.col_small hlt)
      have HK : Hid (∀ i (h : i < A.length), m < A[i].length) := fun i hi => by rw [FX.out.wide i hi]; exact hlt
      have l4 : (colOf A m).length ≤ rs.length := by rw [colOf_len, RO.out.1]; exact Nat.le_refl _
      replace oS := oS.below hW
      obtain ⟨rS, fS⟩ := oS.rules
      have zS := oS.lt
      go_wp2_with fail
      refine (ncol_any A m _ _ _ (SA.out.below hW) l1 HK.out).mono ?_
      rintro e y2 ⟨uc, rfl, sc, hq⟩
      clear rS fS zS
      replace oS := oS.below hq
      replace ow := owns_at ow hq
      replace hW := below_to hW hq
      clear hq
      go_wp2_with fail
      refine (ndot_any (colOf A m) rs _ _ _ sc (SU.out.below hW) l4 HC.out RO.out.2).mono ?_
      rintro e y3 ⟨rfl, hq⟩
      rw [HD.out]
      clear sc
      replace oS := oS.below hq
      replace ow := owns_at ow hq
      replace hW := below_to hW hq
      clear hq
      generalize gsum (colT A rs m) A.length = p at *
      by_cases h1 : p.e = 0
      case neg =>
        have b2 : (p.e != 0) = true := by simpa using h1
        have HV2 := Lib.hid (RE.out h1)
        clear h1 RE RS ow
        go_wp2
        go_ret2
        exact ⟨.slice none 0 0, by rw [HV.out, HV2.out]; try rfl, by rw [HV.out, HV2.out]; exact owns_nil _ _, (below_to hy hW).alloc (by have := (below_to hy hW).size; omega) _⟩
      have b2 : (p.e != 0) = false := by simp [h1]
      have HF := Lib.hid (RS.out h1)
      have HE2 := Lib.hid (congrArg Prod.snd HF.out)
      have HE1 := Lib.hid (congrArg (fun r => fcs r.1) HF.out)
      clear h1 RE RS HF oS
      have zr := hW.size
      go_wp2_with (at_builtin; refine wpList_app _ rfl _ _ _ rfl y1.heap.size 34 2 16 (.agg #[.int .i64 0, .int .i64 0]) Try.underlying26 Try.infoFrac rfl (by omega) (by omega) _ m _ rfl ((ow.alloc _).alloc _) (by omega) (by simp; omega) (y3.heap.size + 1) [.int .i64 p.n, .int .i64 p.d] (0, 0) rfl (by rw [← World.size_alloc]; exact heap_alloc_new (y3.alloc _) _) rfl (by simp [Value.oneCell']) ?_; intro g cap2 w9 hown hg hbw)
      go_roundw
      case rel =>
        refine ⟨m + 1, by omega, by go_num, HE2, ?_, ?_⟩
        · rw [HE1.out, fcs_append]; exact hown
        · exact (below_to hW (ba2 y3 _ _)).trans (hbw.mono (Nat.le_refl _))
      case measure => simp [intOf]; try omega
    · obtain rfl : m = x.length := by omega
      go_wp2
      go_ret2
      refine ⟨u8, by rw [HV.out, hr.out]; try rfl, ?_, below_to hy hW⟩
      rw [HV.out, rows_len _ hr.out]
      exact owns_base ow hy.size
theorem ngrad_any (A : List (List Int)) (B : List Int) (x : List (Int × Int)) (va vb vx : Value) (w : World) (hA : SS w va A) (hB : SI w vb B) (hx : SF w vx x) (ix : FI x) :
    Calls Try.prog 18 #[.agg #[va, vb], vx] w (rows_post w (nGradient A B x)) := (ngrad_own A B x va vb vx w hA hB hx ix).mono fun _ _ h => rows_own_post h
end Go.Proofs.Ytfbigmjlppdlhaa

/- What is proved here: the contract of nnls.Optimal. Condition: a system and a slice of fractions that can be read. -/
namespace Go.Proofs.Ytfbigmjlppdlhaa
open Go.RowKit

set_option maxRecDepth 100000 in
set_option maxHeartbeats 16000000 in
theorem nopt_any (A : List (List Int)) (B : List Int) (x : List (Int × Int)) (va vb vx : Value) (w : World) (hA : SS w va A) (hB : SI w vb B) (hx : SF w vx x) (ix : FI x) :
    Calls Try.prog 22 #[.agg #[va, vb], vx] w fun e w' => e = .returned (.tuple #[.bool (nOptimal A B x).1, .int .i64 (nOptimal A B x).2]) ∧ Below w.heap.size w w' := by
  have IX := Lib.hid ix
  obtain ⟨adx, capx, rfl, hx1, hx2, _⟩ := hx.open
  clear ix
  go_enter Try.func22, Try.ntmps22
  have oS := Own.new w 25 [va, vb]
  have hy := ba1 w (.cells #[va, vb] 25)
  replace hA := hA.below hy
  replace hB := hB.below hy
  replace hx := hx.below hy
  obtain ⟨rS, fS⟩ := oS.rules
  have zS := oS.lt
  go_wp2_with fail
  refine (ngrad_any A B x _ _ _ _ hA hB hx IX.out).mono ?_
  rintro e y1 ⟨u, rfl, su, hq⟩
  clear rS fS zS
  replace oS := oS.below hq
  replace hA := hA.below hq
  replace hB := hB.below hq
  replace hx := hx.below hq
  replace hy := below_to hy hq
  clear hq
  obtain ⟨rS, fS⟩ := oS.rules
  have zS := oS.lt
  by_cases h0 : (nGradient A B x).2 = 0
  case neg =>
    have HV := Lib.hid (nOpt_1 h0)
    have b1 : ((nGradient A B x).2 != 0) = true := by simpa using h0
    clear h0 hA hB hx su
    go_wp2
    go_ret2
    exact ⟨by rw [HV.out]; try rfl, hy⟩
  have b1 : ((nGradient A B x).2 != 0) = false := by simp [h0]
  have HV := Lib.hid (nOpt_0 h0)
  obtain ⟨hp, hl⟩ := grad_len h0
  have PX : Hid (∀ i (h : i < x.length), 0 ≤ x[i].1) := fun i hi => ((point_of hp).2 i hi).2
  have HL := Lib.hid hl
  clear h0 hp hl
  generalize (nGradient A B x).1 = g at *
  have l1 : g.length ≤ x.length := by rw [HL.out]; exact Nat.le_refl _
  obtain ⟨adu, capu, rfl, hu1, hu2, _⟩ := su.open
  have SX := Lib.hid hx
  have SU := Lib.hid su
  clear hA hB hx su rS fS zS
  go_wp2
  go_loopw [21] (fun i wr => ∃ k : Nat, k ≤ g.length ∧ i = .int .i64 k ∧ Hid (noptB g x k = true) ∧ Below y1.heap.size y1 wr) (fun i _ => g.length - (intOf i).toNat)
  case atStart => exact ⟨0, Nat.zero_le _, rfl, rfl, Below.refl _ _⟩
  case round =>
    obtain ⟨k, hk, rfl, hv, hW⟩ := hrel
    rename World => W
    by_cases hlt : k < g.length
    · have hkx : k < x.length := by omega
      obtain ⟨_, _, e, _, _, H⟩ := (SU.out.below hW).open
      cases e
      obtain ⟨b, off, rfl, c1, c2⟩ := H.out k hlt
      obtain ⟨_, _, e, _, _, H'⟩ := (SX.out.below hW).open
      cases e
      obtain ⟨b', off', rfl, c3, c4⟩ := H'.out k hkx
      clear H H'
      have NS := Lib.hid (noptB_succ hlt hkx hv.out)
      have NN := Lib.hid (noptB_not (g := g) (x := x) (n := g.length) hlt hlt hkx)
      have px := PX.out k hkx
      have zb := World.block_lt_of_cell? _ _ c3
      simp only at zb
      generalize g[k].1 = gn at *
      generalize g[k].2 = gd at *
      generalize x[k].1 = xn at *
      generalize x[k].2 = xd at *
      by_cases h1 : gn < 0
      · have b2 : decide (gn < 0) = true := by simpa using h1
        have HN := Lib.hid (NN.out (by simp [noptN, b2]))
        clear NS NN h1
        go_wp2
        go_ret2
        exact ⟨by rw [HV.out, HN.out]; try rfl, (below_to hy hW).alloc (by have := (below_to hy hW).size; omega) _⟩
      have b2 : decide (gn < 0) = false := by simpa using h1
      by_cases h2 : gn = 0
      · have HN := Lib.hid (NS.out (by simp [noptN, h2]))
        have b3 : (gn != 0) = false := by simp [h2]
        clear NS NN h1 h2
        go_wp2
        go_roundw
        case rel => exact ⟨k + 1, by omega, by go_num, HN, below_to hW (ba1 _ _)⟩
        case measure => simp [intOf]; try omega
      have b3 : (gn != 0) = true := by simpa using h2
      have b5 : decide (0 < gn) = true := by simp; omega
      by_cases h3 : xn = 0
      · have b6 : decide (0 < xn) = false := by simp; omega
        have HN := Lib.hid (NS.out (by simp [noptN, b2, b6]))
        have b4 : (xn != 0) = false := by simp [h3]
        clear NS NN h1 h2 h3 b5 b6
        go_wp2
        go_roundw
        case rel => exact ⟨k + 1, by omega, by go_num, HN, below_to hW (ba1 _ _)⟩
        case measure => simp [intOf]; try omega
      · have b6 : decide (0 < xn) = true := by simp; omega
        have HN := Lib.hid (NN.out (by simp [noptN, b5, b6]))
        have b4 : (xn != 0) = true := by simpa using h3
        clear NS NN h1 h2 h3 b5 b6
        go_wp2
        go_ret2
        exact ⟨by rw [HV.out, HN.out]; try rfl, (below_to hy hW).alloc (by have := (below_to hy hW).size; omega) _⟩
    · obtain rfl : k = g.length := by omega
      go_wp2
      go_ret2
      exact ⟨by rw [HV.out, hv.out]; try rfl, below_to hy hW⟩
end Go.Proofs.Ytfbigmjlppdlhaa
