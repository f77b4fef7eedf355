/- What is proved here: the law TopImage returns true at every input, and what came in reads as it did. No condition. -/
import Derived.Test.YthlcmlngmcoknaaRows
import Derived.Test.YthlcmlngmcoknaaTopImageC
import Derived.Test.YthlcmlngmcoknaaC47
import Derived.Test.YthlcmlngmcoknaaC48
import Derived.WalkKit
import Derived.ProofKit
import Derived.OpenShut
import Derived.ShutString
import Derived.ChangeOld
import Derived.Below
import Derived.Lib.SmallJoins
namespace Go.Proofs.Ythlcmlngmcoknaa.topImage
open Go.ChangeShapes Go.WideShapes Go.ChangeAt Go.RowKit Go.Joins
open Go.ChangeMaps (open_string shut_string)
set_option linter.unusedVariables false

theorem own : ownKnob Try.prog.godebug = none := by kernel_rfl
theorem laidOut : laidOutB Try.prog = true := by kernel_rfl
theorem cfr : Try.prog.cellsOf 78 = 2 := by kernel_rfl
theorem cli : Try.prog.cellsOf 23 = 1 := by kernel_rfl
theorem cll : Try.prog.cellsOf 22 = 1 := by kernel_rfl
theorem cpl : Try.prog.cellsOf 113 = 2 := by kernel_rfl
theorem clm : Try.prog.cellsOf 62 = 3 := by kernel_rfl
theorem ccl : Try.prog.cellsOf 56 = 4 := by kernel_rfl
theorem csys : Try.prog.cellsOf 25 = 2 := by kernel_rfl
theorem ci : Try.prog.cellsOf 3 = 1 := by kernel_rfl

set_option maxRecDepth 100000 in
theorem lifted (os : Os) (started : os.Started) (H : Type) (enc : TypeId × Value → H) :
    ReturnsInHanded {} Try.checked os 7 .any (Rows.topImageSpec.pre6 enc Try.prog Try.f7 Rows.topImageRow.domain false) (Rows.topImageSpec.post enc Try.prog Try.f7 false true false false) := by
  refine returnsInHanded_of_change (C := Try.checked) own started (by kernel_rfl) Try.func7
    (ChangeSpec.witness6 (enc := enc) (C := Try.checked) false ⟨#[], #[.slice none 0 0, .slice none 0 0, .int .i64 0, .agg #[.int .i64 0, .int .i64 0, .int .i64 0, .int .i64 0], .agg #[.slice none 0 0, .slice none 0 0], .int .i64 0, .slice none 0 0], []⟩ 8 (by kernel_rfl) (by kernel_rfl) (by kernel_rfl) (by kernel_rfl)) ?_
  intro W base args ds gs before hval0 hW hcnd _
  have hval : ∀ (j : Nat) t v, Try.f7.params[j]? = some t → args[j]? = some v → Value.okWide Try.prog W .any base t v := hval0
  have hW' := hW
  obtain ⟨p, q, hA0, hV, rfl, hfz, hnd⟩ := hW
  have hA : DataW.TrodAll enc Try.prog W 0 (fun _ => true) true Try.f7.params.toList args.toList ds p := hA0
  rw [Try.params7] at hA hval
  obtain ⟨v0, vs0, d0, ds0, p0, q0, hargs, rfl, rfl, h0, r0⟩ := trodAll_cons hA
  obtain ⟨v1, vs1, d1, ds1, p1, q1, rfl, rfl, rfl, h1, r1⟩ := trodAll_cons r0
  obtain ⟨v2, vs2, d2, ds2, p2, q2, rfl, rfl, rfl, h2, r2⟩ := trodAll_cons r1
  obtain ⟨v3, vs3, d3, ds3, p3, q3, rfl, rfl, rfl, h3, r3⟩ := trodAll_cons r2
  obtain ⟨v4, vs4, d4, ds4, p4, q4, rfl, rfl, rfl, h4, r4⟩ := trodAll_cons r3
  obtain ⟨v5, vs5, d5, ds5, p5, q5, rfl, rfl, rfl, h5, r5⟩ := trodAll_cons r4
  obtain ⟨v6, vs6, d6, ds6, p6, q6, rfl, rfl, rfl, h6, r6⟩ := trodAll_cons r5
  obtain ⟨rfl, rfl, rfl⟩ := trodAll_nil r6
  obtain rfl : args = #[v0, v1, v2, v3, v4, v5, v6] := by cases args; simp_all
  obtain ⟨rfl, rfl⟩ := trodVars_none hV
  have k0 := h0
  have lt0 : ∀ x ∈ p0, x.block < W.heap.size := by obtain ⟨m, hm⟩ := k0; exact DataW.trod_lt m _ _ _ hm
  have k1 := h1
  have lt1 : ∀ x ∈ p1, x.block < W.heap.size := by obtain ⟨m, hm⟩ := k1; exact DataW.trod_lt m _ _ _ hm
  have k2 := h2
  have lt2 : ∀ x ∈ p2, x.block < W.heap.size := by obtain ⟨m, hm⟩ := k2; exact DataW.trod_lt m _ _ _ hm
  have k3 := h3
  have lt3 : ∀ x ∈ p3, x.block < W.heap.size := by obtain ⟨m, hm⟩ := k3; exact DataW.trod_lt m _ _ _ hm
  have k4 := h4
  have lt4 : ∀ x ∈ p4, x.block < W.heap.size := by obtain ⟨m, hm⟩ := k4; exact DataW.trod_lt m _ _ _ hm
  have k5 := h5
  have lt5 : ∀ x ∈ p5, x.block < W.heap.size := by obtain ⟨m, hm⟩ := k5; exact DataW.trod_lt m _ _ _ hm
  have k6 := h6
  have lt6 : ∀ x ∈ p6, x.block < W.heap.size := by obtain ⟨m, hm⟩ := k6; exact DataW.trod_lt m _ _ _ hm
  obtain ⟨a0, n0, c0, rfl⟩ := okWide_slice Try.underlying53 (hval 0 53 v0 rfl rfl)
  obtain ⟨m0, hm0⟩ := h0
  obtain ⟨xs0, sf0, xw0⟩ := sf_of_trod Try.underlying53 Try.underlying113 cpl (by kernel_rfl) (by kernel_rfl) (by kernel_rfl) (by kernel_rfl) Try.underlying3 Try.underlying3 hm0
  obtain ⟨a1, n1, c1, rfl⟩ := okWide_slice Try.underlying54 (hval 1 54 v1 rfl rfl)
  obtain ⟨m1, hm1⟩ := h1
  obtain ⟨xs1, sf1, xw1⟩ := st_of_trod Try.underlying54 Try.underlying62 clm (by kernel_rfl) (by kernel_rfl) (by kernel_rfl) (by kernel_rfl) (by kernel_rfl) (by kernel_rfl) Try.underlying3 Try.underlying3 Try.underlying3 hm1
  obtain ⟨a2, rfl, rfl, rfl, w2⟩ := open_int Try.underlying3 (hval 2 3 v2 rfl rfl) h2
  have i2 := wf_i64 w2
  obtain ⟨ca3, cb3, cc3, cd3, y3, z3, x3, b3, m3, rfl, rfl, rfl, e3, f3, g3, o3⟩ := open_agg4 Try.underlying56 (by kernel_rfl) ccl (hval 3 56 v3 rfl rfl) h3
  obtain ⟨ka3, ua3, _, wa3⟩ := DataW.trod_int Try.underlying3 e3
  obtain rfl : ca3 = .int .i64 ka3 := by simpa using ua3
  have kar3 : i64 ka3 := wf_i64 wa3
  obtain ⟨kb3, ub3, _, wb3⟩ := DataW.trod_int Try.underlying3 f3
  obtain rfl : cb3 = .int .i64 kb3 := by simpa using ub3
  have kbr3 : i64 kb3 := wf_i64 wb3
  obtain ⟨kc3, uc3, _, wc3⟩ := DataW.trod_int Try.underlying3 g3
  obtain rfl : cc3 = .int .i64 kc3 := by simpa using uc3
  have kcr3 : i64 kc3 := wf_i64 wc3
  obtain ⟨kd3, ud3, _, wd3⟩ := DataW.trod_int Try.underlying3 o3
  obtain rfl : cd3 = .int .i64 kd3 := by simpa using ud3
  have kdr3 : i64 kd3 := wf_i64 wd3
  obtain ⟨va4, vb4, y4, z4, m4, rfl, rfl, rfl, e4, f4⟩ := open_agg2 Try.underlying25 (by kernel_rfl) csys (hval 4 25 v4 rfl rfl) h4
  obtain ⟨A4, sa4, wa4⟩ := ss_of_trod Try.underlying22 cli Try.underlying23 ci Try.underlying3 e4
  obtain ⟨B4, sb4, wb4⟩ := si_of_trod Try.underlying23 ci Try.underlying3 f4
  obtain ⟨a5, rfl, rfl, rfl, w5⟩ := open_int Try.underlying3 (hval 5 3 v5 rfl rfl) h5
  have i5 := wf_i64 w5
  obtain ⟨a6, n6, c6, rfl⟩ := okWide_slice Try.underlying28 (hval 6 28 v6 rfl rfl)
  obtain ⟨m6, hm6⟩ := h6
  obtain ⟨xs6, sf6, xw6⟩ := sf_of_trod Try.underlying28 Try.underlying78 cfr (by kernel_rfl) (by kernel_rfl) (by kernel_rfl) (by kernel_rfl) Try.underlying2 Try.underlying2 hm6
  clear hA0 hval0
  refine (topImage_any xs0 xs1 a2 ka3 kb3 kc3 kd3 A4 B4 a5 xs6 _ _ _ _ _ _ sf0 sf1 sa4 sb4 sf6 xw6).mono fun e W' ⟨he, bel⟩ => ?_
  subst he
  exact ⟨_, rfl, _, _, _, [], _, [], hW', trodAll_mk1 (shut_bool Try.underlying4 _), (trodAll_cons_mk (Below.trod laidOut (by kernel_rfl) (of_decide_eq_true (by kernel_rfl)) k0 bel lt0) (trodAll_cons_mk (Below.trod laidOut (by kernel_rfl) (of_decide_eq_true (by kernel_rfl)) k1 bel lt1) (trodAll_cons_mk (Below.trod laidOut (by kernel_rfl) (of_decide_eq_true (by kernel_rfl)) k2 bel lt2) (trodAll_cons_mk (Below.trod laidOut (by kernel_rfl) (of_decide_eq_true (by kernel_rfl)) k3 bel lt3) (trodAll_cons_mk (Below.trod laidOut (by kernel_rfl) (of_decide_eq_true (by kernel_rfl)) k4 bel lt4) (trodAll_cons_mk (Below.trod laidOut (by kernel_rfl) (of_decide_eq_true (by kernel_rfl)) k5 bel lt5) (trodAll_cons_mk (Below.trod laidOut (by kernel_rfl) (of_decide_eq_true (by kernel_rfl)) k6 bel lt6) trodAll_mk0))))))), rfl, bel.frame _, fun h => by cases h⟩

theorem over : Rows.topImageRow.holds Try.pinned (OpenSpec.ofChange Rows.topImageSpec) :=
  OpenClaim.holds_of_wide 7 Try.f7 rfl rfl rfl rfl rfl rfl rfl ⟨rfl, rfl, rfl, rfl, rfl⟩ rfl rfl rfl rfl rfl (by kernel_rfl) Try.func7 (by kernel_rfl)
    (of_decide_eq_true (by kernel_rfl)) (by unfold Func.isWrapper; first | (rw [if_pos (by decide +kernel)]; kernel_rfl) | (rw [if_neg (by decide +kernel)]; exact ⟨rfl, rfl⟩))
    (fun os started H enc _ => lifted os started H enc)

/-- THE STATEMENT -/
theorem proved : Rows.TopImageSaid := over
#print axioms proved
end Go.Proofs.Ythlcmlngmcoknaa.topImage
