/- What is proved here: the law FlagMore returns true at every input, and what came in reads as it did. No condition. -/
import Derived.Test.YtpkggglifahioaaRows
import Derived.Test.YtpkggglifahioaaFlagMore
import Derived.Test.YtpkggglifahioaaOpen
import Derived.WalkKit
import Derived.ProofKit
import Derived.OpenShut
import Derived.ShutString
import Derived.ChangeOld
import Derived.Below
import Derived.Lib.SmallJoins
namespace Go.Proofs.Ytpkggglifahioaa.flagMore
open Go.ChangeShapes Go.WideShapes Go.ChangeAt Go.RowKit Go.Joins
open Go.ChangeMaps (open_string shut_string)
set_option linter.unusedVariables false

theorem own : ownKnob Try.prog.godebug = none := by kernel_rfl
theorem laidOut : laidOutB Try.prog = true := by kernel_rfl
theorem cm : Try.prog.cellsOf 24 = 3 := by kernel_rfl
theorem cb : Try.prog.cellsOf 4 = 1 := by kernel_rfl
theorem cfr : Try.prog.cellsOf 49 = 2 := by kernel_rfl
theorem ci : Try.prog.cellsOf 3 = 1 := by kernel_rfl

set_option maxRecDepth 100000 in
theorem lifted (os : Os) (started : os.Started) (H : Type) (enc : TypeId × Value → H) :
    ReturnsInHanded {} Try.checked os 7 .any (Rows.flagMoreSpec.pre6 enc Try.prog Try.f7 Rows.flagMoreRow.domain false) (Rows.flagMoreSpec.post enc Try.prog Try.f7 false true false false) := by
  refine returnsInHanded_of_change (C := Try.checked) own started (by kernel_rfl) Try.func7
    (ChangeSpec.witness6 (enc := enc) (C := Try.checked) false ⟨#[], #[.agg #[.int .i64 0, .int .i64 0, .slice none 0 0], .agg #[.int .i64 0, .int .i64 0, .slice none 0 0], .int .i64 0, .int .i64 0, .agg #[.int .i64 0, .int .i64 0], .slice none 0 0], []⟩ 8 (by kernel_rfl) (by kernel_rfl) (by kernel_rfl) (by kernel_rfl)) ?_
  intro W base args ds gs before hval0 hW hcnd _
  have hval : ∀ (j : Nat) t v, Try.f7.params[j]? = some t → args[j]? = some v → Value.okWide Try.prog W .any base t v := hval0
  have hW' := hW
  obtain ⟨p, q, hA0, hV, rfl, hfz, hnd⟩ := hW
  have hA : DataW.TrodAll enc Try.prog W 0 (fun _ => true) true Try.f7.params.toList args.toList ds p := hA0
  rw [Try.params7] at hA hval
  obtain ⟨v0, vs0, d0, ds0, p0, q0, hargs, rfl, rfl, h0, r0⟩ := trodAll_cons hA
  obtain ⟨v1, vs1, d1, ds1, p1, q1, rfl, rfl, rfl, h1, r1⟩ := trodAll_cons r0
  obtain ⟨v2, vs2, d2, ds2, p2, q2, rfl, rfl, rfl, h2, r2⟩ := trodAll_cons r1
  obtain ⟨v3, vs3, d3, ds3, p3, q3, rfl, rfl, rfl, h3, r3⟩ := trodAll_cons r2
  obtain ⟨v4, vs4, d4, ds4, p4, q4, rfl, rfl, rfl, h4, r4⟩ := trodAll_cons r3
  obtain ⟨v5, vs5, d5, ds5, p5, q5, rfl, rfl, rfl, h5, r5⟩ := trodAll_cons r4
  obtain ⟨rfl, rfl, rfl⟩ := trodAll_nil r5
  obtain rfl : args = #[v0, v1, v2, v3, v4, v5] := by cases args; simp_all
  obtain ⟨rfl, rfl⟩ := trodVars_none hV
  have k0 := h0
  have lt0 : ∀ x ∈ p0, x.block < W.heap.size := by obtain ⟨m, hm⟩ := k0; exact DataW.trod_lt m _ _ _ hm
  have k1 := h1
  have lt1 : ∀ x ∈ p1, x.block < W.heap.size := by obtain ⟨m, hm⟩ := k1; exact DataW.trod_lt m _ _ _ hm
  have k2 := h2
  have lt2 : ∀ x ∈ p2, x.block < W.heap.size := by obtain ⟨m, hm⟩ := k2; exact DataW.trod_lt m _ _ _ hm
  have k3 := h3
  have lt3 : ∀ x ∈ p3, x.block < W.heap.size := by obtain ⟨m, hm⟩ := k3; exact DataW.trod_lt m _ _ _ hm
  have k4 := h4
  have lt4 : ∀ x ∈ p4, x.block < W.heap.size := by obtain ⟨m, hm⟩ := k4; exact DataW.trod_lt m _ _ _ hm
  have k5 := h5
  have lt5 : ∀ x ∈ p5, x.block < W.heap.size := by obtain ⟨m, hm⟩ := k5; exact DataW.trod_lt m _ _ _ hm
  obtain ⟨t0, c0, b0, y0, z0, x0, m0, rfl, rfl, rfl, e0, f0, g0⟩ := open_agg3 Try.underlying24 (by kernel_rfl) cm (hval 0 24 v0 rfl rfl) h0
  obtain ⟨ti0, te0, _, tw0⟩ := DataW.trod_int Try.underlying3 e0
  obtain ⟨ci0, ce0, _, cw0⟩ := DataW.trod_int Try.underlying3 f0
  obtain rfl : t0 = .int .i64 ti0 := by simpa using te0
  obtain rfl : c0 = .int .i64 ci0 := by simpa using ce0
  obtain ⟨xs0, sb0⟩ := sb_of_trod Try.underlying22 cb Try.underlying4 g0
  have ti0r := wf_i64 tw0
  have ci0r := wf_i64 cw0
  obtain ⟨t1, c1, b1, y1, z1, x1, m1, rfl, rfl, rfl, e1, f1, g1⟩ := open_agg3 Try.underlying24 (by kernel_rfl) cm (hval 1 24 v1 rfl rfl) h1
  obtain ⟨ti1, te1, _, tw1⟩ := DataW.trod_int Try.underlying3 e1
  obtain ⟨ci1, ce1, _, cw1⟩ := DataW.trod_int Try.underlying3 f1
  obtain rfl : t1 = .int .i64 ti1 := by simpa using te1
  obtain rfl : c1 = .int .i64 ci1 := by simpa using ce1
  obtain ⟨xs1, sb1⟩ := sb_of_trod Try.underlying22 cb Try.underlying4 g1
  have ti1r := wf_i64 tw1
  have ci1r := wf_i64 cw1
  obtain ⟨a2, rfl, rfl, rfl, w2⟩ := open_int Try.underlying3 (hval 2 3 v2 rfl rfl) h2
  have i2 := wf_i64 w2
  obtain ⟨a3, rfl, rfl, rfl, w3⟩ := open_int Try.underlying3 (hval 3 3 v3 rfl rfl) h3
  have i3 := wf_i64 w3
  obtain ⟨t4, c4, y4, z4, m4, rfl, rfl, rfl, e4, f4⟩ := open_agg2 Try.underlying49 (by kernel_rfl) cfr (hval 4 49 v4 rfl rfl) h4
  obtain ⟨ti4, te4, _, tw4⟩ := DataW.trod_int Try.underlying2 e4
  obtain ⟨ci4, ce4, _, cw4⟩ := DataW.trod_int Try.underlying2 f4
  obtain rfl : t4 = .int .i64 ti4 := by simpa using te4
  obtain rfl : c4 = .int .i64 ci4 := by simpa using ce4
  have ti4r : i64 ti4 := wf_i64 tw4
  have ci4r : i64 ci4 := wf_i64 cw4
  obtain ⟨a5, n5, c5, rfl⟩ := okWide_slice Try.underlying50 (hval 5 50 v5 rfl rfl)
  obtain ⟨m5, hm5⟩ := h5
  obtain ⟨xs5, si5, xw5⟩ := si_of_trod Try.underlying50 ci Try.underlying3 hm5
  clear hA0 hval0
  refine (more_any _ _ _ _ _ _ xs0 xs1 a2 a3 _ _ _ xs5 W sb0 sb1 si5 ti4r ci4r).mono fun e W' ⟨he, bel⟩ => ?_
  subst he
  exact ⟨_, rfl, _, _, _, [], _, [], hW', trodAll_mk1 (shut_bool Try.underlying4 _), (trodAll_cons_mk (Below.trod laidOut (by kernel_rfl) (of_decide_eq_true (by kernel_rfl)) k0 bel lt0) (trodAll_cons_mk (Below.trod laidOut (by kernel_rfl) (of_decide_eq_true (by kernel_rfl)) k1 bel lt1) (trodAll_cons_mk (Below.trod laidOut (by kernel_rfl) (of_decide_eq_true (by kernel_rfl)) k2 bel lt2) (trodAll_cons_mk (Below.trod laidOut (by kernel_rfl) (of_decide_eq_true (by kernel_rfl)) k3 bel lt3) (trodAll_cons_mk (Below.trod laidOut (by kernel_rfl) (of_decide_eq_true (by kernel_rfl)) k4 bel lt4) (trodAll_cons_mk (Below.trod laidOut (by kernel_rfl) (of_decide_eq_true (by kernel_rfl)) k5 bel lt5) trodAll_mk0)))))), rfl, bel.frame _, fun h => by cases h⟩

theorem over : Rows.flagMoreRow.holds Try.pinned (OpenSpec.ofChange Rows.flagMoreSpec) :=
  OpenClaim.holds_of_wide 7 Try.f7 rfl rfl rfl rfl rfl rfl rfl ⟨rfl, rfl, rfl, rfl, rfl⟩ rfl rfl rfl rfl rfl (by kernel_rfl) Try.func7 (by kernel_rfl)
    (of_decide_eq_true (by kernel_rfl)) (by unfold Func.isWrapper; first | (rw [if_pos (by decide +kernel)]; kernel_rfl) | (rw [if_neg (by decide +kernel)]; exact ⟨rfl, rfl⟩))
    (fun os started H enc _ => lifted os started H enc)

/-- THE STATEMENT -/
theorem proved : Rows.FlagMoreSaid := over
#print axioms proved
end Go.Proofs.Ytpkggglifahioaa.flagMore
