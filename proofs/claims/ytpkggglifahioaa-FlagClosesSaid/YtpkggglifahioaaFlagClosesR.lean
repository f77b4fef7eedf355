/- What is proved here: the law FlagCloses returns true at every input, and what came in reads as it did. No condition. -/
import Derived.Test.YtpkggglifahioaaRows
import Derived.Test.YtpkggglifahioaaFlagCloses
import Derived.Test.YtpkggglifahioaaOpen
import Derived.WalkKit
import Derived.ProofKit
import Derived.OpenShut
import Derived.ShutString
import Derived.ChangeOld
import Derived.Below
import Derived.Lib.SmallJoins
namespace Go.Proofs.Ytpkggglifahioaa.flagCloses
open Go.ChangeShapes Go.WideShapes Go.ChangeAt Go.RowKit Go.Joins
open Go.ChangeMaps (open_string shut_string)
set_option linter.unusedVariables false

theorem own : ownKnob Try.prog.godebug = none := by kernel_rfl
theorem laidOut : laidOutB Try.prog = true := by kernel_rfl
theorem cm : Try.prog.cellsOf 24 = 3 := by kernel_rfl
theorem cb : Try.prog.cellsOf 4 = 1 := by kernel_rfl
theorem cfr : Try.prog.cellsOf 49 = 2 := by kernel_rfl

set_option maxRecDepth 100000 in
theorem lifted (os : Os) (started : os.Started) (H : Type) (enc : TypeId × Value → H) :
    ReturnsInHanded {} Try.checked os 6 .any (Rows.flagClosesSpec.pre6 enc Try.prog Try.f6 Rows.flagClosesRow.domain false) (Rows.flagClosesSpec.post enc Try.prog Try.f6 false true false false) := by
  refine returnsInHanded_of_change (C := Try.checked) own started (by kernel_rfl) Try.func6
    (ChangeSpec.witness6 (enc := enc) (C := Try.checked) false ⟨#[], #[.agg #[.int .i64 0, .int .i64 0, .slice none 0 0], .agg #[.int .i64 0, .int .i64 0]], []⟩ 8 (by kernel_rfl) (by kernel_rfl) (by kernel_rfl) (by kernel_rfl)) ?_
  intro W base args ds gs before hval0 hW hcnd _
  have hval : ∀ (j : Nat) t v, Try.f6.params[j]? = some t → args[j]? = some v → Value.okWide Try.prog W .any base t v := hval0
  have hW' := hW
  obtain ⟨p, q, hA0, hV, rfl, hfz, hnd⟩ := hW
  have hA : DataW.TrodAll enc Try.prog W 0 (fun _ => true) true Try.f6.params.toList args.toList ds p := hA0
  rw [Try.params6] at hA hval
  obtain ⟨v0, vs0, d0, ds0, p0, q0, hargs, rfl, rfl, h0, r0⟩ := trodAll_cons hA
  obtain ⟨v1, vs1, d1, ds1, p1, q1, rfl, rfl, rfl, h1, r1⟩ := trodAll_cons r0
  obtain ⟨rfl, rfl, rfl⟩ := trodAll_nil r1
  obtain rfl : args = #[v0, v1] := by cases args; simp_all
  obtain ⟨rfl, rfl⟩ := trodVars_none hV
  have k0 := h0
  have lt0 : ∀ x ∈ p0, x.block < W.heap.size := by obtain ⟨m, hm⟩ := k0; exact DataW.trod_lt m _ _ _ hm
  have k1 := h1
  have lt1 : ∀ x ∈ p1, x.block < W.heap.size := by obtain ⟨m, hm⟩ := k1; exact DataW.trod_lt m _ _ _ hm
  obtain ⟨t0, c0, b0, y0, z0, x0, m0, rfl, rfl, rfl, e0, f0, g0⟩ := open_agg3 Try.underlying24 (by kernel_rfl) cm (hval 0 24 v0 rfl rfl) h0
  obtain ⟨ti0, te0, _, tw0⟩ := DataW.trod_int Try.underlying3 e0
  obtain ⟨ci0, ce0, _, cw0⟩ := DataW.trod_int Try.underlying3 f0
  obtain rfl : t0 = .int .i64 ti0 := by simpa using te0
  obtain rfl : c0 = .int .i64 ci0 := by simpa using ce0
  obtain ⟨xs0, sb0⟩ := sb_of_trod Try.underlying22 cb Try.underlying4 g0
  have ti0r := wf_i64 tw0
  have ci0r := wf_i64 cw0
  obtain ⟨t1, c1, y1, z1, m1, rfl, rfl, rfl, e1, f1⟩ := open_agg2 Try.underlying49 (by kernel_rfl) cfr (hval 1 49 v1 rfl rfl) h1
  obtain ⟨ti1, te1, _, tw1⟩ := DataW.trod_int Try.underlying2 e1
  obtain ⟨ci1, ce1, _, cw1⟩ := DataW.trod_int Try.underlying2 f1
  obtain rfl : t1 = .int .i64 ti1 := by simpa using te1
  obtain rfl : c1 = .int .i64 ci1 := by simpa using ce1
  have ti1r : i64 ti1 := wf_i64 tw1
  have ci1r : i64 ci1 := wf_i64 cw1
  clear hA0 hval0
  refine (closes_any _ _ _ xs0 _ _ W sb0 ti1r ci1r).mono fun e W' ⟨he, bel⟩ => ?_
  subst he
  exact ⟨_, rfl, _, _, _, [], _, [], hW', trodAll_mk1 (shut_bool Try.underlying4 _), (trodAll_cons_mk (Below.trod laidOut (by kernel_rfl) (of_decide_eq_true (by kernel_rfl)) k0 bel lt0) (trodAll_cons_mk (Below.trod laidOut (by kernel_rfl) (of_decide_eq_true (by kernel_rfl)) k1 bel lt1) trodAll_mk0)), rfl, bel.frame _, fun h => by cases h⟩

theorem over : Rows.flagClosesRow.holds Try.pinned (OpenSpec.ofChange Rows.flagClosesSpec) :=
  OpenClaim.holds_of_wide 6 Try.f6 rfl rfl rfl rfl rfl rfl rfl ⟨rfl, rfl, rfl, rfl, rfl⟩ rfl rfl rfl rfl rfl (by kernel_rfl) Try.func6 (by kernel_rfl)
    (of_decide_eq_true (by kernel_rfl)) (by unfold Func.isWrapper; first | (rw [if_pos (by decide +kernel)]; kernel_rfl) | (rw [if_neg (by decide +kernel)]; exact ⟨rfl, rfl⟩))
    (fun os started H enc _ => lifted os started H enc)

/-- THE STATEMENT -/
theorem proved : Rows.FlagClosesSaid := over
#print axioms proved
end Go.Proofs.Ytpkggglifahioaa.flagCloses
