/- What is proved here: contracts of functions and plain facts, several texts in one; each one says ahead what it proves, and its conditions. -/
import Derived.Test.YtpjhiojdnebgoaaC42
import Derived.Test.YtpjhiojdnebgoaaC43
import Derived.Test.YtpjhiojdnebgoaaC07
import Derived.WalkKit
import Derived.OpenShut
import Derived.WideShapes
import Derived.ChangeSame
/- What is proved here: what a slice of visibilities that came in gives a walk: their cells. No condition. -/
namespace Go.Proofs.Ytpjhiojdnebgoaa
open Go.RowKit Go.WideShapes Go.Joins Go.Deep

section
variable {H : Type} {enc : TypeId × Value → H} {P : Program} {w : World} {base : Nat} {spare : Nat → Bool} {held : Bool}
theorem sv_of_trod {fuel : Nat} {t e : TypeId} {f0 f1 f2 f3 g0 g1 g2 : Field} {v : Value} {x : DataW H × List MemPlace} (ht : P.underlying t = some (.slice e)) (hs : P.underlying e = some (.struct #[f0, f1, f2, f3])) (hsc : P.underlying f2.type = some (.struct #[g0, g1, g2])) (hC : P.cellsOf e = 6)
    (o0 : f0.offset = 0) (k0 : P.cellsOf f0.type = 1) (o1 : f1.offset = 1) (k1 : P.cellsOf f1.type = 1) (o2 : f2.offset = 2) (k2 : P.cellsOf f2.type = 3) (o3 : f3.offset = 5) (k3 : P.cellsOf f3.type = 1)
    (p0 : g0.offset = 0) (m0 : P.cellsOf g0.type = 1) (p1 : g1.offset = 1) (m1 : P.cellsOf g1.type = 1) (p2 : g2.offset = 2) (m2 : P.cellsOf g2.type = 1)
    (i0 : P.underlying f0.type = some (.int .i64)) (i1 : P.underlying f1.type = some (.int .i64)) (i3 : P.underlying f3.type = some (.int .i64)) (j0 : P.underlying g0.type = some (.int .i64)) (j1 : P.underlying g1.type = some (.int .i64)) (j2 : P.underlying g2.type = some (.int .i64))
    (h : DataW.trod enc P w base spare held fuel t [v] = some x) : ∃ xs : List Vs, SV w v xs := by
  rcases open_slice ht h with ⟨hcs, _⟩ | ⟨a, len, cap, m, n, D, Pl, hcs, _, hl, hm, hmm, _, hx⟩
  · simp only [List.cons.injEq, and_true] at hcs
    subst hcs
    exact ⟨[], sv_nil w⟩
  · simp only [List.cons.injEq, and_true] at hcs
    subst hcs
    have hml : len ≤ m := by rw [hmm]; split <;> omega
    have key : ∀ i, i < len → ∃ p : Vs, ∀ k, k < 6 → w.cell? (a.add (i * 6 + k)) = p.cs[k]? := by
      intro i hi
      obtain ⟨cs', hc', ht'⟩ := hx i (by omega)
      rw [hC] at hc'
      obtain ⟨y0, y1, y2, y3, n, _, _, h0, h1, h2, h3⟩ := trod_struct4 hs ht'
      obtain ⟨_, hcl, hat⟩ := World.cells?_some hc'
      simp only [o0, k0, o1, k1, o2, k2, o3, k3] at h0 h1 h2 h3
      obtain ⟨z0, z1, z2, n', _, _, l0, l1, l2⟩ := trod_struct3 hsc h2
      simp only [p0, m0, p1, m1, p2, m2] at l0 l1 l2
      match cs', hcl with
      | [u0, u1, u2, u3, u4, u5], _ =>
        simp only [List.drop, List.take] at h0 h1 h3 l0 l1 l2
        obtain ⟨q0, e0, _⟩ := DataW.trod_int i0 h0
        obtain ⟨q1, e1, _⟩ := DataW.trod_int i1 h1
        obtain ⟨q5, e5, _⟩ := DataW.trod_int i3 h3
        obtain ⟨q2, e2, _⟩ := DataW.trod_int j0 l0
        obtain ⟨q3, e3, _⟩ := DataW.trod_int j1 l1
        obtain ⟨q4, e4, _⟩ := DataW.trod_int j2 l2
        simp only [List.cons.injEq, and_true] at e0 e1 e2 e3 e4 e5
        subst e0 e1 e2 e3 e4 e5
        refine ⟨⟨q0, q1, q2, q3, q4, q5⟩, fun k hk => ?_⟩
        have := hat k hk
        rw [← Go.Deep.add_add, this]
        rfl
    obtain ⟨f, hf⟩ : ∃ f : Nat → Vs, ∀ i, i < len → ∀ k, k < 6 → w.cell? (a.add (i * 6 + k)) = (f i).cs[k]? := by
      refine ⟨fun i => if h : i < len then Classical.choose (key i h) else ⟨0, 0, 0, 0, 0, 0⟩, fun i hi => ?_⟩
      simp only [hi, dif_pos]
      exact Classical.choose_spec (key i hi)
    refine ⟨(List.range len).map f, ⟨some a, cap, by simp, by simpa using hl, by unfold maxLen at hm; simp; omega, fun i u hu => ?_⟩⟩
    have hi : i < ((List.range len).map f).length * 6 := by
      rw [← vcs_len]
      rcases Nat.lt_or_ge i (vcs ((List.range len).map f)).length with h | h
      · exact h
      · simp [h] at hu
    simp only [List.length_map, List.length_range] at hi
    have h0 := hf 0 (by omega) 0 (by decide)
    rw [Nat.zero_mul] at h0
    have hj : i / 6 < len := by omega
    have q := hf (i / 6) hj (i % 6) (by omega)
    have r := vcs_get ((List.range len).map f) (i / 6) (by simpa using hj) (i % 6) (by omega)
    have e6 : i / 6 * 6 + i % 6 = i := by omega
    rw [e6] at q r
    rw [addr_add h0] at q
    refine ⟨a.block, a.off, by rw [← addr_none h0], ?_⟩
    rw [q]
    rw [r] at hu
    simpa using hu
end
end Go.Proofs.Ytpjhiojdnebgoaa
