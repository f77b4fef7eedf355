/- What is proved here: contracts of functions and plain facts, several texts in one; each one says ahead what it proves, and its conditions. -/
import Derived.Test.YtpjhiojdnebgoaaC01
/- What is proved here: slices of slices of numbers: what their cells hold, opened row by row. No condition. -/
namespace Go.Proofs.Ytpjhiojdnebgoaa
open Go.RowKit

/-- A slice of slices of numbers. -/
def SS (w : World) (v : Value) (xss : List (List Int)) : Prop :=
  ∃ vs : List Value, vs.length = xss.length ∧ Sl w v xss.length vs ∧ ∀ i (h : i < xss.length) (h' : i < vs.length), SI w vs[i] xss[i]
theorem SS.below {w w' : World} {v : Value} {xss : List (List Int)} (h : SS w v xss) (hb : Below w.heap.size w w') : SS w' v xss := by
  obtain ⟨vs, h1, h2, h3⟩ := h
  exact ⟨vs, h1, h2.below hb, fun i hi hi' => (h3 i hi hi').below hb⟩
theorem SS.open {w : World} {v : Value} {xss : List (List Int)} (h : SS w v xss) : ∃ ad cap, v = .slice ad xss.length cap ∧ xss.length ≤ cap ∧ xss.length ≤ 9223372036854775807 ∧
    Hid (∀ i (h : i < xss.length), ∃ b off ad' cap', ad = some ⟨b, off, none⟩ ∧ w.cell? ⟨b, off + i, none⟩ = some (.slice ad' xss[i].length cap') ∧ xss[i].length ≤ cap' ∧ xss[i].length ≤ 9223372036854775807 ∧ SI w (.slice ad' xss[i].length cap') xss[i]) := by
  obtain ⟨vs, h1, ⟨ad, cap, e, h2, h3, h4⟩, h5⟩ := h
  refine ⟨ad, cap, e, h2, h3, fun i hi => ?_⟩
  have hi' : i < vs.length := by omega
  obtain ⟨b, off, e1, c1⟩ := h4 i vs[i] (by simp [hi'])
  have h6 := h5 i hi hi'
  obtain ⟨ad', cap', e2, h7, h8, _⟩ := h6
  refine ⟨b, off, ad', cap', e1, ?_, h7, h8, ?_⟩
  · rw [c1, e2]
  · rw [← e2]; exact h5 i hi hi'
end Go.Proofs.Ytpjhiojdnebgoaa
