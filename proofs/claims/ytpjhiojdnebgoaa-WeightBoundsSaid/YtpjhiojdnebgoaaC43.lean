/- What is proved here: contracts of functions and plain facts, several texts in one; each one says ahead what it proves, and its conditions. -/
import Derived.Test.YtpjhiojdnebgoaaC42
import Derived.WalkKit
import Derived.OpenShut
import Derived.WideShapes
/- What is proved here: a visibility that came in is six whole numbers. No condition. -/
namespace Go.Proofs.Ytpjhiojdnebgoaa
open Go.RowKit Go.WideShapes Go.Joins Go.Deep

section
variable {H : Type} {enc : TypeId × Value → H} {P : Program} {w : World} {base : Nat} {spare : Nat → Bool} {held : Bool}
theorem array6 {α : Type} {cs : Array α} (h : cs.size = 6) : ∃ c0 c1 c2 c3 c4 c5, cs = #[c0, c1, c2, c3, c4, c5] := by
  obtain ⟨l⟩ := cs
  match l, h with
  | [c0, c1, c2, c3, c4, c5], _ => exact ⟨c0, c1, c2, c3, c4, c5, rfl⟩
theorem open_vis {r : Reach} {b0 : Nat} {t : TypeId} {f0 f1 f2 f3 g0 g1 g2 : Field} {v : Value} {d : DataW H} {p : List MemPlace} (hs : P.underlying t = some (.struct #[f0, f1, f2, f3])) (hsc : P.underlying f2.type = some (.struct #[g0, g1, g2])) (hC : P.cellsOf t = 6)
    (o0 : f0.offset = 0) (k0 : P.cellsOf f0.type = 1) (o1 : f1.offset = 1) (k1 : P.cellsOf f1.type = 1) (o2 : f2.offset = 2) (k2 : P.cellsOf f2.type = 3) (o3 : f3.offset = 5) (k3 : P.cellsOf f3.type = 1)
    (p0 : g0.offset = 0) (m0 : P.cellsOf g0.type = 1) (p1 : g1.offset = 1) (m1 : P.cellsOf g1.type = 1) (p2 : g2.offset = 2) (m2 : P.cellsOf g2.type = 1)
    (i0 : P.underlying f0.type = some (.int .i64)) (i1 : P.underlying f1.type = some (.int .i64)) (i3 : P.underlying f3.type = some (.int .i64)) (j0 : P.underlying g0.type = some (.int .i64)) (j1 : P.underlying g1.type = some (.int .i64)) (j2 : P.underlying g2.type = some (.int .i64))
    (hv : Value.okWide P w r b0 t v) (h : DataW.Trod enc P w base spare held t v d p) :
    ∃ a b c e f g : Int, v = .agg #[.int .i64 a, .int .i64 b, .int .i64 c, .int .i64 e, .int .i64 f, .int .i64 g] := by
  obtain ⟨cs, rfl, hsz⟩ := okWide_struct hs hv
  obtain ⟨c0, c1, c2, c3, c4, c5, rfl⟩ := array6 (hsz.trans hC)
  obtain ⟨fuel, hf⟩ := h
  obtain ⟨y0, y1, y2, y3, n, _, _, h0, h1, h2, h3⟩ := trod_struct4 hs hf
  simp only [Value.cells, o0, k0, o1, k1, o2, k2, o3, k3, List.drop, List.take] at h0 h1 h2 h3
  obtain ⟨z0, z1, z2, n', _, _, l0, l1, l2⟩ := trod_struct3 hsc h2
  simp only [p0, m0, p1, m1, p2, m2, List.drop, List.take] at l0 l1 l2
  obtain ⟨a, ha, _⟩ := DataW.trod_int i0 h0
  obtain ⟨b, hb, _⟩ := DataW.trod_int i1 h1
  obtain ⟨g, hg, _⟩ := DataW.trod_int i3 h3
  obtain ⟨c, hc, _⟩ := DataW.trod_int j0 l0
  obtain ⟨e, he, _⟩ := DataW.trod_int j1 l1
  obtain ⟨f, hf', _⟩ := DataW.trod_int j2 l2
  simp only [List.cons.injEq, and_true] at ha hb hg hc he hf'
  subst ha hb hg hc he hf'
  exact ⟨a, b, c, e, f, g, rfl⟩
end
end Go.Proofs.Ytpjhiojdnebgoaa
