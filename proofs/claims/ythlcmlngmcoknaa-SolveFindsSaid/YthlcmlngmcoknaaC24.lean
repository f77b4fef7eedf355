/- What is proved here: contracts of functions and plain facts, several texts in one; each one says ahead what it proves, and its conditions. -/
import Derived.Test.YthlcmlngmcoknaaC05
import Derived.Test.YthlcmlngmcoknaaC08
import Derived.Test.YthlcmlngmcoknaaC09
/- What is proved here: slices of slices of fractions: what they hold; lists of them that a call makes by appends. No condition. -/
namespace Go.Proofs.Ythlcmlngmcoknaa
open Go.RowKit

def SFF (w : World) (v : Value) (xss : List (List (Int × Int))) : Prop :=
  ∃ vs : List Value, vs.length = xss.length ∧ Sl w v xss.length vs ∧ ∀ i (_ : i < xss.length) (h' : i < vs.length), SF w vs[i] (xss.getD i [])
theorem SFF.below {w w' : World} {v : Value} {xss : List (List (Int × Int))} (h : SFF w v xss) (hb : Below w.heap.size w w') : SFF w' v xss := by
  obtain ⟨vs, h1, h2, h3⟩ := h
  exact ⟨vs, h1, h2.below hb, fun i hi hi' => (h3 i hi hi').below hb⟩
theorem SFF.open {w : World} {v : Value} {xss : List (List (Int × Int))} (h : SFF w v xss) : ∃ ad cap, v = .slice ad xss.length cap ∧ xss.length ≤ cap ∧ xss.length ≤ 9223372036854775807 ∧
    Hid (∀ i (_ : i < xss.length), ∃ b off ad' cap', ad = some ⟨b, off, none⟩ ∧ w.cell? ⟨b, off + i, none⟩ = some (.slice ad' (xss.getD i []).length cap') ∧ (xss.getD i []).length ≤ cap' ∧ (xss.getD i []).length ≤ 9223372036854775807 ∧ SF w (.slice ad' (xss.getD i []).length cap') (xss.getD i [])) := by
  obtain ⟨vs, h1, ⟨ad, cap, e, h2, h3, h4⟩, h5⟩ := h
  refine ⟨ad, cap, e, h2, h3, fun i hi => ?_⟩
  have hi' : i < vs.length := by omega
  obtain ⟨b, off, e1, c1⟩ := h4 i vs[i] (by simp [hi'])
  have h6 := h5 i hi hi'
  obtain ⟨ad', cap', e2, h7, h8, _⟩ := h6.open
  refine ⟨b, off, ad', cap', e1, ?_, h7, h8, ?_⟩
  · rw [c1, e2]
  · rw [← e2]; exact h5 i hi hi'
theorem sff_nil (w : World) : SFF w (.slice none 0 0) [] := ⟨[], rfl, ⟨none, 0, rfl, Nat.le_refl _, by decide, fun i x hx => by simp at hx⟩, fun i h => by simp at h⟩
def RowsF (w : World) (B : Nat) (Ti Tr : TypeId) (ov : Value) (xss : List (List (Int × Int))) (vs : List Value) : Prop :=
  w.ownsRow B Tr 1 ov xss.length vs ∧ ∀ i, i < xss.length → ∃ u, vs[i]? = some u ∧ w.ownsRow B Ti 2 u (xss.getD i []).length (fcs (xss.getD i [])) ∧ Apart u ov
theorem rowsF_nil (w : World) (B : Nat) (Ti Tr : TypeId) : RowsF w B Ti Tr (.slice none 0 0) [] [] := ⟨World.ownsRow_nil _ _ _ _, fun _ h => absurd h (Nat.not_lt_zero _)⟩
theorem RowsF.below {w w' : World} {B : Nat} {Ti Tr : TypeId} {ov : Value} {xss : List (List (Int × Int))} {vs : List Value} (h : RowsF w B Ti Tr ov xss vs) (hb : Below w.heap.size w w') : RowsF w' B Ti Tr ov xss vs :=
  ⟨owns_at h.1 hb, fun i hi => by obtain ⟨u, h1, h2, h3⟩ := h.2 i hi; exact ⟨u, h1, owns_at h2 hb, h3⟩⟩
theorem own_rowF {w : World} {g B : Nat} {T : TypeId} {xs : List (Int × Int)} {m : Nat} (h : Own w g T (fcs xs)) (hl : xs.length = m) (hB : B ≤ g) (hm : m ≤ 1000) : w.ownsRow B T 2 (.slice (some ⟨g, 0, none⟩) m m) m (fcs xs) := by
  have hf : (fcs xs).length = m * 2 := by rw [fcs_len, hl]
  exact ⟨hf, .inr ⟨g, m, (fcs xs).toArray, rfl, hB, h, Nat.le_refl _, by unfold maxLen; omega, by simp [hf], by simp only []; exact List.take_of_length_le (by omega)⟩⟩
theorem RowsF.push {W w2 : World} {B g cap : Nat} {Ti Tr : TypeId} {ov rv : Value} {xss : List (List (Int × Int))} {vs : List Value} {xs : List (Int × Int)} (h : RowsF W B Ti Tr ov xss vs)
    (hr : W.ownsRow B Ti 2 rv xs.length (fcs xs)) (ha : Apart rv ov) (hown : w2.ownsRow B Tr 1 (.slice (some ⟨g, 0, none⟩) (xss.length + 1) cap) (xss.length + 1) (vs ++ [rv])) (hk : Keep B W w2 ov g) :
    RowsF w2 B Ti Tr (.slice (some ⟨g, 0, none⟩) (xss.length + 1) cap) (xss ++ [xs]) (vs ++ [rv]) := by
  have hl : vs.length = xss.length := by have := h.1.1; omega
  refine ⟨by rw [List.length_append]; exact hown, fun i hi => ?_⟩
  rw [List.length_append] at hi
  rcases Nat.lt_or_ge i xss.length with h1 | h1
  · obtain ⟨u, e1, e2, e3⟩ := h.2 i h1
    refine ⟨u, by rw [List.getElem?_append_left (by omega)]; exact e1, ?_, hk.apart e2 e3 _ _⟩
    have : (xss ++ [xs]).getD i [] = xss.getD i [] := by simp [List.getD, List.getElem?_append_left h1]
    rw [this]; exact hk.row e2 e3
  · obtain rfl : i = xss.length := by simp at hi; omega
    refine ⟨rv, by rw [List.getElem?_append_right (by omega), hl]; simp, ?_, hk.apart hr ha _ _⟩
    have : (xss ++ [xs]).getD xss.length [] = xs := by simp [List.getD]
    rw [this]; exact hk.row hr ha
theorem RowsF.sff {w : World} {B : Nat} {Ti Tr : TypeId} {ov : Value} {xss : List (List (Int × Int))} {vs : List Value} (h : RowsF w B Ti Tr ov xss vs) (hn : xss.length ≤ 1000) (hx : ∀ xs ∈ xss, xs.length ≤ 1000) : SFF w ov xss := by
  have hl : vs.length = xss.length := by have := h.1.1; omega
  refine ⟨vs, hl, owns_sl h.1 (by omega), fun i hi hi' => ?_⟩
  obtain ⟨u, e1, e2, _⟩ := h.2 i hi
  have e : vs[i] = u := by rw [List.getElem?_eq_getElem hi'] at e1; exact Option.some.inj e1
  rw [e]
  have hm : xss.getD i [] ∈ xss := by simp [List.getD, hi]
  exact owns_sl e2 (by have := hx _ hm; omega)
end Go.Proofs.Ythlcmlngmcoknaa
