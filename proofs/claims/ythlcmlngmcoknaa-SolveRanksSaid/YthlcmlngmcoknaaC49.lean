/- What is proved here: contracts of functions and plain facts, several texts in one; each one says ahead what it proves, and its conditions. -/
import Derived.Test.YthlcmlngmcoknaaC48
import Derived.Test.YthlcmlngmcoknaaC31
/- What is proved here: a system that a call builds by appends: its box, its list of rows, its right sides, side by side. No condition. -/
namespace Go.Proofs.Ythlcmlngmcoknaa
open Go.RowKit

theorem Kept.own {W W2 : World} {ov v' : Value} (h : Kept W W2 ov v') {p : Nat} {T : TypeId} {cs : List Value} (ho : Own W p T cs) (hp : ov.ownBlock ≠ some p) : Own W2 p T cs := by
  unfold Own at *; rw [h.grown.block p (Array.getElem?_eq_some_iff.1 ho).1 (fun e => hp e.symm)]; exact ho
theorem sl_one {w : World} {p : Nat} {T : TypeId} {c : Value} (h : Own w p T [c]) : Sl w (.slice (some ⟨p, 0, none⟩) 1 1) 1 [c] := by
  refine ⟨_, 1, rfl, Nat.le_refl _, by decide, fun i x hx => ⟨p, 0, rfl, ?_⟩⟩
  rw [Nat.zero_add, (h.rules).1 i]; exact hx
theorem row_not {w : World} {B size n p : Nat} {T : TypeId} {v : Value} {cs : List Value} (h : w.ownsRow B T size v n cs) (hp : w.heap.size ≤ p) : v.ownBlock ≠ some p := fun e => by
  have := (row_lt h e).2; omega
theorem row_low {w : World} {B size n p : Nat} {T : TypeId} {v : Value} {cs : List Value} (h : w.ownsRow B T size v n cs) (hp : p < B) : v.ownBlock ≠ some p := fun e => by
  have := (row_lt h e).1; omega
theorem RowsB.setLow {w : World} {B : Nat} {Ti Tr : TypeId} {ov : Value} {k : Nat} {R : Nat → List Int} {vs : List Value} (h : RowsB w B Ti Tr ov k R vs) {p : Addr} (hp : p.block < B) (x : Value) : RowsB (w.setCell p x) B Ti Tr ov k R vs :=
  ⟨owns_set_low h.1 hp x, fun i hi => by obtain ⟨u, h1, h2, h3⟩ := h.2 i hi; exact ⟨u, h1, owns_set_low h2 hp x, h3⟩⟩
/-- A system in the making: its box in block b0, its rows and right sides in blocks of their own. -/
structure Tn (y0 : World) (b0 : Nat) (Ti Tr Ts : TypeId) (R : Nat → List Int) (W : World) (av : Value) (k : Nat) (vs : List Value) (bv : Value) (m : Nat) (xs : List Int) (x y : Value) : Prop where
  rows : RowsB W (b0 + 1) Ti Tr av k R vs
  side : W.ownsRow (b0 + 1) Ti 1 bv m (ics xs)
  ab : Apart av bv
  au : ∀ u ∈ vs, Apart u bv
  box : Own W b0 Ts [x, y]
  low : y0.heap.size ≤ b0
  bel : Below y0.heap.size y0 W
section
variable {y0 W W2 : World} {b0 k m : Nat} {Ti Tr Ts : TypeId} {R : Nat → List Int} {av bv x y : Value} {vs : List Value} {xs : List Int}
theorem Tn.sz (h : Tn y0 b0 Ti Tr Ts R W av k vs bv m xs x y) : b0 + 1 ≤ W.heap.size := h.box.lt
theorem Tn.below (h : Tn y0 b0 Ti Tr Ts R W av k vs bv m xs x y) (hb : Below W.heap.size W W2) : Tn y0 b0 Ti Tr Ts R W2 av k vs bv m xs x y :=
  ⟨h.rows.below hb, owns_at h.side hb, h.ab, h.au, h.box.below hb, h.low, below_to h.bel hb⟩
theorem kept_below {W W2 : World} {B size n : Nat} {T : TypeId} {ov v' : Value} {cs : List Value} (hk : Kept W W2 ov v') (h : W.ownsRow B T size ov n cs) (hB : B ≤ W.heap.size) : Below B W W2 := hk.below hB (owns_lt h)
theorem Tn.keepBox (h : Tn y0 b0 Ti Tr Ts R W av k vs bv m xs x y) {ov v' : Value} {size n : Nat} {T : TypeId} {cs : List Value} (ho : W.ownsRow (b0 + 1) T size ov n cs) (hk : Kept W W2 ov v') : Own W2 b0 Ts [x, y] ∧ Below y0.heap.size y0 W2 :=
  ⟨hk.own h.box (row_low ho (Nat.lt_succ_self _)), h.bel.trans ((kept_below hk ho h.sz).mono (by have := h.low; omega))⟩
/-- A row is appended. -/
theorem Tn.pushA (h : Tn y0 b0 Ti Tr Ts R W av k vs bv m xs x y) {Y0 : World} (hW : b0 + 1 ≤ Y0.heap.size) {g cap : Nat} {rv : Value} (hall : ∀ u ∈ av :: bv :: vs, Apart u rv) (hr : W.ownsRow Y0.heap.size Ti 1 rv (R k).length (ics (R k)))
    (hown : W2.ownsRow (b0 + 1) Tr 1 (.slice (some ⟨g, 0, none⟩) (k + 1) cap) (k + 1) (vs ++ [rv])) (hk : Kept W W2 av (.slice (some ⟨g, 0, none⟩) (k + 1) cap)) :
    Tn y0 b0 Ti Tr Ts R W2 (.slice (some ⟨g, 0, none⟩) (k + 1) cap) (k + 1) (vs ++ [rv]) bv m xs x y := by
  have hl : vs.length = k := by have := h.rows.1.1; omega
  have kb := hk.keep (B := b0 + 1)
  have hr' := owns_mono hr hW
  have ar : Apart rv av := (hall av (by simp)).symm
  refine ⟨⟨hown, fun i hi => ?_⟩, hk.row h.side h.ab.symm, (kb.apart h.side h.ab.symm _ _).symm, fun u hu => ?_, (h.keepBox h.rows.1 hk).1, h.low, (h.keepBox h.rows.1 hk).2⟩
  · rcases Nat.lt_or_ge i k with h1 | h1
    · obtain ⟨u, e1, e2, e3, e4⟩ := h.rows.2 i h1
      refine ⟨u, by rw [List.getElem?_append_left (by omega)]; exact e1, kb.row e2 e3, kb.apart e2 e3 _ _, fun j hj u' hu' => ?_⟩
      rw [List.getElem?_append_left (by omega)] at hu'
      exact e4 j hj u' hu'
    · obtain rfl : i = k := by omega
      refine ⟨rv, by rw [List.getElem?_append_right (by omega), hl]; simp, kb.row hr' ar, kb.apart hr' ar _ _, fun j hj u' hu' => ?_⟩
      rw [List.getElem?_append_left (by omega)] at hu'
      exact hall u' (by simp [List.mem_of_getElem? hu'])
  · rcases List.mem_append.1 hu with h1 | h1
    · exact h.au u h1
    · rw [List.mem_singleton.1 h1]; exact (hall bv (by simp)).symm
/-- A right side is appended. -/
theorem Tn.pushB (h : Tn y0 b0 Ti Tr Ts R W av k vs bv m xs x y) {g cap : Nat} {z : Int} (hown : W2.ownsRow (b0 + 1) Ti 1 (.slice (some ⟨g, 0, none⟩) (m + 1) cap) (m + 1) (ics xs ++ [.int .i64 z])) (hk : Kept W W2 bv (.slice (some ⟨g, 0, none⟩) (m + 1) cap)) :
    Tn y0 b0 Ti Tr Ts R W2 av k vs (.slice (some ⟨g, 0, none⟩) (m + 1) cap) (m + 1) (xs ++ [z]) x y := by
  have kb := hk.keep (B := b0 + 1)
  obtain ⟨q1, q2⟩ := h.rows.keep kb h.ab h.au
  refine ⟨q1, by rw [ics_app]; exact hown, (q2 _ _).1, (q2 _ _).2, (h.keepBox h.side hk).1, h.low, (h.keepBox h.side hk).2⟩
theorem Tn.set0 (h : Tn y0 b0 Ti Tr Ts R W av k vs bv m xs x y) (z : Value) : Tn y0 b0 Ti Tr Ts R (W.setCell ⟨b0, 0, none⟩ z) av k vs bv m xs z y :=
  ⟨h.rows.setLow (Nat.lt_succ_self _) _, owns_set_low h.side (Nat.lt_succ_self _) _, h.ab, h.au, h.box.set 0 z, h.low, h.bel.setCell h.low _⟩
theorem Tn.set1 (h : Tn y0 b0 Ti Tr Ts R W av k vs bv m xs x y) (z : Value) : Tn y0 b0 Ti Tr Ts R (W.setCell ⟨b0, 1, none⟩ z) av k vs bv m xs x z :=
  ⟨h.rows.setLow (Nat.lt_succ_self _) _, owns_set_low h.side (Nat.lt_succ_self _) _, h.ab, h.au, h.box.set 1 z, h.low, h.bel.setCell h.low _⟩
theorem Tn.nil {w : World} {b : Nat} (h : Own w b Ts [.slice none 0 0, .slice none 0 0]) (hb : y0.heap.size ≤ b) (hw : Below y0.heap.size y0 w) : Tn y0 b Ti Tr Ts R w (.slice none 0 0) 0 [] (.slice none 0 0) 0 [] (.slice none 0 0) (.slice none 0 0) :=
  ⟨rowsB_nil _ _ _ _ _, World.ownsRow_nil _ _ _ _, apart_nil _, fun u hu => by simp at hu, h, hb, hw⟩
end
end Go.Proofs.Ythlcmlngmcoknaa
