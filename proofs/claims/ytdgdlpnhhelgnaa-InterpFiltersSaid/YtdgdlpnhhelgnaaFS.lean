/- What is proved here: slices of fractions: what their cells hold, opened element by element. No condition. -/
import Derived.Test.YtdgdlpnhhelgnaaFmul
namespace Go.Proofs.Ytdgdlpnhhelgnaa
open Go.RowKit

/-- The cells of fractions. -/
def fcs (xs : List (Int × Int)) : List Value := xs.flatMap fun p => [.int .i64 p.1, .int .i64 p.2]
theorem fcs_nil : fcs [] = [] := rfl
theorem fcs_cons (p : Int × Int) (xs : List (Int × Int)) : fcs (p :: xs) = .int .i64 p.1 :: .int .i64 p.2 :: fcs xs := rfl
theorem fcs_append (xs ys : List (Int × Int)) : fcs (xs ++ ys) = fcs xs ++ fcs ys := by simp [fcs]
theorem fcs_len (xs : List (Int × Int)) : (fcs xs).length = xs.length * 2 := by
  induction xs with
  | nil => rfl
  | cons p xs ih => rw [fcs_cons, List.length_cons, List.length_cons, ih, List.length_cons]; omega
theorem fcs_get : ∀ (xs : List (Int × Int)) (i : Nat) (h : i < xs.length), (fcs xs)[i * 2]? = some (.int .i64 xs[i].1) ∧ (fcs xs)[i * 2 + 1]? = some (.int .i64 xs[i].2)
  | p :: xs, 0, _ => ⟨rfl, rfl⟩
  | p :: xs, i + 1, h => by
    have := fcs_get xs i (by simpa using h)
    rw [fcs_cons, show (i + 1) * 2 = i * 2 + 1 + 1 by omega]
    simpa using this
/-- A slice of fractions. -/
def SF (w : World) (v : Value) (xs : List (Int × Int)) : Prop := Sl w v xs.length (fcs xs)
theorem SF.below {w w' : World} {v : Value} {xs : List (Int × Int)} (h : SF w v xs) (hb : Below w.heap.size w w') : SF w' v xs := Sl.below h hb
theorem SF.grow {w : World} {v : Value} {xs : List (Int × Int)} (h : SF w v xs) (e : World) : SF (grow w e) v xs := Sl.grow h e
theorem SF.low {w : World} {v : Value} {xs : List (Int × Int)} {B : Nat} (h : SF w v xs) (hf : Frv B v) {p : Addr} (hp : p.block < B) (x : Value) : SF (w.setCell p x) v xs := Sl.low h hf hp x
theorem SF.open {w : World} {v : Value} {xs : List (Int × Int)} (h : SF w v xs) : ∃ ad cap, v = .slice ad xs.length cap ∧ xs.length ≤ cap ∧ xs.length ≤ 9223372036854775807 ∧
    Hid (∀ i (h : i < xs.length), ∃ b off, ad = some ⟨b, off, none⟩ ∧ w.cell? ⟨b, off + i * 2, none⟩ = some (.int .i64 xs[i].1) ∧ w.cell? ⟨b, off + i * 2 + 1, none⟩ = some (.int .i64 xs[i].2)) := by
  obtain ⟨ad, cap, h1, h2, h3, h4⟩ := h
  refine ⟨ad, cap, h1, h2, h3, fun i hi => ?_⟩
  obtain ⟨g1, g2⟩ := fcs_get xs i hi
  obtain ⟨b, off, e1, c1⟩ := h4 _ _ g1
  obtain ⟨b', off', e2, c2⟩ := h4 _ _ g2
  rw [e1] at e2
  cases e2
  exact ⟨b, off, e1, c1, by rw [show off + i * 2 + 1 = off + (i * 2 + 1) by omega]; exact c2⟩
/-- All numbers are 64-bit integers. -/
def FI (xs : List (Int × Int)) : Prop := ∀ p ∈ xs, i64 p.1 ∧ i64 p.2
theorem FI.get {xs : List (Int × Int)} (h : FI xs) (i : Nat) (hi : i < xs.length) : i64 xs[i].1 ∧ i64 xs[i].2 := h _ (List.getElem_mem hi)
/-- All fractions are valid. -/
def fvalid (xs : List (Int × Int)) : Bool := xs.all fun p => fchk p.1 p.2 == 0
theorem fvalid_take {xs : List (Int × Int)} {k : Nat} (hk : k < xs.length) (h : fvalid (xs.take k) = true) (hz : fchk xs[k].1 xs[k].2 = 0) : fvalid (xs.take (k + 1)) = true := by
  unfold fvalid at *
  rw [List.take_succ_eq_append_getElem hk, List.all_append, h]
  simp [hz]
theorem fvalid_not {xs : List (Int × Int)} {k : Nat} (hk : k < xs.length) (hz : ¬ fchk xs[k].1 xs[k].2 = 0) : fvalid xs = false := by
  unfold fvalid
  rw [List.all_eq_false]
  exact ⟨xs[k], List.getElem_mem hk, by simpa using hz⟩
theorem fvalid_get {xs : List (Int × Int)} (h : fvalid xs = true) (i : Nat) (hi : i < xs.length) : fchk xs[i].1 xs[i].2 = 0 := by
  unfold fvalid at h
  have := List.all_eq_true.1 h xs[i] (List.getElem_mem hi)
  simpa using this
end Go.Proofs.Ytdgdlpnhhelgnaa
