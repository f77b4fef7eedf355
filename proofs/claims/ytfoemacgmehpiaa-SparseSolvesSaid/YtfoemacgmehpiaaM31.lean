/- What is proved here: contracts of functions and plain facts, several texts in one; each one says ahead what it proves, and its conditions. -/
import Derived.Test.YtfoemacgmehpiaaM07
import Derived.Test.YtfoemacgmehpiaaM06
import Derived.Test.YtfoemacgmehpiaaM30
import Derived.Test.YtfoemacgmehpiaaM01
import Derived.Test.YtfoemacgmehpiaaM02
/- What is proved here: the determinant by the first row, of whole numbers. No program in sight. -/
namespace Go.Proofs.Ytfoemacgmehpiaa
open Go.RowKit

def sgn : Nat → Int
  | 0 => 1
  | k + 1 => -(sgn k)
/-- A row without its k-th number; the rows but the first one, each without its k-th number. -/
def mrow (r : List Int) (k : Nat) : List Int := r.take k ++ r.drop (k + 1)
def minor (m : List (List Int)) (k : Nat) : List (List Int) := m.tail.map fun r => mrow r k
/-- The determinant of n rows. -/
def detF : Nat → List (List Int) → Int
  | 0, _ => 1
  | n + 1, m => si (fun j => sgn j * (m.getD 0 []).getD j 0 * detF n (minor m j)) (n + 1)
/-- The part of it that the first k numbers give. -/
def detK (n : Nat) (m : List (List Int)) (k : Nat) : Int := si (fun j => sgn j * (m.getD 0 []).getD j 0 * detF n (minor m j)) k
theorem detK_succ (n : Nat) (m : List (List Int)) (k : Nat) : detK n m (k + 1) = detK n m k + sgn k * (m.getD 0 []).getD k 0 * detF n (minor m k) := rfl
theorem detF_succ (n : Nat) (m : List (List Int)) : detF (n + 1) m = detK n m (n + 1) := rfl
theorem sgn_or : ∀ k, sgn k = 1 ∨ sgn k = -1
  | 0 => .inl rfl
  | k + 1 => by
    rcases sgn_or k with h | h
    · right; unfold sgn; rw [h]
    · left; unfold sgn; rw [h]; rfl
theorem sgn_wrap (k : Nat) : wrap64 (-(sgn k)) = sgn (k + 1) := by
  show _ = -(sgn k)
  rcases sgn_or k with h | h <;> (rw [h]; unfold wrap64; omega)
theorem mrow_len {r : List Int} {k n : Nat} (hl : r.length = n + 1) (hk : k < n + 1) : (mrow r k).length = n := by
  unfold mrow; simp; omega
theorem minor_len (m : List (List Int)) (k : Nat) : (minor m k).length = m.length - 1 := by simp [minor]
theorem minor_get {m : List (List Int)} {k j : Nat} (h : j < (minor m k).length) : (minor m k)[j] = mrow (m[j + 1]'(by rw [minor_len] at h; omega)) k := by
  simp [minor]
theorem own_empty {w : World} {T : TypeId} {B p size : Nat} (hB : B ≤ p) (h : w.heap[p]? = some (.cells #[] T (0, 0))) : w.ownsRow B T size (.slice (some ⟨p, 0, none⟩) 0 0) 0 [] :=
  ⟨by simp, .inr ⟨p, 0, #[], rfl, hB, h, Nat.le_refl _, by unfold maxLen; omega, by simp, by simp⟩⟩
theorem owns_slice {w : World} {B size n : Nat} {T : TypeId} {v : Value} {cs : List Value} (h : w.ownsRow B T size v n cs) : ∃ ad cap, v = .slice ad n cap := by
  obtain ⟨_, h3⟩ := h
  rcases h3 with ⟨h4, h5⟩ | ⟨g', cap'', cur, h4, _⟩
  · exact ⟨none, 0, by rw [h4, h5]⟩
  · exact ⟨_, _, h4⟩
theorem row_part {w : World} {b o cap N k : Nat} {row : List Int} (h : SI w (.slice (some ⟨b, o, none⟩) N cap) row) (hl : row.length = N) (hk : k ≤ N) : Sl w (.slice (some ⟨b, o, none⟩) k cap) k (ics (row.take k)) := by
  have h' : Sl w (.slice (some ⟨b, o, none⟩) N cap) N (ics row) := by unfold SI at h; rw [hl] at h; exact h
  obtain ⟨_, _, e, h2, _, _⟩ := id h'
  cases e
  have := h'.part (by rw [ics_len]; exact hl) 0 k cap (Nat.zero_le _) hk (by omega)
  simp only [Nat.sub_zero, Nat.add_zero, List.drop_zero] at this
  rw [show (ics row).take k = ics (row.take k) from by simp [ics]] at this
  exact this
theorem row_rest {w : World} {b o cap n k : Nat} {row : List Int} (h : SI w (.slice (some ⟨b, o, none⟩) (n + 1) cap) row) (hl : row.length = n + 1) (hk : k < n + 1) : Sl w (.slice (if cap = k + 1 then some ⟨b, o, none⟩ else some ⟨b, o + (k + 1), none⟩) (n - k) (cap - (k + 1))) (n - k) (ics (row.drop (k + 1))) := by
  have h' : Sl w (.slice (some ⟨b, o, none⟩) (n + 1) cap) (n + 1) (ics row) := by unfold SI at h; rw [hl] at h; exact h
  obtain ⟨_, _, e, h2, h3, _⟩ := id h'
  cases e
  by_cases hc : cap = k + 1
  · rw [if_pos hc]
    have hnk : n - k = 0 := by omega
    have hd : row.drop (k + 1) = [] := List.drop_eq_nil_of_le (by omega)
    rw [hd, hnk]
    exact ⟨_, _, rfl, Nat.zero_le _, by omega, fun i x hx => by simp [ics] at hx⟩
  · rw [if_neg hc]
    have := h'.part (by rw [ics_len]; exact hl) (k + 1) (n + 1) (cap - (k + 1)) (by omega) (Nat.le_refl _) (by omega)
    rw [show n + 1 - (k + 1) = n - k from by omega] at this
    have e2 : ((ics row).drop (k + 1)).take (n - k) = ics (row.drop (k + 1)) := by
      rw [List.take_of_length_le (by rw [List.length_drop, ics_len]; omega)]
      simp [ics]
    rw [e2] at this
    exact this
theorem row_rest' {w : World} {b o cap N k : Nat} {row : List Int} (h : SI w (.slice (some ⟨b, o, none⟩) N cap) row) (hl : row.length = N) (hk : k < N) : Sl w (.slice (if cap = k + 1 then some ⟨b, o, none⟩ else some ⟨b, o + (k + 1), none⟩) (N - (k + 1)) (cap - (k + 1))) (N - (k + 1)) (ics (row.drop (k + 1))) := by
  obtain ⟨n, rfl⟩ : ∃ n, N = n + 1 := ⟨N - 1, by omega⟩
  rw [show n + 1 - (k + 1) = n - k from by omega]
  exact row_rest h hl hk
/-- A row of the call's own, through the two appends that make a new row. -/
theorem row_thru {W1 U U1 U2 : World} {v1 v2 : Value} {B size n : Nat} {T : TypeId} {v : Value} {cs : List Value} (ow : W1.ownsRow B T size v n cs) (hU : Below W1.heap.size W1 U)
    (hk1 : Kept U U1 (.slice (some ⟨W1.heap.size, 0, none⟩) 0 0) v1) (hk2 : Kept U1 U2 v1 v2) : U2.ownsRow B T size v n cs ∧ Apart v v2 := by
  have ap0 : Apart v (.slice (some ⟨W1.heap.size, 0, none⟩) 0 0) := fun b h1 h2 => by
    have := (row_lt ow h1).2
    simp only [Value.ownBlock, Option.some.injEq] at h2
    omega
  have owU := owns_at ow hU
  have ow1 := hk1.row owU ap0
  have ap1 := hk1.apart owU ap0
  exact ⟨hk2.row ow1 ap1, hk2.apart ow1 ap1⟩
theorem one_ics (xs : List Int) : ∀ u ∈ ics xs, u.oneCell' = true := one_ints xs
/-- The rows of the smaller matrix while they are made. -/
def Less (w : World) (B n : Nat) (T : TypeId) (m : List (List Int)) (k : Nat) (ov : Value) (r : Nat) (cs : List Value) : Prop :=
  ∀ j (_ : j < r) (h' : j + 1 < m.length), ∃ u, cs[j]? = some u ∧ w.ownsRow B T 1 u n (ics (mrow m[j + 1] k)) ∧ Apart u ov
theorem gd_at {α : Type} {xs : List α} {d : α} {k : Nat} (hk : k < xs.length) : xs[k] = xs.getD k d := by simp [List.getD, hk]
theorem det_step (S s x D : Int) : wrap64 (wrap64 S + wrap64 (wrap64 (s * x) * wrap64 D)) = wrap64 (S + s * x * D) := by
  first | simp only [wr_add_l, wr_add_r, wr_mul_l, wr_mul_r] | (rw [wr_add_l, wr_add_r, wr_mul_l, wr_mul_r])
end Go.Proofs.Ytfoemacgmehpiaa
