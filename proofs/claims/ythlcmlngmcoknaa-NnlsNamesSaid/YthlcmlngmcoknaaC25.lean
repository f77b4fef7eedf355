/- What is proved here: contracts of functions and plain facts, several texts in one; each one says ahead what it proves, and its conditions. -/
import Derived.Test.YthlcmlngmcoknaaC01
import Derived.ProofKit
import Derived.Deep.Slices
import Derived.Lib.SmallJoins
/- What is proved here: what a slice that came in gives a walk: its cells. No condition. -/
namespace Go.Proofs.Ythlcmlngmcoknaa
open Go.RowKit Go.Deep

section
variable {H : Type} {enc : TypeId × Value → H} {P : Program} {w : World} {base : Nat} {spare : Nat → Bool} {held : Bool}

theorem cell_spot {w : World} {a : Addr} {v : Value} (h : w.cell? a = some v) : a.spot = none := by
  unfold World.cell? at h
  split at h
  · split at h
    · cases h
    · rename_i hs; simpa using hs
  · cases h
theorem addr_none {w : World} {a : Addr} {v : Value} (h : w.cell? (a.add 0) = some v) : a = ⟨a.block, a.off, none⟩ := by
  have h2 := cell_spot h
  cases a
  simp [Addr.add] at h2
  subst h2; rfl
theorem addr_add {w : World} {a : Addr} {v : Value} (h : w.cell? (a.add 0) = some v) (i : Nat) : a.add i = ⟨a.block, a.off + i, none⟩ := by
  have h2 := addr_none h
  rw [h2]
  unfold Addr.add
  split
  · rename_i hi; subst hi; rfl
  · rfl

/-- A slice of elements of one cell each. -/
theorem sl_of_trod {fuel : Nat} {t e : TypeId} {v : Value} {x : DataW H × List MemPlace} (ht : P.underlying t = some (.slice e)) (hc : P.cellsOf e = 1) (h : DataW.trod enc P w base spare held fuel t [v] = some x) :
    ∃ (vs : List Value), Sl w v vs.length vs ∧ ∀ u ∈ vs, ∃ n y, DataW.trod enc P w base spare held n e [u] = some y := by
  rcases open_slice1 ht hc h with ⟨hcs, _⟩ | ⟨a, len, cap, m, n, V, D, Pl, hcs, _, hl, hm, hmm, _, hx⟩
  · simp only [List.cons.injEq, and_true] at hcs
    subst hcs
    exact ⟨[], ⟨none, 0, rfl, Nat.le_refl _, by simp, fun i x hx => by simp at hx⟩, by simp⟩
  · simp only [List.cons.injEq, and_true] at hcs
    subst hcs
    have hml : len ≤ m := by rw [hmm]; split <;> omega
    refine ⟨(List.range len).map V, ⟨some a, cap, by simp, by simpa using hl, by unfold maxLen at hm; simp; omega, fun i u hu => ?_⟩, fun u hu => ?_⟩
    · have hi : i < len := by
        rcases Nat.lt_or_ge i len with h | h
        · exact h
        · simp [h] at hu
      have h0 := (hx 0 (by omega)).1
      have h1 := (hx i (by omega)).1
      rw [addr_add h0] at h1
      refine ⟨a.block, a.off, by rw [← addr_none h0], ?_⟩
      rw [h1]
      simpa [hi] using hu
    · obtain ⟨i, hi, rfl⟩ := List.mem_map.1 hu
      exact ⟨n, _, (hx i (by have := List.mem_range.1 hi; omega)).2⟩

theorem all_bool {vs : List Value} (h : ∀ u ∈ vs, ∃ b, u = .bool b) : ∃ xs : List Bool, vs = xs.map Value.bool := by
  induction vs with
  | nil => exact ⟨[], rfl⟩
  | cons u vs ih =>
    obtain ⟨b, rfl⟩ := h u (by simp)
    obtain ⟨xs, rfl⟩ := ih fun u hu => h u (by simp [hu])
    exact ⟨b :: xs, rfl⟩
theorem all_int {vs : List Value} {p : Int → Prop} (h : ∀ u ∈ vs, ∃ n, u = .int .i64 n ∧ p n) : ∃ xs : List Int, vs = xs.map (Value.int .i64) ∧ ∀ n ∈ xs, p n := by
  induction vs with
  | nil => exact ⟨[], rfl, by simp⟩
  | cons u vs ih =>
    obtain ⟨n, rfl, hn⟩ := h u (by simp)
    obtain ⟨xs, rfl, hx⟩ := ih fun u hu => h u (by simp [hu])
    refine ⟨n :: xs, rfl, fun m hm => ?_⟩
    rcases List.mem_cons.1 hm with rfl | hm
    · exact hn
    · exact hx m hm
theorem wf_i64 {n : Int} (h : (Lit.int .i64 n).wf = true) : -9223372036854775808 ≤ n ∧ n ≤ 9223372036854775807 := by
  simpa [Lit.wf, IntKind.min, IntKind.max, IntKind.bits, IntKind.signed] using h

theorem sb_of_trod {fuel : Nat} {t e : TypeId} {v : Value} {x : DataW H × List MemPlace} (ht : P.underlying t = some (.slice e)) (hc : P.cellsOf e = 1) (he : P.underlying e = some .bool) (h : DataW.trod enc P w base spare held fuel t [v] = some x) :
    ∃ xs : List Bool, SB w v xs := by
  obtain ⟨vs, h1, h2⟩ := sl_of_trod ht hc h
  obtain ⟨xs, rfl⟩ := all_bool fun u hu => by
    obtain ⟨n, y, hy⟩ := h2 u hu
    obtain ⟨b, hb, _⟩ := DataW.trod_bool he hy
    exact ⟨b, by simpa using hb⟩
  exact ⟨xs, by unfold SB; rw [List.length_map] at h1; exact h1⟩
theorem si_of_trod {fuel : Nat} {t e : TypeId} {v : Value} {x : DataW H × List MemPlace} (ht : P.underlying t = some (.slice e)) (hc : P.cellsOf e = 1) (he : P.underlying e = some (.int .i64)) (h : DataW.trod enc P w base spare held fuel t [v] = some x) :
    ∃ xs : List Int, SI w v xs ∧ ∀ n ∈ xs, -9223372036854775808 ≤ n ∧ n ≤ 9223372036854775807 := by
  obtain ⟨vs, h1, h2⟩ := sl_of_trod ht hc h
  obtain ⟨xs, rfl, hx⟩ := all_int (p := fun n => -9223372036854775808 ≤ n ∧ n ≤ 9223372036854775807) fun u hu => by
    obtain ⟨n, y, hy⟩ := h2 u hu
    obtain ⟨b, hb, _, hw⟩ := DataW.trod_int he hy
    exact ⟨b, by simpa using hb, wf_i64 hw⟩
  exact ⟨xs, by unfold SI; rw [List.length_map] at h1; exact h1, hx⟩
end

end Go.Proofs.Ythlcmlngmcoknaa
