/- What is proved here: contracts of functions and plain facts, several texts in one; each one says ahead what it proves, and its conditions. -/
import Derived.Test.YthlcmlngmcoknaaC47
import Derived.Test.YthlcmlngmcoknaaC05
import Derived.Test.YthlcmlngmcoknaaC01
import Derived.WalkKit
import Derived.OpenShut
import Derived.WideShapes
import Derived.ChangeSame
import Derived.Test.YthlcmlngmcoknaaC06
/- What is proved here: what a slice of fractions, and a slice of slices of numbers, that came in give a walk: their cells. No condition. -/
namespace Go.Proofs.Ythlcmlngmcoknaa
open Go.RowKit Go.WideShapes Go.Joins Go.Deep

section
variable {H : Type} {enc : TypeId × Value → H} {P : Program} {w : World} {base : Nat} {spare : Nat → Bool} {held : Bool}

/-- A slice of fractions. -/
theorem sf_of_trod {fuel : Nat} {t e : TypeId} {f0 f1 : Field} {v : Value} {x : DataW H × List MemPlace} (ht : P.underlying t = some (.slice e)) (he : P.underlying e = some (.struct #[f0, f1])) (hc : P.cellsOf e = 2)
    (o0 : f0.offset = 0) (k0 : P.cellsOf f0.type = 1) (o1 : f1.offset = 1) (k1 : P.cellsOf f1.type = 1) (i0 : P.underlying f0.type = some (.int .i64)) (i1 : P.underlying f1.type = some (.int .i64))
    (h : DataW.trod enc P w base spare held fuel t [v] = some x) : ∃ xs : List (Int × Int), SF w v xs ∧ FI xs := by
  rcases open_slice ht h with ⟨hcs, _⟩ | ⟨a, len, cap, m, n, D, Pl, hcs, _, hl, hm, hmm, _, hx⟩
  · simp only [List.cons.injEq, and_true] at hcs
    subst hcs
    exact ⟨[], ⟨none, 0, rfl, Nat.le_refl _, by simp, fun i x hx => by simp [fcs] at hx⟩, fun p hp => by simp at hp⟩
  · simp only [List.cons.injEq, and_true] at hcs
    subst hcs
    have hml : len ≤ m := by rw [hmm]; split <;> omega
    have key : ∀ i, i < len → ∃ p : Int × Int, w.cell? (a.add (i * 2)) = some (.int .i64 p.1) ∧ w.cell? (a.add (i * 2 + 1)) = some (.int .i64 p.2) ∧ i64 p.1 ∧ i64 p.2 := by
      intro i hi
      obtain ⟨cs', hc', ht'⟩ := hx i (by omega)
      rw [hc] at hc'
      obtain ⟨y0, y1, n', _, hlen, g0, g1⟩ := Go.ChangeShapes.trod_struct2 he ht'
      obtain ⟨_, hcl, hat⟩ := World.cells?_some hc'
      rw [o0, k0] at g0
      rw [o1, k1] at g1
      match cs', hcl with
      | [u0, u1], _ =>
        have hat0 := hat 0 (by omega)
        have hat1 := hat 1 (by omega)
        simp only [List.drop, List.take] at g0 g1
        simp at hat0 hat1
        obtain ⟨n0, en0, _, w0⟩ := DataW.trod_int i0 g0
        obtain ⟨n1, en1, _, w1⟩ := DataW.trod_int i1 g1
        obtain rfl : u0 = .int .i64 n0 := by simpa using en0
        obtain rfl : u1 = .int .i64 n1 := by simpa using en1
        refine ⟨(n0, n1), ?_, ?_, wf_i64 w0, wf_i64 w1⟩
        · rw [← hat0, Go.Deep.add_add, Nat.add_zero]
        · rw [← hat1, Go.Deep.add_add]
    obtain ⟨f, hf⟩ : ∃ f : Nat → Int × Int, ∀ i, i < len → w.cell? (a.add (i * 2)) = some (.int .i64 (f i).1) ∧ w.cell? (a.add (i * 2 + 1)) = some (.int .i64 (f i).2) ∧ i64 (f i).1 ∧ i64 (f i).2 := by
      refine ⟨fun i => if h : i < len then Classical.choose (key i h) else (0, 0), fun i hi => ?_⟩
      simp only [hi, dif_pos]
      exact Classical.choose_spec (key i hi)
    refine ⟨(List.range len).map f, ⟨some a, cap, by simp, by simpa using hl, by unfold maxLen at hm; simp; omega, fun i u hu => ?_⟩, fun p hp => ?_⟩
    · have hi : i < ((List.range len).map f).length * 2 := by
        rw [← fcs_len]
        rcases Nat.lt_or_ge i (fcs ((List.range len).map f)).length with h | h
        · exact h
        · simp [h] at hu
      simp only [List.length_map, List.length_range] at hi
      have h0 := (hf 0 (by omega)).1
      rw [Nat.zero_mul] at h0
      have hj : i / 2 < len := by omega
      obtain ⟨q1, q2, _⟩ := hf (i / 2) hj
      obtain ⟨r1, r2⟩ := fcs_get ((List.range len).map f) (i / 2) (by simpa using hj)
      rw [addr_add h0] at q1 q2
      refine ⟨a.block, a.off, by rw [← addr_none h0], ?_⟩
      rcases Nat.mod_two_eq_zero_or_one i with hp | hp
      · have hi2 : i / 2 * 2 = i := by omega
        rw [hi2] at q1 r1
        rw [r1] at hu
        rw [q1, ← hu]; simp
      · have hi2 : i / 2 * 2 + 1 = i := by omega
        rw [hi2] at q2 r2
        rw [r2] at hu
        rw [q2, ← hu]; simp
    · obtain ⟨i, hi, rfl⟩ := List.mem_map.1 hp
      exact ⟨(hf i (List.mem_range.1 hi)).2.2.1, (hf i (List.mem_range.1 hi)).2.2.2⟩

theorem rows_of {vs : List Value} {p : Value → List Int → Prop} (h : ∀ u ∈ vs, ∃ xs, p u xs) : ∃ xss : List (List Int), xss.length = vs.length ∧ ∀ i (h : i < xss.length) (h' : i < vs.length), p vs[i] xss[i] := by
  induction vs with
  | nil => exact ⟨[], rfl, fun i h => by simp at h⟩
  | cons u vs ih =>
    obtain ⟨xs, hx⟩ := h u (by simp)
    obtain ⟨xss, h1, h2⟩ := ih fun u hu => h u (by simp [hu])
    refine ⟨xs :: xss, by simp [h1], fun i hi hi' => ?_⟩
    cases i with
    | zero => exact hx
    | succ i => exact h2 i (by simpa using hi) (by simpa using hi')
/-- All numbers of a list are 64-bit integers. -/
def LI (xs : List Int) : Prop := ∀ n ∈ xs, i64 n
/-- A slice of slices of numbers. -/
theorem ss_of_trod {fuel : Nat} {t e f : TypeId} {v : Value} {x : DataW H × List MemPlace} (ht : P.underlying t = some (.slice e)) (hc : P.cellsOf e = 1) (he : P.underlying e = some (.slice f)) (hcf : P.cellsOf f = 1) (hf : P.underlying f = some (.int .i64)) (h : DataW.trod enc P w base spare held fuel t [v] = some x) :
    ∃ xss : List (List Int), SS w v xss ∧ ∀ xs ∈ xss, LI xs := by
  obtain ⟨vs, h1, h2⟩ := sl_of_trod ht hc h
  obtain ⟨xss, h3, h4⟩ := rows_of (p := fun u xs => SI w u xs ∧ LI xs) fun u hu => by
    obtain ⟨n, y, hy⟩ := h2 u hu
    exact si_of_trod he hcf hf hy
  refine ⟨xss, ⟨vs, h3.symm, by rw [h3]; exact h1, fun i hi hi' => (h4 i hi hi').1⟩, fun xs hx => ?_⟩
  obtain ⟨i, hi, rfl⟩ := List.getElem_of_mem hx
  exact (h4 i hi (by omega)).2
end
end Go.Proofs.Ythlcmlngmcoknaa

/- What is proved here: what a slice of sources that came in gives a walk: their cells. No condition. -/
namespace Go.Proofs.Ythlcmlngmcoknaa
open Go.RowKit Go.WideShapes Go.Joins Go.Deep

section
variable {H : Type} {enc : TypeId × Value → H} {P : Program} {w : World} {base : Nat} {spare : Nat → Bool} {held : Bool}
theorem st_of_trod {fuel : Nat} {t e : TypeId} {f0 f1 f2 : Field} {v : Value} {x : DataW H × List MemPlace} (ht : P.underlying t = some (.slice e)) (hs : P.underlying e = some (.struct #[f0, f1, f2])) (hC : P.cellsOf e = 3)
    (o0 : f0.offset = 0) (k0 : P.cellsOf f0.type = 1) (o1 : f1.offset = 1) (k1 : P.cellsOf f1.type = 1) (o2 : f2.offset = 2) (k2 : P.cellsOf f2.type = 1)
    (i0 : P.underlying f0.type = some (.int .i64)) (i1 : P.underlying f1.type = some (.int .i64)) (i2 : P.underlying f2.type = some (.int .i64))
    (h : DataW.trod enc P w base spare held fuel t [v] = some x) : ∃ xs : List T3, ST w v xs ∧ TI xs := by
  rcases open_slice ht h with ⟨hcs, _⟩ | ⟨a, len, cap, m, n, D, Pl, hcs, _, hl, hm, hmm, _, hx⟩
  · simp only [List.cons.injEq, and_true] at hcs
    subst hcs
    exact ⟨[], st_nil w, fun s hs => by simp at hs⟩
  · simp only [List.cons.injEq, and_true] at hcs
    subst hcs
    have hml : len ≤ m := by rw [hmm]; split <;> omega
    have key : ∀ i, i < len → ∃ p : T3, (∀ k, k < 3 → w.cell? (a.add (i * 3 + k)) = p.cs[k]?) ∧ i64 p.x ∧ i64 p.y ∧ i64 p.f := by
      intro i hi
      obtain ⟨cs', hc', ht'⟩ := hx i (by omega)
      rw [hC] at hc'
      obtain ⟨y0, y1, y2, n, _, _, h0, h1, h2⟩ := trod_struct3 hs ht'
      obtain ⟨_, hcl, hat⟩ := World.cells?_some hc'
      simp only [o0, k0, o1, k1, o2, k2] at h0 h1 h2
      match cs', hcl with
      | [u0, u1, u2], _ =>
        simp only [List.drop, List.take] at h0 h1 h2
        obtain ⟨q0, e0, _, w0⟩ := DataW.trod_int i0 h0
        obtain ⟨q1, e1, _, w1⟩ := DataW.trod_int i1 h1
        obtain ⟨q2, e2, _, w2⟩ := DataW.trod_int i2 h2
        simp only [List.cons.injEq, and_true] at e0 e1 e2
        subst e0 e1 e2
        refine ⟨⟨q0, q1, q2⟩, fun k hk => ?_, wf_i64 w0, wf_i64 w1, wf_i64 w2⟩
        have := hat k hk
        rw [← Go.Deep.add_add, this]
        rfl
    obtain ⟨f, hf⟩ : ∃ f : Nat → T3, ∀ i, i < len → (∀ k, k < 3 → w.cell? (a.add (i * 3 + k)) = (f i).cs[k]?) ∧ i64 (f i).x ∧ i64 (f i).y ∧ i64 (f i).f := by
      refine ⟨fun i => if h : i < len then Classical.choose (key i h) else ⟨0, 0, 0⟩, fun i hi => ?_⟩
      simp only [hi, dif_pos]
      exact Classical.choose_spec (key i hi)
    refine ⟨(List.range len).map f, ⟨some a, cap, by simp, by simpa using hl, by unfold maxLen at hm; simp; omega, fun i u hu => ?_⟩, fun s hs => ?_⟩
    · have hi : i < ((List.range len).map f).length * 3 := by
        rw [← tcs_len]
        rcases Nat.lt_or_ge i (tcs ((List.range len).map f)).length with h | h
        · exact h
        · simp [h] at hu
      simp only [List.length_map, List.length_range] at hi
      have h0 := (hf 0 (by omega)).1 0 (by decide)
      rw [Nat.zero_mul] at h0
      have hj : i / 3 < len := by omega
      have q := (hf (i / 3) hj).1 (i % 3) (by omega)
      have r := tcs_get ((List.range len).map f) (i / 3) (by simpa using hj) (i % 3) (by omega)
      have e6 : i / 3 * 3 + i % 3 = i := by omega
      rw [e6] at q r
      rw [addr_add h0] at q
      refine ⟨a.block, a.off, by rw [← addr_none h0], ?_⟩
      rw [q]
      rw [r] at hu
      simpa using hu
    · obtain ⟨i, hi, rfl⟩ := List.mem_map.1 hs
      exact (hf i (List.mem_range.1 hi)).2
end
end Go.Proofs.Ythlcmlngmcoknaa
