/- What is proved here: contracts of functions and plain facts, several texts in one; each one says ahead what it proves, and its conditions. -/
import Derived.Test.YthlcmlngmcoknaaC17
import Derived.Test.YthlcmlngmcoknaaC24
/- What is proved here: many new blocks at once: what each holds. No condition. -/
namespace Go.Proofs.Ythlcmlngmcoknaa
open Go.RowKit

def allocs (w : World) : List Obj → World
  | [] => w
  | o :: os => allocs (w.alloc o) os
theorem ba_allocs : ∀ (os : List Obj) (w : World), Below w.heap.size w (allocs w os)
  | [], w => Below.refl _ w
  | o :: os, w => (ba1 w o).trans ((ba_allocs os (w.alloc o)).mono (by simp))
theorem own_allocs : ∀ (os : List Obj) (w : World) (i : Nat) (T : TypeId) (cs : List Value), os[i]? = some (.cells cs.toArray T (0, 0)) → Own (allocs w os) (w.heap.size + i) T cs
  | [], w, i, T, cs, h => by simp at h
  | o :: os, w, 0, T, cs, h => by
    have h' : o = .cells cs.toArray T (0, 0) := by simpa using h
    subst h'
    exact (Own.new w T cs).below (ba_allocs os _)
  | o :: os, w, i + 1, T, cs, h => by
    have h' : os[i]? = some (.cells cs.toArray T (0, 0)) := by simpa using h
    have := own_allocs os (w.alloc o) i T cs h'
    rw [show (w.alloc o).heap.size = w.heap.size + 1 from by simp] at this
    rw [show w.heap.size + (i + 1) = w.heap.size + 1 + i by omega]
    exact this
theorem sff_of_own {w : World} {g : Nat} {T : TypeId} (xss : List (List (Int × Int))) (vs : List Value) (n : Nat) (hn : xss.length = n) (hv : vs.length = n) (hm : n ≤ 1000) (h : Own w g T vs) (hr : ∀ i (_ : i < xss.length) (h' : i < vs.length), SF w vs[i] (xss.getD i [])) : SFF w (.slice (some ⟨g, 0, none⟩) n n) xss := by
  refine ⟨vs, by omega, ?_, hr⟩
  rw [hn]
  exact h.sl n (Nat.le_refl _) (by omega) _ ⟨[], by simp⟩
theorem sf_slice {w : World} {v : Value} {xs : List (Int × Int)} {n : Nat} (h : SF w v xs) (hn : xs.length = n) : ∃ ad cap, v = .slice ad n cap := by
  subst hn
  obtain ⟨ad, cap, e, _, _, _⟩ := h.open
  exact ⟨ad, cap, e⟩
end Go.Proofs.Ythlcmlngmcoknaa
