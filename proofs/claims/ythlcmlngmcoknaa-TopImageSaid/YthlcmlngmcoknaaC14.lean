/- What is proved here: contracts of functions and plain facts, several texts in one; each one says ahead what it proves, and its conditions. -/
import Derived.Test.YthlcmlngmcoknaaC12
import Derived.Test.YthlcmlngmcoknaaC13
/- What is proved here: the bounds of a beam and of a sky's model, and the model's cells one source after the other. No program in sight. -/
namespace Go.Proofs.Ythlcmlngmcoknaa
open Go.RowKit

theorem tbsum_bd {p : List (Int × Int)} (h : p.length ≤ 8) (x y : Int) : -28 ≤ tbsum p x y ∧ tbsum p x y ≤ 28 := by
  have h1 := sum_bd (L := prs p.length) (g := fun ij => tqc (Qq p ij.1 ij.2 x y)) (b := 1) fun ij _ => by
    rcases tqc_bd (Qq p ij.1 ij.2 x y) with e | e | e <;> rw [e] <;> omega
  have h2 := prs_len h
  unfold tbsum
  omega
/-- The beam of the places. -/
def beamN (p : List (Int × Int)) (n : Nat) (r c : Nat) : Int := dcell p [⟨(n : Int) - 1, (n : Int) - 1, 1⟩] c r
theorem beam_BM {p : List (Int × Int)} {l : List T3} {n : Nat} (h : bothN p l = 0) (n1 : 1 ≤ n) (n4 : n ≤ 4) : BM n (2 * n - 1) (beamN p n) := by
  obtain ⟨g1, _⟩ := bothN_of h
  have hp := plcN_of g1
  refine ⟨n1, by omega, rfl, fun v u _ _ => ?_, ?_⟩
  · unfold beamN
    rw [beam_is]
    have := tbsum_bd (p := p) (by omega) ((n : Int) - 1 - u) ((n : Int) - 1 - v)
    omega
  · unfold beamN
    rw [beam_is, show (n : Int) - 1 - ((n - 1 : Nat) : Int) = 0 by omega, tbsum_0]
    have := prs_pos (n := p.length) (by omega)
    omega
theorem beam_both {p : List (Int × Int)} {l : List T3} {n : Nat} (h : bothN p l = 0) (n1 : 1 ≤ n) (n4 : n ≤ 4) : bothN p [⟨(n : Int) - 1, (n : Int) - 1, 1⟩] = 0 := by
  obtain ⟨g1, _⟩ := bothN_of h
  unfold bothN
  rw [if_neg (by simp [g1])]
  unfold skyN
  rw [if_neg (by simp), if_pos]
  simp only [List.all_cons, List.all_nil, cellB, Bool.and_true, Bool.and_eq_true, decide_eq_true_eq]
  omega
theorem cellN_in {p : List (Int × Int)} {l : List T3} (h : bothN p l = 0) (x y : Int) : -16000 ≤ cellN l x y ∧ cellN l x y ≤ 16000 := by
  obtain ⟨_, g2⟩ := bothN_of h
  have h1 := cellN_bd (small_of g2) (by omega) x y
  have h2 := (skyN_of g2).1
  omega
theorem cellN_take {l : List T3} {k : Nat} (hk : k < l.length) (x y : Int) : cellN (l.take (k + 1)) x y = cellN (l.take k) x y + (if l[k].x = x ∧ l[k].y = y then l[k].f else 0) := by
  unfold cellN
  rw [List.take_succ_eq_append_getElem hk, List.map_append, List.sum_append]
  simp
theorem small_take {l : List T3} {b : Int} (h : Small l b) (k : Nat) : Small (l.take k) b := fun s hs => h s (List.mem_of_mem_take hs)
theorem cellN_inT {p : List (Int × Int)} {l : List T3} (h : bothN p l = 0) (k : Nat) (x y : Int) : -16000 ≤ cellN (l.take k) x y ∧ cellN (l.take k) x y ≤ 16000 := by
  obtain ⟨_, g2⟩ := bothN_of h
  have h1 := cellN_bd (small_take (small_of g2) k) (by omega) x y
  have h2 := (skyN_of g2).1
  have h3 : (l.take k).length ≤ l.length := by rw [List.length_take]; omega
  omega
/-- One source more in its cell. -/
theorem cellN_put {l : List T3} {k a b : Nat} (hk : k < l.length) (hx : l[k].x = a) (hy : l[k].y = b) (r c : Nat) : tput (fun r c => cellN (l.take k) c r) b a (cellN (l.take k) a b + l[k].f) r c = cellN (l.take (k + 1)) c r := by
  rw [cellN_take hk, hx, hy]
  unfold tput
  by_cases h : r = b ∧ c = a
  · rw [if_pos h, if_pos (by omega), h.1, h.2]
  · rw [if_neg h, if_neg (by omega), Int.add_zero]
theorem dcell_in {p : List (Int × Int)} {l : List T3} (h : bothN p l = 0) (x y : Int) : -896000 ≤ dcell p l x y ∧ dcell p l x y ≤ 896000 := by
  obtain ⟨g1, g2⟩ := bothN_of h
  have h1 := skp_bd (p := p) (small_of g2) (skyN_of g2).1 (plcN_of g1).2.1 x y (prs p.length).length
  rw [skp_end] at h1
  exact h1
theorem src_in {p : List (Int × Int)} {l : List T3} (h : bothN p l = 0) {k : Nat} (hk : k < l.length) : 0 ≤ l[k].x ∧ 0 ≤ l[k].y ∧ 0 ≤ l[k].f ∧ l[k].f ≤ 1000 := by
  obtain ⟨_, g2⟩ := bothN_of h
  unfold skyN at g2
  split at g2
  · omega
  split at g2
  · next ha =>
    have := List.all_eq_true.1 ha l[k] (List.getElem_mem hk)
    simp only [cellB, Bool.and_eq_true, decide_eq_true_eq] at this
    omega
  · omega
theorem inn_take {l : List T3} {n k : Nat} (hk : k < l.length) (h : Inn (l.take k) n) (h1 : 0 ≤ l[k].x ∧ l[k].x < n ∧ 0 ≤ l[k].y ∧ l[k].y < n) : Inn (l.take (k + 1)) n := fun s hs => by
  rw [List.take_succ_eq_append_getElem hk] at hs
  rcases List.mem_append.1 hs with h2 | h2
  · exact h s h2
  · rw [List.mem_singleton.1 h2]; exact h1
end Go.Proofs.Ythlcmlngmcoknaa
