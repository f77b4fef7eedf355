/- What is proved here: what making a row of fractions gives, and storing one of them. Condition: at most 100,000 fractions. -/
import Derived.Test.YtdgdlpnhhelgnaaFiltP
namespace Go.Proofs.Ytdgdlpnhhelgnaa
open Go.RowKit

theorem Try.infoFrac : (Try.prog.info? 32).map (fun i => (i.zero, i.size, i.bytes)) = some (some (.agg #[.int .i64 0, .int .i64 0]), 2, 16) := by kernel_rfl
theorem fcs_zero : ∀ n, fcs (List.replicate n (0, 0)) = List.replicate (n * 2) (.int .i64 0)
  | 0 => rfl
  | n + 1 => by rw [List.replicate_succ, fcs_cons, fcs_zero n, show (n + 1) * 2 = n * 2 + 1 + 1 by omega, List.replicate_succ, List.replicate_succ]
theorem made_fracs (n : Nat) : madeCells (Value.agg #[.int .i64 0, .int .i64 0]).cells (n * 2) = (fcs (List.replicate n (0, 0))).toArray := by
  rw [fcs_zero]
  apply Array.ext
  · simp [size_madeCells]
  · intro i h1 h2
    have : i % 2 = 0 ∨ i % 2 = 1 := by omega
    rcases this with h | h <;> simp [madeCells, Value.cells, h]
theorem mk_fracs (n : Nat) (x : Int) (hx : x = n) (hn : n ≤ 100000) (w : World) : (Instr.makeSlice 22 (.int .i64 x) (.int .i64 x)).run Try.prog w = .ok (.slice (some ⟨w.heap.size, 0, none⟩) n n) (w.alloc (.cells (fcs (List.replicate n (0, 0))).toArray 32)) := by
  subst hx
  obtain ⟨i0, hi, hz0, hz1, hz2⟩ := info_parts Try.infoFrac
  have h := run_make w 22 32 i0 (.agg #[.int .i64 0, .int .i64 0]) Try.underlying22 hi hz0 .i64 .i64 (n : Int) (n : Int) (by omega) (by omega) (by rw [hz2]; omega) (by omega)
  rw [Int.toNat_natCast, hz1, made_fracs] at h
  exact h
theorem fcs_some (xs : List (Int × Int)) (i : Nat) (h : i < xs.length) : ∃ v1 v2, (fcs xs)[i * 2]? = some v1 ∧ (fcs xs)[i * 2 + 1]? = some v2 := ⟨_, _, (fcs_get xs i h).1, (fcs_get xs i h).2⟩
/-- Two cells of a row of fractions are stored: one fraction. -/
theorem fcs_set : ∀ (xs : List (Int × Int)) (k : Nat) (p : Int × Int), ((fcs xs).set (k * 2) (.int .i64 p.1)).set (k * 2 + 1) (.int .i64 p.2) = fcs (xs.set k p)
  | [], k, p => rfl
  | x :: xs, 0, p => rfl
  | x :: xs, k + 1, p => by
    rw [fcs_cons, show (k + 1) * 2 = k * 2 + 1 + 1 by omega, List.set_cons_succ, List.set_cons_succ, List.set_cons_succ, List.set_cons_succ, fcs_set xs k p, List.set_cons_succ, fcs_cons]
theorem fill_rows (rs : List (Int × Int)) (m N : Nat) (p : Int × Int) (h : rs.length = m) (hm : m < N) : (rs ++ List.replicate (N - m) (0, 0)).set m p = (rs ++ [p]) ++ List.replicate (N - (m + 1)) (0, 0) := by
  rw [List.set_append_right _ _ (by omega), h, Nat.sub_self, show N - m = N - (m + 1) + 1 by omega, List.replicate_succ, List.set_cons_zero, List.append_assoc]
  rfl
end Go.Proofs.Ytdgdlpnhhelgnaa
