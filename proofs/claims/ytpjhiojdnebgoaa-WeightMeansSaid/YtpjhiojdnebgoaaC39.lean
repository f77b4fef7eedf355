/- What is proved here: contracts of functions and plain facts, several texts in one; each one says ahead what it proves, and its conditions. -/
import Derived.Test.YtpjhiojdnebgoaaC37
import Derived.Test.YtpjhiojdnebgoaaC38
import Derived.Test.YtpjhiojdnebgoaaC02
/- What is proved here: what a new slice of one number gives; what an append changes. No condition. -/
namespace Go.Proofs.Ytpjhiojdnebgoaa
open Go.RowKit

theorem bs_int (x : Int) (W : World) : (Instr.buildSlice 22 1 #[(0, .int .i64 x)]).run Try.prog W = .ok (.slice (some ⟨W.heap.size, 0, none⟩) 1 1) (W.alloc (.cells #[.int .i64 x] 3 (0, 0))) := by
  go_simp
theorem exec_build {P : Program} {o : Oper} {t : TypeId} {n : Nat} {s : Nat} {a : Act} {w w' : World} {v x : Value} (hop : o.op = .buildSlice t n #[(0, .tmp s)]) (hx : a.tmps[s]? = some x) (hr : (Instr.buildSlice t n #[(0, x)]).run P w = .ok v w') :
    (execOp a.eval o).run P w = .ok (.value v) w' := by
  have he : a.eval (.tmp s) = x := by unfold Act.eval; simp [hx]
  unfold execOp
  simp only [hop]
  have e : (#[(0, Operand.tmp s)] : Array (Nat × Operand)).map (fun (i, x) => (i, a.eval x)) = #[(0, x)] := by simp [he]
  rw [e]
  generalize Instr.buildSlice t n #[(0, x)] = M at hr ⊢
  simp [go_sem, hr]
/-- The blocks in which a row of the call's own lies. -/
def obs (v : Value) : List Nat := match v.ownBlock with | some b => [b] | none => []
theorem mod_grown {bs : List Nat} {W w2 : World} {v : Value} (h : W.grownBy w2 v.ownBlock) (hs : ∀ b ∈ obs v, b ∈ bs) : Mod bs W w2 := by
  unfold obs at hs
  cases hv : v.ownBlock with
  | none => rw [hv] at h; exact ⟨h.os, h.tape, h.output, h.size, fun b hb _ => h.block b hb (fun e => by cases e)⟩
  | some p => rw [hv] at h hs; exact Mod.of_grown h (hs p (by simp))
theorem obs_lt {W : World} {B size n : Nat} {T : TypeId} {v : Value} {cs : List Value} (hr : W.ownsRow B T size v n cs) : ∀ b ∈ obs v, B ≤ b ∧ b < W.heap.size := fun b hb => by
  unfold obs at hb
  cases hv : v.ownBlock with
  | none => rw [hv] at hb; cases hb
  | some p =>
    rw [hv] at hb
    have e : b = p := by simpa using hb
    rw [e]
    exact row_lt hr hv
end Go.Proofs.Ytpjhiojdnebgoaa
