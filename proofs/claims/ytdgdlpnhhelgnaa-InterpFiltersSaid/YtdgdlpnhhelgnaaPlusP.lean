/- What is proved here: a sum to which a product is added, as numbers. No program in sight. -/
import Derived.Test.YtdgdlpnhhelgnaaFmul
namespace Go.Proofs.Ytdgdlpnhhelgnaa
open Go.RowKit

theorem i64_0 : i64 0 := ⟨by decide, by decide⟩
theorem fmul_i64 (an ad bn bd : Int) : i64 (fmul an ad bn bd).n ∧ i64 (fmul an ad bn bd).d := by
  by_cases h : fboth an ad bn bd = 0
  · obtain ⟨c1, c2⟩ := fboth_ok h
    rw [fmul_0 h, fmulV_pack c1 c2]; exact pack_i64 _
  · rw [fmul_8 h]; exact ⟨i64_0, i64_0⟩
theorem fadd_i64 (an ad bn bd : Int) : i64 (fadd an ad bn bd).n ∧ i64 (fadd an ad bn bd).d := by
  by_cases h : fboth an ad bn bd = 0
  · rw [fadd_0 h]; exact pack_i64 _
  · rw [fadd_8 h]; exact ⟨i64_0, i64_0⟩
theorem fsub_i64 (an ad bn bd : Int) : i64 (fsub an ad bn bd).n ∧ i64 (fsub an ad bn bd).d := by
  by_cases h : fboth an ad bn bd = 0
  · rw [fsub_0 h]; exact pack_i64 _
  · rw [fsub_8 h]; exact ⟨i64_0, i64_0⟩
theorem fdiv_i64 (an ad bn bd : Int) : i64 (fdiv an ad bn bd).n ∧ i64 (fdiv an ad bn bd).d := by
  by_cases h : fboth an ad bn bd = 0
  · by_cases hz : bn = 0
    · rw [fdiv_0 h hz]; exact ⟨i64_0, i64_0⟩
    · rw [fdiv_1 h hz]; exact pack_i64 _
  · rw [fdiv_8 h]; exact ⟨i64_0, i64_0⟩
/-- The sum of s and the product of a and b. -/
def fplus (sn sd an ad bn bd : Int) : FR := if (fmul an ad bn bd).e = 0 then fadd sn sd (fmul an ad bn bd).n (fmul an ad bn bd).d else ⟨0, 0, (fmul an ad bn bd).e⟩
theorem fplus_0 {sn sd an ad bn bd : Int} (h : (fmul an ad bn bd).e = 0) : fplus sn sd an ad bn bd = fadd sn sd (fmul an ad bn bd).n (fmul an ad bn bd).d := if_pos h
theorem fplus_1 {sn sd an ad bn bd : Int} (h : ¬ (fmul an ad bn bd).e = 0) : fplus sn sd an ad bn bd = ⟨0, 0, (fmul an ad bn bd).e⟩ := if_neg h
theorem fplus_i64 (sn sd an ad bn bd : Int) : i64 (fplus sn sd an ad bn bd).n ∧ i64 (fplus sn sd an ad bn bd).d := by
  by_cases h : (fmul an ad bn bd).e = 0
  · rw [fplus_0 h]; exact fadd_i64 _ _ _ _
  · rw [fplus_1 h]; exact ⟨i64_0, i64_0⟩
theorem own_fourth (w : World) (T : TypeId) (cs : List Value) (o1 o2 o3 : Obj) : Own ((((w.alloc o1).alloc o2).alloc o3).alloc (.cells cs.toArray T (0, 0))) (w.heap.size + 1 + 1 + 1) T cs := by
  have h := own_third (w.alloc o1) T cs o2 o3
  rw [show (w.alloc o1).heap.size = w.heap.size + 1 from by simp] at h
  exact h
end Go.Proofs.Ytdgdlpnhhelgnaa
