/- What is proved here: contracts of functions and plain facts, several texts in one; each one says ahead what it proves, and its conditions. -/
import Derived.Test.YtfoemacgmehpiaaC23
import Derived.Test.YtfoemacgmehpiaaC28
import Derived.Test.YtfoemacgmehpiaaC10
/- What is proved here: the contract of fringelaw37.ints. Condition: a slice of 64-bit numbers, at most 100. -/
namespace Go.Proofs.Ytfoemacgmehpiaa
open Go.RowKit

set_option maxRecDepth 100000 in
set_option maxHeartbeats 4000000 in
theorem ints37_any (l : List Int) (v : Value) (w : World) (hs : SI w v l) (hl : l.length ≤ 100) : Calls Try.prog 53 #[v] w (fracs_post w (l.map fun n => (n, 1))) := by
  have hs0 := Lib.hid hs
  obtain ⟨ad, cap, rfl, h1, h2, _⟩ := hs.open
  clear hs
  go_enter Try.func53, Try.ntmps53
  go_wp2
  go_loopw [3, 4] (fun ov i wr => ∃ m : Nat, m ≤ l.length ∧ i = .int .i64 m ∧ wr.ownsRow w.heap.size 39 2 ov m (fcs ((l.take m).map fun n => (n, 1))) ∧ Below w.heap.size w wr) (fun _ i _ => l.length - (intOf i).toNat)
  case atStart => exact ⟨0, Nat.zero_le _, rfl, World.ownsRow_nil _ _ _ _, Below.refl _ _⟩
  case round =>
    obtain ⟨m, hm, rfl, ow, hW⟩ := hrel
    rename World => W
    by_cases hlt : m < l.length
    · obtain ⟨_, _, e, _, _, H⟩ := (hs0.out.below hW).open
      cases e
      obtain ⟨b, off, rfl, c1⟩ := H.out m hlt
      clear H
      have HE : Hid (((l.take (m + 1)).map fun n => ((n, 1) : Int × Int)) = ((l.take m).map fun n => ((n, 1) : Int × Int)) ++ [(l[m], 1)]) := by
        show _ = _
        rw [List.take_succ_eq_append_getElem hlt, List.map_append]; rfl
      generalize l[m] = lm at *
      go_wp2_with fail
      refine (rof_any lm _).mono ?_
      rintro e y2 ⟨rfl, hq⟩
      replace ow := owns_at ow hq
      replace hW := below_to hW hq
      clear hq c1
      have zr := hW.size
      go_wp2_with (at_builtin; refine wpList_app _ rfl _ _ _ rfl w.heap.size 39 2 16 (.agg #[.int .i64 0, .int .i64 0]) Try.underlying26 Try.infoFrac rfl (by omega) (by omega) _ m _ rfl (ow.alloc _) (by omega) (by simp; omega) y2.heap.size [.int .i64 lm, .int .i64 1] (0, 0) rfl (heap_alloc_new y2 _) rfl (by simp [Value.oneCell']) ?_; intro g cap2 w9 hown hg hbw)
      go_roundw
      case rel =>
        refine ⟨m + 1, by omega, by go_num, ?_, ?_⟩
        · rw [HE.out, fcs_append]; exact hown
        · exact (below_to hW (ba1 y2 _)).trans (hbw.mono (Nat.le_refl _))
      case measure => simp [intOf]; try omega
    · obtain rfl : m = l.length := by omega
      have hsl : SF W u3 (l.map fun n => (n, 1)) := by
        have h9 := owns_sl ow (by omega)
        rw [List.take_of_length_le (Nat.le_refl _)] at h9
        unfold SF
        rw [List.length_map]
        exact h9
      clear ow
      go_wp2
      go_ret
      exact ⟨u3, rfl, hsl, hW⟩
end Go.Proofs.Ytfoemacgmehpiaa
