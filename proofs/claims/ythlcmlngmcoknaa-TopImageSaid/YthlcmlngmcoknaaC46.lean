/- What is proved here: contracts of functions and plain facts, several texts in one; each one says ahead what it proves, and its conditions. -/
import Derived.Test.YthlcmlngmcoknaaC06
import Derived.Deep.DeepCutAuto
import Derived.IntWalk
/- What is proved here: the contract of fringeref37.Great. Condition: a system that can be read. -/
namespace Go.Proofs.Ythlcmlngmcoknaa
open Go.RowKit

/-- Whether a fit is larger than the statements consider. -/
def ngreat (A : List (List Int)) (B : List Int) : Bool := !(A.all fun r => decide (r.length ≤ 20)) || decide (20 < A.length) || decide (20 < B.length)
theorem ngreat_row {A : List (List Int)} {B : List Int} {k : Nat} (hk : k < A.length) (h : 20 < A[k].length) : ngreat A B = true := by
  unfold ngreat
  rw [all_not (p := fun r => decide (r.length ≤ 20)) hk (by simp; omega)]; rfl
theorem ngreat_end {A : List (List Int)} {B : List Int} (h : (A.all fun r => decide (r.length ≤ 20)) = true) : ngreat A B = (decide (20 < A.length) || decide (20 < B.length)) := by
  unfold ngreat; rw [h]; rfl
set_option maxRecDepth 100000 in
set_option maxHeartbeats 4000000 in
theorem rngreat_any (A : List (List Int)) (B : List Int) (va vb : Value) (w : World) (hA : SS w va A) (hB : SI w vb B) :
    Calls Try.prog 42 #[.agg #[va, vb]] w fun e w' => e = .returned (.bool (ngreat A B)) ∧ Below w.heap.size w w' := by
  obtain ⟨ada, capa, rfl, ha1, ha2, _⟩ := hA.open
  obtain ⟨adb, capb, rfl, hb1, hb2, _⟩ := hB.open
  go_enter Try.func42, Try.ntmps42
  have oS := Own.new w 25 [.slice ada A.length capa, .slice adb B.length capb]
  have hy := ba1 w (.cells #[.slice ada A.length capa, .slice adb B.length capb] 25)
  have sA := Lib.hid (hA.below hy)
  clear hA hB
  go_wp2_with fail
  generalize w.alloc (.cells #[.slice ada A.length capa, .slice adb B.length capb] 25) = y at *
  obtain ⟨rS, fS⟩ := oS.rules
  have zS := oS.lt
  go_wp2
  go_loop [3] (fun i => ∃ k : Nat, k ≤ A.length ∧ i = .int .i64 k ∧ Hid (((A.take k).all fun r => decide (r.length ≤ 20)) = true)) (fun i => A.length - (intOf i).toNat)
  case atStart => exact ⟨0, Nat.zero_le _, rfl, rfl⟩
  case round =>
    obtain ⟨k, hk, rfl, hv⟩ := hrel
    by_cases hlt : k < A.length
    · obtain ⟨_, _, e, _, _, H⟩ := sA.out.open
      cases e
      obtain ⟨b, off, ad', cap', rfl, c1, c2, c3, _⟩ := H.out k hlt
      clear H
      by_cases hz : 20 < A[k].length
      · have HV := Lib.hid (ngreat_row (B := B) hlt hz)
        generalize A[k].length = m at *
        go_wp2
        go_ret
        exact ⟨by rw [HV.out]; try rfl, hy⟩
      · have HV := Lib.hid (all_take (p := fun r => decide (r.length ≤ 20)) hlt hv.out (by simp; omega))
        generalize A[k].length = m at *
        go_wp2
        go_round
        case rel => exact ⟨k + 1, by omega, by go_num, HV⟩
        case measure => simp [intOf]; try omega
    · have HV := Lib.hid (ngreat_end (B := B) (all_end hlt hv.out))
      have key : ngreat A B = (decide (20 < (A.length : Int)) || decide (20 < (B.length : Int))) := by
        rw [HV.out]; congr 1 <;> (rw [decide_eq_decide]; omega)
      have KY := Lib.hid key
      clear key HV
      by_cases g1 : 20 < (A.length : Int)
      · have q1 : decide (20 < (A.length : Int)) = true := by simpa using g1
        have KQ : Hid (ngreat A B = true) := by show _ = _; rw [KY.out, q1]; rfl
        clear KY
        go_wp2
        go_ret
        exact ⟨by rw [KQ.out]; try rfl, hy⟩
      · have q1 : decide (20 < (A.length : Int)) = false := by simpa using g1
        by_cases g2 : 20 < (B.length : Int)
        · have q2 : decide (20 < (B.length : Int)) = true := by simpa using g2
          have KQ : Hid (ngreat A B = true) := by show _ = _; rw [KY.out, q1, q2]; rfl
          clear KY
          go_wp2
          go_ret
          exact ⟨by rw [KQ.out]; try rfl, hy⟩
        · have q2 : decide (20 < (B.length : Int)) = false := by simpa using g2
          have KQ : Hid (ngreat A B = false) := by show _ = _; rw [KY.out, q1, q2]; rfl
          clear KY
          go_wp2
          go_ret
          exact ⟨by rw [KQ.out]; try rfl, hy⟩
end Go.Proofs.Ythlcmlngmcoknaa
