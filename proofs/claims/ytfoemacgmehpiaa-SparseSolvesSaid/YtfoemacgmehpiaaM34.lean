/- What is proved here: contracts of functions and plain facts, several texts in one; each one says ahead what it proves, and its conditions. -/
import Derived.Test.YtfoemacgmehpiaaM32
import Derived.Test.YtfoemacgmehpiaaM08
import Derived.Test.YtfoemacgmehpiaaM05
import Derived.Test.YtfoemacgmehpiaaM10
import Derived.Test.YtfoemacgmehpiaaM33
import Derived.Test.YtfoemacgmehpiaaM01
import Derived.Deep.DeepCutAuto
import Derived.IntWalk
/- What is proved here: the contracts of fringeref37.Members and least. Condition: a set of at most 3 unknowns; valid fractions that can be read, and a number from 0 to 1000. -/
namespace Go.Proofs.Ytfoemacgmehpiaa
open Go.RowKit

def mems_post (w : World) (xs : List Int) (e : Ending) (w' : World) : Prop := ∃ u, e = .returned u ∧ SI w' u xs ∧ Below w.heap.size w w'
set_option maxRecDepth 100000 in
set_option maxHeartbeats 4000000 in
theorem rmem_any (S n : Nat) (w : World) (hS : S < 8) (hn : n ≤ 3) : Calls Try.prog 102 #[.int .i64 (S : Int), .int .i64 (n : Int)] w (mems_post w (ins S n)) := by
  go_enter Try.func102, Try.ntmps102
  have hy := Below.refl w.heap.size w
  go_wp2
  go_loopw [5, 6] (fun ov i wr => ∃ k : Nat, k ≤ n ∧ i = .int .i64 k ∧ wr.ownsRow w.heap.size 3 1 ov (ins S k).length (ics (ins S k)) ∧ Below w.heap.size w wr) (fun _ i _ => n - (intOf i).toNat)
  case atStart => exact ⟨0, Nat.zero_le _, rfl, World.ownsRow_nil _ _ _ _, hy⟩
  case round =>
    clear hy
    obtain ⟨k, hk, rfl, ow, hW⟩ := hrel
    rename World => W
    by_cases hlt : k < n
    · have hk3 : k < 3 := by omega
      have hbt := bit_test hS hk3
      cases hb : S.testBit k with
      | true =>
        rw [hb] at hbt
        have HM := Lib.hid (ins_yes hb)
        have hle := ins_len S k
        clear hb
        have zr := hW.size
        generalize ins S k = mk at *
        go_wp2_with (at_builtin; refine wpList_app _ rfl _ _ _ rfl w.heap.size 3 1 8 (.int .i64 0) Try.underlying23 Try.infoInt rfl (by omega) (by omega) _ mk.length _ rfl (ow.alloc _) (by omega) (by simp; omega) W.heap.size [.int .i64 (k : Int)] (0, 0) rfl (heap_alloc_new W _) rfl (by simp [Value.oneCell']) ?_; intro g cap2 w2 hown hg hbw)
        go_roundw
        case rel =>
          refine ⟨k + 1, by omega, by go_num, ?_, (hW.alloc zr _).trans hbw⟩
          rw [HM.out, List.length_append]
          simpa [ics] using hown
        case measure => simp [intOf]; try omega
      | false =>
        rw [hb] at hbt
        have HM := Lib.hid (ins_no hb)
        clear hb
        go_wp2
        go_roundw
        case rel =>
          refine ⟨k + 1, by omega, by go_num, ?_, hW⟩
          rw [HM.out]
          exact ow
        case measure => simp [intOf]; try omega
    · obtain rfl : k = n := by omega
      have hle := ins_len S k
      go_wp2
      go_ret
      refine ⟨_, rfl, ?_, hW⟩
      exact owns_sl ow (by omega)
theorem fr_posR {n d : Int} (h : fchk n d = 0) : 1 ≤ d ∧ d ≤ 9223372036854775807 := by
  have h2 := (Q_ok h).2.2.2
  have h3 := (Q_ok h).2.1
  have h4 := (Rat.divInt n d).den_pos
  omega
/-- Whether no fraction of a list is less than a number's opposite. -/
def leastB (l : List (Int × Int)) (c : Int) (k : Nat) : Bool := (List.range k).all fun j => !decide (fcmp (l.getD j (0, 0)).1 (l.getD j (0, 0)).2 (-c) 1 = -1)
theorem leastB_succ {l : List (Int × Int)} {c : Int} {k : Nat} (h1 : k < l.length) (h : leastB l c k = true) (hn : ¬ fcmp l[k].1 l[k].2 (-c) 1 = -1) : leastB l c (k + 1) = true := by
  unfold leastB at *
  rw [List.range_succ, List.all_append, h]
  simp only [List.all_cons, List.all_nil, getD_get h1, hn]
  rfl
theorem leastB_not {l : List (Int × Int)} {c : Int} {k n : Nat} (hk : k < n) (h1 : k < l.length) (hn : fcmp l[k].1 l[k].2 (-c) 1 = -1) : leastB l c n = false := by
  unfold leastB
  rw [List.all_eq_false]
  refine ⟨k, List.mem_range.2 hk, ?_⟩
  simp only [getD_get h1, hn]
  decide
set_option maxRecDepth 100000 in
set_option maxHeartbeats 4000000 in
theorem rleast_any (l : List (Int × Int)) (c : Int) (v : Value) (w : World) (c0 : 0 ≤ c) (c1 : c ≤ 1000) (hs : SF w v l) (hv : ∀ i (h : i < l.length), fchk l[i].1 l[i].2 = 0) :
    Calls Try.prog 99 #[v, .int .i64 c] w fun e w' => e = .returned (.bool (leastB l c l.length)) ∧ Below w.heap.size w w' := by
  have HS := Lib.hid hs
  have HV := Lib.hid hv
  obtain ⟨ad, cap, rfl, h1, h2, _⟩ := hs.open
  clear hs hv
  have HN : Hid (wrap64 (-c) = -c) := Go.IntWalk.wrap64_in _ (by omega)
  go_enter Try.func99, Try.ntmps99
  have hy := Below.refl w.heap.size w
  go_wp2
  go_loopw [5] (fun i wr => ∃ k : Nat, k ≤ l.length ∧ i = .int .i64 k ∧ Hid (leastB l c k = true) ∧ Below w.heap.size w wr) (fun i _ => l.length - (intOf i).toNat)
  case atStart => exact ⟨0, Nat.zero_le _, rfl, rfl, hy⟩
  case round =>
    clear hy
    obtain ⟨k, hk, rfl, hv, hW⟩ := hrel
    rename World => W
    by_cases hlt : k < l.length
    · obtain ⟨_, _, e, _, _, H⟩ := (HS.out.below hW).open
      cases e
      obtain ⟨b, off, rfl, d1, d2⟩ := H.out k hlt
      clear H
      have NS := Lib.hid (leastB_succ (l := l) (c := c) hlt hv.out)
      have NN := Lib.hid (leastB_not (l := l) (c := c) (n := l.length) hlt hlt)
      have I1 := Lib.hid (fr_i64 (HV.out k hlt))
      have IP := Lib.hid (fr_posR (HV.out k hlt))
      generalize l[k].1 = n1 at *
      generalize l[k].2 = e1 at *
      have z1 := World.block_lt_of_cell? W _ d1
      simp only at z1
      have gl := @grow_lt
      go_wp2_with fail
      refine wp_region_st [.t [0, 1, 2, 3, 4, 5], .f 6, .f 7] [] (by kernel_rfl) (by kernel_rfl) (fun _ _ _ _ _ h => h) ?_
      refine wpX_t ?_
      try simp only [opsAt, List.getElem?_toArray, List.getElem?_cons_zero, List.getElem?_cons_succ, Option.getD_some]
      repeat (go_big_quiet_step (fail))
      refine wpQuiet_nil ?_
      refine wpX_f rfl rfl (fun K' hK' => ?_)
      go_simp
      refine (rof_any (-c) _).mono ?_
      rintro e y5 ⟨rfl, hq1⟩
      refine hK' _ _ (grow_of (below_to ((Below.refl _ _).drew) hq1)) ?_
      clear hK' K'
      refine wpX_f rfl rfl (fun K' hK' => ?_)
      go_simp
      refine (less_any n1 e1 (-c) 1 _ I1.out.1 IP.out.1 IP.out.2 ⟨by omega, by omega⟩ (by decide) (by decide)).mono ?_
      rintro e y6 ⟨rfl, hq2⟩
      refine hK' _ _ (grow_of (below_to (below_to ((Below.refl _ _).drew) hq1) hq2)) ?_
      clear hK' K'
      refine wpX_nil ?_
      try simp only [opsAt, List.getElem?_toArray, List.getElem?_cons_zero, List.getElem?_cons_succ, Option.getD_some]
      have hq : Below W.heap.size W y6 := below_to (below_to ((Below.refl _ _).drew) hq1) hq2
      clear gl hq1 hq2 d1 d2 z1
      replace hW := below_to hW hq
      clear hq
      by_cases h3 : fcmp n1 e1 (-c) 1 = -1
      · have b4 : decide (fcmp n1 e1 (-c) 1 = -1) = true := by simpa using h3
        rw [b4]
        have HR := Lib.hid (NN.out h3)
        clear h3 b4 NS NN
        go_wp2
        go_ret
        exact ⟨by rw [HR.out]; rfl, hW⟩
      · have b4 : decide (fcmp n1 e1 (-c) 1 = -1) = false := by simpa using h3
        rw [b4]
        have HR := Lib.hid (NS.out h3)
        clear h3 b4 NS NN
        go_wp2
        go_roundw
        case rel => exact ⟨k + 1, by omega, by go_num, HR, hW⟩
        case measure => simp [intOf]; try omega
    · obtain rfl : k = l.length := by omega
      go_wp2
      go_ret
      exact ⟨by rw [hv.out]; rfl, hW⟩
end Go.Proofs.Ytfoemacgmehpiaa
