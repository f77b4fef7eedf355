/- What is proved here: the contract of a comparison of two lists of fractions. Condition: two slices of fractions. -/
import Derived.Test.YtdgdlpnhhelgnaaFS
namespace Go.Proofs.Ytdgdlpnhhelgnaa
open Go.RowKit

theorem take_eq {xs ys : List (Int × Int)} {k : Nat} (h1 : k < xs.length) (h2 : k < ys.length) (h : xs.take k = ys.take k) (e1 : xs[k].1 = ys[k].1) (e2 : xs[k].2 = ys[k].2) : xs.take (k + 1) = ys.take (k + 1) := by
  rw [List.take_succ_eq_append_getElem h1, List.take_succ_eq_append_getElem h2, h]
  rw [Prod.ext e1 e2]
theorem take_ne {xs ys : List (Int × Int)} {k : Nat} (h1 : k < xs.length) (h2 : k < ys.length) (e : ¬ (xs[k].1 = ys[k].1 ∧ xs[k].2 = ys[k].2)) : decide (xs = ys) = false := by
  refine decide_eq_false fun h => e ?_
  subst h
  exact ⟨rfl, rfl⟩
set_option maxRecDepth 100000 in
set_option maxHeartbeats 4000000 in
theorem rsame_any (xs ys : List (Int × Int)) (u v : Value) (w : World) (hs : SF w u xs) (ht : SF w v ys) :
    Calls Try.prog 15 #[u, v] w fun e w' => e = .returned (.bool (decide (xs = ys))) ∧ Below w.heap.size w w' := by
  have hs0 := Lib.hid hs
  have ht0 := Lib.hid ht
  obtain ⟨ad, cap, rfl, h1, h2, _⟩ := hs.open
  obtain ⟨ad', cap', rfl, h1', h2', _⟩ := ht.open
  clear hs ht
  by_cases hl : xs.length = ys.length
  case neg =>
    have b1 : ((xs.length : Int) != (ys.length : Int)) = true := by simp; omega
    have HV : Hid (decide (xs = ys) = false) := decide_eq_false fun h => hl (by rw [h])
    clear hl
    go_enter Try.func15, Try.ntmps15
    go_wp2
    go_ret
    exact ⟨by rw [HV.out]; try rfl, Below.refl _ _⟩
  have b1 : ((xs.length : Int) != (ys.length : Int)) = false := by simp; omega
  have HL := Lib.hid hl
  have hl' : ys.length ≤ xs.length := by omega
  have hl'' : xs.length ≤ ys.length := by omega
  clear hl
  go_enter Try.func15, Try.ntmps15
  go_wp2
  go_loopw [5] (fun i wr => ∃ k : Nat, k ≤ xs.length ∧ i = .int .i64 k ∧ Hid (xs.take k = ys.take k) ∧ Below w.heap.size w wr) (fun i _ => xs.length - (intOf i).toNat)
  case atStart => exact ⟨0, Nat.zero_le _, rfl, rfl, Below.refl _ _⟩
  case round =>
    obtain ⟨k, hk, rfl, hv, hB⟩ := hrel
    by_cases hlt : k < xs.length
    · have hlt' : k < ys.length := by omega
      obtain ⟨_, _, e, _, _, H⟩ := (hs0.out.below hB).open
      cases e
      obtain ⟨b, off, rfl, c1, c2⟩ := H.out k hlt
      obtain ⟨_, _, e, _, _, H'⟩ := (ht0.out.below hB).open
      cases e
      obtain ⟨b', off', rfl, c1', c2'⟩ := H'.out k hlt'
      clear H H'
      have TE := Lib.hid (take_eq hlt hlt' hv.out)
      have TN := Lib.hid (take_ne hlt hlt')
      generalize xs[k].1 = n at *
      generalize xs[k].2 = d at *
      generalize ys[k].1 = n' at *
      generalize ys[k].2 = d' at *
      by_cases e1 : n = n'
      · by_cases e2 : d = d'
        · have HV := Lib.hid (TE.out e1 e2)
          subst e1 e2
          clear TE TN
          go_wp2
          go_quiet (fail)
          go_wp2
          go_roundw
          case rel => exact ⟨k + 1, by omega, by go_num, HV, bd hB _⟩
          case measure => simp [intOf]; try omega
        · have HV := Lib.hid (TN.out fun h => e2 h.2)
          have q2 : (d == d') = false := by simpa using e2
          subst e1
          clear TE TN e2
          go_wp2
          go_quiet (fail)
          go_wp2
          go_ret
          exact ⟨by rw [HV.out]; try rfl, bd hB _⟩
      · have HV := Lib.hid (TN.out fun h => e1 h.1)
        have q1 : (n == n') = false := by simpa using e1
        clear TE TN e1
        go_wp2
        go_quiet (fail)
        go_wp2
        go_ret
        exact ⟨by rw [HV.out]; try rfl, bd hB _⟩
    · have HV : Hid (decide (xs = ys) = true) := by
        have := hv.out
        have hl := HL.out
        rw [List.take_of_length_le (by omega), List.take_of_length_le (by omega)] at this
        exact decide_eq_true this
      go_wp2
      go_ret
      exact ⟨by rw [HV.out]; try rfl, hB⟩
end Go.Proofs.Ytdgdlpnhhelgnaa
