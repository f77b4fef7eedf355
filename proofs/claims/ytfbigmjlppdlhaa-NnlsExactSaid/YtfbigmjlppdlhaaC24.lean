/- What is proved here: contracts of functions and plain facts, several texts in one; each one says ahead what it proves, and its conditions. -/
import Derived.Test.YtfbigmjlppdlhaaC05
import Derived.Test.YtfbigmjlppdlhaaC18
import Derived.Test.YtfbigmjlppdlhaaC23
/- What is proved here: the contracts of sparse.ready, sparse.whole and fringeref38.Check. Condition: a system whose lists can be read. -/
namespace Go.Proofs.Ytfbigmjlppdlhaa
open Go.RowKit

theorem swhole_any (n : Int) (w : World) : Calls Try.prog 75 #[.int .i64 n] w fun e w' => e = .returned (.agg #[.int .i64 n, .int .i64 1]) ∧ Below w.heap.size w w' := by
  go_enter Try.func75, Try.ntmps75
  go_wp2
  have oR := Own.new w 34 [.int .i64 n, .int .i64 1]
  have hB := ba1 w (.cells #[.int .i64 n, .int .i64 1] 34)
  refine bp_gen' (fun W => Own W _ _ _ ∧ Below w.heap.size w W) ⟨oR, hB⟩ ?_
  rintro wz ⟨oz, bz⟩
  obtain ⟨rz, fz⟩ := oz.rules
  clear oz
  refine bodyPost_ret (v := .agg #[.int .i64 n, .int .i64 1]) (by simp [results, Try.results75, go_sem, rz]) rfl ⟨rfl, ?_⟩
  exact bz
set_option maxRecDepth 100000 in
set_option maxHeartbeats 4000000 in
theorem sready_any (A : List (List Int)) (B : List Int) (c : Int) (va vb : Value) (w : World) (hA : SS w va A) (hB : SI w vb B) :
    Calls Try.prog 74 #[.agg #[va, vb], .int .i64 c] w fun e w' => e = .returned (.int .i64 (scheck A B c)) ∧ Below w.heap.size w w' := by
  go_enter Try.func74, Try.ntmps74
  have oS := Own.new w 25 [va, vb]
  have hy := ba1 w (.cells #[va, vb] 25)
  replace hA := hA.below hy
  replace hB := hB.below hy
  obtain ⟨rS, fS⟩ := oS.rules
  have zS := oS.lt
  go_wp2_with fail
  refine (ncheck_any A B _ _ _ hA hB).mono ?_
  rintro e y1 ⟨rfl, hq⟩
  clear rS fS zS
  replace oS := oS.below hq
  replace hA := hA.below hq
  replace hB := hB.below hq
  replace hy := below_to hy hq
  clear hq
  obtain ⟨rS, fS⟩ := oS.rules
  have zS := oS.lt
  by_cases h0 : ncheck A B = 0
  case neg =>
    have HV := Lib.hid (scheck_c (c := c) h0)
    have b1 : (ncheck A B != 0) = true := by simpa using h0
    clear h0 hA hB
    go_wp2
    go_ret
    exact ⟨by rw [HV.out]; try rfl, hy⟩
  have b1 : (ncheck A B != 0) = false := by simp [h0]
  by_cases h1 : c < 0
  · have HV := Lib.hid (scheck_2 h0 (.inl h1))
    have b2 : decide (c < 0) = true := by simpa using h1
    clear h0 hA hB
    go_wp2
    go_ret
    exact ⟨by rw [HV.out]; try rfl, hy⟩
  have b2 : decide (c < 0) = false := by simpa using h1
  by_cases h2 : 1000 < c
  · have HV := Lib.hid (scheck_2 h0 (.inr h2))
    have b3 : decide (1000 < c) = true := by simpa using h2
    clear h0 hA hB
    go_wp2
    go_ret
    exact ⟨by rw [HV.out]; try rfl, hy⟩
  have b3 : decide (1000 < c) = false := by simpa using h2
  have HV := Lib.hid (scheck_0 (c := c) h0 (by omega) (by omega))
  clear h0 hA hB
  go_wp2
  go_ret
  exact ⟨by rw [HV.out]; try rfl, hy⟩
set_option maxRecDepth 100000 in
set_option maxHeartbeats 4000000 in
theorem rscheck_any (A : List (List Int)) (B : List Int) (c : Int) (va vb : Value) (w : World) (hA : SS w va A) (hB : SI w vb B) :
    Calls Try.prog 76 #[.agg #[va, vb], .int .i64 c] w fun e w' => e = .returned (.int .i64 (scheck A B c)) ∧ Below w.heap.size w w' := by
  go_enter Try.func76, Try.ntmps76
  have oS := Own.new w 25 [va, vb]
  have hy := ba1 w (.cells #[va, vb] 25)
  replace hA := hA.below hy
  replace hB := hB.below hy
  obtain ⟨rS, fS⟩ := oS.rules
  have zS := oS.lt
  go_wp2_with fail
  refine (rncheck_any A B _ _ _ hA hB).mono ?_
  rintro e y1 ⟨rfl, hq⟩
  clear rS fS zS
  replace oS := oS.below hq
  replace hA := hA.below hq
  replace hB := hB.below hq
  replace hy := below_to hy hq
  clear hq
  obtain ⟨rS, fS⟩ := oS.rules
  have zS := oS.lt
  by_cases h0 : ncheck A B = 0
  case neg =>
    have HV := Lib.hid (scheck_c (c := c) h0)
    have b1 : (ncheck A B != 0) = true := by simpa using h0
    clear h0 hA hB
    go_wp2
    go_ret
    exact ⟨by rw [HV.out]; try rfl, hy⟩
  have b1 : (ncheck A B != 0) = false := by simp [h0]
  by_cases h1 : c < 0
  · have HV := Lib.hid (scheck_2 h0 (.inl h1))
    have b2 : decide (c < 0) = true := by simpa using h1
    clear h0 hA hB
    go_wp2
    go_ret
    exact ⟨by rw [HV.out]; try rfl, hy⟩
  have b2 : decide (c < 0) = false := by simpa using h1
  by_cases h2 : 1000 < c
  · have HV := Lib.hid (scheck_2 h0 (.inr h2))
    have b3 : decide (1000 < c) = true := by simpa using h2
    clear h0 hA hB
    go_wp2
    go_ret
    exact ⟨by rw [HV.out]; try rfl, hy⟩
  have b3 : decide (1000 < c) = false := by simpa using h2
  have HV := Lib.hid (scheck_0 (c := c) h0 (by omega) (by omega))
  clear h0 hA hB
  go_wp2
  go_ret
  exact ⟨by rw [HV.out]; try rfl, hy⟩
end Go.Proofs.Ytfbigmjlppdlhaa

/- What is proved here: the contract of a comparison of two lists of fractions. Condition: two slices of fractions. -/
namespace Go.Proofs.Ytfbigmjlppdlhaa
open Go.RowKit

theorem take_eq {xs ys : List (Int × Int)} {k : Nat} (h1 : k < xs.length) (h2 : k < ys.length) (h : xs.take k = ys.take k) (e1 : xs[k].1 = ys[k].1) (e2 : xs[k].2 = ys[k].2) : xs.take (k + 1) = ys.take (k + 1) := by
  rw [List.take_succ_eq_append_getElem h1, List.take_succ_eq_append_getElem h2, h]
  rw [Prod.ext e1 e2]
theorem take_ne {xs ys : List (Int × Int)} {k : Nat} (h1 : k < xs.length) (h2 : k < ys.length) (e : ¬ (xs[k].1 = ys[k].1 ∧ xs[k].2 = ys[k].2)) : decide (xs = ys) = false := by
  refine decide_eq_false fun h => e ?_
  subst h
  exact ⟨rfl, rfl⟩
set_option maxRecDepth 100000 in
set_option maxHeartbeats 4000000 in
theorem rsame_any (xs ys : List (Int × Int)) (u v : Value) (w : World) (hs : SF w u xs) (ht : SF w v ys) :
    Calls Try.prog 26 #[u, v] w fun e w' => e = .returned (.bool (decide (xs = ys))) ∧ Below w.heap.size w w' := by
  have hs0 := Lib.hid hs
  have ht0 := Lib.hid ht
  obtain ⟨ad, cap, rfl, h1, h2, _⟩ := hs.open
  obtain ⟨ad', cap', rfl, h1', h2', _⟩ := ht.open
  clear hs ht
  by_cases hl : xs.length = ys.length
  case neg =>
    have b1 : ((xs.length : Int) != (ys.length : Int)) = true := by simp; omega
    have HV : Hid (decide (xs = ys) = false) := decide_eq_false fun h => hl (by rw [h])
    clear hl
    go_enter Try.func26, Try.ntmps26
    go_wp2
    go_ret
    exact ⟨by rw [HV.out]; try rfl, Below.refl _ _⟩
  have b1 : ((xs.length : Int) != (ys.length : Int)) = false := by simp; omega
  have HL := Lib.hid hl
  have hl' : ys.length ≤ xs.length := by omega
  have hl'' : xs.length ≤ ys.length := by omega
  clear hl
  go_enter Try.func26, Try.ntmps26
  go_wp2
  go_loopw [5] (fun i wr => ∃ k : Nat, k ≤ xs.length ∧ i = .int .i64 k ∧ Hid (xs.take k = ys.take k) ∧ Below w.heap.size w wr) (fun i _ => xs.length - (intOf i).toNat)
  case atStart => exact ⟨0, Nat.zero_le _, rfl, rfl, Below.refl _ _⟩
  case round =>
    obtain ⟨k, hk, rfl, hv, hB⟩ := hrel
    by_cases hlt : k < xs.length
    · have hlt' : k < ys.length := by omega
      obtain ⟨_, _, e, _, _, H⟩ := (hs0.out.below hB).open
      cases e
      obtain ⟨b, off, rfl, c1, c2⟩ := H.out k hlt
      obtain ⟨_, _, e, _, _, H'⟩ := (ht0.out.below hB).open
      cases e
      obtain ⟨b', off', rfl, c1', c2'⟩ := H'.out k hlt'
      clear H H'
      have TE := Lib.hid (take_eq hlt hlt' hv.out)
      have TN := Lib.hid (take_ne hlt hlt')
      generalize xs[k].1 = n at *
      generalize xs[k].2 = d at *
      generalize ys[k].1 = n' at *
      generalize ys[k].2 = d' at *
      by_cases e1 : n = n'
      · by_cases e2 : d = d'
        · have HV := Lib.hid (TE.out e1 e2)
          subst e1 e2
          clear TE TN
          go_wp2
          go_quiet (fail)
          go_wp2
          go_roundw
          case rel => exact ⟨k + 1, by omega, by go_num, HV, bd hB _⟩
          case measure => simp [intOf]; try omega
        · have HV := Lib.hid (TN.out fun h => e2 h.2)
          have q2 : (d == d') = false := by simpa using e2
          subst e1
          clear TE TN e2
          go_wp2
          go_quiet (fail)
          go_wp2
          go_ret
          exact ⟨by rw [HV.out]; try rfl, bd hB _⟩
      · have HV := Lib.hid (TN.out fun h => e1 h.1)
        have q1 : (n == n') = false := by simpa using e1
        clear TE TN e1
        go_wp2
        go_quiet (fail)
        go_wp2
        go_ret
        exact ⟨by rw [HV.out]; try rfl, bd hB _⟩
    · have HV : Hid (decide (xs = ys) = true) := by
        have := hv.out
        have hl := HL.out
        rw [List.take_of_length_le (by omega), List.take_of_length_le (by omega)] at this
        exact decide_eq_true this
      go_wp2
      go_ret
      exact ⟨by rw [HV.out]; try rfl, hB⟩
end Go.Proofs.Ytfbigmjlppdlhaa

/- What is proved here: the comparison of two equal lists of fractions gives true. Condition: two slices of the same fractions. -/
namespace Go.Proofs.Ytfbigmjlppdlhaa
open Go.RowKit

theorem rsame_true (xs : List (Int × Int)) (u v : Value) (w : World) (hs : SF w u xs) (ht : SF w v xs) :
    Calls Try.prog 26 #[u, v] w fun e w' => e = .returned (.bool true) ∧ Below w.heap.size w w' :=
  (rsame_any xs xs u v w hs ht).mono fun _ _ ⟨he, hb⟩ => ⟨by rw [he, decide_eq_true rfl], hb⟩
end Go.Proofs.Ytfbigmjlppdlhaa
