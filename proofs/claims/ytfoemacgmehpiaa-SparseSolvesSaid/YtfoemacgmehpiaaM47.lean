/- What is proved here: contracts of functions and plain facts, several texts in one; each one says ahead what it proves, and its conditions. -/
import Derived.Test.YtfoemacgmehpiaaM14
import Derived.Test.YtfoemacgmehpiaaM17
import Derived.Deep.DeepCutAuto
/- What is proved here: the contract of fringeref38.Dark. Condition: a system that can be read. -/
namespace Go.Proofs.Ytfoemacgmehpiaa
open Go.RowKit

set_option maxRecDepth 100000 in
set_option maxHeartbeats 4000000 in
theorem rsdark_any (A : List (List Int)) (B : List Int) (va vb : Value) (w : World) (hA : SS w va A) (hB : SI w vb B) :
    Calls Try.prog 50 #[.agg #[va, vb]] w fun e w' => e = .returned (.tuple #[.int .i64 (sDark A B).1, .int .i64 (sDark A B).2]) ∧ Below w.heap.size w w' := by
  go_enter Try.func50, Try.ntmps50
  have oS := Own.new w 25 [va, vb]
  have hy := ba1 w (.cells #[va, vb] 25)
  replace hA := hA.below hy
  replace hB := hB.below hy
  obtain ⟨rS, fS⟩ := oS.rules
  have zS := oS.lt
  go_wp2_with fail
  refine (rncheck_any A B _ _ _ hA hB).mono ?_
  rintro e y ⟨rfl, hq⟩
  clear rS fS zS
  replace oS := oS.below hq
  replace hA := hA.below hq
  replace hB := hB.below hq
  replace hy := below_to hy hq
  clear hq
  obtain ⟨rS, fS⟩ := oS.rules
  have zS := oS.lt
  by_cases h0 : ncheck A B = 0
  case neg =>
    have HV : Hid (sDark A B = (0, ncheck A B)) := if_neg h0
    have q0 : (ncheck A B != 0) = true := by simpa using h0
    clear hA hB h0
    go_wp2
    go_ret2
    exact ⟨by rw [HV.out]; try rfl, hy⟩
  have HF := Lib.hid (fit_of h0)
  have HV : Hid (sDark A B = (dkN A B (A.getD 0 []).length, 0)) := if_pos h0
  rw [h0]
  clear h0
  have hr := HF.out.rows.1
  have n3 := HF.out.cols.2
  have hw0 := HF.out.wide 0 (by omega)
  have HR := Lib.hid HF.out.right
  obtain ⟨ada, capa, e, ha1, ha2, H⟩ := hA.open
  subst e
  obtain ⟨b, off, ad', cap', rfl, c1, c2, c3, _⟩ := H.out 0 hr
  clear H
  obtain ⟨adb, capb, e, hb1, hb2, _⟩ := hB.open
  subst e
  rw [hw0] at c1 c2 c3
  rw [Nat.add_zero] at c1
  clear hw0
  generalize (A.getD 0 []).length = n at *
  have rows1 : (0 : Int) < A.length := by omega
  have HA := Lib.hid hA
  have HB := Lib.hid hB
  have OS := Lib.hid oS
  have HY := Lib.hid hy
  clear hA hB oS hy
  go_wp2
  clear rS fS zS
  have C1 := Lib.hid c1
  clear c1
  go_loopw [5, 6] (fun s i wr => ∃ k : Nat, k ≤ n ∧ i = .int .i64 k ∧ s = .int .i64 (dkN A B k) ∧ Below y.heap.size y wr) (fun _ i _ => n - (intOf i).toNat)
  case atStart => exact ⟨0, Nat.zero_le _, rfl, rfl, Below.refl _ _⟩
  case round =>
    obtain ⟨k, hk, rfl, rfl, hW⟩ := hrel
    rename World => W
    have c1 := below_cell hW C1.out
    have oS := OS.out.below hW
    obtain ⟨rS, fS⟩ := oS.rules
    have zS := oS.lt
    by_cases hkn : k < n
    · skip
      go_wp2
      clear rS fS zS oS
      go_loopw [7, 8] (fun s i wr => ∃ r : Nat, r ≤ A.length ∧ i = .int .i64 r ∧ s = .int .i64 (qc (cel A) (nb B) r 0 k) ∧ Below y.heap.size y wr) (fun _ i _ => A.length - (intOf i).toNat)
      case atStart => exact ⟨0, Nat.zero_le _, rfl, rfl, hW⟩
      case round =>
        clear hW
        obtain ⟨r, hr', rfl, rfl, hW⟩ := hrel
        rename World => W1
        have oS := OS.out.below hW
        obtain ⟨rS, fS⟩ := oS.rules
        have zS := oS.lt
        by_cases hlt : r < A.length
        · obtain ⟨_, _, e, _, _, H⟩ := (HA.out.below hW).open
          cases e
          obtain ⟨b1, o1, ad1, cap1, e, d1, d2, d3, sR⟩ := H.out r hlt
          cases e
          clear H
          have hw := HF.out.wide r hlt
          have hkr : k < A[r].length := by omega
          obtain ⟨_, _, e, _, _, H⟩ := sR.open
          cases e
          obtain ⟨b2, o2, rfl, k1⟩ := H.out k hkr
          clear H sR
          rw [← cel_get hlt hkr] at k1
          have hrB : r < B.length := by rw [HR.out]; exact hlt
          obtain ⟨_, _, e, _, _, H⟩ := (HB.out.below hW).open
          cases e
          obtain ⟨b3, o3, rfl, k2⟩ := H.out r hrB
          clear H
          rw [← nb_get hrB] at k2
          have z0 := World.block_lt_of_cell? W1 _ d1
          simp only at z0
          have z1 := World.block_lt_of_cell? W1 _ k1
          have z2 := World.block_lt_of_cell? W1 _ k2
          simp only at z1 z2
          have ES : Hid (wrap64 (qc (cel A) (nb B) r 0 k + wrap64 (cel A r k * nb B r)) = qc (cel A) (nb B) (r + 1) 0 k) := by
            show _ = _
            rw [qc_succ]
            exact wr_more (HF.out.qc1250 (r := r) (by omega) k) (HF.out.cel5 hlt) (HF.out.side50 hlt) (by decide) (by decide)
          rw [hw] at d1 d2 d3
          have hkr' : k < n := hkn
          clear hw hkr
          generalize cel A r k = ck at *
          generalize nb B r = br at *
          go_wp2_with fail
          have gl := @grow_lt
          refine wp_region_st [.t [0, 1, 2, 3, 4, 5, 6, 7, 8, 9, 10, 11, 12, 13, 14, 15]] [16] (by kernel_rfl) (by kernel_rfl) (fun _ _ _ _ _ h => h) ?_
          refine wpX_t ?_
          try simp only [opsAt, List.getElem?_toArray, List.getElem?_cons_zero, List.getElem?_cons_succ, Option.getD_some]
          repeat (go_big_quiet_step (fail))
          refine wpQuiet_nil ?_
          refine wpX_nil ?_
          try simp only [opsAt, List.getElem?_toArray, List.getElem?_cons_zero, List.getElem?_cons_succ, Option.getD_some]
          clear gl
          go_wp2
          rw [ES.out]
          go_roundw
          case rel => exact ⟨r + 1, by omega, by go_num, rfl, hW.drew⟩
          case measure => simp [intOf]; try omega
        · obtain rfl : r = A.length := by omega
          have ED : Hid (max (dkN A B k) (qc (cel A) (nb B) A.length 0 k) = dkN A B (k + 1)) := rfl
          go_wp2
          go_roundw
          case rel => exact ⟨k + 1, by omega, by go_num, by first | rfl | (rw [← ED.out]; rfl) | (rw [← ED.out, Int.max_def]; congr 1; split <;> split <;> omega), hW⟩
          case measure => simp [intOf]; try omega
    · obtain rfl : k = n := by omega
      go_wp2
      go_ret2
      exact ⟨by rw [HV.out]; try rfl, below_to HY.out hW⟩
end Go.Proofs.Ytfoemacgmehpiaa
