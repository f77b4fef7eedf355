/- What is proved here: contracts of functions and plain facts, several texts in one; each one says ahead what it proves, and its conditions. -/
import Derived.Test.YtfoemacgmehpiaaM15
import Derived.Test.YtfoemacgmehpiaaM14
import Derived.Laws.EntriesVeiled
import Derived.Test.YtfoemacgmehpiaaM13
/- What is proved here: the contract of sparse.still. Condition: the rows of a valid fit and a cost, a set of its unknowns. -/
namespace Go.Proofs.Ytfoemacgmehpiaa
open Go.RowKit

/-- The numerators of the first unknowns. -/
def spnum (S : Nat) (g : Nat → Nat → Int) (d : Nat → Int) (k i : Nat) : Int := if i < k ∧ S.testBit i = true then num8 g d S i else 0
theorem spnum_put {S k : Nat} {g : Nat → Nat → Int} {d : Nat → Int} (h : S.testBit k = true) : lput (spnum S g d k) k (num8 g d S k) = spnum S g d (k + 1) := by
  funext i
  unfold lput spnum
  by_cases h1 : i = k
  · subst h1; rw [if_pos rfl, if_pos ⟨by omega, h⟩]
  · rw [if_neg h1]
    by_cases h2 : i < k ∧ S.testBit i = true
    · rw [if_pos h2, if_pos ⟨by omega, h2.2⟩]
    · rw [if_neg h2, if_neg (by intro h3; exact h2 ⟨by omega, h3.2⟩)]
theorem spnum_skip {S k : Nat} {g : Nat → Nat → Int} {d : Nat → Int} (h : S.testBit k = false) : spnum S g d k = spnum S g d (k + 1) := by
  funext i
  unfold spnum
  by_cases h2 : i < k ∧ S.testBit i = true
  · rw [if_pos h2, if_pos ⟨by omega, h2.2⟩]
  · rw [if_neg h2, if_neg]
    intro h3
    rcases Nat.lt_or_ge i k with h4 | h4
    · exact h2 ⟨h4, h3.2⟩
    · obtain rfl : i = k := by omega
      rw [h] at h3; exact absurd h3.2 (by decide)
theorem spnum_end {S n : Nat} {g : Nat → Nat → Int} {d : Nat → Int} (hn : n ≤ 3) (hS : S < 2 ^ n) : lcs (spnum S g d n) = lcs (num8 g d S) := lcs_congr fun i hi => by
  unfold spnum
  by_cases h2 : i < n ∧ S.testBit i = true
  · rw [if_pos h2]
  · rw [if_neg h2]
    have hb : S.testBit i = false := by
      rcases Nat.lt_or_ge i n with h | h
      · cases hx : S.testBit i
        · rfl
        · exact absurd ⟨h, hx⟩ h2
      · exact bit_out hS h
    exact (num8_out g d (set8 hn hS) hi hb).symm
theorem Mod.trans {bs : List Nat} {w1 w2 w3 : World} (h1 : Mod bs w1 w2) (h2 : Mod bs w2 w3) : Mod bs w1 w3 :=
  ⟨h2.os.trans h1.os, h2.tape.trans h1.tape, h2.output.trans h1.output, Nat.le_trans h1.size h2.size, fun b hb hn => (h2.block b (Nat.lt_of_lt_of_le hb h1.size) hn).trans (h1.block b hb hn)⟩
set_option maxRecDepth 100000 in
set_option maxHeartbeats 4000000 in
theorem spstill_any (A : List (List Int)) (d : Nat → Int) (n S : Nat) (w : World) (hn : n ≤ 3) (hS : S < 2 ^ n) (hg : ∀ k l, wi 3000 (nG A k l)) (hd : ∀ k, wi 3000 (d k)) :
    Calls Try.prog 57 #[.agg #[.int .i64 (sp0 (nG A) d 0 0), .int .i64 (sp0 (nG A) d 0 1), .int .i64 (sp0 (nG A) d 0 2), .int .i64 (sp0 (nG A) d 0 3), .int .i64 (sp0 (nG A) d 1 0), .int .i64 (sp0 (nG A) d 1 1), .int .i64 (sp0 (nG A) d 1 2), .int .i64 (sp0 (nG A) d 1 3), .int .i64 (sp0 (nG A) d 2 0), .int .i64 (sp0 (nG A) d 2 1), .int .i64 (sp0 (nG A) d 2 2), .int .i64 (sp0 (nG A) d 2 3)], .int .i64 n, .int .i64 S] w (still_post w (nG A) d S) := by
  have HG := Lib.hid hg
  have HD := Lib.hid hd
  have HS := Lib.hid hS
  clear hg hd hS
  have oM := (((((Own.new w 75 [.int .i64 (sp0 (nG A) d 0 0), .int .i64 (sp0 (nG A) d 0 1), .int .i64 (sp0 (nG A) d 0 2), .int .i64 (sp0 (nG A) d 0 3), .int .i64 (sp0 (nG A) d 1 0), .int .i64 (sp0 (nG A) d 1 1), .int .i64 (sp0 (nG A) d 1 2), .int .i64 (sp0 (nG A) d 1 3), .int .i64 (sp0 (nG A) d 2 0), .int .i64 (sp0 (nG A) d 2 1), .int .i64 (sp0 (nG A) d 2 2), .int .i64 (sp0 (nG A) d 2 3)]).alloc (.cells #[.int .i64 n] 3)).alloc (.cells #[.int .i64 S] 3)).alloc (.cells #[.int .i64 0, .int .i64 0, .int .i64 0] 77)).alloc (.cells #[.int .i64 1] 2)).alloc (.cells #[.func (.func 85) #[] #[.pointer (some ⟨w.heap.size + 1 + 1, 0, none⟩)]] 99)
  have oN := ((((own_second w 3 [.int .i64 n] (.cells #[.int .i64 (sp0 (nG A) d 0 0), .int .i64 (sp0 (nG A) d 0 1), .int .i64 (sp0 (nG A) d 0 2), .int .i64 (sp0 (nG A) d 0 3), .int .i64 (sp0 (nG A) d 1 0), .int .i64 (sp0 (nG A) d 1 1), .int .i64 (sp0 (nG A) d 1 2), .int .i64 (sp0 (nG A) d 1 3), .int .i64 (sp0 (nG A) d 2 0), .int .i64 (sp0 (nG A) d 2 1), .int .i64 (sp0 (nG A) d 2 2), .int .i64 (sp0 (nG A) d 2 3)] 75)).alloc (.cells #[.int .i64 S] 3)).alloc (.cells #[.int .i64 0, .int .i64 0, .int .i64 0] 77)).alloc (.cells #[.int .i64 1] 2)).alloc (.cells #[.func (.func 85) #[] #[.pointer (some ⟨w.heap.size + 1 + 1, 0, none⟩)]] 99)
  have oS := (((own_third w 3 [.int .i64 S] (.cells #[.int .i64 (sp0 (nG A) d 0 0), .int .i64 (sp0 (nG A) d 0 1), .int .i64 (sp0 (nG A) d 0 2), .int .i64 (sp0 (nG A) d 0 3), .int .i64 (sp0 (nG A) d 1 0), .int .i64 (sp0 (nG A) d 1 1), .int .i64 (sp0 (nG A) d 1 2), .int .i64 (sp0 (nG A) d 1 3), .int .i64 (sp0 (nG A) d 2 0), .int .i64 (sp0 (nG A) d 2 1), .int .i64 (sp0 (nG A) d 2 2), .int .i64 (sp0 (nG A) d 2 3)] 75) (.cells #[.int .i64 n] 3)).alloc (.cells #[.int .i64 0, .int .i64 0, .int .i64 0] 77)).alloc (.cells #[.int .i64 1] 2)).alloc (.cells #[.func (.func 85) #[] #[.pointer (some ⟨w.heap.size + 1 + 1, 0, none⟩)]] 99)
  have oU := ((own_4th w 77 [.int .i64 0, .int .i64 0, .int .i64 0] (.cells #[.int .i64 (sp0 (nG A) d 0 0), .int .i64 (sp0 (nG A) d 0 1), .int .i64 (sp0 (nG A) d 0 2), .int .i64 (sp0 (nG A) d 0 3), .int .i64 (sp0 (nG A) d 1 0), .int .i64 (sp0 (nG A) d 1 1), .int .i64 (sp0 (nG A) d 1 2), .int .i64 (sp0 (nG A) d 1 3), .int .i64 (sp0 (nG A) d 2 0), .int .i64 (sp0 (nG A) d 2 1), .int .i64 (sp0 (nG A) d 2 2), .int .i64 (sp0 (nG A) d 2 3)] 75) (.cells #[.int .i64 n] 3) (.cells #[.int .i64 S] 3)).alloc (.cells #[.int .i64 1] 2)).alloc (.cells #[.func (.func 85) #[] #[.pointer (some ⟨w.heap.size + 1 + 1, 0, none⟩)]] 99)
  have oD := (own_fifth w 2 [.int .i64 1] (.cells #[.int .i64 (sp0 (nG A) d 0 0), .int .i64 (sp0 (nG A) d 0 1), .int .i64 (sp0 (nG A) d 0 2), .int .i64 (sp0 (nG A) d 0 3), .int .i64 (sp0 (nG A) d 1 0), .int .i64 (sp0 (nG A) d 1 1), .int .i64 (sp0 (nG A) d 1 2), .int .i64 (sp0 (nG A) d 1 3), .int .i64 (sp0 (nG A) d 2 0), .int .i64 (sp0 (nG A) d 2 1), .int .i64 (sp0 (nG A) d 2 2), .int .i64 (sp0 (nG A) d 2 3)] 75) (.cells #[.int .i64 n] 3) (.cells #[.int .i64 S] 3) (.cells #[.int .i64 0, .int .i64 0, .int .i64 0] 77)).alloc (.cells #[.func (.func 85) #[] #[.pointer (some ⟨w.heap.size + 1 + 1, 0, none⟩)]] 99)
  have oF := own_sixth w 99 [.func (.func 85) #[] #[.pointer (some ⟨w.heap.size + 1 + 1, 0, none⟩)]] (.cells #[.int .i64 (sp0 (nG A) d 0 0), .int .i64 (sp0 (nG A) d 0 1), .int .i64 (sp0 (nG A) d 0 2), .int .i64 (sp0 (nG A) d 0 3), .int .i64 (sp0 (nG A) d 1 0), .int .i64 (sp0 (nG A) d 1 1), .int .i64 (sp0 (nG A) d 1 2), .int .i64 (sp0 (nG A) d 1 3), .int .i64 (sp0 (nG A) d 2 0), .int .i64 (sp0 (nG A) d 2 1), .int .i64 (sp0 (nG A) d 2 2), .int .i64 (sp0 (nG A) d 2 3)] 75) (.cells #[.int .i64 n] 3) (.cells #[.int .i64 S] 3) (.cells #[.int .i64 0, .int .i64 0, .int .i64 0] 77) (.cells #[.int .i64 1] 2)
  have hy := ba6 w (.cells #[.int .i64 (sp0 (nG A) d 0 0), .int .i64 (sp0 (nG A) d 0 1), .int .i64 (sp0 (nG A) d 0 2), .int .i64 (sp0 (nG A) d 0 3), .int .i64 (sp0 (nG A) d 1 0), .int .i64 (sp0 (nG A) d 1 1), .int .i64 (sp0 (nG A) d 1 2), .int .i64 (sp0 (nG A) d 1 3), .int .i64 (sp0 (nG A) d 2 0), .int .i64 (sp0 (nG A) d 2 1), .int .i64 (sp0 (nG A) d 2 2), .int .i64 (sp0 (nG A) d 2 3)] 75) (.cells #[.int .i64 n] 3) (.cells #[.int .i64 S] 3) (.cells #[.int .i64 0, .int .i64 0, .int .i64 0] 77) (.cells #[.int .i64 1] 2) (.cells #[.func (.func 85) #[] #[.pointer (some ⟨w.heap.size + 1 + 1, 0, none⟩)]] 99)
  go_enter Try.func57, Try.ntmps57
  go_wp2
  generalize ((((((w.alloc (.cells #[.int .i64 (sp0 (nG A) d 0 0), .int .i64 (sp0 (nG A) d 0 1), .int .i64 (sp0 (nG A) d 0 2), .int .i64 (sp0 (nG A) d 0 3), .int .i64 (sp0 (nG A) d 1 0), .int .i64 (sp0 (nG A) d 1 1), .int .i64 (sp0 (nG A) d 1 2), .int .i64 (sp0 (nG A) d 1 3), .int .i64 (sp0 (nG A) d 2 0), .int .i64 (sp0 (nG A) d 2 1), .int .i64 (sp0 (nG A) d 2 2), .int .i64 (sp0 (nG A) d 2 3)] 75)).alloc (.cells #[.int .i64 n] 3)).alloc (.cells #[.int .i64 S] 3)).alloc (.cells #[.int .i64 0, .int .i64 0, .int .i64 0] 77)).alloc (.cells #[.int .i64 1] 2)).alloc (.cells #[.func (.func 85) #[] #[.pointer (some ⟨w.heap.size + 1 + 1, 0, none⟩)]] 99)) = y at *
  obtain ⟨z, hz⟩ : ∃ z, z = w.heap.size := ⟨_, rfl⟩
  rw [← hz] at oM oN oS oU oD oF ⊢
  have HZ := Lib.hid hz
  clear hz
  rw [← rcs_is] at oM
  have HY := Lib.hid hy
  have S8 := set8 hn HS.out
  have CN := Lib.hid (oN.cell 0 (by simp))
  have CS := Lib.hid (oS.cell 0 (by simp))
  have CF := Lib.hid (oF.cell 0 (by simp))
  have OU : Hid (Own y (z + 1 + 1 + 1) 77 (lcs (spnum S (nG A) d 0))) := by
    have e : spnum S (nG A) d 0 = fun _ => 0 := by funext i; unfold spnum; rw [if_neg (by omega)]
    show Own _ _ _ _
    rw [e]; exact oU
  clear hy oN oS oU oF
  go_loopw [15] (fun i wr => ∃ k : Nat, k ≤ n ∧ i = .int .i64 k ∧ Hid (pivs S (nG A) d k) ∧ Own wr z 75 (rcs (spr S (nG A) d k).1) ∧ Own wr (z + 1 + 1 + 1 + 1) 2 [.int .i64 (spr S (nG A) d k).2] ∧ Mod [z, z + 1 + 1 + 1 + 1] y wr) (fun i _ => n - (intOf i).toNat)
  case atStart => exact ⟨0, Nat.zero_le _, rfl, fun j hj => absurd hj (Nat.not_lt_zero j), oM, oD, Mod.refl _ _⟩
  case round =>
    clear oM oD
    obtain ⟨k, hk, rfl, hv, oM, oD, hM⟩ := hrel
    rename World => W
    have cn := hM.cell (by simp) CN.out
    have cs := hM.cell (by simp; omega) CS.out
    have cf := hM.cell (by simp; omega) CF.out
    simp only [List.getElem_cons_zero] at cn cs cf
    by_cases hlt : k < n
    · by_cases hb : S.testBit k = true
      case neg =>
        have hb' : S.testBit k = false := by simpa using hb
        have HB := Lib.hid hb'
        have ES : Hid (spr S (nG A) d (k + 1) = spr S (nG A) d k) := spr_no hb'
        have HV2 : Hid (pivs S (nG A) d (k + 1)) := fun j hj hbj => by
          rcases Nat.lt_or_ge j k with h | h
          · exact hv.out j h hbj
          · obtain rfl : j = k := by omega
            rw [hb'] at hbj; cases hbj
        clear hb hb'
        go_wp2_with (go_at_call 85; refine (spin_any S k (z + 1 + 1) false _ S8 (by omega) cs HB.out).mono ?_; rintro e w9 ⟨rfl, rfl⟩)
        go_roundw
        case rel => exact ⟨k + 1, by omega, by go_num, HV2, by rw [ES.out]; exact oM, by rw [ES.out]; exact oD, hM⟩
        case measure => simp [intOf]; try omega
      have HB := Lib.hid hb
      have ES : Hid (spr S (nG A) d (k + 1) = (swp S (spr S (nG A) d k).1 (spr S (nG A) d k).2 k, (spr S (nG A) d k).1 k k)) := spr_yes hb
      have HOK := Lib.hid (spr_ok HG.out HD.out S8 (by omega) hb hv.out)
      have HP : Hid (1 ≤ (spr S (nG A) d k).2) := spr_pos (cel A) A.length S8 k (by omega) hv.out
      have HZ0 : Hid ((spr S (nG A) d k).1 k k = 0 → den8 (nG A) S = 0) := fun h => spr_zero (cel A) A.length S8 (by omega) hb hv.out h
      have HV2 : Hid ((spr S (nG A) d k).1 k k ≠ 0 → pivs S (nG A) d (k + 1)) := fun hne j hj hbj => by
        rcases Nat.lt_or_ge j k with h | h
        · exact hv.out j h hbj
        · obtain rfl : j = k := by omega
          exact hne
      have HM := Lib.hid hM
      clear hb hv hM
      generalize spr S (nG A) d k = sp at *
      obtain ⟨f, den⟩ := sp
      simp only at oM oD ES HOK HP HZ0 HV2
      by_cases hz : f k k = 0
      · have qz : (f k k != 0) = false := by simpa using hz
        have HD0 := Lib.hid (HZ0.out hz)
        have HZK := Lib.hid hz
        clear hz HZ0 HV2
        go_wp2_with (first | (go_at_call 85; refine (spin_any S k (z + 1 + 1) true _ S8 (by omega) cs HB.out).mono ?_; rintro e w8 ⟨rfl, rfl⟩) | (go_at_call 86; refine (spsw_any S n k z (z + 1) (z + 1 + 1 + 1 + 1 + 1) (z + 1 + 1) (z + 1 + 1 + 1 + 1) f den _ hn HS.out hlt HB.out oM oD (by omega) HP.out HOK.out cn cf cs (by omega) (by omega) (by omega)).mono ?_; rintro e w9 ⟨rfl, oM9, oD9, hM9⟩; rw [qz]; have oU9 := (HM.out.trans hM9).own OU.out (by simp; omega); have e0 : lcs (spnum S (nG A) d 0) = [.int .i64 0, .int .i64 0, .int .i64 0] := (by rw [lcs_is]; simp [spnum]); rw [e0] at oU9; rw [if_pos HZK.out] at oD9; obtain ⟨rU, fU⟩ := oU9.rules; have zU := oU9.lt; obtain ⟨rD, fD⟩ := oD9.rules; have zD := oD9.lt))
        have hb9 : Below z w w9 := by
          have h := (HM.out.trans hM9).below HY.out (by intro b hb; rw [← HZ.out]; simp at hb; omega)
          rw [← HZ.out] at h; exact h
        have oU' := (((oU9.set 0 (.int .i64 0)).set 1 (.int .i64 0)).set 2 (.int .i64 0)).other (g' := z + 1 + 1 + 1 + 1) (by omega) 0 (.int .i64 0)
        have oD' := (((oD9.other (g' := z + 1 + 1 + 1) (by omega) 0 (.int .i64 0)).other (g' := z + 1 + 1 + 1) (by omega) 1 (.int .i64 0)).other (g' := z + 1 + 1 + 1) (by omega) 2 (.int .i64 0)).set 0 (.int .i64 0)
        have hb' := (((hb9.setCell (p := ⟨z + 1 + 1 + 1, 0, none⟩) (by simp; omega) (.int .i64 0)).setCell (p := ⟨z + 1 + 1 + 1, 1, none⟩) (by simp; omega) (.int .i64 0)).setCell (p := ⟨z + 1 + 1 + 1, 2, none⟩) (by simp; omega) (.int .i64 0)).setCell (p := ⟨z + 1 + 1 + 1 + 1, 0, none⟩) (by simp; omega) (.int .i64 0)
        refine bp_gen' (fun X => Own X (z + 1 + 1 + 1) 77 _ ∧ Own X (z + 1 + 1 + 1 + 1) 2 _ ∧ Below z w X) ⟨oU', oD', hb'⟩ ?_
        rintro wz ⟨q1, q2, q3⟩
        obtain ⟨r1, f1⟩ := q1.rules
        obtain ⟨r2, f2⟩ := q2.rules
        refine bodyPost_ret (v := .tuple #[.agg #[.int .i64 0, .int .i64 0, .int .i64 0], .int .i64 0]) (by simp [results, Try.results57, go_sem, r1, r2]) rfl ⟨?_, by rw [← HZ.out]; exact q3⟩
        rw [lcs_is, HD0.out]
        simp [stN, HD0.out]
      · have qz : (f k k != 0) = true := by simpa using hz
        have HZK := Lib.hid hz
        have HV3 := Lib.hid (HV2.out hz)
        clear hz HV2 HZ0
        go_wp2_with (first | (go_at_call 85; refine (spin_any S k (z + 1 + 1) true _ S8 (by omega) cs HB.out).mono ?_; rintro e w8 ⟨rfl, rfl⟩) | (go_at_call 86; refine (spsw_any S n k z (z + 1) (z + 1 + 1 + 1 + 1 + 1) (z + 1 + 1) (z + 1 + 1 + 1 + 1) f den _ hn HS.out hlt HB.out oM oD (by omega) HP.out HOK.out cn cf cs (by omega) (by omega) (by omega)).mono ?_; rintro e w9 ⟨rfl, oM9, oD9, hM9⟩; rw [qz]))
        rw [if_neg HZK.out] at oM9 oD9
        go_roundw
        case rel => exact ⟨k + 1, by omega, by go_num, HV3, by rw [ES.out]; exact oM9, by rw [ES.out]; exact oD9, HM.out.trans hM9⟩
        case measure => simp [intOf]; try omega
    · obtain rfl : k = n := by omega
      have hp3 : pivs S (nG A) d 3 := fun j hj hbj => by
        rcases Nat.lt_or_ge j k with h | h
        · exact hv.out j h hbj
        · rw [bit_out HS.out h] at hbj; cases hbj
      obtain ⟨e1, e2⟩ := spr_end S8 hp3
      rw [spr_same HS.out 3 hn] at e1 e2
      have E1 := Lib.hid e1
      have E2 := Lib.hid e2
      have HD0 : Hid (den8 (nG A) S ≠ 0) := by
        have h := spr_pos (cel A) A.length S8 k hn hv.out
        have h' : 1 ≤ (spr S (nG A) d k).2 := h
        rw [e1] at h'
        show den8 (nG A) S ≠ 0
        omega
      have oU := hM.own OU.out (by simp; omega)
      have hbW : Below z w W := by
        have h := hM.below HY.out (by intro b hb; rw [← HZ.out]; simp at hb; omega)
        rw [← HZ.out] at h; exact h
      rw [e1] at oD
      clear e1 e2 hp3 hv hM CN CS CF OU
      generalize (spr S (nG A) d k).1 = f at *
      have OM := Lib.hid oM
      have OD := Lib.hid oD
      have C1 := Lib.hid cn
      have C2 := Lib.hid cs
      have C3 := Lib.hid cf
      have HBW := Lib.hid hbW
      clear oM oD hbW
      go_wp2
      clear cn cs cf
      go_loopw [30] (fun i wr => ∃ q : Nat, q ≤ k ∧ i = .int .i64 q ∧ Own wr (z + 1 + 1 + 1) 77 (lcs (spnum S (nG A) d q)) ∧ Mod [z + 1 + 1 + 1] W wr) (fun i _ => k - (intOf i).toNat)
      case atStart => exact ⟨0, Nat.zero_le _, rfl, oU, Mod.refl _ _⟩
      case round =>
        clear oU
        obtain ⟨q, hq, rfl, oU, hM⟩ := hrel
        rename World => W2
        have cs := hM.cell (by simp) C2.out
        have cf := hM.cell (by simp; omega) C3.out
        by_cases hqk : q < k
        · by_cases hb : S.testBit q = true
          case neg =>
            have hb' : S.testBit q = false := by simpa using hb
            have HB := Lib.hid hb'
            have ES : Hid (spnum S (nG A) d q = spnum S (nG A) d (q + 1)) := spnum_skip hb'
            clear hb hb'
            go_wp2_with (go_at_call 85; refine (spin_any S q (z + 1 + 1) false _ S8 (by omega) cs HB.out).mono ?_; rintro e w9 ⟨rfl, rfl⟩)
            go_roundw
            case rel => exact ⟨q + 1, by omega, by go_num, by rw [← ES.out]; exact oU, hM⟩
            case measure => simp [intOf]; try omega
          have HB := Lib.hid hb
          have ES : Hid (lput (spnum S (nG A) d q) q (num8 (nG A) d S q) = spnum S (nG A) d (q + 1)) := spnum_put hb
          have g1 := rcs_get f (k := q) (l := 3) (by omega) (by omega)
          rw [E2.out q (by omega) hb] at g1
          clear hb
          have oM := hM.own OM.out (by simp; omega)
          obtain ⟨vm, m0⟩ : ∃ v, (lcs (spnum S (nG A) d q))[q]? = some v := ⟨_, lcs_get _ (by omega)⟩
          obtain ⟨rM, fM⟩ := oM.rules
          have zM := oM.lt
          obtain ⟨rU, fU⟩ := oU.rules
          have zU := oU.lt
          go_wp2_with (go_at_call 85; refine (spin_any S q (z + 1 + 1) true _ S8 (by omega) cs HB.out).mono ?_; rintro e w9 ⟨rfl, rfl⟩)
          go_roundw
          case rel =>
            refine ⟨q + 1, by omega, by go_num, ?_, hM.set (p := ⟨z + 1 + 1 + 1, q, none⟩) (by simp) _⟩
            have o2 := oU.set q (.int .i64 (num8 (nG A) d S q))
            rw [lcs_set _ (by omega), ES.out] at o2
            exact o2
          case measure => simp [intOf]; try omega
        · obtain rfl : q = k := by omega
          rw [spnum_end hn HS.out, lcs_is] at oU
          have oD := hM.own OD.out (by simp)
          have hbz : Below z w W2 := by
            have h := hM.below (w0 := w) (by rw [← HZ.out]; exact HBW.out) (by intro b hb; rw [← HZ.out]; simp at hb; omega)
            rw [← HZ.out] at h; exact h
          obtain ⟨rU, fU⟩ := oU.rules
          have zU := oU.lt
          obtain ⟨rD, fD⟩ := oD.rules
          have zD := oD.lt
          go_wp2
          go_region
          go_wp2
          have oU' := (((oU.set 0 (.int .i64 (num8 (nG A) d S 0))).set 1 (.int .i64 (num8 (nG A) d S 1))).set 2 (.int .i64 (num8 (nG A) d S 2))).other (g' := z + 1 + 1 + 1 + 1) (by omega) 0 (.int .i64 (den8 (nG A) S))
          have oD' := (((oD.other (g' := z + 1 + 1 + 1) (by omega) 0 (.int .i64 (num8 (nG A) d S 0))).other (g' := z + 1 + 1 + 1) (by omega) 1 (.int .i64 (num8 (nG A) d S 1))).other (g' := z + 1 + 1 + 1) (by omega) 2 (.int .i64 (num8 (nG A) d S 2))).set 0 (.int .i64 (den8 (nG A) S))
          have hb' := (((hbz.setCell (p := ⟨z + 1 + 1 + 1, 0, none⟩) (by simp; omega) (.int .i64 (num8 (nG A) d S 0))).setCell (p := ⟨z + 1 + 1 + 1, 1, none⟩) (by simp; omega) (.int .i64 (num8 (nG A) d S 1))).setCell (p := ⟨z + 1 + 1 + 1, 2, none⟩) (by simp; omega) (.int .i64 (num8 (nG A) d S 2))).setCell (p := ⟨z + 1 + 1 + 1 + 1, 0, none⟩) (by simp; omega) (.int .i64 (den8 (nG A) S))
          refine bp_gen' (fun X => Own X (z + 1 + 1 + 1) 77 _ ∧ Own X (z + 1 + 1 + 1 + 1) 2 _ ∧ Below z w X) ⟨oU'.drew, oD'.drew, hb'.drew⟩ ?_
          rintro wz ⟨q1, q2, q3⟩
          obtain ⟨r1, f1⟩ := q1.rules
          obtain ⟨r2, f2⟩ := q2.rules
          refine bodyPost_ret (v := .tuple #[.agg #[.int .i64 (num8 (nG A) d S 0), .int .i64 (num8 (nG A) d S 1), .int .i64 (num8 (nG A) d S 2)], .int .i64 (den8 (nG A) S)]) (by simp [results, Try.results57, go_sem, r1, r2]) rfl ⟨?_, by rw [← HZ.out]; exact q3⟩
          rw [lcs_is]
          simp only [stN, if_neg HD0.out]
end Go.Proofs.Ytfoemacgmehpiaa
