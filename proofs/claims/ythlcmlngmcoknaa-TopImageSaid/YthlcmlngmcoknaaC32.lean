/- What is proved here: contracts of functions and plain facts, several texts in one; each one says ahead what it proves, and its conditions. -/
import Derived.Test.YthlcmlngmcoknaaC31
import Derived.Test.YthlcmlngmcoknaaC30
import Derived.Laws.EntriesVeiled
import Derived.Test.YthlcmlngmcoknaaC11
import Derived.Test.YthlcmlngmcoknaaC27
import Derived.Test.YthlcmlngmcoknaaC29
/- What is proved here: the contract of sparse.still. Condition: the rows of a valid fit and a cost, a set of its unknowns. -/
namespace Go.Proofs.Ythlcmlngmcoknaa
open Go.RowKit

/-- The numerators of the first unknowns. -/
def spnum (S : Nat) (g : Nat → Nat → Int) (d : Nat → Int) (k i : Nat) : Int := if i < k ∧ S.testBit i = true then num8 g d S i else 0
theorem spnum_put {S k : Nat} {g : Nat → Nat → Int} {d : Nat → Int} (h : S.testBit k = true) : lput (spnum S g d k) k (num8 g d S k) = spnum S g d (k + 1) := by
  funext i
  unfold lput spnum
  by_cases h1 : i = k
  · subst h1; rw [if_pos rfl, if_pos ⟨by omega, h⟩]
  · rw [if_neg h1]
    by_cases h2 : i < k ∧ S.testBit i = true
    · rw [if_pos h2, if_pos ⟨by omega, h2.2⟩]
    · rw [if_neg h2, if_neg (by intro h3; exact h2 ⟨by omega, h3.2⟩)]
theorem spnum_skip {S k : Nat} {g : Nat → Nat → Int} {d : Nat → Int} (h : S.testBit k = false) : spnum S g d k = spnum S g d (k + 1) := by
  funext i
  unfold spnum
  by_cases h2 : i < k ∧ S.testBit i = true
  · rw [if_pos h2, if_pos ⟨by omega, h2.2⟩]
  · rw [if_neg h2, if_neg]
    intro h3
    rcases Nat.lt_or_ge i k with h4 | h4
    · exact h2 ⟨h4, h3.2⟩
    · obtain rfl : i = k := by omega
      rw [h] at h3; exact absurd h3.2 (by decide)
theorem spnum_end {S n : Nat} {g : Nat → Nat → Int} {d : Nat → Int} (hn : n ≤ 3) (hS : S < 2 ^ n) : lcs (spnum S g d n) = lcs (num8 g d S) := lcs_congr fun i hi => by
  unfold spnum
  by_cases h2 : i < n ∧ S.testBit i = true
  · rw [if_pos h2]
  · rw [if_neg h2]
    have hb : S.testBit i = false := by
      rcases Nat.lt_or_ge i n with h | h
      · cases hx : S.testBit i
        · rfl
        · exact absurd ⟨h, hx⟩ h2
      · exact bit_out hS h
    exact (num8_out g d (set8 hn hS) hi hb).symm
theorem Mod.trans {bs : List Nat} {w1 w2 w3 : World} (h1 : Mod bs w1 w2) (h2 : Mod bs w2 w3) : Mod bs w1 w3 :=
  ⟨h2.os.trans h1.os, h2.tape.trans h1.tape, h2.output.trans h1.output, Nat.le_trans h1.size h2.size, fun b hb hn => (h2.block b (Nat.lt_of_lt_of_le hb h1.size) hn).trans (h1.block b hb hn)⟩
set_option maxRecDepth 100000 in
set_option maxHeartbeats 4000000 in
theorem spstill_any (A : List (List Int)) (d : Nat → Int) (n S : Nat) (w : World) (hn : n ≤ 3) (hS : S < 2 ^ n) (hg : ∀ k l, wi 3000 (nG A k l)) (hd : ∀ k, wi 3000 (d k)) :
    Calls Try.prog 135 #[.agg #[.int .i64 (sp0 (nG A) d 0 0), .int .i64 (sp0 (nG A) d 0 1), .int .i64 (sp0 (nG A) d 0 2), .int .i64 (sp0 (nG A) d 0 3), .int .i64 (sp0 (nG A) d 1 0), .int .i64 (sp0 (nG A) d 1 1), .int .i64 (sp0 (nG A) d 1 2), .int .i64 (sp0 (nG A) d 1 3), .int .i64 (sp0 (nG A) d 2 0), .int .i64 (sp0 (nG A) d 2 1), .int .i64 (sp0 (nG A) d 2 2), .int .i64 (sp0 (nG A) d 2 3)], .int .i64 n, .int .i64 S] w (still_post w (nG A) d S) := by
  have HG := Lib.hid hg
  have HD := Lib.hid hd
  have HS := Lib.hid hS
  clear hg hd hS
  have oM := (((((Own.new w 186 [.int .i64 (sp0 (nG A) d 0 0), .int .i64 (sp0 (nG A) d 0 1), .int .i64 (sp0 (nG A) d 0 2), .int .i64 (sp0 (nG A) d 0 3), .int .i64 (sp0 (nG A) d 1 0), .int .i64 (sp0 (nG A) d 1 1), .int .i64 (sp0 (nG A) d 1 2), .int .i64 (sp0 (nG A) d 1 3), .int .i64 (sp0 (nG A) d 2 0), .int .i64 (sp0 (nG A) d 2 1), .int .i64 (sp0 (nG A) d 2 2), .int .i64 (sp0 (nG A) d 2 3)]).alloc (.cells #[.int .i64 n] 3)).alloc (.cells #[.int .i64 S] 3)).alloc (.cells #[.int .i64 0, .int .i64 0, .int .i64 0] 158)).alloc (.cells #[.int .i64 1] 2)).alloc (.cells #[.func (.func 158) #[] #[.pointer (some ⟨w.heap.size + 1 + 1, 0, none⟩)]] 191)
  have oN := ((((own_second w 3 [.int .i64 n] (.cells #[.int .i64 (sp0 (nG A) d 0 0), .int .i64 (sp0 (nG A) d 0 1), .int .i64 (sp0 (nG A) d 0 2), .int .i64 (sp0 (nG A) d 0 3), .int .i64 (sp0 (nG A) d 1 0), .int .i64 (sp0 (nG A) d 1 1), .int .i64 (sp0 (nG A) d 1 2), .int .i64 (sp0 (nG A) d 1 3), .int .i64 (sp0 (nG A) d 2 0), .int .i64 (sp0 (nG A) d 2 1), .int .i64 (sp0 (nG A) d 2 2), .int .i64 (sp0 (nG A) d 2 3)] 186)).alloc (.cells #[.int .i64 S] 3)).alloc (.cells #[.int .i64 0, .int .i64 0, .int .i64 0] 158)).alloc (.cells #[.int .i64 1] 2)).alloc (.cells #[.func (.func 158) #[] #[.pointer (some ⟨w.heap.size + 1 + 1, 0, none⟩)]] 191)
  have oS := (((own_third w 3 [.int .i64 S] (.cells #[.int .i64 (sp0 (nG A) d 0 0), .int .i64 (sp0 (nG A) d 0 1), .int .i64 (sp0 (nG A) d 0 2), .int .i64 (sp0 (nG A) d 0 3), .int .i64 (sp0 (nG A) d 1 0), .int .i64 (sp0 (nG A) d 1 1), .int .i64 (sp0 (nG A) d 1 2), .int .i64 (sp0 (nG A) d 1 3), .int .i64 (sp0 (nG A) d 2 0), .int .i64 (sp0 (nG A) d 2 1), .int .i64 (sp0 (nG A) d 2 2), .int .i64 (sp0 (nG A) d 2 3)] 186) (.cells #[.int .i64 n] 3)).alloc (.cells #[.int .i64 0, .int .i64 0, .int .i64 0] 158)).alloc (.cells #[.int .i64 1] 2)).alloc (.cells #[.func (.func 158) #[] #[.pointer (some ⟨w.heap.size + 1 + 1, 0, none⟩)]] 191)
  have oU := ((own_4th w 158 [.int .i64 0, .int .i64 0, .int .i64 0] (.cells #[.int .i64 (sp0 (nG A) d 0 0), .int .i64 (sp0 (nG A) d 0 1), .int .i64 (sp0 (nG A) d 0 2), .int .i64 (sp0 (nG A) d 0 3), .int .i64 (sp0 (nG A) d 1 0), .int .i64 (sp0 (nG A) d 1 1), .int .i64 (sp0 (nG A) d 1 2), .int .i64 (sp0 (nG A) d 1 3), .int .i64 (sp0 (nG A) d 2 0), .int .i64 (sp0 (nG A) d 2 1), .int .i64 (sp0 (nG A) d 2 2), .int .i64 (sp0 (nG A) d 2 3)] 186) (.cells #[.int .i64 n] 3) (.cells #[.int .i64 S] 3)).alloc (.cells #[.int .i64 1] 2)).alloc (.cells #[.func (.func 158) #[] #[.pointer (some ⟨w.heap.size + 1 + 1, 0, none⟩)]] 191)
  have oD := (own_fifth w 2 [.int .i64 1] (.cells #[.int .i64 (sp0 (nG A) d 0 0), .int .i64 (sp0 (nG A) d 0 1), .int .i64 (sp0 (nG A) d 0 2), .int .i64 (sp0 (nG A) d 0 3), .int .i64 (sp0 (nG A) d 1 0), .int .i64 (sp0 (nG A) d 1 1), .int .i64 (sp0 (nG A) d 1 2), .int .i64 (sp0 (nG A) d 1 3), .int .i64 (sp0 (nG A) d 2 0), .int .i64 (sp0 (nG A) d 2 1), .int .i64 (sp0 (nG A) d 2 2), .int .i64 (sp0 (nG A) d 2 3)] 186) (.cells #[.int .i64 n] 3) (.cells #[.int .i64 S] 3) (.cells #[.int .i64 0, .int .i64 0, .int .i64 0] 158)).alloc (.cells #[.func (.func 158) #[] #[.pointer (some ⟨w.heap.size + 1 + 1, 0, none⟩)]] 191)
  have oF := own_sixth w 191 [.func (.func 158) #[] #[.pointer (some ⟨w.heap.size + 1 + 1, 0, none⟩)]] (.cells #[.int .i64 (sp0 (nG A) d 0 0), .int .i64 (sp0 (nG A) d 0 1), .int .i64 (sp0 (nG A) d 0 2), .int .i64 (sp0 (nG A) d 0 3), .int .i64 (sp0 (nG A) d 1 0), .int .i64 (sp0 (nG A) d 1 1), .int .i64 (sp0 (nG A) d 1 2), .int .i64 (sp0 (nG A) d 1 3), .int .i64 (sp0 (nG A) d 2 0), .int .i64 (sp0 (nG A) d 2 1), .int .i64 (sp0 (nG A) d 2 2), .int .i64 (sp0 (nG A) d 2 3)] 186) (.cells #[.int .i64 n] 3) (.cells #[.int .i64 S] 3) (.cells #[.int .i64 0, .int .i64 0, .int .i64 0] 158) (.cells #[.int .i64 1] 2)
  have hy := ba6 w (.cells #[.int .i64 (sp0 (nG A) d 0 0), .int .i64 (sp0 (nG A) d 0 1), .int .i64 (sp0 (nG A) d 0 2), .int .i64 (sp0 (nG A) d 0 3), .int .i64 (sp0 (nG A) d 1 0), .int .i64 (sp0 (nG A) d 1 1), .int .i64 (sp0 (nG A) d 1 2), .int .i64 (sp0 (nG A) d 1 3), .int .i64 (sp0 (nG A) d 2 0), .int .i64 (sp0 (nG A) d 2 1), .int .i64 (sp0 (nG A) d 2 2), .int .i64 (sp0 (nG A) d 2 3)] 186) (.cells #[.int .i64 n] 3) (.cells #[.int .i64 S] 3) (.cells #[.int .i64 0, .int .i64 0, .int .i64 0] 158) (.cells #[.int .i64 1] 2) (.cells #[.func (.func 158) #[] #[.pointer (some ⟨w.heap.size + 1 + 1, 0, none⟩)]] 191)
  go_enter Try.func135, Try.ntmps135
  go_wp2
  generalize ((((((w.alloc (.cells #[.int .i64 (sp0 (nG A) d 0 0), .int .i64 (sp0 (nG A) d 0 1), .int .i64 (sp0 (nG A) d 0 2), .int .i64 (sp0 (nG A) d 0 3), .int .i64 (sp0 (nG A) d 1 0), .int .i64 (sp0 (nG A) d 1 1), .int .i64 (sp0 (nG A) d 1 2), .int .i64 (sp0 (nG A) d 1 3), .int .i64 (sp0 (nG A) d 2 0), .int .i64 (sp0 (nG A) d 2 1), .int .i64 (sp0 (nG A) d 2 2), .int .i64 (sp0 (nG A) d 2 3)] 186)).alloc (.cells #[.int .i64 n] 3)).alloc (.cells #[.int .i64 S] 3)).alloc (.cells #[.int .i64 0, .int .i64 0, .int .i64 0] 158)).alloc (.cells #[.int .i64 1] 2)).alloc (.cells #[.func (.func 158) #[] #[.pointer (some ⟨w.heap.size + 1 + 1, 0, none⟩)]] 191)) = y at *
  obtain ⟨z, hz⟩ : ∃ z, z = w.heap.size := ⟨_, rfl⟩
  rw [← hz] at oM oN oS oU oD oF ⊢
  have HZ := Lib.hid hz
  clear hz
  rw [← rcs_is] at oM
  have HY := Lib.hid hy
  have S8 := set8 hn HS.out
  have CN := Lib.hid (oN.cell 0 (by simp))
  have CS := Lib.hid (oS.cell 0 (by simp))
  have CF := Lib.hid (oF.cell 0 (by simp))
  have OU : Hid (Own y (z + 1 + 1 + 1) 158 (lcs (spnum S (nG A) d 0))) := by
    have e : spnum S (nG A) d 0 = fun _ => 0 := by funext i; unfold spnum; rw [if_neg (by omega)]
    show Own _ _ _ _
    rw [e]; exact oU
  clear hy oN oS oU oF
  go_loopw [15] (fun i wr => ∃ k : Nat, k ≤ n ∧ i = .int .i64 k ∧ Hid (pivs S (nG A) d k) ∧ Own wr z 186 (rcs (spr S (nG A) d k).1) ∧ Own wr (z + 1 + 1 + 1 + 1) 2 [.int .i64 (spr S (nG A) d k).2] ∧ Mod [z, z + 1 + 1 + 1 + 1] y wr) (fun i _ => n - (intOf i).toNat)
  case atStart => exact ⟨0, Nat.zero_le _, rfl, fun j hj => absurd hj (Nat.not_lt_zero j), oM, oD, Mod.refl _ _⟩
  case round =>
    clear oM oD
    obtain ⟨k, hk, rfl, hv, oM, oD, hM⟩ := hrel
    rename World => W
    have cn := hM.cell (by simp) CN.out
    have cs := hM.cell (by simp; omega) CS.out
    have cf := hM.cell (by simp; omega) CF.out
    simp only [List.getElem_cons_zero] at cn cs cf
    by_cases hlt : k < n
    · by_cases hb : S.testBit k = true
      case neg =>
        have hb' : S.testBit k = false := by simpa using hb
        have HB := Lib.hid hb'
        have ES : Hid (spr S (nG A) d (k + 1) = spr S (nG A) d k) := spr_no hb'
        have HV2 : Hid (pivs S (nG A) d (k + 1)) := fun j hj hbj => by
          rcases Nat.lt_or_ge j k with h | h
          · exact hv.out j h hbj
          · obtain rfl : j = k := by omega
            rw [hb'] at hbj; cases hbj
        clear hb hb'
        go_wp2_with (go_at_call 158; refine (spin_any S k (z + 1 + 1) false _ S8 (by omega) cs HB.out).mono ?_; rintro e w9 ⟨rfl, rfl⟩)
        go_roundw
        case rel => exact ⟨k + 1, by omega, by go_num, HV2, by rw [ES.out]; exact oM, by rw [ES.out]; exact oD, hM⟩
        case measure => simp [intOf]; try omega
      have HB := Lib.hid hb
      have ES : Hid (spr S (nG A) d (k + 1) = (swp S (spr S (nG A) d k).1 (spr S (nG A) d k).2 k, (spr S (nG A) d k).1 k k)) := spr_yes hb
      have HOK := Lib.hid (spr_ok HG.out HD.out S8 (by omega) hb hv.out)
      have HP : Hid (1 ≤ (spr S (nG A) d k).2) := spr_pos (cel A) A.length S8 k (by omega) hv.out
      have HZ0 : Hid ((spr S (nG A) d k).1 k k = 0 → den8 (nG A) S = 0) := fun h => spr_zero (cel A) A.length S8 (by omega) hb hv.out h
      have HV2 : Hid ((spr S (nG A) d k).1 k k ≠ 0 → pivs S (nG A) d (k + 1)) := fun hne j hj hbj => by
        rcases Nat.lt_or_ge j k with h | h
        · exact hv.out j h hbj
        · obtain rfl : j = k := by omega
          exact hne
      have HM := Lib.hid hM
      clear hb hv hM
      generalize spr S (nG A) d k = sp at *
      obtain ⟨f, den⟩ := sp
      simp only at oM oD ES HOK HP HZ0 HV2
      by_cases hz : f k k = 0
      · have qz : (f k k != 0) = false := by simpa using hz
        have HD0 := Lib.hid (HZ0.out hz)
        have HZK := Lib.hid hz
        clear hz HZ0 HV2
        go_wp2_with (first | (go_at_call 158; refine (spin_any S k (z + 1 + 1) true _ S8 (by omega) cs HB.out).mono ?_; rintro e w8 ⟨rfl, rfl⟩) | (go_at_call 159; refine (spsw_any S n k z (z + 1) (z + 1 + 1 + 1 + 1 + 1) (z + 1 + 1) (z + 1 + 1 + 1 + 1) f den _ hn HS.out hlt HB.out oM oD (by omega) HP.out HOK.out cn cf cs (by omega) (by omega) (by omega)).mono ?_; rintro e w9 ⟨rfl, oM9, oD9, hM9⟩; rw [qz]; have oU9 := (HM.out.trans hM9).own OU.out (by simp; omega); have e0 : lcs (spnum S (nG A) d 0) = [.int .i64 0, .int .i64 0, .int .i64 0] := (by rw [lcs_is]; simp [spnum]); rw [e0] at oU9; rw [if_pos HZK.out] at oD9; obtain ⟨rU, fU⟩ := oU9.rules; have zU := oU9.lt; obtain ⟨rD, fD⟩ := oD9.rules; have zD := oD9.lt))
        have hb9 : Below z w w9 := by
          have h := (HM.out.trans hM9).below HY.out (by intro b hb; rw [← HZ.out]; simp at hb; omega)
          rw [← HZ.out] at h; exact h
        have oU' := (((oU9.set 0 (.int .i64 0)).set 1 (.int .i64 0)).set 2 (.int .i64 0)).other (g' := z + 1 + 1 + 1 + 1) (by omega) 0 (.int .i64 0)
        have oD' := (((oD9.other (g' := z + 1 + 1 + 1) (by omega) 0 (.int .i64 0)).other (g' := z + 1 + 1 + 1) (by omega) 1 (.int .i64 0)).other (g' := z + 1 + 1 + 1) (by omega) 2 (.int .i64 0)).set 0 (.int .i64 0)
        have hb' := (((hb9.setCell (p := ⟨z + 1 + 1 + 1, 0, none⟩) (by simp; omega) (.int .i64 0)).setCell (p := ⟨z + 1 + 1 + 1, 1, none⟩) (by simp; omega) (.int .i64 0)).setCell (p := ⟨z + 1 + 1 + 1, 2, none⟩) (by simp; omega) (.int .i64 0)).setCell (p := ⟨z + 1 + 1 + 1 + 1, 0, none⟩) (by simp; omega) (.int .i64 0)
        refine bp_gen' (fun X => Own X (z + 1 + 1 + 1) 158 _ ∧ Own X (z + 1 + 1 + 1 + 1) 2 _ ∧ Below z w X) ⟨oU', oD', hb'⟩ ?_
        rintro wz ⟨q1, q2, q3⟩
        obtain ⟨r1, f1⟩ := q1.rules
        obtain ⟨r2, f2⟩ := q2.rules
        refine bodyPost_ret (v := .tuple #[.agg #[.int .i64 0, .int .i64 0, .int .i64 0], .int .i64 0]) (by simp [results, Try.results135, go_sem, r1, r2]) rfl ⟨?_, by rw [← HZ.out]; exact q3⟩
        rw [lcs_is, HD0.out]
        simp [stN, HD0.out]
      · have qz : (f k k != 0) = true := by simpa using hz
        have HZK := Lib.hid hz
        have HV3 := Lib.hid (HV2.out hz)
        clear hz HV2 HZ0
        go_wp2_with (first | (go_at_call 158; refine (spin_any S k (z + 1 + 1) true _ S8 (by omega) cs HB.out).mono ?_; rintro e w8 ⟨rfl, rfl⟩) | (go_at_call 159; refine (spsw_any S n k z (z + 1) (z + 1 + 1 + 1 + 1 + 1) (z + 1 + 1) (z + 1 + 1 + 1 + 1) f den _ hn HS.out hlt HB.out oM oD (by omega) HP.out HOK.out cn cf cs (by omega) (by omega) (by omega)).mono ?_; rintro e w9 ⟨rfl, oM9, oD9, hM9⟩; rw [qz]))
        rw [if_neg HZK.out] at oM9 oD9
        go_roundw
        case rel => exact ⟨k + 1, by omega, by go_num, HV3, by rw [ES.out]; exact oM9, by rw [ES.out]; exact oD9, HM.out.trans hM9⟩
        case measure => simp [intOf]; try omega
    · obtain rfl : k = n := by omega
      have hp3 : pivs S (nG A) d 3 := fun j hj hbj => by
        rcases Nat.lt_or_ge j k with h | h
        · exact hv.out j h hbj
        · rw [bit_out HS.out h] at hbj; cases hbj
      obtain ⟨e1, e2⟩ := spr_end S8 hp3
      rw [spr_same HS.out 3 hn] at e1 e2
      have E1 := Lib.hid e1
      have E2 := Lib.hid e2
      have HD0 : Hid (den8 (nG A) S ≠ 0) := by
        have h := spr_pos (cel A) A.length S8 k hn hv.out
        have h' : 1 ≤ (spr S (nG A) d k).2 := h
        rw [e1] at h'
        show den8 (nG A) S ≠ 0
        omega
      have oU := hM.own OU.out (by simp; omega)
      have hbW : Below z w W := by
        have h := hM.below HY.out (by intro b hb; rw [← HZ.out]; simp at hb; omega)
        rw [← HZ.out] at h; exact h
      rw [e1] at oD
      clear e1 e2 hp3 hv hM CN CS CF OU
      generalize (spr S (nG A) d k).1 = f at *
      have OM := Lib.hid oM
      have OD := Lib.hid oD
      have C1 := Lib.hid cn
      have C2 := Lib.hid cs
      have C3 := Lib.hid cf
      have HBW := Lib.hid hbW
      clear oM oD hbW
      go_wp2
      clear cn cs cf
      go_loopw [30] (fun i wr => ∃ q : Nat, q ≤ k ∧ i = .int .i64 q ∧ Own wr (z + 1 + 1 + 1) 158 (lcs (spnum S (nG A) d q)) ∧ Mod [z + 1 + 1 + 1] W wr) (fun i _ => k - (intOf i).toNat)
      case atStart => exact ⟨0, Nat.zero_le _, rfl, oU, Mod.refl _ _⟩
      case round =>
        clear oU
        obtain ⟨q, hq, rfl, oU, hM⟩ := hrel
        rename World => W2
        have cs := hM.cell (by simp) C2.out
        have cf := hM.cell (by simp; omega) C3.out
        by_cases hqk : q < k
        · by_cases hb : S.testBit q = true
          case neg =>
            have hb' : S.testBit q = false := by simpa using hb
            have HB := Lib.hid hb'
            have ES : Hid (spnum S (nG A) d q = spnum S (nG A) d (q + 1)) := spnum_skip hb'
            clear hb hb'
            go_wp2_with (go_at_call 158; refine (spin_any S q (z + 1 + 1) false _ S8 (by omega) cs HB.out).mono ?_; rintro e w9 ⟨rfl, rfl⟩)
            go_roundw
            case rel => exact ⟨q + 1, by omega, by go_num, by rw [← ES.out]; exact oU, hM⟩
            case measure => simp [intOf]; try omega
          have HB := Lib.hid hb
          have ES : Hid (lput (spnum S (nG A) d q) q (num8 (nG A) d S q) = spnum S (nG A) d (q + 1)) := spnum_put hb
          have g1 := rcs_get f (k := q) (l := 3) (by omega) (by omega)
          rw [E2.out q (by omega) hb] at g1
          clear hb
          have oM := hM.own OM.out (by simp; omega)
          obtain ⟨vm, m0⟩ : ∃ v, (lcs (spnum S (nG A) d q))[q]? = some v := ⟨_, lcs_get _ (by omega)⟩
          obtain ⟨rM, fM⟩ := oM.rules
          have zM := oM.lt
          obtain ⟨rU, fU⟩ := oU.rules
          have zU := oU.lt
          go_wp2_with (go_at_call 158; refine (spin_any S q (z + 1 + 1) true _ S8 (by omega) cs HB.out).mono ?_; rintro e w9 ⟨rfl, rfl⟩)
          go_roundw
          case rel =>
            refine ⟨q + 1, by omega, by go_num, ?_, hM.set (p := ⟨z + 1 + 1 + 1, q, none⟩) (by simp) _⟩
            have o2 := oU.set q (.int .i64 (num8 (nG A) d S q))
            rw [lcs_set _ (by omega), ES.out] at o2
            exact o2
          case measure => simp [intOf]; try omega
        · obtain rfl : q = k := by omega
          rw [spnum_end hn HS.out, lcs_is] at oU
          have oD := hM.own OD.out (by simp)
          have hbz : Below z w W2 := by
            have h := hM.below (w0 := w) (by rw [← HZ.out]; exact HBW.out) (by intro b hb; rw [← HZ.out]; simp at hb; omega)
            rw [← HZ.out] at h; exact h
          obtain ⟨rU, fU⟩ := oU.rules
          have zU := oU.lt
          obtain ⟨rD, fD⟩ := oD.rules
          have zD := oD.lt
          go_wp2
          go_region
          go_wp2
          have oU' := (((oU.set 0 (.int .i64 (num8 (nG A) d S 0))).set 1 (.int .i64 (num8 (nG A) d S 1))).set 2 (.int .i64 (num8 (nG A) d S 2))).other (g' := z + 1 + 1 + 1 + 1) (by omega) 0 (.int .i64 (den8 (nG A) S))
          have oD' := (((oD.other (g' := z + 1 + 1 + 1) (by omega) 0 (.int .i64 (num8 (nG A) d S 0))).other (g' := z + 1 + 1 + 1) (by omega) 1 (.int .i64 (num8 (nG A) d S 1))).other (g' := z + 1 + 1 + 1) (by omega) 2 (.int .i64 (num8 (nG A) d S 2))).set 0 (.int .i64 (den8 (nG A) S))
          have hb' := (((hbz.setCell (p := ⟨z + 1 + 1 + 1, 0, none⟩) (by simp; omega) (.int .i64 (num8 (nG A) d S 0))).setCell (p := ⟨z + 1 + 1 + 1, 1, none⟩) (by simp; omega) (.int .i64 (num8 (nG A) d S 1))).setCell (p := ⟨z + 1 + 1 + 1, 2, none⟩) (by simp; omega) (.int .i64 (num8 (nG A) d S 2))).setCell (p := ⟨z + 1 + 1 + 1 + 1, 0, none⟩) (by simp; omega) (.int .i64 (den8 (nG A) S))
          refine bp_gen' (fun X => Own X (z + 1 + 1 + 1) 158 _ ∧ Own X (z + 1 + 1 + 1 + 1) 2 _ ∧ Below z w X) ⟨oU'.drew, oD'.drew, hb'.drew⟩ ?_
          rintro wz ⟨q1, q2, q3⟩
          obtain ⟨r1, f1⟩ := q1.rules
          obtain ⟨r2, f2⟩ := q2.rules
          refine bodyPost_ret (v := .tuple #[.agg #[.int .i64 (num8 (nG A) d S 0), .int .i64 (num8 (nG A) d S 1), .int .i64 (num8 (nG A) d S 2)], .int .i64 (den8 (nG A) S)]) (by simp [results, Try.results135, go_sem, r1, r2]) rfl ⟨?_, by rw [← HZ.out]; exact q3⟩
          rw [lcs_is]
          simp only [stN, if_neg HD0.out]
end Go.Proofs.Ythlcmlngmcoknaa

/- What is proved here: the contract of sparse.Solve. Condition: a system that can be read, a 64-bit cost. -/
namespace Go.Proofs.Ythlcmlngmcoknaa
open Go.RowKit

/-- What Solve returns: the solution for a cost, its set, and an error. -/
def sSolve (A : List (List Int)) (B : List Int) (c : Int) : List (Int × Int) × Nat × Int := if scheck A B c = 0 then (nsol A B c (A.getD 0 []).length, nS A B c, 0) else ([], 0, scheck A B c)
theorem dN_wi {A : List (List Int)} {B : List Int} {c : Int} {n : Nat} (h : Fit A B n) (h0 : 0 ≤ c) (h1 : c ≤ 1000) (k : Nat) : wi 3000 (dN A B c n k) := by
  unfold dN; split
  · exact nD_wi h h0 h1 k
  · unfold wi; omega
theorem num8_congr {g : Nat → Nat → Int} {d e : Nat → Int} {S : Nat} (hS : S < 8) (h : ∀ i, i < 3 → S.testBit i = true → d i = e i) : num8 g d S = num8 g e S := by
  funext k
  rcases cases8 hS with rfl | rfl | rfl | rfl | rfl | rfl | rfl | rfl
  · rfl
  · have h0 := h 0 (by omega) (by decide)
    rcases k with _ | k <;> simp only [num8, h0]
  · have h1 := h 1 (by omega) (by decide)
    rcases k with _ | _ | k <;> simp only [num8, h1]
  · have h0 := h 0 (by omega) (by decide)
    have h1 := h 1 (by omega) (by decide)
    rcases k with _ | _ | k <;> simp only [num8, h0, h1]
  · have h2 := h 2 (by omega) (by decide)
    rcases k with _ | _ | _ | k <;> simp only [num8, h2]
  · have h0 := h 0 (by omega) (by decide)
    have h2 := h 2 (by omega) (by decide)
    rcases k with _ | _ | _ | k <;> simp only [num8, h0, h2]
  · have h1 := h 1 (by omega) (by decide)
    have h2 := h 2 (by omega) (by decide)
    rcases k with _ | _ | _ | k <;> simp only [num8, h1, h2]
  · have h0 := h 0 (by omega) (by decide)
    have h1 := h 1 (by omega) (by decide)
    have h2 := h 2 (by omega) (by decide)
    rcases k with _ | _ | _ | k <;> simp only [num8, h0, h1, h2]
theorem dN_num {A : List (List Int)} {B : List Int} {c : Int} {n S : Nat} (hn : n ≤ 3) (hS : S < 2 ^ n) : num8 (nG A) (dN A B c n) S = num8 (nG A) (nD A B c) S :=
  num8_congr (set8 hn hS) fun i _ hb => by
    unfold dN
    rcases Nat.lt_or_ge i n with h | h
    · rw [if_pos h]
    · rw [bit_out hS h] at hb; cases hb
theorem dN_best {A : List (List Int)} {B : List Int} {c : Int} {n : Nat} (nu : Nat → Int) (den : Int) : bestN (nG A) (dN A B c n) nu den n = bestN (nG A) (nD A B c) nu den n := by
  unfold bestN
  have h : ∀ k, k ∈ List.range n → bOk (nG A) (dN A B c n) nu den n k = bOk (nG A) (nD A B c) nu den n k := fun k hk => by
    have := List.mem_range.1 hk
    unfold bOk bsum dN
    rw [if_pos this]
  rw [Bool.eq_iff_iff, List.all_eq_true, List.all_eq_true]
  exact ⟨fun hh k hk => by rw [← h k hk]; exact hh k hk, fun hh k hk => by rw [h k hk]; exact hh k hk⟩
theorem spnorm_is {w : World} {A : List (List Int)} {B : List Int} {c : Int} {n : Nat} {e : Ending} {w' : World} (h : spnorm_post w A B c n e w') :
    e = .returned (.agg #[.int .i64 (sp0 (nG A) (dN A B c n) 0 0), .int .i64 (sp0 (nG A) (dN A B c n) 0 1), .int .i64 (sp0 (nG A) (dN A B c n) 0 2), .int .i64 (sp0 (nG A) (dN A B c n) 0 3), .int .i64 (sp0 (nG A) (dN A B c n) 1 0), .int .i64 (sp0 (nG A) (dN A B c n) 1 1), .int .i64 (sp0 (nG A) (dN A B c n) 1 2), .int .i64 (sp0 (nG A) (dN A B c n) 1 3), .int .i64 (sp0 (nG A) (dN A B c n) 2 0), .int .i64 (sp0 (nG A) (dN A B c n) 2 1), .int .i64 (sp0 (nG A) (dN A B c n) 2 2), .int .i64 (sp0 (nG A) (dN A B c n) 2 3)]) ∧ Below w.heap.size w w' := h
set_option maxRecDepth 100000 in
set_option maxHeartbeats 4000000 in
theorem spsolve_any (A : List (List Int)) (B : List Int) (c : Int) (va vb : Value) (w : World) (hA : SS w va A) (hB : SI w vb B) :
    Calls Try.prog 94 #[.agg #[va, vb], .int .i64 c] w (solve_post w (sSolve A B c)) := by
  go_enter Try.func94, Try.ntmps94
  have oS := Own.new w 25 [va, vb]
  have hy := ba1 w (.cells #[va, vb] 25)
  replace hA := hA.below hy
  replace hB := hB.below hy
  obtain ⟨rS, fS⟩ := oS.rules
  have zS := oS.lt
  go_wp2_with fail
  refine (sready_any A B c _ _ _ hA hB).mono ?_
  rintro e y1 ⟨rfl, hq⟩
  clear rS fS zS
  replace oS := oS.below hq
  replace hA := hA.below hq
  replace hB := hB.below hq
  replace hy := below_to hy hq
  clear hq
  obtain ⟨rS, fS⟩ := oS.rules
  have zS := oS.lt
  by_cases h0 : scheck A B c = 0
  case neg =>
    have HV : Hid (sSolve A B c = ([], 0, scheck A B c)) := if_neg h0
    have q0 : (scheck A B c != 0) = true := by simpa using h0
    clear hA hB h0
    go_wp2
    refine bodyPost_ret (v := .tuple #[.slice none 0 0, .int .i64 0, .int .i64 (scheck A B c)]) (by simp [results, Try.results94, go_sem]) rfl ⟨.slice none 0 0, by rw [HV.out]; try rfl, by rw [HV.out]; exact sf_nil _, hy⟩
  have HF := Lib.hid (fit_of (scheck_of h0).1)
  have c0 := (scheck_of h0).2.1
  have c1' := (scheck_of h0).2.2
  have HV : Hid (sSolve A B c = (nsol A B c (A.getD 0 []).length, nS A B c, 0)) := if_pos h0
  rw [h0]
  clear h0
  have hr := HF.out.rows.1
  have n1 := HF.out.cols.1
  have n3 := HF.out.cols.2
  have hw0 := HF.out.wide 0 (by omega)
  obtain ⟨ada, capa, e, ha1, ha2, H⟩ := hA.open
  subst e
  obtain ⟨b, off, ad', cap', rfl, c1, c2, c3, _⟩ := H.out 0 hr
  clear H
  rw [hw0] at c1 c2 c3
  rw [Nat.add_zero] at c1
  have HW0 := Lib.hid hw0
  clear hw0
  generalize (A.getD 0 []).length = n at *
  have rows1 : (0 : Int) < A.length := by omega
  go_wp2_with fail
  refine (spnorm_any A B c n _ _ _ hA hB HF.out c0 c1').mono ?_
  rintro e y2 hp
  obtain ⟨rfl, hq⟩ := spnorm_is hp
  clear hp rS fS zS oS hA hB c1 c2 c3
  replace hy := below_to hy hq
  clear hq
  have oG := Own.new y2 186 [.int .i64 (sp0 (nG A) (dN A B c n) 0 0), .int .i64 (sp0 (nG A) (dN A B c n) 0 1), .int .i64 (sp0 (nG A) (dN A B c n) 0 2), .int .i64 (sp0 (nG A) (dN A B c n) 0 3), .int .i64 (sp0 (nG A) (dN A B c n) 1 0), .int .i64 (sp0 (nG A) (dN A B c n) 1 1), .int .i64 (sp0 (nG A) (dN A B c n) 1 2), .int .i64 (sp0 (nG A) (dN A B c n) 1 3), .int .i64 (sp0 (nG A) (dN A B c n) 2 0), .int .i64 (sp0 (nG A) (dN A B c n) 2 1), .int .i64 (sp0 (nG A) (dN A B c n) 2 2), .int .i64 (sp0 (nG A) (dN A B c n) 2 3)]
  have hW := ba1 y2 (.cells #[.int .i64 (sp0 (nG A) (dN A B c n) 0 0), .int .i64 (sp0 (nG A) (dN A B c n) 0 1), .int .i64 (sp0 (nG A) (dN A B c n) 0 2), .int .i64 (sp0 (nG A) (dN A B c n) 0 3), .int .i64 (sp0 (nG A) (dN A B c n) 1 0), .int .i64 (sp0 (nG A) (dN A B c n) 1 1), .int .i64 (sp0 (nG A) (dN A B c n) 1 2), .int .i64 (sp0 (nG A) (dN A B c n) 1 3), .int .i64 (sp0 (nG A) (dN A B c n) 2 0), .int .i64 (sp0 (nG A) (dN A B c n) 2 1), .int .i64 (sp0 (nG A) (dN A B c n) 2 2), .int .i64 (sp0 (nG A) (dN A B c n) 2 3)] 186)
  have HY := Lib.hid hy
  have NG : Hid (∀ k l, wi 3000 (nG A k l)) := nG_wi HF.out
  have ND : Hid (∀ k, wi 3000 (dN A B c n k)) := dN_wi HF.out c0 c1'
  have K0 := Lib.hid c0
  have K1 := Lib.hid c1'
  clear hy c0 c1'
  go_wp2
  generalize y2.alloc (.cells #[.int .i64 (sp0 (nG A) (dN A B c n) 0 0), .int .i64 (sp0 (nG A) (dN A B c n) 0 1), .int .i64 (sp0 (nG A) (dN A B c n) 0 2), .int .i64 (sp0 (nG A) (dN A B c n) 0 3), .int .i64 (sp0 (nG A) (dN A B c n) 1 0), .int .i64 (sp0 (nG A) (dN A B c n) 1 1), .int .i64 (sp0 (nG A) (dN A B c n) 1 2), .int .i64 (sp0 (nG A) (dN A B c n) 1 3), .int .i64 (sp0 (nG A) (dN A B c n) 2 0), .int .i64 (sp0 (nG A) (dN A B c n) 2 1), .int .i64 (sp0 (nG A) (dN A B c n) 2 2), .int .i64 (sp0 (nG A) (dN A B c n) 2 3)] 186) = y at *
  have HB := Lib.hid (below_to HY.out hW)
  obtain ⟨z, hz⟩ : ∃ z, z = y2.heap.size := ⟨_, rfl⟩
  rw [← hz] at oG ⊢
  clear hz hW HY
  have OG := Lib.hid oG
  clear oG
  go_loopw [28] (fun i wr => ∃ T : Nat, T ≤ 2 ^ n ∧ i = .int .i64 T ∧ Hid (∀ S, S < T → good8 (nG A) (nD A B c) S = false) ∧ Below y.heap.size y wr) (fun i _ => 2 ^ n - (intOf i).toNat)
  case atStart => exact ⟨0, Nat.zero_le _, rfl, fun S hS => absurd hS (Nat.not_lt_zero S), Below.refl _ _⟩
  case round =>
    obtain ⟨T, hT, rfl, hv, hW⟩ := hrel
    rename World => W
    have pw := pow_wrap n3
    by_cases hlt : T < 2 ^ n
    · have t1 : (T : Int) < wrap64 (2 ^ n) := by rw [pw]; omega
      have t2 : decide ((T : Int) < wrap64 (2 ^ n)) = true := by simpa using t1
      have HT := Lib.hid hlt
      have T8 : T < 8 := set8 n3 hlt
      clear hlt pw
      have oG := OG.out.below hW
      obtain ⟨rG, fG⟩ := oG.rules
      have zG := oG.lt
      go_wp2_with fail
      refine (spstill_any A (dN A B c n) n T _ n3 HT.out NG.out ND.out).mono ?_
      rintro e W1 ⟨rfl, hq⟩
      rw [lcs_is]
      clear rG fG zG t1 t2 oG
      replace hW := below_to hW hq
      clear hq
      by_cases hd : den8 (nG A) T = 0
      · have HN : Hid (good8 (nG A) (nD A B c) T = false) := by
          show _ = _
          cases h : good8 (nG A) (nD A B c) T
          · rfl
          · exact absurd hd (good8_iff.1 h).1
        rw [hd]
        clear hd
        go_wp2
        go_roundw
        case rel =>
          refine ⟨T + 1, HT.out, by go_num, fun S hS => ?_, below_to hW (ba1 _ _)⟩
          rcases Nat.lt_or_ge S T with h | h
          · exact hv.out S h
          · obtain rfl : S = T := by omega
            exact HN.out
        case measure => have := HT.out; simp [intOf]; try omega
      · have qd : (den8 (nG A) T == 0) = false := by simpa using hd
        have EN : stN (nG A) (dN A B c n) T = num8 (nG A) (nD A B c) T := by
          rw [← dN_num n3 HT.out]
          funext k; unfold stN; rw [if_neg hd]
        rw [EN]
        have NU : Hid (∀ k, wi 200000000000 (num8 (nG A) (nD A B c) T k)) := num8_wi' HF.out K0.out K1.out HT.out
        have NDen := Lib.hid (den8_wi HF.out HT.out)
        have GI := Lib.hid ((dN_best (n := n) (num8 (nG A) (nD A B c) T) (den8 (nG A) T)).trans (good_is HF.out HT.out hd K0.out))
        clear EN
        have oN := Own.new W1 158 (lcs (num8 (nG A) (nD A B c) T))
        rw [lcs_is] at oN
        have hN := ba1 W1 (.cells #[.int .i64 (num8 (nG A) (nD A B c) T 0), .int .i64 (num8 (nG A) (nD A B c) T 1), .int .i64 (num8 (nG A) (nD A B c) T 2)] 158)
        go_upto_region 10 with fail
        generalize W1.alloc (.cells #[.int .i64 (num8 (nG A) (nD A B c) T 0), .int .i64 (num8 (nG A) (nD A B c) T 1), .int .i64 (num8 (nG A) (nD A B c) T 2)] 158) = W2 at *
        replace hW := below_to hW hN
        obtain ⟨p, hp⟩ : ∃ p, p = W1.heap.size := ⟨_, rfl⟩
        rw [← hp] at oN ⊢
        clear hp hN
        have oG := OG.out.below hW
        obtain ⟨rG, fG⟩ := oG.rules
        have zG := oG.lt
        obtain ⟨rN, fN⟩ := oN.rules
        have zN := oN.lt
        have HD := Lib.hid hd
        clear hd
        by_cases hg : good8 (nG A) (nD A B c) T = true
        case neg =>
          have hg' : good8 (nG A) (nD A B c) T = false := by simpa using hg
          have HN := Lib.hid hg'
          have hb := GI.out.trans hg'
          clear hg hg'
          go_wp2_with fail
          refine (spbest_any (nG A) (dN A B c n) (num8 (nG A) (nD A B c) T) (den8 (nG A) T) n false _ n3 NG.out ND.out NU.out NDen.out hb).mono ?_
          rintro e W3 ⟨rfl, hq⟩
          replace hW := below_to hW hq
          clear hq rG fG zG rN fN zN oG oN hb
          go_wp2
          go_roundw
          case rel =>
            refine ⟨T + 1, HT.out, by go_num, fun S hS => ?_, hW⟩
            rcases Nat.lt_or_ge S T with h | h
            · exact hv.out S h
            · obtain rfl : S = T := by omega
              exact HN.out
          case measure => have := HT.out; simp [intOf]; try omega
        have hb := GI.out.trans hg
        have HS : Hid (nS A B c = T) := nS_is HF.out HT.out hg hv.out
        clear hg
        go_wp2_with fail
        refine (spbest_any (nG A) (dN A B c n) (num8 (nG A) (nD A B c) T) (den8 (nG A) T) n true _ n3 NG.out ND.out NU.out NDen.out hb).mono ?_
        rintro e W3 ⟨rfl, hq⟩
        replace hW := below_to hW hq
        replace oN := oN.below hq
        clear hq rG fG zG rN fN zN oG hb
        have ON := Lib.hid oN
        clear oN
        have MK := mk_fracs n n rfl (by omega)
        have oX := Own.new W3 78 (fcs (List.replicate n (0, 0)))
        have hX := ba1 W3 (.cells (fcs (List.replicate n (0, 0))).toArray 78)
        have HB3 := Lib.hid (below_to HB.out hW)
        go_wp2
        clear MK
        go_loopw [4, 5, 52] (fun x s i wr => ∃ k : Nat, k ≤ n ∧ x = .slice (some ⟨W3.heap.size, 0, none⟩) n n ∧ s = .int .i64 T ∧ i = .int .i64 k ∧ Own wr W3.heap.size 78 (fcs ((nsol A B c n).take k ++ List.replicate (n - k) (0, 0))) ∧ Below W3.heap.size W3 wr) (fun _ _ i _ => n - (intOf i).toNat)
        case atStart => exact ⟨0, Nat.zero_le _, rfl, rfl, rfl, by simpa using oX, hX⟩
        case round =>
          clear oX hX hW
          obtain ⟨k, hk, rfl, rfl, rfl, oX, hX⟩ := hrel
          rename World => W4
          by_cases hkn : k < n
          · obtain ⟨i1, i2⟩ := nsx_make HF.out K0.out K1.out (k := k) (by omega)
            rw [HS.out] at i2
            have I1 := Lib.hid i1
            have I2 := Lib.hid i2
            have NK := NU.out k
            have ND' := NDen.out
            have oN := ON.out.below hX
            have n0 := lcs_get (num8 (nG A) (nD A B c) T) (k := k) (by omega)
            rw [← lcs_is] at oN
            obtain ⟨rN, fN⟩ := oN.rules
            have zN := oN.lt
            clear i1 i2
            go_wp2_with fail
            refine (make_any _ _ _ (by unfold wi at NK; exact ⟨by omega, by omega⟩) (by unfold wi at ND'; exact ⟨by omega, by omega⟩)).mono ?_
            rintro e W5 ⟨rfl, hq⟩
            rw [I2.out]
            have HG := Lib.hid (nsol_get (A := A) (B := B) (c := c) hkn)
            unfold uf
            unfold up at HG
            generalize (nsx A B c k).num = xn at *
            generalize ((nsx A B c k).den : Int) = xd at *
            clear rN fN zN oN n0
            replace oX := oX.below hq
            replace hX := below_to hX hq
            clear hq
            have OX := Lib.hid oX
            obtain ⟨v1, v2, g1, g2⟩ := fcs_some ((nsol A B c n).take k ++ List.replicate (n - k) (0, 0)) k (by have := nsol_len (A := A) (B := B) (c := c) (n := n); simp; omega)
            obtain ⟨rX, fX⟩ := oX.rules
            have zX := oX.lt
            go_wp2
            go_roundw
            case rel =>
              refine ⟨k + 1, by omega, rfl, rfl, by go_num, ?_, ?_⟩
              · have o2 := (OX.out.set (k * 2) (.int .i64 xn)).set (k * 2 + 1) (.int .i64 xd)
                rw [fcs_set _ k (xn, xd), take_fill _ k n _ nsol_len hkn HG.out] at o2
                exact o2
              · repeat (refine Below.setCell ?_ (by simp) _)
                exact hX
            case measure => simp [intOf]; try omega
          · obtain rfl : k = n := by omega
            have hf : SF W4 (.slice (some ⟨W3.heap.size, 0, none⟩) k k) (nsol A B c k) := by
              unfold SF
              rw [nsol_len]
              exact oX.sl (n := k) k (Nat.le_refl _) (by omega) _ ⟨[], by rw [Nat.sub_self, List.take_of_length_le (by rw [nsol_len]; exact Nat.le_refl _)]; simp⟩
            have hB4 := below_to HB3.out hX
            clear oX hX
            go_wp2
            refine bodyPost_ret (v := .tuple #[.slice (some ⟨W3.heap.size, 0, none⟩) k k, .int .i64 T, .int .i64 0]) (by simp [results, Try.results94, go_sem]) rfl ⟨.slice (some ⟨W3.heap.size, 0, none⟩) k k, by rw [HV.out, HS.out]; try rfl, by rw [HV.out]; exact hf, hB4⟩
    · exfalso
      obtain ⟨h1, h2⟩ := nS_spec HF.out K0.out
      have := hv.out (nS A B c) (by omega)
      rw [h2] at this
      cases this
end Go.Proofs.Ythlcmlngmcoknaa
