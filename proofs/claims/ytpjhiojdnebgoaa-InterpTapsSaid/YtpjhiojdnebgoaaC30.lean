/- What is proved here: contracts of functions and plain facts, several texts in one; each one says ahead what it proves, and its conditions. -/
import Derived.Test.YtpjhiojdnebgoaaC23
import Derived.Test.YtpjhiojdnebgoaaC24
import Derived.IntWalk
import Derived.Deep.DeepCutAuto
/- What is proved here: the contracts of fringeref15.Rise, Flat and Degree. Condition: a slice that can be read; for Rise an index and an order within it. -/
namespace Go.Proofs.Ytpjhiojdnebgoaa
open Go.RowKit

theorem chs_int (n m : Nat) (h : m ≤ n) : ((chs n m : Int) * ((n : Int) - (m : Int))) / ((m : Int) + 1) = (chs n (m + 1) : Int) := by
  have e := congrArg (Int.ofNat) (chs_next n m)
  have e2 : (chs n m : Int) * ((n : Int) - (m : Int)) = (chs n (m + 1) : Int) * ((m : Int) + 1) := by
    have h1 : ((n - m : Nat) : Int) = (n : Int) - (m : Int) := by omega
    rw [← h1]
    simpa using e
  rw [e2, Int.mul_ediv_cancel _ (by omega)]
theorem chs_prod {n m : Nat} (h : m ≤ n) (hn : n ≤ 24) : 0 ≤ (chs n m : Int) * ((n : Int) - (m : Int)) ∧ (chs n m : Int) * ((n : Int) - (m : Int)) ≤ 402653184 := by
  have h1 := chs_24 (k := m) hn
  have h2 := Int.mul_le_mul_of_nonneg_left (show (n : Int) - (m : Int) ≤ 24 by omega) (show (0 : Int) ≤ (chs n m : Int) by omega)
  have h3 := Int.mul_nonneg (show (0 : Int) ≤ (chs n m : Int) by omega) (show (0 : Int) ≤ (n : Int) - (m : Int) by omega)
  generalize (chs n m : Int) * ((n : Int) - (m : Int)) = X at *
  omega
set_option maxRecDepth 100000 in
set_option maxHeartbeats 16000000 in
theorem rise_any (l : List Int) (a n : Nat) (v : Value) (w : World) (hs : SI w v l) (hl : levB l = true) (hn : n ≤ 24) (hlt : a + n < l.length) (hlen : l.length ≤ 24) :
    Calls Try.prog 98 #[v, .int .i64 a, .int .i64 n] w fun e w' => e = .returned (.int .i64 (ris l a n (n + 1))) ∧ Below w.heap.size w w' := by
  have S0 := Lib.hid hs
  have HL := Lib.hid hl
  have HLT := Lib.hid hlt
  obtain ⟨ad, cap, rfl, h1, h2, _⟩ := hs.open
  clear hs hl hlt
  have aa : a ≤ 24 := by have := HLT.out; omega
  go_enter Try.func98, Try.ntmps98
  go_wp2
  go_loopw [7, 8, 9] (fun s c k wr => ∃ m : Nat, m ≤ n + 1 ∧ k = .int .i64 m ∧ s = .int .i64 (ris l a n m) ∧ c = .int .i64 (chs n m) ∧ Below w.heap.size w wr) (fun _ _ k _ => n + 1 - (intOf k).toNat)
  case atStart => exact ⟨0, Nat.zero_le _, rfl, rfl, by rw [chs_0]; rfl, Below.refl _ _⟩
  case round =>
    obtain ⟨m, hm, rfl, rfl, rfl, hW⟩ := hrel
    rename World => W
    by_cases hmn : m ≤ n
    · obtain ⟨_, _, e, _, _, H⟩ := (S0.out.below hW).open
      cases e
      have hix : a + n - m < l.length := by have := HLT.out; omega
      obtain ⟨b', off', rfl, c1⟩ := H.out (a + n - m) hix
      clear H
      have XE : Hid (l[a + n - m] = l.getD (a + n - m) 0) := by show _ = _; simp [List.getD, hix]
      rw [XE.out] at c1
      have RT := rterm_le HL.out (at_ := a) (n := n) (k := m) hn
      have R0 := ris_le HL.out (at_ := a) hn m (by omega)
      have R1 := ris_le HL.out (at_ := a) hn (m + 1) (by omega)
      have RE : Hid (ris l a n (m + 1) = ris l a n m + rterm l a n m) := rfl
      have CE := Lib.hid (chs_int n m hmn)
      have CP := chs_prod hmn hn
      have CB := chs_24 (k := m) hn
      have CB' := chs_24 (k := m + 1) hn
      clear XE
      have i0 : IntKind.i64.wrap ((a : Int) + (n : Int)) = (a : Int) + (n : Int) := IntWalk.i64_in _ (by omega)
      have i1 : IntKind.i64.wrap ((a : Int) + (n : Int) - (m : Int)) = (a : Int) + (n : Int) - (m : Int) := IntWalk.i64_in _ (by omega)
      have i2 : 0 ≤ (a : Int) + (n : Int) - (m : Int) := by omega
      have i3 : ((a : Int) + (n : Int) - (m : Int)).toNat = a + n - m := by omega
      have i4 : (a : Int) + (n : Int) - (m : Int) < (l.length : Int) := by omega
      have i5 : IntKind.i64.wrap ((n : Int) - (m : Int)) = (n : Int) - (m : Int) := IntWalk.i64_in _ (by omega)
      have i6 : IntKind.i64.wrap ((m : Int) + 1) = (m : Int) + 1 := IntWalk.i64_in _ (by omega)
      have i7 : IntKind.i64.wrap ((chs n m : Int) * ((n : Int) - (m : Int))) = (chs n m : Int) * ((n : Int) - (m : Int)) := IntWalk.i64_in _ (by omega)
      have i8 : IntKind.i64.wrap ((chs n m : Int) * l.getD (a + n - m) 0) = (chs n m : Int) * l.getD (a + n - m) 0 := IntWalk.i64_in _ (by omega)
      have i9 : ¬ ((m : Int) + 1 = 0) := by omega
      have ib : ((m : Int) + 1 == 0) = false := by simpa using i9
      have ic : IntKind.i64.wrap (chs n (m + 1) : Int) = (chs n (m + 1) : Int) := IntWalk.i64_in _ (by omega)
      have ME : Int.tmod (m : Int) 2 = ((m % 2 : Nat) : Int) := by rw [Int.tmod_eq_emod_of_nonneg (by omega)]; omega
      by_cases g : m % 2 = 1
      · have T1 : Hid (rterm l a n m = -((chs n m : Int) * l.getD (a + n - m) 0)) := if_pos g
        have q1 : Int.tmod (m : Int) 2 = 1 := by rw [ME, g]; rfl
        rw [T1.out] at RT RE
        have CE' := CE.out
        clear ME g T1 CE
        generalize l.getD (a + n - m) 0 = x at *
        generalize hs1 : ris l a n (m + 1) = s1 at *
        generalize ris l a n m = s0 at *
        generalize hc1 : chs n (m + 1) = c1' at *
        generalize chs n m = c0 at *
        have HS1 := Lib.hid hs1
        have HC1 := Lib.hid hc1
        clear hs1 hc1
        have RE' := RE.out
        have RH := Lib.hid RE'
        have J1 := Lib.hid CE'
        clear RE RE' CE'
        go_wp2
        go_roundw
        case rel => exact ⟨m + 1, by omega, by go_num, by rw [HS1.out, RH.out], by rw [HC1.out, J1.out], hW⟩
        case measure => simp [intOf]; try omega
      · have T1 : Hid (rterm l a n m = (chs n m : Int) * l.getD (a + n - m) 0) := if_neg g
        have q1 : Int.tmod (m : Int) 2 = 0 := by rw [ME, show m % 2 = 0 by omega]; rfl
        rw [T1.out] at RT RE
        have CE' := CE.out
        clear ME g T1 CE
        generalize l.getD (a + n - m) 0 = x at *
        generalize hs1 : ris l a n (m + 1) = s1 at *
        generalize ris l a n m = s0 at *
        generalize hc1 : chs n (m + 1) = c1' at *
        generalize chs n m = c0 at *
        have HS1 := Lib.hid hs1
        have HC1 := Lib.hid hc1
        clear hs1 hc1
        have RE' := RE.out
        have RH := Lib.hid RE'
        have J1 := Lib.hid CE'
        clear RE RE' CE'
        go_wp2
        go_roundw
        case rel => exact ⟨m + 1, by omega, by go_num, by rw [HS1.out, RH.out], by rw [HC1.out, J1.out], hW⟩
        case measure => simp [intOf]; try omega
    · obtain rfl : m = n + 1 := by omega
      have zk : ¬ ((n + 1 : Nat) : Int) ≤ (n : Int) := by omega
      go_wp2
      go_ret
      exact ⟨rfl, hW⟩
set_option maxRecDepth 100000 in
set_option maxHeartbeats 16000000 in
theorem flat_any (l : List Int) (n : Nat) (v : Value) (w : World) (hs : SI w v l) (hl : levB l = true) (hn : n ≤ 24) (hlen : l.length ≤ 24) :
    Calls Try.prog 58 #[v, .int .i64 n] w fun e w' => e = .returned (.bool (zers (difN n l))) ∧ Below w.heap.size w w' := by
  have S0 := Lib.hid hs
  have HL := Lib.hid hl
  obtain ⟨ad, cap, rfl, h1, h2, _⟩ := hs.open
  clear hs hl
  go_enter Try.func58, Try.ntmps58
  go_wp2
  go_loopw [5] (fun k wr => ∃ m : Nat, m ≤ l.length ∧ k = .int .i64 m ∧ Hid (∀ i, i < m → i + n < l.length → ris l i n (n + 1) = 0) ∧ Below w.heap.size w wr) (fun k _ => l.length + 1 - (intOf k).toNat)
  case atStart => exact ⟨0, Nat.zero_le _, rfl, fun i hi => absurd hi (Nat.not_lt_zero _), Below.refl _ _⟩
  case round =>
    obtain ⟨m, hm, rfl, hz, hW⟩ := hrel
    rename World => W
    have i0 : IntKind.i64.wrap ((m : Int) + (n : Int)) = (m : Int) + (n : Int) := IntWalk.i64_in _ (by omega)
    by_cases hlt : m + n < l.length
    · have hlt' : (m : Int) + (n : Int) < (l.length : Int) := by omega
      go_wp2_with fail
      refine (rise_any l m n _ _ (S0.out.below hW) HL.out hn hlt hlen).mono ?_
      rintro e y1 ⟨rfl, hq⟩
      replace hW := below_to hW hq
      clear hq
      by_cases g : ris l m n (n + 1) = 0
      · have HZ : Hid (∀ i, i < m + 1 → i + n < l.length → ris l i n (n + 1) = 0) := fun i hi h => by
          rcases Nat.lt_or_ge i m with h3 | h3
          · exact hz.out i h3 h
          · obtain rfl : i = m := by omega
            exact g
        rw [g]
        clear g hz
        go_wp2
        go_roundw
        case rel => exact ⟨m + 1, by omega, by go_num, HZ, hW⟩
        case measure => simp [intOf]; try omega
      · have HZ := Lib.hid (flat_no hlt g)
        have b1 : (ris l m n (n + 1) != 0) = true := by simpa using g
        clear g hz
        generalize ris l m n (n + 1) = r at *
        go_wp2
        go_ret
        exact ⟨by rw [HZ.out]; try rfl, hW⟩
    · have hlt' : ¬ (m : Int) + (n : Int) < (l.length : Int) := by omega
      have HZ : Hid (zers (difN n l) = true) := flat_iff.2 fun i hi => hz.out i (by omega) hi
      go_wp2
      go_ret
      exact ⟨by rw [HZ.out]; try rfl, hW⟩
set_option maxRecDepth 100000 in
set_option maxHeartbeats 16000000 in
theorem rideg_any (l : List Int) (v : Value) (w : World) (hs : SI w v l) :
    Calls Try.prog 23 #[v] w fun e w' => e = .returned (.tuple #[.int .i64 (fdeg l).1, .int .i64 (fdeg l).2]) ∧ Below w.heap.size w w' := by
  have S0 := Lib.hid hs
  obtain ⟨ad, cap, rfl, h1, h2, _⟩ := hs.open
  clear hs
  by_cases hm : 24 < l.length
  · have HV : Hid (fdeg l = (0, 4)) := if_pos hm
    have b0 : decide (24 < (l.length : Int)) = true := by simp; omega
    go_enter Try.func23, Try.ntmps23
    go_wp2
    go_ret2
    exact ⟨by rw [HV.out]; try rfl, Below.refl _ _⟩
  have b0 : decide (24 < (l.length : Int)) = false := by simp; omega
  have l24 : l.length ≤ 24 := by omega
  have E0 : levE l = if levB l = false then 8 else 0 := by unfold levE; rw [if_neg (by omega)]
  by_cases hl : levB l = false
  · have HV : Hid (fdeg l = (0, 8)) := by show _ = _; unfold fdeg; rw [if_neg hm, if_pos hl]
    have HL : Hid (levE l = 8) := by show _ = _; rw [E0, if_pos hl]
    clear hm hl E0
    go_enter Try.func23, Try.ntmps23
    go_wp2_with fail
    refine (rilev_any l _ _ S0.out).mono ?_
    rintro e y1 ⟨rfl, hB⟩
    rw [HL.out]
    go_wp2
    go_ret2
    exact ⟨by rw [HV.out]; try rfl, hB⟩
  have HV : Hid (fdeg l = ((degM l : Int) - 1, 0)) := by show _ = _; unfold fdeg; rw [if_neg hm, if_neg hl]
  have HE : Hid (levE l = 0) := by show _ = _; rw [E0, if_neg hl]
  have HL : Hid (levB l = true) := by show _ = _; simpa using hl
  clear hm hl E0
  go_enter Try.func23, Try.ntmps23
  go_wp2_with fail
  refine (rilev_any l _ _ S0.out).mono ?_
  rintro e y1 ⟨rfl, hB⟩
  rw [HE.out]
  go_wp2_with fail
  go_loopw [4] (fun dg wr => ∃ m : Nat, dg = .int .i64 ((m : Int) - 1) ∧ Hid (upTo l m) ∧ Below w.heap.size w wr) (fun dg _ => l.length + 1 - (intOf dg + 1).toNat)
  case atStart => exact ⟨0, rfl, upTo_zero l, hB⟩
  case round =>
    clear hB
    obtain ⟨m, rfl, hu, hB⟩ := hrel
    rename World => W
    have hm := upTo_le hu.out
    have a1 : IntKind.i64.wrap ((m : Int) - 1 + 1) = (m : Int) := by rw [IntWalk.i64_in _ (by omega)]; omega
    go_wp2_with fail
    refine (flat_any l m _ _ (S0.out.below hB) HL.out (by omega) l24).mono ?_
    rintro e y2 ⟨rfl, hq⟩
    replace hB := below_to hB hq
    clear hq
    cases hz : zers (difN m l) with
    | true =>
      have HD := Lib.hid (degM_eq hu.out hz)
      clear hz
      go_wp2
      go_ret2
      exact ⟨by rw [HV.out, HD.out]; try rfl, hB⟩
    | false =>
      have HU := Lib.hid (upTo_succ hu.out hz)
      have hm2 := upTo_le HU.out
      clear hz
      go_wp2
      go_roundw
      case rel => exact ⟨m + 1, by congr 1; omega, HU, hB⟩
      case measure => simp [intOf]; try omega
end Go.Proofs.Ytpjhiojdnebgoaa
