/- What is proved here: the contract of the reference's Text. Condition: the argument's bits are a slice of bools that can be read. -/
import Derived.Test.YtpkggglifahioaaStrB
namespace Go.Proofs.Ytpkggglifahioaa
open Go.RowKit

def bstr (l : List UInt8) : ByteArray := ⟨l.toArray⟩
theorem bstr_add (l : List UInt8) (b : UInt8) : bstr l ++ ⟨#[b]⟩ = bstr (l ++ [b]) := by
  unfold bstr
  apply ByteArray.ext
  simp
theorem bstr_nil : bstr [] = ⟨#[]⟩ := rfl
theorem bstr_size (l : List UInt8) : (bstr l).size = l.length := by simp [bstr, ByteArray.size]

set_option maxRecDepth 100000 in
set_option maxHeartbeats 4000000 in
theorem rtext_any (t c : Int) (v : Value) (xs : List Bool) (w : World) (h : SB w v xs) :
    Calls Try.prog 23 #[.agg #[.int .i64 t, .int .i64 c, v]] w fun e w' => e = .returned (.tuple #[.string (bstr (mtext t c xs)), .int .i64 (mchk t c xs.length)]) ∧ Below w.heap.size w w' := by
  have hs := h
  obtain ⟨ad, cap, rfl, h1, h2, h3⟩ := h.open
  clear h
  by_cases p1 : mchk t c xs.length = 0
  · have b1 : (mchk t c xs.length != 0) = false := by simp [p1]
    have HT := Lib.hid (mtext_ok p1)
    have HZ := Lib.hid p1
    obtain ⟨t1, t2, c1', c2', hn⟩ := mchk_ok p1
    clear p1
    obtain ⟨T, rfl⟩ := Int.eq_ofNat_of_zero_le (show 0 ≤ t by omega)
    obtain ⟨C, rfl⟩ := Int.eq_ofNat_of_zero_le (show 0 ≤ c by omega)
    rw [cast_mul] at hn
    have hn' : xs.length = T * C := by exact_mod_cast hn
    have hl : xs.length ≤ 512 := by rw [hn']; have := Nat.mul_le_mul (show T ≤ 32 by omega) (show C ≤ 16 by omega); omega
    have HN := Lib.hid hn'
    clear hn hn'
    go_enter Try.func23, Try.ntmps23
    go_wp2_with fail
    refine (rmcheck_any _ _ _ xs _ (hs.below (ba1 _ _))).mono ?_
    rintro e w1 ⟨rfl, hb1⟩
    have z0 := bsz1 hb1
    have hb := below_to (ba1 _ _) hb1
    have hs1 := hs.below hb
    have k0 : w1.cell? ⟨w.heap.size, 0, none⟩ = some (.int .i64 T) := below_cell hb1 (by simp [go_sem])
    have k1 : w1.cell? ⟨w.heap.size, 1, none⟩ = some (.int .i64 C) := below_cell hb1 (by simp [go_sem])
    have k2 : w1.cell? ⟨w.heap.size, 2, none⟩ = some (.slice ad xs.length cap) := below_cell hb1 (by simp [go_sem])
    clear h3 hb1
    go_wp2
    go_loopw [4, 5] (fun s i wr => ∃ a : Nat, a ≤ T ∧ i = .int .i64 a ∧ s = .string (bstr (txtN xs C (a * C))) ∧ Below w1.heap.size w1 wr) (fun _ i _ => T - (intOf i).toNat)
    case atStart => exact ⟨0, Nat.zero_le _, rfl, by rw [Nat.zero_mul]; rfl, Below.refl _ _⟩
    case round =>
      obtain ⟨a, ha, rfl, rfl, hbr⟩ := hrel
      obtain ⟨wo, rfl⟩ : ∃ wo : World, wo = wr := ⟨_, rfl⟩
      have q0 := below_cell hbr k0
      have q1 := below_cell hbr k1
      have q2 := below_cell hbr k2
      by_cases hlt : a < T
      · go_wp2
        go_loopw [4, 6] (fun s j wr => ∃ b : Nat, b ≤ C ∧ j = .int .i64 b ∧ s = .string (bstr (txtN xs C (a * C) ++ rowN xs (a * C) b)) ∧ Below w1.heap.size w1 wr) (fun _ j _ => C - (intOf j).toNat)
        case atStart => exact ⟨0, Nat.zero_le _, rfl, by rw [rowN, List.append_nil], hbr⟩
        case round =>
          obtain ⟨b, hb2, rfl, rfl, hbr2⟩ := hrel
          obtain ⟨wi, rfl⟩ : ∃ wi : World, wi = wr := ⟨_, rfl⟩
          have r0 := below_cell hbr2 k0
          have r1 := below_cell hbr2 k1
          have r2 := below_cell hbr2 k2
          clear q0 q1 q2
          by_cases hlt2 : b < C
          · have hix := idx_lt hlt hlt2
            rw [← HN.out] at hix
            have hac : a * C ≤ 512 := by have := Nat.mul_le_mul (show a ≤ 32 by omega) (show C ≤ 16 by omega); omega
            have hgd : xs.getD (a * C + b) false = xs[a * C + b] := by simp [List.getD_eq_getElem?_getD, hix]
            have HX : Hid (bstr (txtN xs C (a * C) ++ rowN xs (a * C) (b + 1)) = bstr (txtN xs C (a * C) ++ rowN xs (a * C) b) ++ ⟨#[chB xs[a * C + b]]⟩) := by show bstr (txtN xs C (a * C) ++ rowN xs (a * C) (b + 1)) = _; rw [bstr_add, rowN, hgd, List.append_assoc]
            have hl2 : (bstr (txtN xs C (a * C) ++ rowN xs (a * C) b)).size ≤ 3000 := by have := txt_bd xs C (a * C); rw [bstr_size, List.length_append, rowN_len]; omega
            go_wp2_with fail
            refine (at_any _ _ _ _ (a * C + b) _ xs _ (hs1.below hbr2) (by rw [cast_mul]; omega) (by rw [cast_mul]; omega) (by omega) (by omega) (by rw [cast_mul]; omega) hix).mono ?_
            rintro e w2 ⟨rfl, hb3⟩
            have hb4 := below_to hbr2 hb3
            clear hb3 r0 r1 r2 hgd
            generalize xs[a * C + b] = x at HX
            generalize bstr (txtN xs C (a * C) ++ rowN xs (a * C) b) = sb at HX hl2
            cases x
            · go_wp2
              go_roundw
              case rel => exact ⟨b + 1, by omega, by go_num, by rw [HX.out]; rfl, hb4⟩
              case measure => simp [intOf]; omega
            · go_wp2
              go_roundw
              case rel => exact ⟨b + 1, by omega, by go_num, by rw [HX.out]; rfl, hb4⟩
              case measure => simp [intOf]; omega
          · have hbc : b = C := by omega
            subst hbc
            have HX : Hid (bstr (txtN xs b ((a + 1) * b)) = bstr (txtN xs b (a * b) ++ rowN xs (a * b) b) ++ ⟨#[10]⟩) := by show bstr (txtN xs b ((a + 1) * b)) = _; rw [bstr_add, txt_full xs b a (by omega)]
            have hac : a * b ≤ 512 := by have := Nat.mul_le_mul (show a ≤ 32 by omega) (show b ≤ 16 by omega); omega
            have hl2 : (bstr (txtN xs b (a * b) ++ rowN xs (a * b) b)).size ≤ 3000 := by have := txt_bd xs b (a * b); rw [bstr_size, List.length_append, rowN_len]; omega
            generalize bstr (txtN xs b (a * b) ++ rowN xs (a * b) b) = sb at HX hl2
            go_wp2
            go_roundw
            case rel => exact ⟨a + 1, by omega, by go_num, by rw [HX.out], hbr2⟩
            case measure => simp [intOf]; omega
      · have hat : a = T := by omega
        subst hat
        go_wp2
        refine bodyPost_ret (v := .tuple #[.string (bstr (txtN xs C (a * C))), .int .i64 0]) (by simp [results, Try.results23, go_sem]) rfl ⟨?_, ?_⟩
        · rw [HT.out, HZ.out, Int.toNat_natCast, HN.out]
        · exact hb.trans (hbr.mono (by omega))
  · have b1 : (mchk t c xs.length != 0) = true := by simp [p1]
    have HT := Lib.hid (mtext_ne p1)
    go_enter Try.func23, Try.ntmps23
    go_wp2_with fail
    refine (rmcheck_any _ _ _ xs _ (hs.below (ba1 _ _))).mono ?_
    rintro e w1 ⟨rfl, hb1⟩
    have hb := below_to (ba1 _ _) hb1
    have k0 : w1.cell? ⟨w.heap.size, 0, none⟩ = some (.int .i64 t) := below_cell hb1 (by simp [go_sem])
    have k1 : w1.cell? ⟨w.heap.size, 1, none⟩ = some (.int .i64 c) := below_cell hb1 (by simp [go_sem])
    have k2 : w1.cell? ⟨w.heap.size, 2, none⟩ = some (.slice ad xs.length cap) := below_cell hb1 (by simp [go_sem])
    go_wp2_with fail
    refine (rmcheck_any _ _ _ xs _ (hs.below hb)).mono ?_
    rintro e w2 ⟨rfl, hb2⟩
    have hbb := below_to hb hb2
    go_wp2
    refine bodyPost_ret (v := .tuple #[.string ⟨#[]⟩, .int .i64 (mchk t c xs.length)]) (by simp [results, Try.results23, go_sem]) rfl ⟨?_, hbb⟩
    rw [HT.out]; rfl

end Go.Proofs.Ytpkggglifahioaa
