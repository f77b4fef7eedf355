/- What is proved here: the contract of flag.Text. Condition: the argument's bits are a slice of bools that can be read. -/
import Derived.Test.YtpkggglifahioaaStrA
import Derived.Test.YtpkggglifahioaaStrP
import Derived.BigQuiet
namespace Go.Proofs.Ytpkggglifahioaa
open Go.RowKit

theorem byteCells_snoc (l : List UInt8) (b : UInt8) : Lib.byteCells l ++ [.int .u8 (b.toNat : Int)] = Lib.byteCells (l ++ [b]) := by simp [Lib.byteCells]
theorem mtext_ne {t c : Int} {xs : List Bool} (h : mchk t c xs.length ≠ 0) : mtext t c xs = [] := by unfold mtext; rw [if_neg h]
theorem mtext_ok {t c : Int} {xs : List Bool} (h : mchk t c xs.length = 0) : mtext t c xs = txtN xs c.toNat xs.length := by unfold mtext; rw [if_pos h]
theorem bd' {B : Nat} {w w' : World} {n : Nat} (h : Below B (w.drewN n) w') : Below B w w' := ⟨h.os, h.tape, h.output, h.size, h.block⟩
theorem emod_nat (k C : Nat) : (k : Int) % (C : Int) = ((k % C : Nat) : Int) := by simp

set_option maxRecDepth 100000 in
set_option maxHeartbeats 4000000 in
theorem text_any (t c : Int) (v : Value) (xs : List Bool) (w : World) (h : SB w v xs) :
    Calls Try.prog 22 #[.agg #[.int .i64 t, .int .i64 c, v]] w fun e w' => e = .returned (.tuple #[.string ⟨(mtext t c xs).toArray⟩, .int .i64 (mchk t c xs.length)]) ∧ Below w.heap.size w w' := by
  have hs := h
  obtain ⟨ad, cap, rfl, h1, h2, h3⟩ := h.open
  clear h
  by_cases p1 : mchk t c xs.length = 0
  · have b1 : (mchk t c xs.length != 0) = false := by simp [p1]
    have HT := Lib.hid (mtext_ok p1)
    have HZ := Lib.hid p1
    obtain ⟨t1, t2, c1', c2', hn⟩ := mchk_ok p1
    clear p1
    obtain ⟨T, rfl⟩ := Int.eq_ofNat_of_zero_le (show 0 ≤ t by omega)
    obtain ⟨C, rfl⟩ := Int.eq_ofNat_of_zero_le (show 0 ≤ c by omega)
    rw [cast_mul] at hn
    have hn' : xs.length = T * C := by exact_mod_cast hn
    have hl : xs.length ≤ 512 := by rw [hn']; have := Nat.mul_le_mul (show T ≤ 32 by omega) (show C ≤ 16 by omega); omega
    clear hn hn'
    have cz : (C : Int) ≠ 0 := by omega
    go_enter Try.func22, Try.ntmps22
    go_wp2_with fail
    refine (mcheck_any _ _ _ xs _ (hs.below (ba1 _ _))).mono ?_
    rintro e w1 ⟨rfl, hb1⟩
    have z0 := bsz1 hb1
    have hb := below_to (ba1 _ _) hb1
    have a1 : w1.cell? ⟨w.heap.size, 1, none⟩ = some (.int .i64 C) := below_cell hb1 (by simp [go_sem])
    have a2 : w1.cell? ⟨w.heap.size, 2, none⟩ = some (.slice ad xs.length cap) := below_cell hb1 (by simp [go_sem])
    have hF : ∀ i (_ : i < xs.length), ∃ b off, ad = some ⟨b, off, none⟩ ∧ w1.cell? ⟨b, off + i, none⟩ = some (.bool xs[i]) := fun i hi => by
      obtain ⟨b, off, e, hc⟩ := h3.out i hi
      exact ⟨b, off, e, below_cell hb hc⟩
    have HF := Lib.hid hF
    clear hF h3
    have hnew := World.new_ne w1 _ a2
    go_wp2
    go_loopw [16] (fun i wr => ∃ k : Nat, k ≤ xs.length ∧ i = .int .i64 k ∧ Lib.IsBuilder 78 5 w1.heap.size w1.heap.size (Lib.byteCells (txtN xs C k)) wr ∧ Below w1.heap.size w1 wr) (fun i _ => xs.length - (intOf i).toNat)
    case atStart => exact ⟨0, Nat.zero_le _, rfl, Lib.fresh_isBuilder _ _ w1, ba1 _ _⟩
    case round =>
      obtain ⟨k, hk, rfl, hib, hbr⟩ := hrel
      obtain ⟨wo, rfl⟩ : ∃ wo : World, wo = wr := ⟨_, rfl⟩
      have q1 := below_cell hbr a1
      have hsz := hbr.size
      by_cases hlt : k < xs.length
      · obtain ⟨bb, off, rfl, hcell⟩ := HF.out k hlt
        have hcell := below_cell hbr hcell
        have hlen := txt_bd xs C k
        have hgd : xs.getD k false = xs[k] := by simp [List.getD_eq_getElem?_getD, hlt]
        have HX : Hid (txtN xs C (k + 1) = txtN xs C k ++ (chB xs[k] :: if k % C = C - 1 then [10] else [])) := by show txtN xs C (k + 1) = _; rw [txtN, hgd]
        have HK := Lib.hid (emod_nat k C)
        generalize hx : xs[k] = x at hcell HX
        have hm : k % C ≤ k := Nat.mod_le _ _
        have hmc : k % C < C := Nat.mod_lt _ (by omega)
        generalize hr : k % C = r at HX HK hm hmc
        clear hx hr hgd
        cases x
        · go_wp2_with (go_at_call 43; refine (putb_any w1.heap.size w1.heap.size _ _ _ hib (by rw [Lib.byteCells_length]; omega) (by omega)).mono ?_)
          rintro e w2 ⟨rfl, hb2, hw2⟩
          have q2 : w2.cell? ⟨w.heap.size, 1, none⟩ = some (.int .i64 C) := below_cell (hbr.trans hw2) a1
          have hsz2 := hw2.size
          rw [show (.int .u8 46 : Value) = .int .u8 (((46 : UInt8).toNat : Nat) : Int) from rfl, byteCells_snoc] at hb2
          by_cases hend : r = C - 1
          · have HX2 : Hid (txtN xs C (k + 1) = txtN xs C k ++ [46] ++ [10]) := by show txtN xs C (k + 1) = _; rw [HX.out, if_pos hend]; simp [chB]
            have hq : ((k : Int) % (C : Int) == (C : Int) - 1) = true := by rw [HK.out]; simp; omega
            clear HX HK
            go_upto_region 11 with fail
            go_quiet (fail)
            go_wp2_with fail
            refine (putb_any w1.heap.size w1.heap.size _ _ (w2.drewN nq) (show Lib.IsBuilder _ _ _ _ _ (w2.drewN nq) from Or.inr hb2) (by rw [Lib.byteCells_length, List.length_append]; simp only [List.length_cons, List.length_nil]; omega) (by show w1.heap.size ≤ w2.heap.size; omega)).mono ?_
            rintro e w3 ⟨rfl, hb3, hw3⟩
            rw [show (.int .u8 10 : Value) = .int .u8 (((10 : UInt8).toNat : Nat) : Int) from rfl, byteCells_snoc] at hb3
            go_wp2
            go_roundw
            case rel => exact ⟨k + 1, hlt, by go_num, by rw [HX2.out]; exact .inr hb3, hbr.trans (hw2.trans (bd' hw3))⟩
            case measure => simp [intOf]; omega
          · have HX2 : Hid (txtN xs C (k + 1) = txtN xs C k ++ [46]) := by show txtN xs C (k + 1) = _; rw [HX.out, if_neg hend]; simp [chB]
            have hq : ((k : Int) % (C : Int) == (C : Int) - 1) = false := by rw [HK.out]; simp; omega
            clear HX HK
            go_upto_region 11 with fail
            go_quiet (fail)
            go_wp2
            go_roundw
            case rel => exact ⟨k + 1, hlt, by go_num, by rw [HX2.out]; exact .inr hb2, hbr.trans (bd hw2 _)⟩
            case measure => simp [intOf]; omega
        · go_wp2_with (go_at_call 43; refine (putb_any w1.heap.size w1.heap.size _ _ _ hib (by rw [Lib.byteCells_length]; omega) (by omega)).mono ?_)
          rintro e w2 ⟨rfl, hb2, hw2⟩
          have q2 : w2.cell? ⟨w.heap.size, 1, none⟩ = some (.int .i64 C) := below_cell (hbr.trans hw2) a1
          have hsz2 := hw2.size
          rw [show (.int .u8 120 : Value) = .int .u8 (((120 : UInt8).toNat : Nat) : Int) from rfl, byteCells_snoc] at hb2
          by_cases hend : r = C - 1
          · have HX2 : Hid (txtN xs C (k + 1) = txtN xs C k ++ [120] ++ [10]) := by show txtN xs C (k + 1) = _; rw [HX.out, if_pos hend]; simp [chB]
            have hq : ((k : Int) % (C : Int) == (C : Int) - 1) = true := by rw [HK.out]; simp; omega
            clear HX HK
            go_upto_region 11 with fail
            go_quiet (fail)
            go_wp2_with fail
            refine (putb_any w1.heap.size w1.heap.size _ _ (w2.drewN nq) (show Lib.IsBuilder _ _ _ _ _ (w2.drewN nq) from Or.inr hb2) (by rw [Lib.byteCells_length, List.length_append]; simp only [List.length_cons, List.length_nil]; omega) (by show w1.heap.size ≤ w2.heap.size; omega)).mono ?_
            rintro e w3 ⟨rfl, hb3, hw3⟩
            rw [show (.int .u8 10 : Value) = .int .u8 (((10 : UInt8).toNat : Nat) : Int) from rfl, byteCells_snoc] at hb3
            go_wp2
            go_roundw
            case rel => exact ⟨k + 1, hlt, by go_num, by rw [HX2.out]; exact .inr hb3, hbr.trans (hw2.trans (bd' hw3))⟩
            case measure => simp [intOf]; omega
          · have HX2 : Hid (txtN xs C (k + 1) = txtN xs C k ++ [120]) := by show txtN xs C (k + 1) = _; rw [HX.out, if_neg hend]; simp [chB]
            have hq : ((k : Int) % (C : Int) == (C : Int) - 1) = false := by rw [HK.out]; simp; omega
            clear HX HK
            go_upto_region 11 with fail
            go_quiet (fail)
            go_wp2
            go_roundw
            case rel => exact ⟨k + 1, hlt, by go_num, by rw [HX2.out]; exact .inr hb2, hbr.trans (bd hw2 _)⟩
            case measure => simp [intOf]; omega
      · go_wp2_with (go_at_call 44; refine (Try.Builder_String_any w1.heap.size w1.heap.size _ _ hib (by omega)).mono ?_)
        rintro e w2 ⟨rfl, hw2⟩
        obtain rfl : k = xs.length := by omega
        go_wp2
        refine bodyPost_ret (v := .tuple #[.string ⟨(txtN xs C xs.length).toArray⟩, .int .i64 0]) (by simp [results, Try.results22, go_sem]) rfl ⟨?_, ?_⟩
        · rw [HT.out, HZ.out, Int.toNat_natCast]
        · exact hb.trans ((hbr.trans hw2).mono (by omega))
  · have b1 : (mchk t c xs.length != 0) = true := by simp [p1]
    have HT := Lib.hid (mtext_ne p1)
    go_enter Try.func22, Try.ntmps22
    go_wp2_with fail
    refine (mcheck_any _ _ _ xs _ (hs.below (ba1 _ _))).mono ?_
    rintro e w1 ⟨rfl, hb1⟩
    have hb := below_to (ba1 _ _) hb1
    go_wp2
    refine bodyPost_ret (v := .tuple #[.string ⟨#[]⟩, .int .i64 (mchk t c xs.length)]) (by simp [results, Try.results22, go_sem]) rfl ⟨?_, hb⟩
    rw [HT.out]

end Go.Proofs.Ytpkggglifahioaa
