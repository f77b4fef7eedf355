/- What is proved here: contracts of functions and plain facts, several texts in one; each one says ahead what it proves, and its conditions. -/
import Derived.BigRegion
import Derived.Test.YthlcmlngmcoknaaC17
import Derived.Test.YthlcmlngmcoknaaC15
import Derived.Test.YthlcmlngmcoknaaC19
/- What is proved here: the contract of lacks41: it answers true. Condition: the residual is the spread image of what the model has more. -/
namespace Go.Proofs.Ythlcmlngmcoknaa
open Go.RowKit

set_option maxRecDepth 100000 in
set_option maxHeartbeats 16000000 in
theorem lacks_any (n m : Nat) (M K N L : Nat → Nat → Int) (va vf vb vl : Value) (w : World) (hA : IM w va n M) (hF : IM w vf n K) (hB : IM w vb m N) (hL : IM w vl n L) (hb : BM n m N) (hr : inR 1000000000 n M) (hk : inR 1000000000 n K) (hl : inR 1000000000 n L)
    (hs : ∀ v u, v < n → u < n → L v u = tspr N n (fun y x => M y x - K y x) v u) :
    Calls Try.prog 41 #[va, vf, vb, vl] w fun e w' => e = .returned (.bool true) ∧ Below w.heap.size w w' := by
  have A0 := Lib.hid hA
  have F0 := Lib.hid hF
  have B0 := Lib.hid hB
  have L0 := Lib.hid hL
  have HB := Lib.hid hb
  have HR := Lib.hid hr
  have HK := Lib.hid hk
  have HL := Lib.hid hl
  have HS := Lib.hid hs
  have n1 := hb.n1
  have n8 := hb.n8
  obtain ⟨ada, capa, rfl, _, _, _⟩ := hA.open
  obtain ⟨adf, capf, rfl, _, _, _⟩ := hF.open
  obtain ⟨adb, capb, rfl, _, _, _⟩ := hB.open
  obtain ⟨adl, capl, rfl, _, _, _⟩ := hL.open
  clear hA hF hB hL hb hr hk hl hs
  obtain ⟨S, hS⟩ : ∃ S : Nat → Nat → Int, S = fun y x => M y x - K y x := ⟨_, rfl⟩
  have SD : Hid (∀ v u, S v u = M v u - K v u) := fun v u => by rw [hS]
  rw [← hS] at HS
  clear hS
  have b1 : ((n : Int) != (n : Int)) = false := by simp
  go_enter Try.func41, Try.ntmps41
  go_wp2_with fail
  refine (rimage_any n 1000000000 K _ w F0.out n1 n8 (by omega) (by omega)).mono ?_
  rintro e w1 ⟨r, rfl, hi, hq1⟩
  obtain rfl : r = true := hi.2 HK.out
  clear hi
  go_wp2_with fail
  refine (rtwin_any n M _ w1 (A0.out.below hq1) n1 n8).mono ?_
  rintro e w2 ⟨g, cap, rest, bb, cp, ex, rfl, hcap, MX, hq2⟩
  have hQ := hq2
  have hC0 := below_to hq1 hq2
  have BL := Lib.hid MX.blksB
  go_wp2
  go_loopw [10] (fun iv wr => ∃ v : Nat, v ≤ n ∧ iv = .int .i64 v ∧ MatO wr w1.heap.size w2.heap.size g 23 3 rest bb cp ex n n (midM M S v 0) ∧ Below w1.heap.size w1 wr) (fun iv _ => n - (intOf iv).toNat)
  case atStart => exact ⟨0, Nat.zero_le _, rfl, MX.congr (fun r c _ _ => (midM_00 M S r c).symm), hq2⟩
  case round =>
    clear MX
    obtain ⟨v, hv, rfl, MX, hC⟩ := hrel
    rename World => V
    by_cases hlt : v < n
    · go_wp2
      go_loopw [11] (fun iv wr => ∃ u : Nat, u ≤ n ∧ iv = .int .i64 u ∧ MatO wr w1.heap.size w2.heap.size g 23 3 rest bb cp ex n n (midM M S v u) ∧ Below w1.heap.size w1 wr) (fun iv _ => n - (intOf iv).toNat)
      case atStart => exact ⟨0, Nat.zero_le _, rfl, MX, hC⟩
      case round =>
        clear MX hC
        obtain ⟨u, hu, rfl, MX, hC⟩ := hrel
        rename World => U
        by_cases hul : u < n
        · have hd := (Below.refl U.heap.size U).drew
          replace MX := MX.below hd
          replace hC := below_to hC hd
          have hU := below_to hq1 hC
          obtain ⟨_, _, e, _, _, HBo⟩ := (F0.out.below hU).open
          cases e
          obtain ⟨ba, ob, ba', ob', cb', rfl, cb1, cb2, HB'⟩ := HBo.out v hlt
          clear HBo
          have cb3 := HB'.out u hul
          clear HB'
          have RM := HR.out v u hlt hul
          have RN := HK.out v u hlt hul
          have E1 : wrap64 (M v u - K v u) = S v u := by
            rw [SD.out]; exact Go.IntWalk.wrap64_in _ (by omega)
          have CO := MX.cell_out hlt
          have CA := MX.cell_at hlt hul
          have FA := MX.free_at hlt u
          rw [midM_at] at CA
          have PD := Lib.hid (midM_put M S v u)
          generalize M v u = z at *
          generalize K v u = t at *
          generalize S v u = s at *
          clear hd RM RN
          go_wp2
          go_region
          trace_state
          go_wp2
          go_roundw
          case rel => exact ⟨u + 1, by omega, by go_num, (MX.put hlt hul s).congr (fun r c _ _ => PD.out r c), MX.putB hC hlt u _⟩
          case measure => simp [intOf]; try omega
        · obtain rfl : u = n := by omega
          go_wp2
          go_roundw
          case rel => exact ⟨v + 1, by omega, by go_num, MX.congr (fun r c _ hc => midM_row M S v u r c hc), hC⟩
          case measure => simp [intOf]; try omega
    · obtain rfl : v = n := by omega
      have IX := (MX.congr (fun r c hr _ => midM_end M S v r c hr)).im hcap (by omega)
      have hU := below_to hq1 hC
      go_wp2_with fail
      refine (rimage_any v 1000000000 S _ V IX n1 n8 (by omega) (by omega)).mono ?_
      rintro e V1 ⟨r, rfl, hi, hq3⟩
      have hU1 := below_to hU hq3
      replace IX := IX.below hq3
      cases r with
      | false =>
        clear hi
        go_wp2
        go_ret
        exact ⟨rfl, hU1⟩
      | true =>
        have HI := Lib.hid (hi.1 rfl)
        clear hi
        go_wp2_with fail
        refine (spread_any v m S N _ _ V1 IX (B0.out.below hU1) HB.out HI.out).mono ?_
        rintro e V2 ⟨(⟨x, rfl, h1, h2⟩ | ⟨rfl, h2⟩), hq4⟩
        · have h3 := h1.congr (fun i j hi hj => (HS.out i j hi hj).symm)
          have hU2 := below_to hU1 hq4
          obtain ⟨adx, capx, rfl, _, _, _⟩ := h1.open
          clear h1 h2
          have H3 := Lib.hid h3
          clear h3
          go_wp2_with fail
          refine (rsame40_any v L _ _ V2 H3.out (L0.out.below hU2)).mono ?_
          rintro e V3 ⟨rfl, hq5⟩
          go_wp2
          go_ret
          exact ⟨rfl, below_to hU2 hq5⟩
        · exact absurd (fun i j hi hj => by rw [← HS.out i j hi hj]; exact HL.out i j hi hj) h2
end Go.Proofs.Ythlcmlngmcoknaa
