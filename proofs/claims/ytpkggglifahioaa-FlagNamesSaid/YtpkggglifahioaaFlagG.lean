/- What is proved here: the contract of the reference's Grow. Condition: the arguments are slices of bools that can be read, and 64-bit integers. -/
import Derived.Test.YtpkggglifahioaaFlagF
namespace Go.Proofs.Ytpkggglifahioaa
open Go.RowKit

/-- The error of Grow. -/
def gerr (t c : Int) (n : Nat) (dt dc : Int) : Int := if mchk t c n ≠ 0 then mchk t c n else if dt < 0 ∨ dc < 0 ∨ 8 < dt ∨ 8 < dc then 2 else 0
theorem gerr_1 {t c : Int} {n : Nat} {dt dc : Int} (h : mchk t c n ≠ 0) : gerr t c n dt dc = mchk t c n := by unfold gerr; rw [if_pos h]
theorem gerr_2 {t c : Int} {n : Nat} {dt dc : Int} (h : mchk t c n = 0) (h2 : dt < 0 ∨ dc < 0 ∨ 8 < dt ∨ 8 < dc) : gerr t c n dt dc = 2 := by unfold gerr; rw [if_neg (by omega), if_pos h2]
theorem gerr_3 {t c : Int} {n : Nat} {dt dc : Int} (h : mchk t c n = 0) (h2 : ¬ (dt < 0 ∨ dc < 0 ∨ 8 < dt ∨ 8 < dc)) : gerr t c n dt dc = 0 := by unfold gerr; rw [if_neg (by omega), if_neg h2]

/-- Row by row, column by column. -/
theorem growL_take (C : Nat) (xs : List Bool) (dt dc : Int) (k : Nat) (h : k < xs.length) : (growL C xs dt dc).take (k + 1) = (growL C xs dt dc).take k ++ [growB C xs dt dc xs.length k] := by
  rw [List.take_add_one]; unfold growL; simp [h]
theorem growL_len (C : Nat) (xs : List Bool) (dt dc : Int) : (growL C xs dt dc).length = xs.length := by unfold growL; simp

set_option maxHeartbeats 1600000 in
theorem rgrow_any (t c : Int) (v : Value) (xs : List Bool) (dt dc : Int) (w : World) (h : SB w v xs) :
    Calls Try.prog 21 #[.agg #[.int .i64 t, .int .i64 c, v], .int .i64 dt, .int .i64 dc] w fun e w' =>
      ∃ u, e = .returned (.tuple #[.agg #[.int .i64 (zt (gerr t c xs.length dt dc) t), .int .i64 (zt (gerr t c xs.length dt dc) c), u], .int .i64 (gerr t c xs.length dt dc)]) ∧
        SB w' u (zl (gerr t c xs.length dt dc) (growL c.toNat xs dt dc)) ∧ Frv w.heap.size u ∧ Below w.heap.size w w' := by
  have hs := h
  obtain ⟨ad, cap, rfl, h1, h2, h3⟩ := h.open
  clear h h3
  by_cases p1 : mchk t c xs.length = 0
  · have b1 : (mchk t c xs.length != 0) = false := by simp [p1]
    by_cases p2 : dt < 0 ∨ dc < 0 ∨ 8 < dt ∨ 8 < dc
    · have HP := Lib.hid (gerr_2 p1 p2)
      clear p1
      go_enter Try.func21, Try.ntmps21
      go_wp2_with fail
      refine (rmcheck_any _ _ _ xs _ (hs.below (ba2 _ _ _))).mono ?_
      rintro e w1 ⟨rfl, hb1⟩
      obtain ⟨c1, f1⟩ := bcell hb1
      obtain ⟨z0, z1⟩ := bsz2 hb1
      have hb := below_to (ba2 _ _ _) hb1
      go_wp2_with fail
      all_goals first | (exfalso; omega) | skip
      all_goals
        refine bodyPost_ret (v := .tuple #[.agg #[.int .i64 0, .int .i64 0, .slice none 0 0], .int .i64 2]) (by simp [results, Try.results21, go_sem, c1]) rfl ⟨.slice none 0 0, ?_, ?_, trivial, ?_⟩
        · rw [HP.out, zt_ne (by decide), zt_ne (by decide)]
        · rw [HP.out, zl_ne (by decide)]; exact sb_nil _
        · exact ((hb.setCell (by simp) _).setCell (by simp) _).setCell (by simp) _
    · have HZ := Lib.hid (gerr_3 p1 p2)
      obtain ⟨t1, t2, c1', c2', hn⟩ := mchk_ok p1
      clear p1
      obtain ⟨T, rfl⟩ := Int.eq_ofNat_of_zero_le (show 0 ≤ t by omega)
      obtain ⟨C, rfl⟩ := Int.eq_ofNat_of_zero_le (show 0 ≤ c by omega)
      rw [cast_mul] at hn
      have hn' : xs.length = T * C := by exact_mod_cast hn
      have hl : xs.length ≤ 512 := by rw [hn']; have := Nat.mul_le_mul (show T ≤ 32 by omega) (show C ≤ 16 by omega); omega
      have HN := Lib.hid hn'
      clear hn hn'
      rw [Int.toNat_natCast]
      go_enter Try.func21, Try.ntmps21
      go_wp2_with fail
      refine (rmcheck_any _ _ _ xs _ (hs.below (ba2 _ _ _))).mono ?_
      rintro e w1 ⟨rfl, hb1⟩
      obtain ⟨z0, z1⟩ := bsz2 hb1
      have hb := below_to (ba2 _ _ _) hb1
      have hs1 := hs.below hb
      have a0 : w1.cell? ⟨w.heap.size, 0, none⟩ = some (.int .i64 T) := below_cell hb1 (by simp [go_sem])
      have a1 : w1.cell? ⟨w.heap.size, 1, none⟩ = some (.int .i64 C) := below_cell hb1 (by simp [go_sem])
      have a2 : w1.cell? ⟨w.heap.size, 2, none⟩ = some (.slice ad xs.length cap) := below_cell hb1 (by simp [go_sem])
      have y0 : w1.cell? ⟨w.heap.size + 1, 0, none⟩ = some (.int .i64 0) := below_cell hb1 (by simp [go_sem])
      have y1 : w1.cell? ⟨w.heap.size + 1, 1, none⟩ = some (.int .i64 0) := below_cell hb1 (by simp [go_sem])
      have y2 : w1.cell? ⟨w.heap.size + 1, 2, none⟩ = some (.slice none 0 0) := below_cell hb1 (by simp [go_sem])
      have y3 : w1.frozen? ⟨w.heap.size + 1, 0, none⟩ = false := frozen_below hb1 (by simp) (by simp [go_sem])
      have y4 : w1.frozen? ⟨w.heap.size + 1, 1, none⟩ = false := frozen_below hb1 (by simp) (by simp [go_sem])
      have y5 : w1.frozen? ⟨w.heap.size + 1, 2, none⟩ = false := frozen_below hb1 (by simp) (by simp [go_sem])
      go_wp2
      go_loopw [9] (fun i wr => ∃ (u : Nat) (ov : Value), u ≤ T ∧ i = .int .i64 u ∧ Own wr w1.heap.size 24 [.int .i64 T, .int .i64 C, ov] ∧ wr.ownsRow (w1.heap.size + 1) 4 1 ov (u * C) (((growL C xs dt dc).take (u * C)).map Value.bool) ∧ Below w1.heap.size w1 wr) (fun i _ => T - (intOf i).toNat)
      case atStart =>
        refine ⟨0, _, Nat.zero_le _, rfl, Own.new w1 _ _, ?_, ba1 _ _⟩
        rw [Nat.zero_mul]; exact World.ownsRow_nil _ _ _ _
      case round =>
        obtain ⟨u, ov, hu, rfl, ob, ow, hbr⟩ := hrel
        obtain ⟨wo, rfl⟩ : ∃ wo : World, wo = wr := ⟨_, rfl⟩
        by_cases hlt : u < T
        · have q0 := below_cell hbr a0
          have q1 := below_cell hbr a1
          go_wp2
          go_loopw [10] (fun j wr => ∃ (v : Nat) (ov : Value), v ≤ C ∧ j = .int .i64 v ∧ Own wr w1.heap.size 24 [.int .i64 T, .int .i64 C, ov] ∧ wr.ownsRow (w1.heap.size + 1) 4 1 ov (u * C + v) (((growL C xs dt dc).take (u * C + v)).map Value.bool) ∧ Below w1.heap.size w1 wr) (fun j _ => C - (intOf j).toNat)
          case atStart => exact ⟨0, ov, Nat.zero_le _, rfl, ob, ow, hbr⟩
          case round =>
            clear ob ow hbr q0 q1
            obtain ⟨v, ov2, hv, rfl, ob, ow, hbr⟩ := hrel
            have q0 := below_cell hbr a0
            have q1 := below_cell hbr a1
            have q2 := below_cell hbr a2
            have q4 : wr.cell? ⟨w1.heap.size, 2, none⟩ = some ov2 := ob.cell 2 (by simp)
            have q5 : wr.frozen? ⟨w1.heap.size, 2, none⟩ = false := ob.free 2
            by_cases hlt2 : v < C
            · have hix := idx_lt hlt hlt2
              rw [← HN.out] at hix
              have g0 := grow_cell q0
              have g1 := grow_cell q1
              have g2 := grow_cell q2
              have g4 := grow_cell q4
              have hbl := ob.lt
              have HS := Lib.hid (growL_take C xs dt dc (u * C + v) hix)
              go_wp2_with fail
              refine wp_region_mc [0, 3, 4, 5, 6] [1, 2] [7] [8, 9, 10, 11] (by kernel_rfl) (by kernel_rfl) (fun _ _ _ _ _ h => h) ?_
              simp only [opsAt, List.getElem?_toArray, List.getElem?_cons_zero, List.getElem?_cons_succ, Option.getD_some]
              repeat (go_big_quiet_step (fail))
              refine wpQuiet_nil ?_
              repeat (go_big_quiet_step (fail))
              refine wpQuiet_nil ?_
              refine wpFlag_want rfl (fun K' hK' => ?_)
              go_simp
              refine (near_any T C u v dt dc _ xs _ (hs1.below (below_to hbr ((Below.refl _ _).drew))) (by omega) (by omega) HN.out hlt hlt2 (by omega) (by omega) (by omega) (by omega)).mono ?_
              rintro e w2 ⟨rfl, hb2⟩
              have hb3 : Below wr.heap.size wr w2 := below_to ((Below.refl _ _).drew) hb2
              refine hK' _ _ hb3 (wpFlag_nil ?_)
              clear hK' K' hb2
              have ob2 := ob.below hb3
              have ow2 := owns_at ow hb3
              have hbl2 := ob2.lt
              have m4 := below_cell hb3 q4
              have m5 := frozen_below hb3 hbl q5
              go_wp2_with (at_builtin; refine wpList_app _ rfl _ _ _ rfl (w1.heap.size + 1) 4 1 1 (.bool false) Try.underlying22 Try.infoBool rfl (by omega) (by omega) ov2 (u * C + v) _ rfl (ow2.alloc _) (by omega) (by simp; omega) w2.heap.size [.bool (growB C xs dt dc xs.length (u * C + v))] (0, 0) rfl (heap_alloc_new w2 _) rfl (by simp [Value.oneCell']) ?_; intro g cap w3 hown hg hbw; have k2 := below_cell_at hbw (by omega) (below_cell (ba1 w2 _) m4); have k3 := below_frozen_at hbw (by omega) (frozen_below (ba1 w2 _) hbl2 m5))
              go_roundw
              case rel =>
                refine ⟨v + 1, .slice (some ⟨g, 0, none⟩) (u * C + v + 1) cap, by omega, by go_num, ((ob2.alloc _).at hbw (by omega)).set 2 _, ?_, ?_⟩
                · rw [← Nat.add_assoc, HS.out, List.map_append]
                  exact owns_set_low hown (by simp) _
                · exact (below_to (below_to hbr hb3) (ba1 w2 _)).trans ((hbw.mono (B' := w1.heap.size) (by omega)).setCell (p := ⟨w1.heap.size, 2, none⟩) (by simp) _)
              case measure => simp [intOf]; omega
            · have hvC : v = C := by omega
              have HS : Hid ((u + 1) * C = u * C + v) := by show _ = _; rw [Nat.add_mul, Nat.one_mul, hvC]
              clear hvC
              go_wp2
              go_roundw
              case rel => exact ⟨u + 1, ov2, by omega, by go_num, ob, by rw [HS.out]; exact ow, hbr⟩
              case measure => simp [intOf]; omega
        · have hk2 : u * C = xs.length := by rw [HN.out]; congr 1; omega
          have HK : Hid ((growL C xs dt dc).take (u * C) = growL C xs dt dc) := by
            show _ = _
            rw [List.take_of_length_le (by rw [growL_len]; omega)]
          have q0 := below_cell hbr a0
          have k0 : wo.cell? ⟨w1.heap.size, 0, none⟩ = some (.int .i64 T) := ob.cell 0 (by simp)
          have k1 : wo.cell? ⟨w1.heap.size, 1, none⟩ = some (.int .i64 C) := ob.cell 1 (by simp)
          have k2 : wo.cell? ⟨w1.heap.size, 2, none⟩ = some ov := ob.cell 2 (by simp)
          have r0 := below_cell hbr y0
          have r1 := below_cell hbr y1
          have r2 := below_cell hbr y2
          have g0 := frozen_below hbr z1 y3
          have g1 := frozen_below hbr z1 y4
          have g2 := frozen_below hbr z1 y5
          have hsl := owns_sl ow (by omega)
          have hfr := owns_frv ow
          rw [HK.out] at hsl
          rw [hk2] at hsl
          obtain ⟨sa, sc, hov, s1, s2, s3⟩ := hsl
          subst hov
          have S3 := Lib.hid s3
          clear s3 hk2 ow
          go_wp2
          refine bodyPost_ret (v := .tuple #[.agg #[.int .i64 T, .int .i64 C, .slice sa xs.length sc], .int .i64 0]) (by simp [results, Try.results21, go_sem, r0, r1, r2]) rfl ⟨.slice sa xs.length sc, ?_, ?_, hfr.mono (by have := hb.size; omega), ?_⟩
          · rw [HZ.out, zt_eq rfl, zt_eq rfl]
          · rw [HZ.out, zl_eq rfl]
            unfold SB
            rw [growL_len]
            have h6 : Sl wo (.slice sa xs.length sc) xs.length ((growL C xs dt dc).map Value.bool) := ⟨sa, sc, rfl, s1, s2, S3.out⟩
            exact ((h6.low hfr (by simp; omega) _).low hfr (by simp; omega) _).low hfr (by simp; omega) _
          · exact (((below_to hb hbr).setCell (by simp) _).setCell (by simp) _).setCell (by simp) _
  · have b1 : (mchk t c xs.length != 0) = true := by simp [p1]
    have HP := Lib.hid (gerr_1 (dt := dt) (dc := dc) p1)
    have HZ := Lib.hid p1
    clear p1
    go_enter Try.func21, Try.ntmps21
    go_wp2_with fail
    refine (rmcheck_any _ _ _ xs _ (hs.below (ba2 _ _ _))).mono ?_
    rintro e w1 ⟨rfl, hb1⟩
    obtain ⟨c1, f1⟩ := bcell hb1
    obtain ⟨z0, z1⟩ := bsz2 hb1
    have hb := below_to (ba2 _ _ _) hb1
    go_wp2_with fail
    refine (rmcheck_any _ _ _ xs _ (hs.below hb)).mono ?_
    rintro e w2 ⟨rfl, hb2⟩
    obtain ⟨c2, f2⟩ := bcell hb2
    have hbb := below_to hb hb2
    have l2 : w.heap.size + 1 < w2.heap.size := lt_below hb2 z1
    go_wp2
    refine bodyPost_ret (v := .tuple #[.agg #[.int .i64 0, .int .i64 0, .slice none 0 0], .int .i64 (mchk t c xs.length)]) (by simp [results, Try.results21, go_sem, c1, c2, z1]) rfl ⟨.slice none 0 0, ?_, ?_, trivial, ?_⟩
    · rw [HP.out, zt_ne HZ.out, zt_ne HZ.out]
    · rw [HP.out, zl_ne HZ.out]; exact sb_nil _
    · exact ((hbb.setCell (by simp) _).setCell (by simp) _).setCell (by simp) _

end Go.Proofs.Ytpkggglifahioaa
