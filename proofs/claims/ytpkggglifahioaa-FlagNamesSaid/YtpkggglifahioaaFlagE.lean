/- What is proved here: the contracts of the reference's Join and Both. Condition: the arguments are slices of bools that can be read, and 64-bit integers. -/
import Derived.Test.YtpkggglifahioaaFlagD
import Derived.Test.YtpkggglifahioaaAppend
namespace Go.Proofs.Ytpkggglifahioaa
open Go.RowKit
attribute [local go_sem ↓] Go.wp_at_zero Go.wp_at_succ

set_option maxHeartbeats 3200000 in
theorem rjoin_any (t c t' c' : Int) (v v' : Value) (xs ys : List Bool) (w : World) (h : SB w v xs) (h' : SB w v' ys) :
    Calls Try.prog 14 #[.agg #[.int .i64 t, .int .i64 c, v], .agg #[.int .i64 t', .int .i64 c', v']] w fun e w' =>
      ∃ u, e = .returned (.tuple #[.agg #[.int .i64 (zt (mpair t c xs.length t' c' ys.length) t), .int .i64 (zt (mpair t c xs.length t' c' ys.length) c), u], .int .i64 (mpair t c xs.length t' c' ys.length)]) ∧
        SB w' u (zl (mpair t c xs.length t' c' ys.length) (List.zipWith (· || ·) xs ys)) ∧ Frv w.heap.size u ∧ Below w.heap.size w w' := by
  have hs := h
  have hs' := h'
  obtain ⟨ad, cap, rfl, h1, h2, h3⟩ := h.open
  obtain ⟨ad', cap', rfl, h1', h2', h3'⟩ := h'.open
  clear h h'
  by_cases p1 : mpair t c xs.length t' c' ys.length = 0
  · have b1 : (mpair t c xs.length t' c' ys.length != 0) = false := by simp [p1]
    obtain ⟨m1, m2, rfl, rfl⟩ := mpair_ok p1
    have HZ := Lib.hid p1
    obtain ⟨t1, t2, c1', c2', hn⟩ := mchk_ok m1
    obtain ⟨_, _, _, _, hn'⟩ := mchk_ok m2
    have hp := prod_bd t1 t2 c1' c2'
    have hl : xs.length ≤ 512 := by omega
    have hl2 : ys.length ≤ xs.length := by omega
    have hl3 : xs.length ≤ ys.length := by omega
    clear p1 m1 m2 hn hn' hp
    obtain ⟨i0, hi, hz0, hz1, hz2⟩ := info_parts Try.infoBool
    go_enter Try.func14, Try.ntmps14
    go_wp2_with fail
    refine (pair_any _ _ _ _ _ _ xs ys _ (hs.below (ba3 _ _ _ _)) (hs'.below (ba3 _ _ _ _))).mono ?_
    rintro e w1 ⟨rfl, hb1⟩
    have hb := below_to (ba3 _ _ _ _) hb1
    obtain ⟨z0, z1, z2⟩ := bsz3 hb1
    have a0 : w1.cell? ⟨w.heap.size, 0, none⟩ = some (.int .i64 t) := below_cell hb1 (by simp [go_sem])
    have a1 : w1.cell? ⟨w.heap.size, 1, none⟩ = some (.int .i64 c) := below_cell hb1 (by simp [go_sem])
    have a2 : w1.cell? ⟨w.heap.size, 2, none⟩ = some (.slice ad xs.length cap) := below_cell hb1 (by simp [go_sem])
    have a5 : w1.cell? ⟨w.heap.size + 1, 2, none⟩ = some (.slice ad' ys.length cap') := below_cell hb1 (by simp [go_sem])
    have y0 : w1.cell? ⟨w.heap.size + 1 + 1, 0, none⟩ = some (.int .i64 0) := below_cell hb1 (by simp [go_sem])
    have y1 : w1.cell? ⟨w.heap.size + 1 + 1, 1, none⟩ = some (.int .i64 0) := below_cell hb1 (by simp [go_sem])
    have y2 : w1.cell? ⟨w.heap.size + 1 + 1, 2, none⟩ = some (.slice none 0 0) := below_cell hb1 (by simp [go_sem])
    have y3 : w1.frozen? ⟨w.heap.size + 1 + 1, 0, none⟩ = false := frozen_below hb1 (by simp) (by simp [go_sem])
    have y4 : w1.frozen? ⟨w.heap.size + 1 + 1, 1, none⟩ = false := frozen_below hb1 (by simp) (by simp [go_sem])
    have y5 : w1.frozen? ⟨w.heap.size + 1 + 1, 2, none⟩ = false := frozen_below hb1 (by simp) (by simp [go_sem])
    go_wp2
    go_loopw [7] (fun i wr => ∃ (k : Nat) (ov : Value), k ≤ xs.length ∧ i = .int .i64 k ∧ Own wr w1.heap.size 24 [.int .i64 t, .int .i64 c, ov] ∧ wr.ownsRow (w1.heap.size + 1) 4 1 ov k (((List.zipWith (· || ·) xs ys).take k).map Value.bool) ∧ Below w1.heap.size w1 wr) (fun i _ => xs.length - (intOf i).toNat)
    case atStart => exact ⟨0, _, Nat.zero_le _, rfl, Own.new w1 _ _, World.ownsRow_nil _ _ _ _, ba1 _ _⟩
    case round =>
      obtain ⟨k, ov, hk, rfl, ob, ow, hbr⟩ := hrel
      have q0 := below_cell hbr a2
      have q1 := below_cell hbr a5
      have q2 : wr.cell? ⟨w1.heap.size, 2, none⟩ = some ov := ob.cell 2 (by simp)
      have q3 : wr.frozen? ⟨w1.heap.size, 2, none⟩ = false := ob.free 2
      by_cases hlt : k < xs.length
      · obtain ⟨b, off, rfl, hc⟩ := h3.out k hlt
        obtain ⟨b', off', rfl, hc'⟩ := h3'.out k (by omega)
        have hlt' : k < ys.length := by omega
        have e1 := below_cell hbr (below_cell hb hc)
        have e2 := below_cell hbr (below_cell hb hc')
        have i1 : (0 : Int) ≤ (k : Int) := by omega
        have i2 : (k : Int) < (xs.length : Int) := by omega
        have i3 : (k : Int) < (ys.length : Int) := by omega
        have g1 := grow_cell q0
        have g2 := grow_cell q1
        have g3 := grow_cell q2
        have g4 := grow_cell e1
        have g5 := grow_cell e2
        clear h3 h3' hc hc' a0 a1 a2 a5
        have hbl := ob.lt
        have hZ : Hid (((List.zipWith (· || ·) xs ys).take (k + 1)).map Value.bool = ((List.zipWith (· || ·) xs ys).take k).map Value.bool ++ [.bool (xs[k] || ys[k])]) := by
          show _ = _
          rw [List.take_add_one, zip_get (· || ·) xs ys k hlt hlt']; simp
        by_cases hx : xs[k] = true
        · rw [hx] at g4
          have HX : Hid ((xs[k] || ys[k]) = true) := by show _ = _; rw [hx]; rfl
          clear hx
          go_wp2_with fail
          refine wp_region_mt [0, 2, 4] [1, 3, 5, 6, 7, 8, 9, 10, 11, 12, 13] [14, 15, 16, 17] (by kernel_rfl) (by kernel_rfl) (fun _ _ _ _ _ h => h) ?_
          simp only [opsAt, List.getElem?_toArray, List.getElem?_cons_zero, List.getElem?_cons_succ, Option.getD_some]
          repeat (go_big_quiet_step (fail))
          refine wpQuiet_nil ?_
          repeat (go_big_quiet_step (fail))
          refine wpQuiet_nil ?_
          go_wp2_with (at_builtin; refine wpList_app _ rfl _ _ _ rfl (w1.heap.size + 1) 4 1 1 (.bool false) Try.underlying22 Try.infoBool rfl (by omega) (by omega) ov k _ rfl ((ow.alloc _).drew) (by omega) (by simp; omega) wr.heap.size [.bool true] (0, 0) rfl (heap_alloc_new wr _) rfl (by simp [Value.oneCell']) ?_; intro g cap w2 hown hg hbw; have k2 := below_cell_at hbw (by omega) (below_cell (ba1 wr _) q2); have k3 := below_frozen_at hbw (by omega) (frozen_below (ba1 wr _) hbl q3))
          go_roundw
          case rel =>
            refine ⟨k + 1, .slice (some ⟨g, 0, none⟩) (k + 1) cap, by omega, by go_num, (((ob.alloc _).drew).at hbw (by omega)).set 2 _, ?_, ?_⟩
            · rw [hZ.out, HX.out]
              exact owns_set_low hown (by simp) _
            · exact ((below_to hbr (ba1 wr _)).drew).trans ((hbw.mono (B' := w1.heap.size) (by omega)).setCell (p := ⟨w1.heap.size, 2, none⟩) (by simp) _)
          case measure => simp [intOf]; omega
        · have hx' : xs[k] = false := by simpa using hx
          rw [hx'] at g4
          have HX : Hid ((xs[k] || ys[k]) = ys[k]) := by show _ = _; rw [hx']; rfl
          clear hx hx'
          go_wp2_with fail
          refine wp_region_mt [0, 2, 4] [1, 3, 5, 6, 7, 8, 9, 10, 11, 12, 13] [14, 15, 16, 17] (by kernel_rfl) (by kernel_rfl) (fun _ _ _ _ _ h => h) ?_
          simp only [opsAt, List.getElem?_toArray, List.getElem?_cons_zero, List.getElem?_cons_succ, Option.getD_some]
          repeat (go_big_quiet_step (fail))
          refine wpQuiet_nil ?_
          repeat (go_big_quiet_step (fail))
          refine wpQuiet_nil ?_
          go_wp2_with (at_builtin; refine wpList_app _ rfl _ _ _ rfl (w1.heap.size + 1) 4 1 1 (.bool false) Try.underlying22 Try.infoBool rfl (by omega) (by omega) ov k _ rfl ((ow.alloc _).drew) (by omega) (by simp; omega) wr.heap.size [.bool ys[k]] (0, 0) rfl (heap_alloc_new wr _) rfl (by simp [Value.oneCell']) ?_; intro g cap w2 hown hg hbw; have k2 := below_cell_at hbw (by omega) (below_cell (ba1 wr _) q2); have k3 := below_frozen_at hbw (by omega) (frozen_below (ba1 wr _) hbl q3))
          go_roundw
          case rel =>
            refine ⟨k + 1, .slice (some ⟨g, 0, none⟩) (k + 1) cap, by omega, by go_num, (((ob.alloc _).drew).at hbw (by omega)).set 2 _, ?_, ?_⟩
            · rw [hZ.out, HX.out]
              exact owns_set_low hown (by simp) _
            · exact ((below_to hbr (ba1 wr _)).drew).trans ((hbw.mono (B' := w1.heap.size) (by omega)).setCell (p := ⟨w1.heap.size, 2, none⟩) (by simp) _)
          case measure => simp [intOf]; omega
      · have HK : Hid ((List.zipWith (· || ·) xs ys).take k = List.zipWith (· || ·) xs ys) := by
          show _ = _
          rw [List.take_of_length_le (by rw [List.length_zipWith]; omega)]
        have k0 : wr.cell? ⟨w1.heap.size, 0, none⟩ = some (.int .i64 t) := ob.cell 0 (by simp)
        have k1 : wr.cell? ⟨w1.heap.size, 1, none⟩ = some (.int .i64 c) := ob.cell 1 (by simp)
        have r0 := below_cell hbr y0
        have r1 := below_cell hbr y1
        have r2 := below_cell hbr y2
        have g0 := frozen_below hbr z2 y3
        have g1 := frozen_below hbr z2 y4
        have g2 := frozen_below hbr z2 y5
        have hsl := owns_sl ow (by omega)
        have hfr := owns_frv ow
        rw [HK.out] at hsl
        obtain ⟨sa, sc, hov, s1, s2, s3⟩ := hsl
        subst hov
        have hk2 : k = xs.length := by omega
        subst hk2
        clear h3 h3'
        go_wp2
        refine bodyPost_ret (v := .tuple #[.agg #[.int .i64 t, .int .i64 c, .slice sa xs.length sc], .int .i64 0]) (by simp [results, Try.results14, go_sem, r0, r1, r2]) rfl ⟨.slice sa xs.length sc, ?_, ?_, hfr.mono (by have := hb.size; omega), ?_⟩
        · rw [HZ.out, zt_eq rfl, zt_eq rfl]
        · rw [HZ.out, zl_eq rfl]
          have hz : (List.zipWith (· || ·) xs ys).length = xs.length := by rw [List.length_zipWith]; omega
          unfold SB
          rw [hz]
          have h6 : Sl wr (.slice sa xs.length sc) xs.length ((List.zipWith (· || ·) xs ys).map Value.bool) := ⟨sa, sc, rfl, s1, s2, s3⟩
          exact ((h6.low hfr (by simp; omega) _).low hfr (by simp; omega) _).low hfr (by simp; omega) _
        · exact (((below_to hb hbr).setCell (by simp; omega) _).setCell (by simp; omega) _).setCell (by simp; omega) _
  · have b1 : (mpair t c xs.length t' c' ys.length != 0) = true := by simp [p1]
    have HZ := Lib.hid p1
    clear p1
    go_enter Try.func14, Try.ntmps14
    go_wp2_with fail
    refine (pair_any _ _ _ _ _ _ xs ys _ (hs.below (ba3 _ _ _ _)) (hs'.below (ba3 _ _ _ _))).mono ?_
    rintro e w1 ⟨rfl, hb1⟩
    obtain ⟨c1, f1⟩ := bcell hb1
    obtain ⟨z0, z1, z2⟩ := bsz3 hb1
    have hb := below_to (ba3 _ _ _ _) hb1
    go_wp2_with fail
    refine (pair_any _ _ _ _ _ _ xs ys _ (hs.below hb) (hs'.below hb)).mono ?_
    rintro e w2 ⟨rfl, hb2⟩
    obtain ⟨c2, f2⟩ := bcell hb2
    have hbb := below_to hb hb2
    have l2 : w.heap.size + 1 + 1 < w2.heap.size := lt_below hb2 z2
    go_wp2
    refine bodyPost_ret (v := .tuple #[.agg #[.int .i64 0, .int .i64 0, .slice none 0 0], .int .i64 (mpair t c xs.length t' c' ys.length)]) (by simp [results, Try.results14, go_sem, c1, c2, z2]) rfl ⟨.slice none 0 0, ?_, ?_, trivial, ?_⟩
    · rw [zt_ne HZ.out, zt_ne HZ.out]
    · rw [zl_ne HZ.out]; exact sb_nil _
    · exact ((hbb.setCell (by simp; omega) _).setCell (by simp; omega) _).setCell (by simp; omega) _

set_option maxHeartbeats 3200000 in
theorem rboth_any (t c t' c' : Int) (v v' : Value) (xs ys : List Bool) (w : World) (h : SB w v xs) (h' : SB w v' ys) :
    Calls Try.prog 19 #[.agg #[.int .i64 t, .int .i64 c, v], .agg #[.int .i64 t', .int .i64 c', v']] w fun e w' =>
      ∃ u, e = .returned (.tuple #[.agg #[.int .i64 (zt (mpair t c xs.length t' c' ys.length) t), .int .i64 (zt (mpair t c xs.length t' c' ys.length) c), u], .int .i64 (mpair t c xs.length t' c' ys.length)]) ∧
        SB w' u (zl (mpair t c xs.length t' c' ys.length) (List.zipWith (· && ·) xs ys)) ∧ Frv w.heap.size u ∧ Below w.heap.size w w' := by
  have hs := h
  have hs' := h'
  obtain ⟨ad, cap, rfl, h1, h2, h3⟩ := h.open
  obtain ⟨ad', cap', rfl, h1', h2', h3'⟩ := h'.open
  clear h h'
  by_cases p1 : mpair t c xs.length t' c' ys.length = 0
  · have b1 : (mpair t c xs.length t' c' ys.length != 0) = false := by simp [p1]
    obtain ⟨m1, m2, rfl, rfl⟩ := mpair_ok p1
    have HZ := Lib.hid p1
    obtain ⟨t1, t2, c1', c2', hn⟩ := mchk_ok m1
    obtain ⟨_, _, _, _, hn'⟩ := mchk_ok m2
    have hp := prod_bd t1 t2 c1' c2'
    have hl : xs.length ≤ 512 := by omega
    have hl2 : ys.length ≤ xs.length := by omega
    have hl3 : xs.length ≤ ys.length := by omega
    clear p1 m1 m2 hn hn' hp
    obtain ⟨i0, hi, hz0, hz1, hz2⟩ := info_parts Try.infoBool
    go_enter Try.func19, Try.ntmps19
    go_wp2_with fail
    refine (pair_any _ _ _ _ _ _ xs ys _ (hs.below (ba3 _ _ _ _)) (hs'.below (ba3 _ _ _ _))).mono ?_
    rintro e w1 ⟨rfl, hb1⟩
    have hb := below_to (ba3 _ _ _ _) hb1
    obtain ⟨z0, z1, z2⟩ := bsz3 hb1
    have a0 : w1.cell? ⟨w.heap.size, 0, none⟩ = some (.int .i64 t) := below_cell hb1 (by simp [go_sem])
    have a1 : w1.cell? ⟨w.heap.size, 1, none⟩ = some (.int .i64 c) := below_cell hb1 (by simp [go_sem])
    have a2 : w1.cell? ⟨w.heap.size, 2, none⟩ = some (.slice ad xs.length cap) := below_cell hb1 (by simp [go_sem])
    have a5 : w1.cell? ⟨w.heap.size + 1, 2, none⟩ = some (.slice ad' ys.length cap') := below_cell hb1 (by simp [go_sem])
    have y0 : w1.cell? ⟨w.heap.size + 1 + 1, 0, none⟩ = some (.int .i64 0) := below_cell hb1 (by simp [go_sem])
    have y1 : w1.cell? ⟨w.heap.size + 1 + 1, 1, none⟩ = some (.int .i64 0) := below_cell hb1 (by simp [go_sem])
    have y2 : w1.cell? ⟨w.heap.size + 1 + 1, 2, none⟩ = some (.slice none 0 0) := below_cell hb1 (by simp [go_sem])
    have y3 : w1.frozen? ⟨w.heap.size + 1 + 1, 0, none⟩ = false := frozen_below hb1 (by simp) (by simp [go_sem])
    have y4 : w1.frozen? ⟨w.heap.size + 1 + 1, 1, none⟩ = false := frozen_below hb1 (by simp) (by simp [go_sem])
    have y5 : w1.frozen? ⟨w.heap.size + 1 + 1, 2, none⟩ = false := frozen_below hb1 (by simp) (by simp [go_sem])
    go_wp2
    go_loopw [7] (fun i wr => ∃ (k : Nat) (ov : Value), k ≤ xs.length ∧ i = .int .i64 k ∧ Own wr w1.heap.size 24 [.int .i64 t, .int .i64 c, ov] ∧ wr.ownsRow (w1.heap.size + 1) 4 1 ov k (((List.zipWith (· && ·) xs ys).take k).map Value.bool) ∧ Below w1.heap.size w1 wr) (fun i _ => xs.length - (intOf i).toNat)
    case atStart => exact ⟨0, _, Nat.zero_le _, rfl, Own.new w1 _ _, World.ownsRow_nil _ _ _ _, ba1 _ _⟩
    case round =>
      obtain ⟨k, ov, hk, rfl, ob, ow, hbr⟩ := hrel
      have q0 := below_cell hbr a2
      have q1 := below_cell hbr a5
      have q2 : wr.cell? ⟨w1.heap.size, 2, none⟩ = some ov := ob.cell 2 (by simp)
      have q3 : wr.frozen? ⟨w1.heap.size, 2, none⟩ = false := ob.free 2
      by_cases hlt : k < xs.length
      · obtain ⟨b, off, rfl, hc⟩ := h3.out k hlt
        obtain ⟨b', off', rfl, hc'⟩ := h3'.out k (by omega)
        have hlt' : k < ys.length := by omega
        have e1 := below_cell hbr (below_cell hb hc)
        have e2 := below_cell hbr (below_cell hb hc')
        have i1 : (0 : Int) ≤ (k : Int) := by omega
        have i2 : (k : Int) < (xs.length : Int) := by omega
        have i3 : (k : Int) < (ys.length : Int) := by omega
        have g1 := grow_cell q0
        have g2 := grow_cell q1
        have g3 := grow_cell q2
        have g4 := grow_cell e1
        have g5 := grow_cell e2
        clear h3 h3' hc hc' a0 a1 a2 a5
        have hbl := ob.lt
        have hZ : Hid (((List.zipWith (· && ·) xs ys).take (k + 1)).map Value.bool = ((List.zipWith (· && ·) xs ys).take k).map Value.bool ++ [.bool (xs[k] && ys[k])]) := by
          show _ = _
          rw [List.take_add_one, zip_get (· && ·) xs ys k hlt hlt']; simp
        by_cases hx : xs[k] = true
        · rw [hx] at g4
          have HX : Hid ((xs[k] && ys[k]) = ys[k]) := by show _ = _; rw [hx]; rfl
          clear hx
          go_wp2_with fail
          refine wp_region_mt [0, 2, 4] [1, 3, 5, 6, 7, 8, 9, 10, 11, 12, 13] [14, 15, 16, 17] (by kernel_rfl) (by kernel_rfl) (fun _ _ _ _ _ h => h) ?_
          simp only [opsAt, List.getElem?_toArray, List.getElem?_cons_zero, List.getElem?_cons_succ, Option.getD_some]
          repeat (go_big_quiet_step (fail))
          refine wpQuiet_nil ?_
          repeat (go_big_quiet_step (fail))
          refine wpQuiet_nil ?_
          go_wp2_with (at_builtin; refine wpList_app _ rfl _ _ _ rfl (w1.heap.size + 1) 4 1 1 (.bool false) Try.underlying22 Try.infoBool rfl (by omega) (by omega) ov k _ rfl ((ow.alloc _).drew) (by omega) (by simp; omega) wr.heap.size [.bool ys[k]] (0, 0) rfl (heap_alloc_new wr _) rfl (by simp [Value.oneCell']) ?_; intro g cap w2 hown hg hbw; have k2 := below_cell_at hbw (by omega) (below_cell (ba1 wr _) q2); have k3 := below_frozen_at hbw (by omega) (frozen_below (ba1 wr _) hbl q3))
          go_roundw
          case rel =>
            refine ⟨k + 1, .slice (some ⟨g, 0, none⟩) (k + 1) cap, by omega, by go_num, (((ob.alloc _).drew).at hbw (by omega)).set 2 _, ?_, ?_⟩
            · rw [hZ.out, HX.out]
              exact owns_set_low hown (by simp) _
            · exact ((below_to hbr (ba1 wr _)).drew).trans ((hbw.mono (B' := w1.heap.size) (by omega)).setCell (p := ⟨w1.heap.size, 2, none⟩) (by simp) _)
          case measure => simp [intOf]; omega
        · have hx' : xs[k] = false := by simpa using hx
          rw [hx'] at g4
          have HX : Hid ((xs[k] && ys[k]) = false) := by show _ = _; rw [hx']; rfl
          clear hx hx'
          go_wp2_with fail
          refine wp_region_mt [0, 2, 4] [1, 3, 5, 6, 7, 8, 9, 10, 11, 12, 13] [14, 15, 16, 17] (by kernel_rfl) (by kernel_rfl) (fun _ _ _ _ _ h => h) ?_
          simp only [opsAt, List.getElem?_toArray, List.getElem?_cons_zero, List.getElem?_cons_succ, Option.getD_some]
          repeat (go_big_quiet_step (fail))
          refine wpQuiet_nil ?_
          repeat (go_big_quiet_step (fail))
          refine wpQuiet_nil ?_
          go_wp2_with (at_builtin; refine wpList_app _ rfl _ _ _ rfl (w1.heap.size + 1) 4 1 1 (.bool false) Try.underlying22 Try.infoBool rfl (by omega) (by omega) ov k _ rfl ((ow.alloc _).drew) (by omega) (by simp; omega) wr.heap.size [.bool false] (0, 0) rfl (heap_alloc_new wr _) rfl (by simp [Value.oneCell']) ?_; intro g cap w2 hown hg hbw; have k2 := below_cell_at hbw (by omega) (below_cell (ba1 wr _) q2); have k3 := below_frozen_at hbw (by omega) (frozen_below (ba1 wr _) hbl q3))
          go_roundw
          case rel =>
            refine ⟨k + 1, .slice (some ⟨g, 0, none⟩) (k + 1) cap, by omega, by go_num, (((ob.alloc _).drew).at hbw (by omega)).set 2 _, ?_, ?_⟩
            · rw [hZ.out, HX.out]
              exact owns_set_low hown (by simp) _
            · exact ((below_to hbr (ba1 wr _)).drew).trans ((hbw.mono (B' := w1.heap.size) (by omega)).setCell (p := ⟨w1.heap.size, 2, none⟩) (by simp) _)
          case measure => simp [intOf]; omega
      · have HK : Hid ((List.zipWith (· && ·) xs ys).take k = List.zipWith (· && ·) xs ys) := by
          show _ = _
          rw [List.take_of_length_le (by rw [List.length_zipWith]; omega)]
        have k0 : wr.cell? ⟨w1.heap.size, 0, none⟩ = some (.int .i64 t) := ob.cell 0 (by simp)
        have k1 : wr.cell? ⟨w1.heap.size, 1, none⟩ = some (.int .i64 c) := ob.cell 1 (by simp)
        have r0 := below_cell hbr y0
        have r1 := below_cell hbr y1
        have r2 := below_cell hbr y2
        have g0 := frozen_below hbr z2 y3
        have g1 := frozen_below hbr z2 y4
        have g2 := frozen_below hbr z2 y5
        have hsl := owns_sl ow (by omega)
        have hfr := owns_frv ow
        rw [HK.out] at hsl
        obtain ⟨sa, sc, hov, s1, s2, s3⟩ := hsl
        subst hov
        have hk2 : k = xs.length := by omega
        subst hk2
        clear h3 h3'
        go_wp2
        refine bodyPost_ret (v := .tuple #[.agg #[.int .i64 t, .int .i64 c, .slice sa xs.length sc], .int .i64 0]) (by simp [results, Try.results19, go_sem, r0, r1, r2]) rfl ⟨.slice sa xs.length sc, ?_, ?_, hfr.mono (by have := hb.size; omega), ?_⟩
        · rw [HZ.out, zt_eq rfl, zt_eq rfl]
        · rw [HZ.out, zl_eq rfl]
          have hz : (List.zipWith (· && ·) xs ys).length = xs.length := by rw [List.length_zipWith]; omega
          unfold SB
          rw [hz]
          have h6 : Sl wr (.slice sa xs.length sc) xs.length ((List.zipWith (· && ·) xs ys).map Value.bool) := ⟨sa, sc, rfl, s1, s2, s3⟩
          exact ((h6.low hfr (by simp; omega) _).low hfr (by simp; omega) _).low hfr (by simp; omega) _
        · exact (((below_to hb hbr).setCell (by simp; omega) _).setCell (by simp; omega) _).setCell (by simp; omega) _
  · have b1 : (mpair t c xs.length t' c' ys.length != 0) = true := by simp [p1]
    have HZ := Lib.hid p1
    clear p1
    go_enter Try.func19, Try.ntmps19
    go_wp2_with fail
    refine (pair_any _ _ _ _ _ _ xs ys _ (hs.below (ba3 _ _ _ _)) (hs'.below (ba3 _ _ _ _))).mono ?_
    rintro e w1 ⟨rfl, hb1⟩
    obtain ⟨c1, f1⟩ := bcell hb1
    obtain ⟨z0, z1, z2⟩ := bsz3 hb1
    have hb := below_to (ba3 _ _ _ _) hb1
    go_wp2_with fail
    refine (pair_any _ _ _ _ _ _ xs ys _ (hs.below hb) (hs'.below hb)).mono ?_
    rintro e w2 ⟨rfl, hb2⟩
    obtain ⟨c2, f2⟩ := bcell hb2
    have hbb := below_to hb hb2
    have l2 : w.heap.size + 1 + 1 < w2.heap.size := lt_below hb2 z2
    go_wp2
    refine bodyPost_ret (v := .tuple #[.agg #[.int .i64 0, .int .i64 0, .slice none 0 0], .int .i64 (mpair t c xs.length t' c' ys.length)]) (by simp [results, Try.results19, go_sem, c1, c2, z2]) rfl ⟨.slice none 0 0, ?_, ?_, trivial, ?_⟩
    · rw [zt_ne HZ.out, zt_ne HZ.out]
    · rw [zl_ne HZ.out]; exact sb_nil _
    · exact ((hbb.setCell (by simp; omega) _).setCell (by simp; omega) _).setCell (by simp; omega) _

end Go.Proofs.Ytpkggglifahioaa
