/- What is proved here: the contract of flag.Grow. Condition: the arguments are slices of bools that can be read, and 64-bit integers. -/
import Derived.Test.YtpkggglifahioaaFlagG
namespace Go.Proofs.Ytpkggglifahioaa
open Go.RowKit

/-- The cells of a mask as values. -/
def bv (n : Nat) (f : Nat → Bool) : List Value := ((List.range n).map f).map Value.bool
theorem bv_same (n : Nat) (f g : Nat → Bool) (h : ∀ j, j < n → f j = g j) : bv n f = bv n g := by unfold bv; rw [map_same n f g h]
theorem bv_len (n : Nat) (f : Nat → Bool) : (bv n f).length = n := by unfold bv; simp
theorem bv_set (n : Nat) (f g : Nat → Bool) (p : Nat) (hp : p < n) (h : ∀ j, j < n → g j = (f j || j == p)) : (bv n f).set p (.bool true) = bv n g := by
  unfold bv; rw [← map_set n f g p hp h, List.map_set]

theorem grow_zero (C : Nat) (xs : List Bool) (dt dc : Int) (n : Nat) : zeroB n = bv n (growB C xs dt dc 0) := by
  unfold zeroB bv
  congr 1
  apply List.ext_getElem
  · simp
  · intro i h1 h2; simp [growB]
theorem grow_skip (C : Nat) (xs : List Bool) (dt dc : Int) (n k : Nat) (hk : k < xs.length) (hx : ¬ xs[k] = true) : bv n (growB C xs dt dc k) = bv n (growB C xs dt dc (k + 1)) := by
  refine bv_same n _ _ fun j _ => ?_
  rw [growB_succ]; simp [hk, hx]

set_option maxRecDepth 100000 in
set_option maxHeartbeats 16000000 in
theorem grow_any (t c : Int) (v : Value) (xs : List Bool) (dt dc : Int) (w : World) (h : SB w v xs) :
    Calls Try.prog 20 #[.agg #[.int .i64 t, .int .i64 c, v], .int .i64 dt, .int .i64 dc] w fun e w' =>
      ∃ u, e = .returned (.tuple #[.agg #[.int .i64 (zt (gerr t c xs.length dt dc) t), .int .i64 (zt (gerr t c xs.length dt dc) c), u], .int .i64 (gerr t c xs.length dt dc)]) ∧
        SB w' u (zl (gerr t c xs.length dt dc) (growL c.toNat xs dt dc)) ∧ Frv w.heap.size u ∧ Below w.heap.size w w' := by
  have hs := h
  obtain ⟨ad, cap, rfl, h1, h2, h3⟩ := h.open
  clear h
  by_cases p1 : mchk t c xs.length = 0
  · have b1 : (mchk t c xs.length != 0) = false := by simp [p1]
    by_cases p2 : dt < 0 ∨ dc < 0 ∨ 8 < dt ∨ 8 < dc
    · have HP := Lib.hid (gerr_2 p1 p2)
      clear p1
      go_enter Try.func20, Try.ntmps20
      go_wp2_with fail
      refine (mcheck_any _ _ _ xs _ (hs.below (ba2 _ _ _))).mono ?_
      rintro e w1 ⟨rfl, hb1⟩
      obtain ⟨c1, f1⟩ := bcell hb1
      obtain ⟨z0, z1⟩ := bsz2 hb1
      have hb := below_to (ba2 _ _ _) hb1
      go_wp2_with fail
      all_goals first | (exfalso; omega) | skip
      all_goals
        refine bodyPost_ret (v := .tuple #[.agg #[.int .i64 0, .int .i64 0, .slice none 0 0], .int .i64 2]) (by simp [results, Try.results20, go_sem, c1]) rfl ⟨.slice none 0 0, ?_, ?_, trivial, ?_⟩
        · rw [HP.out, zt_ne (by decide), zt_ne (by decide)]
        · rw [HP.out, zl_ne (by decide)]; exact sb_nil _
        · exact ((hb.setCell (by simp) _).setCell (by simp) _).setCell (by simp) _
    · have HZ := Lib.hid (gerr_3 p1 p2)
      obtain ⟨t1, t2, c1', c2', hn⟩ := mchk_ok p1
      clear p1
      obtain ⟨T, rfl⟩ := Int.eq_ofNat_of_zero_le (show 0 ≤ t by omega)
      obtain ⟨C, rfl⟩ := Int.eq_ofNat_of_zero_le (show 0 ≤ c by omega)
      rw [cast_mul] at hn
      have hn' : xs.length = T * C := by exact_mod_cast hn
      have hl : xs.length ≤ 512 := by rw [hn']; have := Nat.mul_le_mul (show T ≤ 32 by omega) (show C ≤ 16 by omega); omega
      have HN := Lib.hid hn'
      clear hn hn'
      rw [Int.toNat_natCast]
      have hmk := mk_bools xs.length (by omega)
      go_enter Try.func20, Try.ntmps20
      go_wp2_with fail
      refine (mcheck_any _ _ _ xs _ (hs.below (ba2 _ _ _))).mono ?_
      rintro e w1 ⟨rfl, hb1⟩
      obtain ⟨z0, z1⟩ := bsz2 hb1
      have hb := below_to (ba2 _ _ _) hb1
      have a0 : w1.cell? ⟨w.heap.size, 0, none⟩ = some (.int .i64 T) := below_cell hb1 (by simp [go_sem])
      have a1 : w1.cell? ⟨w.heap.size, 1, none⟩ = some (.int .i64 C) := below_cell hb1 (by simp [go_sem])
      have a2 : w1.cell? ⟨w.heap.size, 2, none⟩ = some (.slice ad xs.length cap) := below_cell hb1 (by simp [go_sem])
      have y0 : w1.cell? ⟨w.heap.size + 1, 0, none⟩ = some (.int .i64 0) := below_cell hb1 (by simp [go_sem])
      have y1 : w1.cell? ⟨w.heap.size + 1, 1, none⟩ = some (.int .i64 0) := below_cell hb1 (by simp [go_sem])
      have y2 : w1.cell? ⟨w.heap.size + 1, 2, none⟩ = some (.slice none 0 0) := below_cell hb1 (by simp [go_sem])
      have y3 : w1.frozen? ⟨w.heap.size + 1, 0, none⟩ = false := frozen_below hb1 (by simp) (by simp [go_sem])
      have y4 : w1.frozen? ⟨w.heap.size + 1, 1, none⟩ = false := frozen_below hb1 (by simp) (by simp [go_sem])
      have y5 : w1.frozen? ⟨w.heap.size + 1, 2, none⟩ = false := frozen_below hb1 (by simp) (by simp [go_sem])
      have n0 := World.new_ne w1 _ a0
      go_upto_region 6 with fail
      go_cut [9] (fun s wx => ∃ bx g : Nat, s = .pointer (some ⟨bx, 0, none⟩) ∧ w1.heap.size ≤ bx ∧ w1.heap.size ≤ g ∧ bx ≠ g ∧ Own wx bx 24 [.int .i64 T, .int .i64 C, .slice (some ⟨g, 0, none⟩) xs.length xs.length] ∧ Own wx g 4 (zeroB xs.length) ∧ Below w1.heap.size w1 wx)
      case first =>
        go_region_held3 (fun w' => w'.cell? ⟨w.heap.size, 0, none⟩ = some (.int .i64 T) ∧ w'.cell? ⟨w.heap.size, 1, none⟩ = some (.int .i64 C) ∧ w'.cell? ⟨w.heap.size, 2, none⟩ = some (.slice ad xs.length cap)) (go_keep) (fail)
        all_goals go_wp2_with fail
        · go_meet
          exact ⟨w1.heap.size + 1, w1.heap.size, rfl, by omega, by omega, by omega, (own_second w1 _ _ _).drew, (own_first w1 _ _ _).drew, (ba2 w1 _ _).drew⟩
        · go_meet
          exact ⟨w1.heap.size, w1.heap.size + 1, rfl, by omega, by omega, by omega, (own_first w1 _ _ _).drew, (own_second w1 _ _ _).drew, (ba2 w1 _ _).drew⟩
      case rest =>
        obtain ⟨bx, g, rfl, hbx, hg, hne, ob, og, hbw⟩ := hcut
        have hF : ∀ i (_ : i < xs.length), ∃ b off, ad = some ⟨b, off, none⟩ ∧ w1.cell? ⟨b, off + i, none⟩ = some (.bool xs[i]) := fun i hi => by
          obtain ⟨b, off, e, hc⟩ := h3.out i hi
          exact ⟨b, off, e, below_cell hb hc⟩
        have HF := Lib.hid hF
        clear hF h3 n0 hmk
        have q2 := below_cell hbw a2
        go_wp2
        go_loopw [49] (fun i wr => ∃ k : Nat, k ≤ xs.length ∧ i = .int .i64 k ∧ Own wr bx 24 [.int .i64 T, .int .i64 C, .slice (some ⟨g, 0, none⟩) xs.length xs.length] ∧ Own wr g 4 (bv xs.length (growB C xs dt dc k)) ∧ Below w1.heap.size w1 wr) (fun i _ => xs.length - (intOf i).toNat)
        case atStart => exact ⟨0, Nat.zero_le _, rfl, ob, by rw [← grow_zero]; exact og, hbw⟩
        case round =>
          clear ob og hbw q2
          obtain ⟨k, hk, rfl, ob, og, hbr⟩ := hrel
          have q0 := below_cell hbr a0
          have q1 := below_cell hbr a1
          have q2 := below_cell hbr a2
          by_cases hlt : k < xs.length
          · obtain ⟨b, off, rfl, hc⟩ := HF.out k hlt
            have qe := below_cell hbr hc
            by_cases hx : xs[k] = true
            · rw [hx] at qe
              have hc0 : ((C : Int) == 0) = false := by simp; omega
              have hkC : k / C < T := by rw [Nat.div_lt_iff_lt_mul (by omega), ← HN.out]; exact hlt
              have hkm : k % C < C := Nat.mod_lt _ (by omega)
              have hwq : wrap64 ((k : Int) / (C : Int)) = ((k / C : Nat) : Int) := by
                have hw : ∀ n : Nat, n < T → wrap64 (n : Int) = n := fun n hn => IntWalk.wrap64_in _ (by omega)
                rw [← Int.natCast_ediv]; exact hw _ hkC
              have hwr : (k : Int) % (C : Int) = ((k % C : Nat) : Int) := (Int.natCast_emod k C).symm
              have HWQ := Lib.hid hwq
              have HWR := Lib.hid hwr
              clear hwq hwr
              have hxk : xs.getD k false = true := by simp [hlt, hx]
              have HXK := Lib.hid hxk
              clear hxk
              go_wp2_with fail
              go_quiet (fail)
              rw [HWQ.out, HWR.out]
              have HTQ : Hid (∀ j, j < xs.length → j / C < T) := fun j hj => by rw [Nat.div_lt_iff_lt_mul (by omega), ← HN.out]; exact hj
              generalize hq : k / C = q at *
              generalize hr : k % C = r at *
              have HQ := Lib.hid hq
              have HR := Lib.hid hr
              clear hq hr HWQ HWR
              by_cases e1 : (q : Int) - dt ≤ 0
              all_goals by_cases e3 : (T : Int) - 1 ≤ (q : Int) + dt
              all_goals
                go_wp2
                go_loopw [14] (fun i wr => ∃ u : Nat, i = .int .i64 u ∧ (q : Int) - dt ≤ u ∧ u ≤ T ∧ (u : Int) ≤ (q : Int) + dt + 1 ∧ Own wr bx 24 [.int .i64 T, .int .i64 C, .slice (some ⟨g, 0, none⟩) xs.length xs.length] ∧ Own wr g 4 (bv xs.length (markB C xs dt dc k u 0)) ∧ Below w1.heap.size w1 wr) (fun i _ => T + 1 - (intOf i).toNat)
                case atStart =>
                  first
                    | exact ⟨0, rfl, by omega, by omega, by omega, ob, by
                        rw [bv_same _ _ (growB C xs dt dc k) fun j _ => mark_first (by omega) (by omega)]; exact og, bd hbr _⟩
                    | exact ⟨((q : Int) - dt).toNat, by go_num, by omega, by omega, by omega, ob, by
                        rw [bv_same _ _ (growB C xs dt dc k) fun j _ => mark_first (by rw [HQ.out]; omega) (by omega)]; exact og, bd hbr _⟩
                case round =>
                  clear ob og hbr q0 q1 q2
                  obtain ⟨u, rfl, u1, u2, u3, ob, og, hbr⟩ := hrel
                  obtain ⟨wo, rfl⟩ : ∃ wo : World, wo = wr := ⟨_, rfl⟩
                  have q0 := below_cell hbr a0
                  have q1 := below_cell hbr a1
                  have q2 := below_cell hbr a2
                  by_cases hlu : (u : Int) ≤ (T : Int) - 1 ∧ (u : Int) ≤ (q : Int) + dt
                  · obtain ⟨hl1, hl2⟩ := hlu
                    by_cases e2 : (r : Int) - dc ≤ 0
                    all_goals by_cases e4 : (C : Int) - 1 ≤ (r : Int) + dc
                    all_goals
                      go_wp2
                      go_loopw [15] (fun i wr => ∃ d : Nat, i = .int .i64 d ∧ (r : Int) - dc ≤ d ∧ d ≤ C ∧ (d : Int) ≤ (r : Int) + dc + 1 ∧ Own wr bx 24 [.int .i64 T, .int .i64 C, .slice (some ⟨g, 0, none⟩) xs.length xs.length] ∧ Own wr g 4 (bv xs.length (markB C xs dt dc k u d)) ∧ Below w1.heap.size w1 wr) (fun i _ => C + 1 - (intOf i).toNat)
                      case atStart =>
                        first
                          | exact ⟨0, rfl, by omega, by omega, by omega, ob, og, hbr⟩
                          | exact ⟨((r : Int) - dc).toNat, by go_num, by omega, by omega, by omega, ob, by
                              rw [bv_same _ _ (markB C xs dt dc k u 0) fun j _ => mark_start (by rw [HR.out]; omega) (by omega)]; exact og, hbr⟩
                      case round =>
                        clear ob og hbr q0 q1 q2
                        obtain ⟨d, rfl, v1, v2, v3, ob, og, hbr⟩ := hrel
                        have q0 := below_cell hbr a0
                        have q1 := below_cell hbr a1
                        by_cases hld : (d : Int) ≤ (C : Int) - 1 ∧ (d : Int) ≤ (r : Int) + dc
                        · obtain ⟨hl3, hl4⟩ := hld
                          have hix := idx_lt (show u < T by omega) (show d < C by omega)
                          rw [← HN.out] at hix
                          have hac : u * C ≤ 512 := by have := Nat.mul_le_mul (show u ≤ 32 by omega) (show C ≤ 16 by omega); omega
                          obtain ⟨p, hp⟩ : ∃ p, p = u * C + d := ⟨_, rfl⟩
                          have hk1 : (u : Int) * (C : Int) + (d : Int) = (p : Int) := by rw [cast_mul, hp]; omega
                          have hk2 : 0 ≤ (u : Int) * (C : Int) := by rw [cast_mul]; omega
                          have hk3 : (u : Int) * (C : Int) ≤ 512 := by rw [cast_mul]; omega
                          have hpn : p < xs.length := by omega
                          have HP := Lib.hid hp
                          clear hp hix hac
                          have q3 : wr.cell? ⟨bx, 2, none⟩ = some (.slice (some ⟨g, 0, none⟩) xs.length xs.length) := ob.cell 2 (by simp)
                          obtain ⟨old, q4⟩ : ∃ v, wr.cell? ⟨g, p, none⟩ = some v := ⟨_, og.cell p (by rw [bv_len]; exact hpn)⟩
                          have q5 := og.free p
                          have HS := Lib.hid (og.set p (.bool true))
                          have HB := Lib.hid (ob.other (show bx ≠ g from hne) p (.bool true))
                          have HRW := Lib.hid (hbr.setCell (p := ⟨g, p, none⟩) (by simpa using hg) (.bool true))
                          have HM : Hid ((bv xs.length (markB C xs dt dc k u d)).set p (.bool true) = bv xs.length (markB C xs dt dc k u ((d + 1 : Nat) : Int))) := by
                            refine bv_set _ _ _ p hpn fun j _ => ?_
                            rw [HP.out]
                            have := mark_step (C := C) (xs := xs) (dt := dt) (dc := dc) (k := k) (u := u) (d := d) (j := j) (by omega) (by rw [HQ.out]; omega) (by rw [HQ.out]; omega) (by rw [HR.out]; omega) (by rw [HR.out]; omega)
                            exact_mod_cast this
                          clear og ob hbr
                          go_wp2
                          go_roundw
                          case rel => exact ⟨d + 1, by go_num, by omega, by omega, by omega, HB.out, by rw [← HM.out]; exact HS.out, HRW.out⟩
                          case measure => simp [intOf]; omega
                        · have HM : Hid (bv xs.length (markB C xs dt dc k u d) = bv xs.length (markB C xs dt dc k ((u + 1 : Nat) : Int) 0)) := by
                            refine bv_same _ _ _ fun j _ => ?_
                            have := mark_row (C := C) (xs := xs) (dt := dt) (dc := dc) (k := k) (j := j) (u := u) (d := d) (by omega) (by rw [HR.out]; omega) 0 (by omega)
                            exact_mod_cast this
                          go_wp2
                          go_roundw
                          case rel => exact ⟨u + 1, by go_num, by omega, by omega, by omega, ob, by rw [← HM.out]; exact og, hbr⟩
                          case measure => simp [intOf]; omega
                  · have HM : Hid (bv xs.length (markB C xs dt dc k u 0) = bv xs.length (growB C xs dt dc (k + 1))) := by
                      refine bv_same _ _ _ fun j hj => ?_
                      exact mark_last (T := T) (HTQ.out j hj) HXK.out (by rw [HQ.out]; omega) (by omega)
                    go_wp2
                    go_roundw
                    case rel => exact ⟨k + 1, by omega, by go_num, ob, by rw [← HM.out]; exact og, hbr⟩
                    case measure => simp [intOf]; omega
            · have HS := Lib.hid (grow_skip C xs dt dc xs.length k hlt hx)
              have hx' : xs[k] = false := by simpa using hx
              rw [hx'] at qe
              clear hx hx'
              go_wp2
              go_roundw
              case rel => exact ⟨k + 1, by omega, by go_num, ob, by rw [← HS.out]; exact og, hbr⟩
              case measure => simp [intOf]; omega
          · have hk2 : k = xs.length := by omega
            have HK : Hid (bv xs.length (growB C xs dt dc k) = (growL C xs dt dc).map Value.bool) := by
              show _ = _
              rw [hk2]; rfl
            have k0 : wr.cell? ⟨bx, 0, none⟩ = some (.int .i64 T) := ob.cell 0 (by simp)
            have k1 : wr.cell? ⟨bx, 1, none⟩ = some (.int .i64 C) := ob.cell 1 (by simp)
            have k2 : wr.cell? ⟨bx, 2, none⟩ = some (.slice (some ⟨g, 0, none⟩) xs.length xs.length) := ob.cell 2 (by simp)
            have r0 := below_cell hbr y0
            have r1 := below_cell hbr y1
            have r2 := below_cell hbr y2
            have g0 := frozen_below hbr z1 y3
            have g1 := frozen_below hbr z1 y4
            have g2 := frozen_below hbr z1 y5
            clear hk2 HF
            go_wp2
            refine bodyPost_ret (v := .tuple #[.agg #[.int .i64 T, .int .i64 C, .slice (some ⟨g, 0, none⟩) xs.length xs.length], .int .i64 0]) (by simp [results, Try.results20, go_sem, r0, r1, r2]) rfl ⟨.slice (some ⟨g, 0, none⟩) xs.length xs.length, ?_, ?_, Nat.le_trans hb.size hg, ?_⟩
            · rw [HZ.out, zt_eq rfl, zt_eq rfl]
            · rw [HZ.out, zl_eq rfl]
              have h5 := og
              rw [HK.out] at h5
              have h6 := (((h5.other (g' := w.heap.size + 1) (by omega) 0 (.int .i64 T)).other (g' := w.heap.size + 1) (by omega) 1 (.int .i64 C)).other (g' := w.heap.size + 1) (by omega) 2 (.slice (some ⟨g, 0, none⟩) xs.length xs.length)).sl (n := xs.length) xs.length (Nat.le_refl _) (by omega) _ (List.prefix_refl _)
              unfold SB
              rw [growL_len]
              exact h6
            · exact (((below_to hb hbr).setCell (by simp) _).setCell (by simp) _).setCell (by simp) _
  · have b1 : (mchk t c xs.length != 0) = true := by simp [p1]
    have HP := Lib.hid (gerr_1 (dt := dt) (dc := dc) p1)
    have HZ := Lib.hid p1
    clear p1
    go_enter Try.func20, Try.ntmps20
    go_wp2_with fail
    refine (mcheck_any _ _ _ xs _ (hs.below (ba2 _ _ _))).mono ?_
    rintro e w1 ⟨rfl, hb1⟩
    obtain ⟨c1, f1⟩ := bcell hb1
    obtain ⟨z0, z1⟩ := bsz2 hb1
    have hb := below_to (ba2 _ _ _) hb1
    go_wp2
    refine bodyPost_ret (v := .tuple #[.agg #[.int .i64 0, .int .i64 0, .slice none 0 0], .int .i64 (mchk t c xs.length)]) (by simp [results, Try.results20, go_sem, c1]) rfl ⟨.slice none 0 0, ?_, ?_, trivial, ?_⟩
    · rw [HP.out, zt_ne HZ.out, zt_ne HZ.out]
    · rw [HP.out, zl_ne HZ.out]; exact sb_nil _
    · exact ((hb.setCell (by simp) _).setCell (by simp) _).setCell (by simp) _

end Go.Proofs.Ytpkggglifahioaa
