/- What is proved here: the contracts of flag.Join and flag.Both. Condition: the arguments are slices of bools that can be read, and 64-bit integers. -/
import Derived.Test.YtpkggglifahioaaFlagB
import Derived.Deep.DeepCutAuto
import Derived.StillTailTactics
namespace Go.Proofs.Ytpkggglifahioaa
open Go.RowKit

theorem Try.infoBool : (Try.prog.info? 4).map (fun i => (i.zero, i.size, i.bytes)) = some (some (.bool false), 1, 1) := by kernel_rfl

/-- n cells that hold false. -/
def zeroB (n : Nat) : List Value := (List.replicate n false).map Value.bool
theorem made_bools (n : Nat) : madeCells (Value.bool false).cells (n * 1) = (zeroB n).toArray := by
  apply Array.ext
  · simp [size_madeCells, zeroB]
  · intro i h1 h2
    simp [madeCells, Value.cells, Nat.mod_one, zeroB]
theorem mk_bools (n : Nat) (hn : n ≤ 100000) (w : World) : (Instr.makeSlice 22 (.int .i64 (n : Int)) (.int .i64 (n : Int))).run Try.prog w = .ok (.slice (some ⟨w.heap.size, 0, none⟩) n n) (w.alloc (.cells (zeroB n).toArray 4)) := by
  obtain ⟨i0, hi, hz0, hz1, hz2⟩ := info_parts Try.infoBool
  have h := run_make w 22 4 i0 (.bool false) Try.underlying22 hi hz0 .i64 .i64 (n : Int) (n : Int) (by omega) (by omega) (by rw [hz2]; omega) (by omega)
  rw [Int.toNat_natCast, hz1, made_bools] at h
  exact h

theorem or_any (x y : Bool) (w : World) : Calls Try.prog 39 #[.bool x, .bool y] w fun e w' => e = .returned (.bool (x || y)) ∧ w = w' := by
  cases x
  all_goals
    go_enter Try.func39, Try.ntmps39
    go_wp2
    go_ret
    exact ⟨by simp, rfl⟩
theorem and_any (x y : Bool) (w : World) : Calls Try.prog 41 #[.bool x, .bool y] w fun e w' => e = .returned (.bool (x && y)) ∧ w = w' := by
  cases x
  all_goals
    go_enter Try.func41, Try.ntmps41
    go_wp2
    go_ret
    exact ⟨by simp, rfl⟩

theorem sb_nil (w : World) : SB w (.slice none 0 0) [] := ⟨none, 0, rfl, Nat.le_refl _, by simp, fun i x hx => by simp at hx⟩
/-- With an error every result is zero. -/
def zt (err t : Int) : Int := if err = 0 then t else 0
def zl (err : Int) (zs : List Bool) : List Bool := if err = 0 then zs else []

theorem zt_ne {err t : Int} (h : err ≠ 0) : zt err t = 0 := if_neg h
theorem zt_eq {err t : Int} (h : err = 0) : zt err t = t := if_pos h
theorem zl_ne {err : Int} {zs : List Bool} (h : err ≠ 0) : zl err zs = [] := if_neg h
theorem zl_eq {err : Int} {zs : List Bool} (h : err = 0) : zl err zs = zs := if_pos h

theorem zip_get (f : Bool → Bool → Bool) (xs ys : List Bool) (k : Nat) (h : k < xs.length) (h' : k < ys.length) : (List.zipWith f xs ys)[k]? = some (f xs[k] ys[k]) := by
  rw [List.getElem?_zipWith]; simp [h, h']

set_option maxHeartbeats 1600000 in
theorem combine_or (t c t' c' : Int) (v v' : Value) (xs ys : List Bool) (w : World) (h : SB w v xs) (h' : SB w v' ys) :
    Calls Try.prog 38 #[.agg #[.int .i64 t, .int .i64 c, v], .agg #[.int .i64 t', .int .i64 c', v'], .func (.func 39) #[] #[]] w fun e w' =>
      ∃ u, e = .returned (.tuple #[.agg #[.int .i64 (zt (mpair t c xs.length t' c' ys.length) t), .int .i64 (zt (mpair t c xs.length t' c' ys.length) c), u], .int .i64 (mpair t c xs.length t' c' ys.length)]) ∧
        SB w' u (zl (mpair t c xs.length t' c' ys.length) (List.zipWith (· || ·) xs ys)) ∧ Frv w.heap.size u ∧ Below w.heap.size w w' := by
  have hs := h
  have hs' := h'
  obtain ⟨ad, cap, rfl, h1, h2, h3⟩ := h.open
  obtain ⟨ad', cap', rfl, h1', h2', h3'⟩ := h'.open
  clear h h'
  by_cases p1 : mchk t c xs.length = 0
  · have b1 : (mchk t c xs.length != 0) = false := by simp [p1]
    by_cases p2 : mchk t' c' ys.length = 0
    · have b2 : (mchk t' c' ys.length != 0) = false := by simp [p2]
      by_cases p3 : t = t' ∧ c = c'
      · have HZ := Lib.hid (mpair_4 p1 p2 p3)
        obtain ⟨t1, t2, c1', c2', hn⟩ := mchk_ok p1
        obtain ⟨_, _, _, _, hn'⟩ := mchk_ok p2
        obtain ⟨rfl, rfl⟩ := p3
        have hp := prod_bd t1 t2 c1' c2'
        have hl : xs.length ≤ 512 := by omega
        have hl2 : ys.length ≤ xs.length := by omega
        have hl3 : xs.length ≤ ys.length := by omega
        have b3 : (t != t) = false := by simp
        have b4 : (c != c) = false := by simp
        clear p1 p2 hn hn' hp
        have hmk := mk_bools xs.length (by omega)
        go_enter Try.func38, Try.ntmps38
        go_wp2_with fail
        refine (mcheck_any _ _ _ xs _ (hs.below (ba3 _ _ _ _))).mono ?_
        rintro e w1 ⟨rfl, hb1⟩
        obtain ⟨c1, f1⟩ := bcell hb1
        obtain ⟨z0, z1, z2⟩ := bsz3 hb1
        have hb := below_to (ba3 _ _ _ _) hb1
        go_wp2_with fail
        refine (mcheck_any _ _ _ ys _ (hs'.below hb)).mono ?_
        rintro e w2 ⟨rfl, hb2⟩
        obtain ⟨c2, f2⟩ := bcell hb2
        have hbb := below_to hb hb2
        have a0 : w2.cell? ⟨w.heap.size, 0, none⟩ = some (.int .i64 t) := below_cell hb2 (below_cell hb1 (by simp [go_sem]))
        have a1 : w2.cell? ⟨w.heap.size, 1, none⟩ = some (.int .i64 c) := below_cell hb2 (below_cell hb1 (by simp [go_sem]))
        have a5 : w2.cell? ⟨w.heap.size + 1, 2, none⟩ = some (.slice ad' ys.length cap') := below_cell hb2 (below_cell hb1 (by simp [go_sem]))
        have a2 : w2.cell? ⟨w.heap.size, 2, none⟩ = some (.slice ad xs.length cap) := below_cell hb2 (below_cell hb1 (by simp [go_sem]))
        have y0 : w2.cell? ⟨w.heap.size + 1 + 1, 0, none⟩ = some (.int .i64 0) := below_cell hb2 (below_cell hb1 (by simp [go_sem]))
        have y1 : w2.cell? ⟨w.heap.size + 1 + 1, 1, none⟩ = some (.int .i64 0) := below_cell hb2 (below_cell hb1 (by simp [go_sem]))
        have y2 : w2.cell? ⟨w.heap.size + 1 + 1, 2, none⟩ = some (.slice none 0 0) := below_cell hb2 (below_cell hb1 (by simp [go_sem]))
        have y3 : w2.frozen? ⟨w.heap.size + 1 + 1, 0, none⟩ = false := frozen_below hb2 z2 (frozen_below hb1 (by simp) (by simp [go_sem]))
        have y4 : w2.frozen? ⟨w.heap.size + 1 + 1, 1, none⟩ = false := frozen_below hb2 z2 (frozen_below hb1 (by simp) (by simp [go_sem]))
        have y5 : w2.frozen? ⟨w.heap.size + 1 + 1, 2, none⟩ = false := frozen_below hb2 z2 (frozen_below hb1 (by simp) (by simp [go_sem]))
        have yl : w.heap.size + 1 + 1 < w2.heap.size := lt_below hb2 z2
        have n0 := World.new_ne w2 _ a0
        go_upto_region 9 with fail
        clear c1 c2 f1 f2 z0 z1 z2
        go_cut [10] (fun s wx => ∃ bx g : Nat, s = .pointer (some ⟨bx, 0, none⟩) ∧ w2.heap.size ≤ bx ∧ w2.heap.size ≤ g ∧ bx ≠ g ∧ Own wx bx 24 [.int .i64 t, .int .i64 c, .slice (some ⟨g, 0, none⟩) xs.length xs.length] ∧ Own wx g 4 (zeroB xs.length) ∧ Below w2.heap.size w2 wx)
        case first =>
          go_region_held3 (fun w' => w'.cell? ⟨w.heap.size, 0, none⟩ = some (.int .i64 t) ∧ w'.cell? ⟨w.heap.size, 1, none⟩ = some (.int .i64 c) ∧ w'.cell? ⟨w.heap.size, 2, none⟩ = some (.slice ad xs.length cap)) (go_keep) (fail)
          all_goals go_wp2_with fail
          · go_meet
            exact ⟨w2.heap.size + 1, w2.heap.size, rfl, by omega, by omega, by omega, (own_second w2 _ _ _).drew, (own_first w2 _ _ _).drew, (ba2 w2 _ _).drew⟩
          · go_meet
            exact ⟨w2.heap.size, w2.heap.size + 1, rfl, by omega, by omega, by omega, (own_first w2 _ _ _).drew, (own_second w2 _ _ _).drew, (ba2 w2 _ _).drew⟩
        case rest =>
          obtain ⟨bx, g, rfl, hbx, hg, hne, ob, og, hbw⟩ := hcut
          have hF : ∀ i (_ : i < xs.length), ∃ b off, ad = some ⟨b, off, none⟩ ∧ w2.cell? ⟨b, off + i, none⟩ = some (.bool xs[i]) := fun i hi => by
            obtain ⟨b, off, e, hc⟩ := h3.out i hi
            exact ⟨b, off, e, below_cell hbb hc⟩
          have hF' : ∀ i (_ : i < ys.length), ∃ b off, ad' = some ⟨b, off, none⟩ ∧ w2.cell? ⟨b, off + i, none⟩ = some (.bool ys[i]) := fun i hi => by
            obtain ⟨b, off, e, hc⟩ := h3'.out i hi
            exact ⟨b, off, e, below_cell hbb hc⟩
          have HF := Lib.hid hF
          have HF' := Lib.hid hF'
          clear hF hF' h3 h3' n0 hmk
          have k2 : wc.cell? ⟨bx, 2, none⟩ = some (.slice (some ⟨g, 0, none⟩) xs.length xs.length) := ob.cell 2 (by simp)
          go_wp2
          go_loopw [49] (fun i wr => ∃ k : Nat, k ≤ xs.length ∧ i = .int .i64 k ∧ Own wr bx 24 [.int .i64 t, .int .i64 c, .slice (some ⟨g, 0, none⟩) xs.length xs.length] ∧ Own wr g 4 (((List.zipWith (· || ·) xs ys).take k ++ List.replicate (xs.length - k) false).map Value.bool) ∧ Below w2.heap.size w2 wr) (fun i _ => xs.length - (intOf i).toNat)
          case atStart => exact ⟨0, Nat.zero_le _, rfl, ob, by simpa [zeroB] using og, hbw⟩
          case round =>
            obtain ⟨k, hk, rfl, ob2, og2, hbr⟩ := hrel
            by_cases hlt : k < xs.length
            · obtain ⟨b, off, rfl, hc⟩ := HF.out k hlt
              obtain ⟨b', off', rfl, hc'⟩ := HF'.out k (by omega)
              have hlt' : k < ys.length := by omega
              clear HF HF'
              have q1 := below_cell hbr hc
              have q2 := below_cell hbr hc'
              have q3 := below_cell hbr a2
              have q4 := below_cell hbr a5
              have q5 : wr.cell? ⟨bx, 2, none⟩ = some (.slice (some ⟨g, 0, none⟩) xs.length xs.length) := ob2.cell 2 (by simp)
              obtain ⟨old, q6⟩ : ∃ v, wr.cell? ⟨g, k, none⟩ = some v := ⟨_, og2.cell k (by simp; omega)⟩
              have q7 := og2.free k
              have i1 : (0 : Int) ≤ (k : Int) := by omega
              have i2 : (k : Int) < (xs.length : Int) := by omega
              have i3 : (k : Int) < (ys.length : Int) := by omega
              have zip_len : (List.zipWith (· || ·) xs ys).length = xs.length := by rw [List.length_zipWith]; omega
              have HS := Lib.hid (og2.set k (.bool (xs[k] || ys[k])))
              have HB := Lib.hid (ob2.other (show bx ≠ g from hne) k (.bool (xs[k] || ys[k])))
              have HR := Lib.hid (hbr.setCell (p := ⟨g, k, none⟩) (by simpa using hg) (.bool (xs[k] || ys[k])))
              have d1 := World.block_lt_of_cell? w2 _ hc
              have d2 := World.block_lt_of_cell? w2 _ hc'
              have d3 := World.block_lt_of_cell? w2 _ a2
              have d4 := World.block_lt_of_cell? w2 _ a5
              simp only at d1 d2 d3 d4
              have s1 := cell_set q1 (p := ⟨g, k, none⟩) (by simp; omega) (.bool (xs[k] || ys[k]))
              have s2 := cell_set q2 (p := ⟨g, k, none⟩) (by simp; omega) (.bool (xs[k] || ys[k]))
              have s3 := cell_set q3 (p := ⟨g, k, none⟩) (by simp; omega) (.bool (xs[k] || ys[k]))
              have s4 := cell_set q4 (p := ⟨g, k, none⟩) (by simp; omega) (.bool (xs[k] || ys[k]))
              have s5 := cell_set q5 (p := ⟨g, k, none⟩) (by simpa using hne) (.bool (xs[k] || ys[k]))
              clear hc hc' k2 a0 a1 a2 a5
              have ZL := Lib.hid zip_len
              clear zip_len
              go_wp2_with fail
              go_region_held3 (fun w' => w'.cell? ⟨bx, 2, none⟩ = some (.slice (some ⟨g, 0, none⟩) xs.length xs.length) ∧ w'.cell? ⟨w.heap.size, 2, none⟩ = some (.slice (some ⟨b, off, none⟩) xs.length cap) ∧ w'.cell? ⟨w.heap.size + 1, 2, none⟩ = some (.slice (some ⟨b', off', none⟩) ys.length cap') ∧ w'.cell? ⟨b, off + k, none⟩ = some (.bool xs[k]) ∧ w'.cell? ⟨b', off' + k, none⟩ = some (.bool ys[k])) (first | exact ⟨s5, s3, s4, s1, s2⟩ | go_keep) (first | (go_at_call 39; refine (or_any _ _ _).mono ?_; rintro e w' ⟨rfl, rfl⟩))
              all_goals go_wp2
              go_roundw
              case rel =>
                refine ⟨k + 1, by omega, by go_num, HB.out.drew, ?_, HR.out.drew⟩
                have := HS.out
                rw [fill_set (List.zipWith (· || ·) xs ys) false Value.bool k xs.length ZL.out hlt (xs[k] || ys[k]) (zip_get (· || ·) xs ys k hlt hlt')] at this
                exact this.drew
              case measure => simp [intOf]; omega
            · have HK : Hid ((List.zipWith (· || ·) xs ys).take k ++ List.replicate (xs.length - k) false = List.zipWith (· || ·) xs ys) := by
                show _ = _
                rw [List.take_of_length_le (by simp; omega), show xs.length - k = 0 by omega]; simp
              have q0 : wr.cell? ⟨bx, 0, none⟩ = some (.int .i64 t) := ob2.cell 0 (by simp)
              have q1 : wr.cell? ⟨bx, 1, none⟩ = some (.int .i64 c) := ob2.cell 1 (by simp)
              have q2 : wr.cell? ⟨bx, 2, none⟩ = some (.slice (some ⟨g, 0, none⟩) xs.length xs.length) := ob2.cell 2 (by simp)
              have r0 := below_cell hbr y0
              have r1 := below_cell hbr y1
              have r2 := below_cell hbr y2
              have g0 := frozen_below hbr yl y3
              have g1 := frozen_below hbr yl y4
              have g2 := frozen_below hbr yl y5
              clear HF HF' k2
              go_wp2
              refine bodyPost_ret (v := .tuple #[.agg #[.int .i64 t, .int .i64 c, .slice (some ⟨g, 0, none⟩) xs.length xs.length], .int .i64 0]) (by simp [results, Try.results38, go_sem, r0, r1, r2]) rfl ⟨.slice (some ⟨g, 0, none⟩) xs.length xs.length, ?_, ?_, Nat.le_trans hbb.size hg, ?_⟩
              · rw [HZ.out, zt_eq rfl, zt_eq rfl]
              · rw [HZ.out, zl_eq rfl]
                have := og2
                rw [HK.out] at this
                have hz : (List.zipWith (· || ·) xs ys).length = xs.length := by simp; omega
                have h5 := (((this.other (g' := w.heap.size + 1 + 1) (by omega) 0 (.int .i64 t)).other (g' := w.heap.size + 1 + 1) (by omega) 1 (.int .i64 c)).other (g' := w.heap.size + 1 + 1) (by omega) 2 (.slice (some ⟨g, 0, none⟩) xs.length xs.length)).sl (n := xs.length) xs.length (Nat.le_refl _) (by omega) _ (List.prefix_refl _)
                unfold SB
                rw [hz]
                exact h5
              · exact (((below_to hbb hbr).setCell (by first | omega | (simp; omega)) _).setCell (by first | omega | (simp; omega)) _).setCell (by first | omega | (simp; omega)) _
      · have HP := Lib.hid (mpair_3 p1 p2 (by omega))
        clear p1 p2
        go_enter Try.func38, Try.ntmps38
        go_wp2_with fail
        refine (mcheck_any _ _ _ xs _ (hs.below (ba3 _ _ _ _))).mono ?_
        rintro e w1 ⟨rfl, hb1⟩
        obtain ⟨c1, f1⟩ := bcell hb1
        obtain ⟨z0, z1, z2⟩ := bsz3 hb1
        have hb := below_to (ba3 _ _ _ _) hb1
        go_wp2_with fail
        refine (mcheck_any _ _ _ ys _ (hs'.below hb)).mono ?_
        rintro e w2 ⟨rfl, hb2⟩
        obtain ⟨c2, f2⟩ := bcell hb2
        have hbb := below_to hb hb2
        have y0 : w.heap.size < w2.heap.size := lt_below hb2 z0
        have y1 : w.heap.size + 1 < w2.heap.size := lt_below hb2 z1
        have y2 : w.heap.size + 1 + 1 < w2.heap.size := lt_below hb2 z2
        by_cases q1 : t = t'
        · subst q1
          have q2 : ¬ c = c' := fun h => p3 ⟨rfl, h⟩
          have b3 : (t != t) = false := by simp
          have b4 : (c != c') = true := by simp [q2]
          go_wp2
          refine bodyPost_ret (v := .tuple #[.agg #[.int .i64 0, .int .i64 0, .slice none 0 0], .int .i64 2]) (by simp [results, Try.results38, go_sem, c1, c2, z2]) rfl ⟨.slice none 0 0, ?_, ?_, trivial, ?_⟩
          · rw [HP.out, zt_ne (by decide), zt_ne (by decide)]
          · rw [HP.out, zl_ne (by decide)]; exact sb_nil _
          · exact ((hbb.setCell (by simp; omega) _).setCell (by simp; omega) _).setCell (by simp; omega) _
        · have b3 : (t != t') = true := by simp [q1]
          go_wp2
          refine bodyPost_ret (v := .tuple #[.agg #[.int .i64 0, .int .i64 0, .slice none 0 0], .int .i64 2]) (by simp [results, Try.results38, go_sem, c1, c2, z2]) rfl ⟨.slice none 0 0, ?_, ?_, trivial, ?_⟩
          · rw [HP.out, zt_ne (by decide), zt_ne (by decide)]
          · rw [HP.out, zl_ne (by decide)]; exact sb_nil _
          · exact ((hbb.setCell (by simp; omega) _).setCell (by simp; omega) _).setCell (by simp; omega) _
    · have b2 : (mchk t' c' ys.length != 0) = true := by simp [p2]
      have HP := Lib.hid (mpair_2 p1 p2)
      have HZ := Lib.hid p2
      clear p1 p2
      go_enter Try.func38, Try.ntmps38
      go_wp2_with fail
      refine (mcheck_any _ _ _ xs _ (hs.below (ba3 _ _ _ _))).mono ?_
      rintro e w1 ⟨rfl, hb1⟩
      obtain ⟨c1, f1⟩ := bcell hb1
      obtain ⟨z0, z1, z2⟩ := bsz3 hb1
      have hb := below_to (ba3 _ _ _ _) hb1
      go_wp2_with fail
      refine (mcheck_any _ _ _ ys _ (hs'.below hb)).mono ?_
      rintro e w2 ⟨rfl, hb2⟩
      obtain ⟨c2, f2⟩ := bcell hb2
      have hbb := below_to hb hb2
      have y2 : w.heap.size + 1 + 1 < w2.heap.size := lt_below hb2 z2
      go_wp2
      refine bodyPost_ret (v := .tuple #[.agg #[.int .i64 0, .int .i64 0, .slice none 0 0], .int .i64 (mchk t' c' ys.length)]) (by simp [results, Try.results38, go_sem, c1, c2, z2]) rfl ⟨.slice none 0 0, ?_, ?_, trivial, ?_⟩
      · rw [HP.out, zt_ne HZ.out, zt_ne HZ.out]
      · rw [HP.out, zl_ne HZ.out]; exact sb_nil _
      · exact ((hbb.setCell (by simp; omega) _).setCell (by simp; omega) _).setCell (by simp; omega) _
  · have b1 : (mchk t c xs.length != 0) = true := by simp [p1]
    have HP := Lib.hid (mpair_1 (t' := t') (c' := c') (n' := ys.length) p1)
    have HZ := Lib.hid p1
    clear p1
    go_enter Try.func38, Try.ntmps38
    go_wp2_with fail
    refine (mcheck_any _ _ _ xs _ (hs.below (ba3 _ _ _ _))).mono ?_
    rintro e w1 ⟨rfl, hb1⟩
    obtain ⟨c1, f1⟩ := bcell hb1
    obtain ⟨z0, z1, z2⟩ := bsz3 hb1
    have hb := below_to (ba3 _ _ _ _) hb1
    go_wp2
    refine bodyPost_ret (v := .tuple #[.agg #[.int .i64 0, .int .i64 0, .slice none 0 0], .int .i64 (mchk t c xs.length)]) (by simp [results, Try.results38, go_sem, c1]) rfl ⟨.slice none 0 0, ?_, ?_, trivial, ?_⟩
    · rw [HP.out, zt_ne HZ.out, zt_ne HZ.out]
    · rw [HP.out, zl_ne HZ.out]; exact sb_nil _
    · exact ((hb.setCell (by simp; omega) _).setCell (by simp; omega) _).setCell (by simp; omega) _

set_option maxHeartbeats 1600000 in
theorem combine_and (t c t' c' : Int) (v v' : Value) (xs ys : List Bool) (w : World) (h : SB w v xs) (h' : SB w v' ys) :
    Calls Try.prog 38 #[.agg #[.int .i64 t, .int .i64 c, v], .agg #[.int .i64 t', .int .i64 c', v'], .func (.func 41) #[] #[]] w fun e w' =>
      ∃ u, e = .returned (.tuple #[.agg #[.int .i64 (zt (mpair t c xs.length t' c' ys.length) t), .int .i64 (zt (mpair t c xs.length t' c' ys.length) c), u], .int .i64 (mpair t c xs.length t' c' ys.length)]) ∧
        SB w' u (zl (mpair t c xs.length t' c' ys.length) (List.zipWith (· && ·) xs ys)) ∧ Frv w.heap.size u ∧ Below w.heap.size w w' := by
  have hs := h
  have hs' := h'
  obtain ⟨ad, cap, rfl, h1, h2, h3⟩ := h.open
  obtain ⟨ad', cap', rfl, h1', h2', h3'⟩ := h'.open
  clear h h'
  by_cases p1 : mchk t c xs.length = 0
  · have b1 : (mchk t c xs.length != 0) = false := by simp [p1]
    by_cases p2 : mchk t' c' ys.length = 0
    · have b2 : (mchk t' c' ys.length != 0) = false := by simp [p2]
      by_cases p3 : t = t' ∧ c = c'
      · have HZ := Lib.hid (mpair_4 p1 p2 p3)
        obtain ⟨t1, t2, c1', c2', hn⟩ := mchk_ok p1
        obtain ⟨_, _, _, _, hn'⟩ := mchk_ok p2
        obtain ⟨rfl, rfl⟩ := p3
        have hp := prod_bd t1 t2 c1' c2'
        have hl : xs.length ≤ 512 := by omega
        have hl2 : ys.length ≤ xs.length := by omega
        have hl3 : xs.length ≤ ys.length := by omega
        have b3 : (t != t) = false := by simp
        have b4 : (c != c) = false := by simp
        clear p1 p2 hn hn' hp
        have hmk := mk_bools xs.length (by omega)
        go_enter Try.func38, Try.ntmps38
        go_wp2_with fail
        refine (mcheck_any _ _ _ xs _ (hs.below (ba3 _ _ _ _))).mono ?_
        rintro e w1 ⟨rfl, hb1⟩
        obtain ⟨c1, f1⟩ := bcell hb1
        obtain ⟨z0, z1, z2⟩ := bsz3 hb1
        have hb := below_to (ba3 _ _ _ _) hb1
        go_wp2_with fail
        refine (mcheck_any _ _ _ ys _ (hs'.below hb)).mono ?_
        rintro e w2 ⟨rfl, hb2⟩
        obtain ⟨c2, f2⟩ := bcell hb2
        have hbb := below_to hb hb2
        have a0 : w2.cell? ⟨w.heap.size, 0, none⟩ = some (.int .i64 t) := below_cell hb2 (below_cell hb1 (by simp [go_sem]))
        have a1 : w2.cell? ⟨w.heap.size, 1, none⟩ = some (.int .i64 c) := below_cell hb2 (below_cell hb1 (by simp [go_sem]))
        have a5 : w2.cell? ⟨w.heap.size + 1, 2, none⟩ = some (.slice ad' ys.length cap') := below_cell hb2 (below_cell hb1 (by simp [go_sem]))
        have a2 : w2.cell? ⟨w.heap.size, 2, none⟩ = some (.slice ad xs.length cap) := below_cell hb2 (below_cell hb1 (by simp [go_sem]))
        have y0 : w2.cell? ⟨w.heap.size + 1 + 1, 0, none⟩ = some (.int .i64 0) := below_cell hb2 (below_cell hb1 (by simp [go_sem]))
        have y1 : w2.cell? ⟨w.heap.size + 1 + 1, 1, none⟩ = some (.int .i64 0) := below_cell hb2 (below_cell hb1 (by simp [go_sem]))
        have y2 : w2.cell? ⟨w.heap.size + 1 + 1, 2, none⟩ = some (.slice none 0 0) := below_cell hb2 (below_cell hb1 (by simp [go_sem]))
        have y3 : w2.frozen? ⟨w.heap.size + 1 + 1, 0, none⟩ = false := frozen_below hb2 z2 (frozen_below hb1 (by simp) (by simp [go_sem]))
        have y4 : w2.frozen? ⟨w.heap.size + 1 + 1, 1, none⟩ = false := frozen_below hb2 z2 (frozen_below hb1 (by simp) (by simp [go_sem]))
        have y5 : w2.frozen? ⟨w.heap.size + 1 + 1, 2, none⟩ = false := frozen_below hb2 z2 (frozen_below hb1 (by simp) (by simp [go_sem]))
        have yl : w.heap.size + 1 + 1 < w2.heap.size := lt_below hb2 z2
        have n0 := World.new_ne w2 _ a0
        go_upto_region 9 with fail
        clear c1 c2 f1 f2 z0 z1 z2
        go_cut [10] (fun s wx => ∃ bx g : Nat, s = .pointer (some ⟨bx, 0, none⟩) ∧ w2.heap.size ≤ bx ∧ w2.heap.size ≤ g ∧ bx ≠ g ∧ Own wx bx 24 [.int .i64 t, .int .i64 c, .slice (some ⟨g, 0, none⟩) xs.length xs.length] ∧ Own wx g 4 (zeroB xs.length) ∧ Below w2.heap.size w2 wx)
        case first =>
          go_region_held3 (fun w' => w'.cell? ⟨w.heap.size, 0, none⟩ = some (.int .i64 t) ∧ w'.cell? ⟨w.heap.size, 1, none⟩ = some (.int .i64 c) ∧ w'.cell? ⟨w.heap.size, 2, none⟩ = some (.slice ad xs.length cap)) (go_keep) (fail)
          all_goals go_wp2_with fail
          · go_meet
            exact ⟨w2.heap.size + 1, w2.heap.size, rfl, by omega, by omega, by omega, (own_second w2 _ _ _).drew, (own_first w2 _ _ _).drew, (ba2 w2 _ _).drew⟩
          · go_meet
            exact ⟨w2.heap.size, w2.heap.size + 1, rfl, by omega, by omega, by omega, (own_first w2 _ _ _).drew, (own_second w2 _ _ _).drew, (ba2 w2 _ _).drew⟩
        case rest =>
          obtain ⟨bx, g, rfl, hbx, hg, hne, ob, og, hbw⟩ := hcut
          have hF : ∀ i (_ : i < xs.length), ∃ b off, ad = some ⟨b, off, none⟩ ∧ w2.cell? ⟨b, off + i, none⟩ = some (.bool xs[i]) := fun i hi => by
            obtain ⟨b, off, e, hc⟩ := h3.out i hi
            exact ⟨b, off, e, below_cell hbb hc⟩
          have hF' : ∀ i (_ : i < ys.length), ∃ b off, ad' = some ⟨b, off, none⟩ ∧ w2.cell? ⟨b, off + i, none⟩ = some (.bool ys[i]) := fun i hi => by
            obtain ⟨b, off, e, hc⟩ := h3'.out i hi
            exact ⟨b, off, e, below_cell hbb hc⟩
          have HF := Lib.hid hF
          have HF' := Lib.hid hF'
          clear hF hF' h3 h3' n0 hmk
          have k2 : wc.cell? ⟨bx, 2, none⟩ = some (.slice (some ⟨g, 0, none⟩) xs.length xs.length) := ob.cell 2 (by simp)
          go_wp2
          go_loopw [49] (fun i wr => ∃ k : Nat, k ≤ xs.length ∧ i = .int .i64 k ∧ Own wr bx 24 [.int .i64 t, .int .i64 c, .slice (some ⟨g, 0, none⟩) xs.length xs.length] ∧ Own wr g 4 (((List.zipWith (· && ·) xs ys).take k ++ List.replicate (xs.length - k) false).map Value.bool) ∧ Below w2.heap.size w2 wr) (fun i _ => xs.length - (intOf i).toNat)
          case atStart => exact ⟨0, Nat.zero_le _, rfl, ob, by simpa [zeroB] using og, hbw⟩
          case round =>
            obtain ⟨k, hk, rfl, ob2, og2, hbr⟩ := hrel
            by_cases hlt : k < xs.length
            · obtain ⟨b, off, rfl, hc⟩ := HF.out k hlt
              obtain ⟨b', off', rfl, hc'⟩ := HF'.out k (by omega)
              have hlt' : k < ys.length := by omega
              clear HF HF'
              have q1 := below_cell hbr hc
              have q2 := below_cell hbr hc'
              have q3 := below_cell hbr a2
              have q4 := below_cell hbr a5
              have q5 : wr.cell? ⟨bx, 2, none⟩ = some (.slice (some ⟨g, 0, none⟩) xs.length xs.length) := ob2.cell 2 (by simp)
              obtain ⟨old, q6⟩ : ∃ v, wr.cell? ⟨g, k, none⟩ = some v := ⟨_, og2.cell k (by simp; omega)⟩
              have q7 := og2.free k
              have i1 : (0 : Int) ≤ (k : Int) := by omega
              have i2 : (k : Int) < (xs.length : Int) := by omega
              have i3 : (k : Int) < (ys.length : Int) := by omega
              have zip_len : (List.zipWith (· && ·) xs ys).length = xs.length := by rw [List.length_zipWith]; omega
              have HS := Lib.hid (og2.set k (.bool (xs[k] && ys[k])))
              have HB := Lib.hid (ob2.other (show bx ≠ g from hne) k (.bool (xs[k] && ys[k])))
              have HR := Lib.hid (hbr.setCell (p := ⟨g, k, none⟩) (by simpa using hg) (.bool (xs[k] && ys[k])))
              have d1 := World.block_lt_of_cell? w2 _ hc
              have d2 := World.block_lt_of_cell? w2 _ hc'
              have d3 := World.block_lt_of_cell? w2 _ a2
              have d4 := World.block_lt_of_cell? w2 _ a5
              simp only at d1 d2 d3 d4
              have s1 := cell_set q1 (p := ⟨g, k, none⟩) (by simp; omega) (.bool (xs[k] && ys[k]))
              have s2 := cell_set q2 (p := ⟨g, k, none⟩) (by simp; omega) (.bool (xs[k] && ys[k]))
              have s3 := cell_set q3 (p := ⟨g, k, none⟩) (by simp; omega) (.bool (xs[k] && ys[k]))
              have s4 := cell_set q4 (p := ⟨g, k, none⟩) (by simp; omega) (.bool (xs[k] && ys[k]))
              have s5 := cell_set q5 (p := ⟨g, k, none⟩) (by simpa using hne) (.bool (xs[k] && ys[k]))
              clear hc hc' k2 a0 a1 a2 a5
              have ZL := Lib.hid zip_len
              clear zip_len
              go_wp2_with fail
              go_region_held3 (fun w' => w'.cell? ⟨bx, 2, none⟩ = some (.slice (some ⟨g, 0, none⟩) xs.length xs.length) ∧ w'.cell? ⟨w.heap.size, 2, none⟩ = some (.slice (some ⟨b, off, none⟩) xs.length cap) ∧ w'.cell? ⟨w.heap.size + 1, 2, none⟩ = some (.slice (some ⟨b', off', none⟩) ys.length cap') ∧ w'.cell? ⟨b, off + k, none⟩ = some (.bool xs[k]) ∧ w'.cell? ⟨b', off' + k, none⟩ = some (.bool ys[k])) (first | exact ⟨s5, s3, s4, s1, s2⟩ | go_keep) (first | (go_at_call 41; refine (and_any _ _ _).mono ?_; rintro e w' ⟨rfl, rfl⟩))
              all_goals go_wp2
              go_roundw
              case rel =>
                refine ⟨k + 1, by omega, by go_num, HB.out.drew, ?_, HR.out.drew⟩
                have := HS.out
                rw [fill_set (List.zipWith (· && ·) xs ys) false Value.bool k xs.length ZL.out hlt (xs[k] && ys[k]) (zip_get (· && ·) xs ys k hlt hlt')] at this
                exact this.drew
              case measure => simp [intOf]; omega
            · have HK : Hid ((List.zipWith (· && ·) xs ys).take k ++ List.replicate (xs.length - k) false = List.zipWith (· && ·) xs ys) := by
                show _ = _
                rw [List.take_of_length_le (by simp; omega), show xs.length - k = 0 by omega]; simp
              have q0 : wr.cell? ⟨bx, 0, none⟩ = some (.int .i64 t) := ob2.cell 0 (by simp)
              have q1 : wr.cell? ⟨bx, 1, none⟩ = some (.int .i64 c) := ob2.cell 1 (by simp)
              have q2 : wr.cell? ⟨bx, 2, none⟩ = some (.slice (some ⟨g, 0, none⟩) xs.length xs.length) := ob2.cell 2 (by simp)
              have r0 := below_cell hbr y0
              have r1 := below_cell hbr y1
              have r2 := below_cell hbr y2
              have g0 := frozen_below hbr yl y3
              have g1 := frozen_below hbr yl y4
              have g2 := frozen_below hbr yl y5
              clear HF HF' k2
              go_wp2
              refine bodyPost_ret (v := .tuple #[.agg #[.int .i64 t, .int .i64 c, .slice (some ⟨g, 0, none⟩) xs.length xs.length], .int .i64 0]) (by simp [results, Try.results38, go_sem, r0, r1, r2]) rfl ⟨.slice (some ⟨g, 0, none⟩) xs.length xs.length, ?_, ?_, Nat.le_trans hbb.size hg, ?_⟩
              · rw [HZ.out, zt_eq rfl, zt_eq rfl]
              · rw [HZ.out, zl_eq rfl]
                have := og2
                rw [HK.out] at this
                have hz : (List.zipWith (· && ·) xs ys).length = xs.length := by simp; omega
                have h5 := (((this.other (g' := w.heap.size + 1 + 1) (by omega) 0 (.int .i64 t)).other (g' := w.heap.size + 1 + 1) (by omega) 1 (.int .i64 c)).other (g' := w.heap.size + 1 + 1) (by omega) 2 (.slice (some ⟨g, 0, none⟩) xs.length xs.length)).sl (n := xs.length) xs.length (Nat.le_refl _) (by omega) _ (List.prefix_refl _)
                unfold SB
                rw [hz]
                exact h5
              · exact (((below_to hbb hbr).setCell (by first | omega | (simp; omega)) _).setCell (by first | omega | (simp; omega)) _).setCell (by first | omega | (simp; omega)) _
      · have HP := Lib.hid (mpair_3 p1 p2 (by omega))
        clear p1 p2
        go_enter Try.func38, Try.ntmps38
        go_wp2_with fail
        refine (mcheck_any _ _ _ xs _ (hs.below (ba3 _ _ _ _))).mono ?_
        rintro e w1 ⟨rfl, hb1⟩
        obtain ⟨c1, f1⟩ := bcell hb1
        obtain ⟨z0, z1, z2⟩ := bsz3 hb1
        have hb := below_to (ba3 _ _ _ _) hb1
        go_wp2_with fail
        refine (mcheck_any _ _ _ ys _ (hs'.below hb)).mono ?_
        rintro e w2 ⟨rfl, hb2⟩
        obtain ⟨c2, f2⟩ := bcell hb2
        have hbb := below_to hb hb2
        have y0 : w.heap.size < w2.heap.size := lt_below hb2 z0
        have y1 : w.heap.size + 1 < w2.heap.size := lt_below hb2 z1
        have y2 : w.heap.size + 1 + 1 < w2.heap.size := lt_below hb2 z2
        by_cases q1 : t = t'
        · subst q1
          have q2 : ¬ c = c' := fun h => p3 ⟨rfl, h⟩
          have b3 : (t != t) = false := by simp
          have b4 : (c != c') = true := by simp [q2]
          go_wp2
          refine bodyPost_ret (v := .tuple #[.agg #[.int .i64 0, .int .i64 0, .slice none 0 0], .int .i64 2]) (by simp [results, Try.results38, go_sem, c1, c2, z2]) rfl ⟨.slice none 0 0, ?_, ?_, trivial, ?_⟩
          · rw [HP.out, zt_ne (by decide), zt_ne (by decide)]
          · rw [HP.out, zl_ne (by decide)]; exact sb_nil _
          · exact ((hbb.setCell (by simp; omega) _).setCell (by simp; omega) _).setCell (by simp; omega) _
        · have b3 : (t != t') = true := by simp [q1]
          go_wp2
          refine bodyPost_ret (v := .tuple #[.agg #[.int .i64 0, .int .i64 0, .slice none 0 0], .int .i64 2]) (by simp [results, Try.results38, go_sem, c1, c2, z2]) rfl ⟨.slice none 0 0, ?_, ?_, trivial, ?_⟩
          · rw [HP.out, zt_ne (by decide), zt_ne (by decide)]
          · rw [HP.out, zl_ne (by decide)]; exact sb_nil _
          · exact ((hbb.setCell (by simp; omega) _).setCell (by simp; omega) _).setCell (by simp; omega) _
    · have b2 : (mchk t' c' ys.length != 0) = true := by simp [p2]
      have HP := Lib.hid (mpair_2 p1 p2)
      have HZ := Lib.hid p2
      clear p1 p2
      go_enter Try.func38, Try.ntmps38
      go_wp2_with fail
      refine (mcheck_any _ _ _ xs _ (hs.below (ba3 _ _ _ _))).mono ?_
      rintro e w1 ⟨rfl, hb1⟩
      obtain ⟨c1, f1⟩ := bcell hb1
      obtain ⟨z0, z1, z2⟩ := bsz3 hb1
      have hb := below_to (ba3 _ _ _ _) hb1
      go_wp2_with fail
      refine (mcheck_any _ _ _ ys _ (hs'.below hb)).mono ?_
      rintro e w2 ⟨rfl, hb2⟩
      obtain ⟨c2, f2⟩ := bcell hb2
      have hbb := below_to hb hb2
      have y2 : w.heap.size + 1 + 1 < w2.heap.size := lt_below hb2 z2
      go_wp2
      refine bodyPost_ret (v := .tuple #[.agg #[.int .i64 0, .int .i64 0, .slice none 0 0], .int .i64 (mchk t' c' ys.length)]) (by simp [results, Try.results38, go_sem, c1, c2, z2]) rfl ⟨.slice none 0 0, ?_, ?_, trivial, ?_⟩
      · rw [HP.out, zt_ne HZ.out, zt_ne HZ.out]
      · rw [HP.out, zl_ne HZ.out]; exact sb_nil _
      · exact ((hbb.setCell (by simp; omega) _).setCell (by simp; omega) _).setCell (by simp; omega) _
  · have b1 : (mchk t c xs.length != 0) = true := by simp [p1]
    have HP := Lib.hid (mpair_1 (t' := t') (c' := c') (n' := ys.length) p1)
    have HZ := Lib.hid p1
    clear p1
    go_enter Try.func38, Try.ntmps38
    go_wp2_with fail
    refine (mcheck_any _ _ _ xs _ (hs.below (ba3 _ _ _ _))).mono ?_
    rintro e w1 ⟨rfl, hb1⟩
    obtain ⟨c1, f1⟩ := bcell hb1
    obtain ⟨z0, z1, z2⟩ := bsz3 hb1
    have hb := below_to (ba3 _ _ _ _) hb1
    go_wp2
    refine bodyPost_ret (v := .tuple #[.agg #[.int .i64 0, .int .i64 0, .slice none 0 0], .int .i64 (mchk t c xs.length)]) (by simp [results, Try.results38, go_sem, c1]) rfl ⟨.slice none 0 0, ?_, ?_, trivial, ?_⟩
    · rw [HP.out, zt_ne HZ.out, zt_ne HZ.out]
    · rw [HP.out, zl_ne HZ.out]; exact sb_nil _
    · exact ((hb.setCell (by simp; omega) _).setCell (by simp; omega) _).setCell (by simp; omega) _

end Go.Proofs.Ytpkggglifahioaa
