/- What is proved here: the contract of flag.fill. Condition: the mask is valid and the fraction is a part. -/
import Derived.Test.YtpkggglifahioaaFillA
import Derived.Test.YtpkggglifahioaaFloat
import Derived.Test.YtpkggglifahioaaFlagH
import Derived.Test.YtpkggglifahioaaShelfFlag
import Derived.Deep.DeepCutAuto
namespace Go.Proofs.Ytpkggglifahioaa
open Go.RowKit

theorem Try.infoInt : (Try.prog.info? 3).map (fun i => (i.zero, i.size, i.bytes)) = some (some (.int .i64 0), 1, 8) := by kernel_rfl
theorem made_ints (n : Nat) : madeCells (Value.int .i64 0).cells (n * 1) = (iv n (fun _ => 0)).toArray := by
  apply Array.ext
  · simp [size_madeCells, iv]
  · intro i h1 h2
    simp [madeCells, Value.cells, Nat.mod_one, iv]
theorem mk_ints (n : Nat) (hn : n ≤ 100000) (w : World) : (Instr.makeSlice 50 (.int .i64 (n : Int)) (.int .i64 (n : Int))).run Try.prog w = .ok (.slice (some ⟨w.heap.size, 0, none⟩) n n) (w.alloc (.cells (iv n (fun _ => 0)).toArray 3)) := by
  obtain ⟨i0, hi, hz0, hz1, hz2⟩ := info_parts Try.infoInt
  have h := run_make w 50 3 i0 (.int .i64 0) Try.underlying50 hi hz0 .i64 .i64 (n : Int) (n : Int) (by omega) (by omega) (by rw [hz2]; omega) (by omega)
  rw [Int.toNat_natCast, hz1, made_ints] at h
  exact h
theorem Own.new' (W : World) (k : Nat) (T : TypeId) (cs : List Value) (h : W.heap.size = k) : Own (W.alloc (.cells cs.toArray T (0, 0))) k T cs := by subst h; exact Own.new W T cs
theorem Try.zBool (w : World) : (Go.sizeOf 4).run Try.prog w = .ok 1 w := by kernel_rfl
theorem clone_any (v : Value) (xs : List Bool) (w : World) (h : SB w v xs) (hl : xs.length ≤ 100000) (hp : 0 < xs.length) :
    Calls Try.prog 49 #[v] w fun e w' => ∃ u, e = .returned u ∧ w'.ownsRow w.heap.size 4 1 u xs.length (xs.map Value.bool) ∧ Below w.heap.size w w' := by
  obtain ⟨ad, cap, rfl, q1, q2, q3⟩ := h.open
  obtain ⟨b, off, rfl, _⟩ := q3.out 0 hp
  obtain ⟨i0, hi, hz0, hz1, hz2⟩ := info_parts Try.infoBool
  refine (Try.slices_Clone i0 (.bool false) 1 1 hi hz0 hz1 hz2 rfl (by omega) Try.zBool b off xs.length cap (xs.map Value.bool) w (by simp) (by unfold maxLen; omega) (by omega) (fun j u hj => ?_) (one_bools xs)).mono ?_
  · rw [List.getElem?_map] at hj
    rcases Nat.lt_or_ge j xs.length with hj' | hj'
    · obtain ⟨b', off', e, hc⟩ := q3.out j hj'
      cases e
      rw [List.getElem?_eq_getElem hj'] at hj
      simp only [Option.map_some, Option.some.injEq] at hj
      subst hj
      exact hc
    · rw [List.getElem?_eq_none hj'] at hj; cases hj
  · rintro e w' ⟨u, rfl, hu, _, hb⟩
    exact ⟨u, rfl, hu, hb⟩

theorem getD_lt {xs : List Bool} {k : Nat} (h : k < xs.length) : xs.getD k false = xs[k] := by simp [h]

/-- A row of the call's own that is not empty, as a block known whole. -/
theorem owns_own {w : World} {B : Nat} {T : TypeId} {v : Value} {n : Nat} {cs : List Value} (h : w.ownsRow B T 1 v n cs) (hn : 0 < n) :
    ∃ g cap js, v = .slice (some ⟨g, 0, none⟩) n cap ∧ B ≤ g ∧ n ≤ cap ∧ Own w g T (cs ++ js) := by
  obtain ⟨hl, h2⟩ := h
  rcases h2 with ⟨_, h2⟩ | ⟨g, cap, cur, rfl, hg, hh, hc, hm, hsz, ht⟩
  · omega
  · refine ⟨g, cap, cur.toList.drop (n * 1), rfl, hg, hc, ?_⟩
    unfold Own
    rw [← ht, List.take_append_drop]
    exact hh
theorem Own.ne {w : World} {g b : Nat} {T T' : TypeId} {cs ds : List Value} (h : Own w g T cs) (h' : Own w b T' ds) (hT : T ≠ T') : b ≠ g := by
  rintro rfl
  unfold Own at h h'
  rw [h] at h'
  simp only [Option.some.injEq, Obj.cells.injEq] at h'
  exact hT h'.2.1
theorem bv_xs (xs : List Bool) : xs.map Value.bool = bv xs.length (fun j => xs.getD j false) := by
  unfold bv
  congr 1
  apply List.ext_getElem
  · simp
  · intro i h1 h2
    simp [h1]
theorem bv_at (n : Nat) (f : Nat → Bool) (js : List Value) (k : Nat) (hk : k < n) : (bv n f ++ js)[k]? = some (.bool (f k)) := by
  rw [List.getElem?_append_left (by rw [bv_len]; exact hk)]
  simp [bv, hk]
theorem bv_put (n : Nat) (f g : Nat → Bool) (js : List Value) (p : Nat) (hp : p < n) (h : ∀ j, j < n → g j = (f j || j == p)) : (bv n f ++ js).set p (.bool true) = bv n g ++ js := by
  rw [List.set_append_left _ _ (by rw [bv_len]; exact hp), bv_set n f g p hp h]
/-- The cells after k of them were filled. -/
def fk (T C : Nat) (xs : List Bool) (fn fd : Int) (k j : Nat) : Bool := xs.getD j false || (decide (j < k) && fillB T C xs fn fd j)
theorem fk_zero (T C : Nat) (xs : List Bool) (fn fd : Int) : bv xs.length (fun j => xs.getD j false) = bv xs.length (fk T C xs fn fd 0) := bv_same _ _ _ fun j _ => by simp [fk]
theorem fk_yes {T C : Nat} {xs : List Bool} {fn fd : Int} {k : Nat} (h : (enB fn fd (cnt xs (· / C) (k / C) xs.length) C || enB fn fd (cnt xs (· % C) (k % C) xs.length) T) = true) (j : Nat) : fk T C xs fn fd (k + 1) j = (fk T C xs fn fd k j || j == k) := by
  unfold fk
  by_cases hj : j = k
  · subst hj
    have : fillB T C xs fn fd j = true := by unfold fillB; rw [Bool.or_assoc, h]; simp
    simp [this]
  · have e : decide (j < k + 1) = decide (j < k) := decide_eq_decide.2 (by omega)
    have e2 : (j == k) = false := by simpa using hj
    rw [e, e2, Bool.or_false]
theorem fk_no {T C : Nat} {xs : List Bool} {fn fd : Int} {k : Nat} (h : (enB fn fd (cnt xs (· / C) (k / C) xs.length) C || enB fn fd (cnt xs (· % C) (k % C) xs.length) T) = false) (j : Nat) : fk T C xs fn fd (k + 1) j = fk T C xs fn fd k j := by
  unfold fk
  by_cases hj : j = k
  · subst hj
    have : fillB T C xs fn fd j = xs.getD j false := by unfold fillB; rw [Bool.or_assoc, h]; simp
    rw [this]; cases xs.getD j false <;> simp
  · have e : decide (j < k + 1) = decide (j < k) := decide_eq_decide.2 (by omega)
    rw [e]
theorem fk_end (T C : Nat) (xs : List Bool) (fn fd : Int) : bv xs.length (fk T C xs fn fd xs.length) = (fillL T C xs fn fd).map Value.bool := by
  unfold bv fillL
  congr 1
  refine List.map_congr_left fun j hj => ?_
  have := List.mem_range.1 hj
  unfold fk fillB
  simp only [this, decide_true, Bool.true_and]
  cases xs.getD j false <;> simp

set_option maxRecDepth 100000 in
set_option maxHeartbeats 16000000 in
theorem fill_any (T C : Nat) (v : Value) (xs : List Bool) (fn fd : Int) (w : World) (h : SB w v xs) (hT : 1 ≤ T) (hT2 : T ≤ 32) (hC : 1 ≤ C) (hC2 : C ≤ 16) (hn : xs.length = T * C) (hp : prtB fn fd = true) :
    Calls Try.prog 47 #[.agg #[.int .i64 T, .int .i64 C, v], .agg #[.int .i64 fn, .int .i64 fd]] w fun e w' =>
      ∃ u, e = .returned (.agg #[.int .i64 T, .int .i64 C, u]) ∧ SB w' u (fillL T C xs fn fd) ∧ Frv w.heap.size u ∧ Below w.heap.size w w' := by
  have hs := h
  obtain ⟨ad, cap, rfl, h1, h2, h3⟩ := h.open
  clear h
  have hl : xs.length ≤ 512 := by rw [hn]; have := Nat.mul_le_mul hT2 hC2; omega
  have hl1 : 1 ≤ xs.length := by rw [hn]; have := Nat.mul_le_mul hT hC; omega
  have HN := Lib.hid hn
  clear hn
  obtain ⟨p1', p2', p3⟩ := prt_ok hp
  have p4 : 0 ≤ fd := by omega
  clear p1' p2'
  have hmk1 := mk_ints T (by omega)
  have hmk2 := mk_ints C (by omega)
  go_enter Try.func47, Try.ntmps47
  go_wp2
  clear hmk1 hmk2
  go_loopw [22] (fun i wr => ∃ k : Nat, k ≤ xs.length ∧ i = .int .i64 k ∧ Own wr w.heap.size 24 [.int .i64 T, .int .i64 C, .slice ad xs.length cap] ∧ Own wr (w.heap.size + 1) 49 [.int .i64 fn, .int .i64 fd] ∧ Own wr (w.heap.size + 1 + 1) 24 [.int .i64 0, .int .i64 0, .slice none 0 0] ∧ Own wr (w.heap.size + 1 + 1 + 1) 3 (iv T (fun t => cnt xs (· / C) t k)) ∧ Own wr (w.heap.size + 1 + 1 + 1 + 1) 3 (iv C (fun t => cnt xs (· % C) t k)) ∧ Below w.heap.size w wr) (fun i _ => xs.length - (intOf i).toNat)
  case atStart =>
    refine ⟨0, Nat.zero_le _, rfl, ?_, ?_, ?_, ?_, ?_, ?_⟩
    · exact ((((Own.new' w _ _ _ rfl).alloc _).alloc _).alloc _).alloc _
    · exact (((Own.new' _ _ _ _ (by simp)).alloc _).alloc _).alloc _
    · exact ((Own.new' _ _ _ _ (by simp)).alloc _).alloc _
    · exact (Own.new' _ _ _ _ (by simp)).alloc _
    · exact Own.new' _ _ _ _ (by simp)
    · exact below_to (ba4 _ _ _ _ _) (ba1 _ _)
  case round =>
    obtain ⟨k, hk, rfl, oM, oP, oR, oT, oC, hbr⟩ := hrel
    obtain ⟨rM, fM⟩ := oM.rules
    have hsz := oC.lt
    by_cases hlt : k < xs.length
    · obtain ⟨b, off, rfl, hc⟩ := h3.out k hlt
      have hc := below_cell hbr hc
      by_cases hx : xs[k] = true
      · rw [hx] at hc
        have hg : xs.getD k false = true := by rw [getD_lt hlt, hx]
        have hkC : k / C < T := by rw [Nat.div_lt_iff_lt_mul (by omega), ← HN.out]; exact hlt
        have hkm : k % C < C := Nat.mod_lt _ (by omega)
        have hwq : wrap64 ((k : Int) / (C : Int)) = ((k / C : Nat) : Int) := by
          rw [← Int.natCast_ediv]; exact IntWalk.wrap64_in _ (by generalize k / C = q at *; omega)
        have hwr : (k : Int) % (C : Int) = ((k % C : Nat) : Int) := (Int.natCast_emod k C).symm
        have hc0 : ((C : Int) == 0) = false := by simp; omega
        have t1 : wr.cell? ⟨w.heap.size + 1 + 1 + 1, k / C, none⟩ = some (.int .i64 (cnt xs (· / C) (k / C) k)) := by
          have := oT.rules.1 (k / C); rw [iv_get _ _ _ hkC] at this; exact this
        have t2 := oT.rules.2
        have t3 : wr.cell? ⟨w.heap.size + 1 + 1 + 1 + 1, k % C, none⟩ = some (.int .i64 (cnt xs (· % C) (k % C) k)) := by
          have := oC.rules.1 (k % C); rw [iv_get _ _ _ hkm] at this; exact this
        have t4 := oC.rules.2
        have l1 := cnt_le xs (· / C) (k / C) k
        have l2 := cnt_le xs (· % C) (k % C) k
        have ST : Hid ((iv T (fun t => cnt xs (· / C) t k)).set (k / C) (.int .i64 ((cnt xs (· / C) (k / C) k : Int) + 1)) = iv T (fun t => cnt xs (· / C) t (k + 1))) :=
          iv_set T _ _ (k / C) hkC (cnt_yes hg rfl) (fun i _ hi => cnt_other (fun e => hi e.symm))
        have SC : Hid ((iv C (fun t => cnt xs (· % C) t k)).set (k % C) (.int .i64 ((cnt xs (· % C) (k % C) k : Int) + 1)) = iv C (fun t => cnt xs (· % C) t (k + 1))) :=
          iv_set C _ _ (k % C) hkm (cnt_yes hg rfl) (fun i _ hi => cnt_other (fun e => hi e.symm))
        generalize cnt xs (· / C) (k / C) k = n1 at *
        generalize cnt xs (· % C) (k % C) k = n2 at *
        generalize k / C = q at *
        generalize k % C = r at *
        clear hg hx
        go_wp2
        go_roundw
        case rel =>
          refine ⟨k + 1, by omega, by go_num, (oM.other (by omega) _ _).other (by omega) _ _, (oP.other (by omega) _ _).other (by omega) _ _, (oR.other (by omega) _ _).other (by omega) _ _, ?_, ?_, (hbr.setCell (by simp; omega) _).setCell (by simp; omega) _⟩
          · rw [← ST.out]; exact (oT.set q _).other (by omega) _ _
          · rw [← SC.out]; exact (oC.other (by omega) _ _).set r _
        case measure => simp [intOf]; omega
      · have hx' : xs[k] = false := by simpa using hx
        rw [hx'] at hc
        have hg : xs.getD k false = false := by rw [getD_lt hlt, hx']
        have ST : Hid (iv T (fun t => cnt xs (· / C) t k) = iv T (fun t => cnt xs (· / C) t (k + 1))) := iv_same T _ _ (fun i _ => (cnt_no hg).symm)
        have SC : Hid (iv C (fun t => cnt xs (· % C) t k) = iv C (fun t => cnt xs (· % C) t (k + 1))) := iv_same C _ _ (fun i _ => (cnt_no hg).symm)
        clear hg hx hx'
        go_wp2
        go_roundw
        case rel => exact ⟨k + 1, by omega, by go_num, oM, oP, oR, by rw [← ST.out]; exact oT, by rw [← SC.out]; exact oC, hbr⟩
        case measure => simp [intOf]; omega
    · obtain rfl : k = xs.length := by omega
      obtain ⟨rP, fP⟩ := oP.rules
      go_wp2_with fail
      have gl := @grow_lt
      have z0 : w.heap.size < wr.heap.size := by omega
      have z1 : w.heap.size + 1 < wr.heap.size := by omega
      refine wp_region_grow (by kernel_rfl) (by kernel_rfl) ?_
      repeat (go_big_quiet_step ((go_at_call 55; exact Calls.grow_of (least_any fn fd _ _ hp (by omega) (by omega)))))
      refine wpQuiet_nil ?_
      rintro _ ⟨ex, rfl⟩
      have hq := below_grow wr ex
      generalize grow wr ex = w1 at *
      clear gl rM fM rP fP z0 z1 hsz
      have oM := oM.below hq
      have oP := oP.below hq
      have oR := oR.below hq
      have oT := oT.below hq
      have oC := oC.below hq
      have hbr := below_to hbr hq
      have hs1 := hs.below hbr
      clear hq
      obtain ⟨rM, fM⟩ := oM.rules
      have hsz := oC.lt
      have z0 : w.heap.size < w1.heap.size := by omega
      go_wp2_with fail
      go_cut [11] (fun s wx => ∃ (bx g cp : Nat) (js : List Value), s = .pointer (some ⟨bx, 0, none⟩) ∧ w1.heap.size ≤ bx ∧ w1.heap.size ≤ g ∧ bx ≠ g ∧ xs.length ≤ cp ∧ Own wx bx 24 [.int .i64 T, .int .i64 C, .slice (some ⟨g, 0, none⟩) xs.length cp] ∧ Own wx g 4 (bv xs.length (fk T C xs fn fd 0) ++ js) ∧ Below w1.heap.size w1 wx)
      case first =>
        have gl := @grow_lt
        refine wp_region_fa 8 11 24 [.int .i64 0, .int .i64 0, .slice none 0 0] [0, 2, 4] [1, 3, 5] [6, 7] [9] (by kernel_rfl) (by kernel_rfl) (fun ρ W => by kernel_rfl) (fun _ _ _ _ _ h => h) (fun _ _ _ _ _ h => h) ?_
        simp only [opsAt, List.getElem?_toArray, List.getElem?_cons_zero, List.getElem?_cons_succ, Option.getD_some]
        repeat (go_big_quiet_step (fail))
        refine wpQuiet_nil ?_
        repeat (go_big_quiet_step (fail))
        refine wpQuiet_nil ?_
        clear gl
        intro w3 hb3
        refine wpCh_cons (fun K' hK' => ?_)
        go_simp
        refine (clone_any _ xs _ (hs1.below hb3) (by omega) (by omega)).mono ?_
        rintro e w4 ⟨u, rfl, hu, hb4⟩
        obtain ⟨g, cp, js, rfl, hg, hcp, og⟩ := owns_own hu (by omega)
        rw [bv_xs, fk_zero T C xs fn fd] at og
        refine hK' _ _ (below_to hb3 hb4) (fun b hb => hb.below hb4) (fun w5 hb5 => ?_)
        clear hK' K'
        refine wpCh_cons (fun K' hK' => ?_)
        go_simp
        refine hK' _ _ (below_to (below_to hb3 hb4) hb5) (fun b hb => hb) (fun w6 hb6 => wpCh_nil ?_)
        clear hK' K'
        intro b hob hbw
        have og := (og.below hb5).below hb6
        have hB := below_to (below_to (below_to hb3 hb4) hb5) hb6
        have h31 := hb3.size
        clear hb4 hb5 hb6 rM fM hu
        obtain ⟨rB, fB⟩ := hob.rules
        have hne := og.ne hob (by decide)
        go_wp2
        go_meet
        refine ⟨b, g, cp, js, rfl, hbw, by omega, hne, hcp, ((hob.set 0 _).set 1 _).set 2 _, ((og.other (Ne.symm hne) 0 _).other (Ne.symm hne) 1 _).other (Ne.symm hne) 2 _, ?_⟩
        repeat (refine Below.setCell ?_ (by first | omega | (simp; omega)) _)
        exact hB
      case rest =>
        obtain ⟨bx, g, cp, js, rfl, hbx, hg, hne, hcp, oX, oG, hbx2⟩ := hcut
        clear rM fM
        have oM := oM.below hbx2
        have oR := oR.below hbx2
        have oT := oT.below hbx2
        have oC := oC.below hbx2
        have hbw := below_to hbr hbx2
        clear oP hs1
        obtain ⟨rX, fX⟩ := oX.rules
        go_wp2
        clear rX fX
        go_loopw [66] (fun i wr => ∃ k : Nat, k ≤ xs.length ∧ i = .int .i64 k ∧ Own wr w.heap.size 24 [.int .i64 T, .int .i64 C, .slice ad xs.length cap] ∧ Own wr (w.heap.size + 1 + 1) 24 [.int .i64 0, .int .i64 0, .slice none 0 0] ∧ Own wr (w.heap.size + 1 + 1 + 1) 3 (iv T (fun t => cnt xs (· / C) t xs.length)) ∧ Own wr (w.heap.size + 1 + 1 + 1 + 1) 3 (iv C (fun t => cnt xs (· % C) t xs.length)) ∧ Own wr bx 24 [.int .i64 T, .int .i64 C, .slice (some ⟨g, 0, none⟩) xs.length cp] ∧ Own wr g 4 (bv xs.length (fk T C xs fn fd k) ++ js) ∧ Below w.heap.size w wr) (fun i _ => xs.length - (intOf i).toNat)
        case atStart => exact ⟨0, Nat.zero_le _, rfl, oM, oR, oT, oC, oX, oG, hbw⟩
        case round =>
          clear oM oR oT oC oX oG hbw hbx2 hbr
          obtain ⟨k, hk, rfl, oM, oR, oT, oC, oX, oG, hbr⟩ := hrel
          obtain ⟨rM, fM⟩ := oM.rules
          obtain ⟨rX, fX⟩ := oX.rules
          by_cases hlt : k < xs.length
          · have hkC : k / C < T := by rw [Nat.div_lt_iff_lt_mul (by omega), ← HN.out]; exact hlt
            have hkm : k % C < C := Nat.mod_lt _ (by omega)
            have hwq : wrap64 ((k : Int) / (C : Int)) = ((k / C : Nat) : Int) := by
              rw [← Int.natCast_ediv]; exact IntWalk.wrap64_in _ (by generalize k / C = q at *; omega)
            have hwr : (k : Int) % (C : Int) = ((k % C : Nat) : Int) := (Int.natCast_emod k C).symm
            have hc0 : ((C : Int) == 0) = false := by simp; omega
            have t1 : wr.cell? ⟨w.heap.size + 1 + 1 + 1, k / C, none⟩ = some (.int .i64 (cnt xs (· / C) (k / C) xs.length)) := by
              have := oT.rules.1 (k / C); rw [iv_get _ _ _ hkC] at this; exact this
            have t3 : wr.cell? ⟨w.heap.size + 1 + 1 + 1 + 1, k % C, none⟩ = some (.int .i64 (cnt xs (· % C) (k % C) xs.length)) := by
              have := oC.rules.1 (k % C); rw [iv_get _ _ _ hkm] at this; exact this
            have t5 : wr.cell? ⟨g, k, none⟩ = some (.bool (fk T C xs fn fd k k)) := by
              have := oG.rules.1 k; rw [bv_at _ _ _ _ hlt] at this; exact this
            have t6 := oG.rules.2
            have L1 := Lib.hid (least_iff p3 p4 C (cnt xs (· / C) (k / C) xs.length))
            have L2 := Lib.hid (least_iff p3 p4 T (cnt xs (· % C) (k % C) xs.length))
            have HY := Lib.hid (fk_yes (T := T) (C := C) (xs := xs) (fn := fn) (fd := fd) (k := k))
            have HNo := Lib.hid (fk_no (T := T) (C := C) (xs := xs) (fn := fn) (fd := fd) (k := k))
            have x1 : ¬ w.heap.size = g := by omega
            generalize cnt xs (· / C) (k / C) xs.length = n1 at *
            generalize cnt xs (· % C) (k % C) xs.length = n2 at *
            generalize k / C = q at *
            generalize k % C = r at *
            by_cases hc : leastN fn fd C ≤ n1
            · have he : (enB fn fd n1 C || enB fn fd n2 T) = true := by rw [L1.out.1 hc]; rfl
              have HS : Hid ((bv xs.length (fk T C xs fn fd k) ++ js).set k (.bool true) = bv xs.length (fk T C xs fn fd (k + 1)) ++ js) := bv_put _ _ _ _ _ hlt (fun j _ => HY.out he j)
              go_wp2
              go_roundw
              case rel =>
                refine ⟨k + 1, by omega, by go_num, oM.other (by omega) _ _, oR.other (by omega) _ _, oT.other (by omega) _ _, oC.other (by omega) _ _, oX.other hne _ _, ?_, hbr.setCell (by simp; omega) _⟩
                rw [← HS.out]; exact oG.set k _
              case measure => simp [intOf]; omega
            · by_cases hc2 : leastN fn fd T ≤ n2
              · have he : (enB fn fd n1 C || enB fn fd n2 T) = true := by rw [L2.out.1 hc2, Bool.or_true]
                have HS : Hid ((bv xs.length (fk T C xs fn fd k) ++ js).set k (.bool true) = bv xs.length (fk T C xs fn fd (k + 1)) ++ js) := bv_put _ _ _ _ _ hlt (fun j _ => HY.out he j)
                go_wp2
                go_roundw
                case rel =>
                  refine ⟨k + 1, by omega, by go_num, oM.other (by omega) _ _, oR.other (by omega) _ _, oT.other (by omega) _ _, oC.other (by omega) _ _, oX.other hne _ _, ?_, hbr.setCell (by simp; omega) _⟩
                  rw [← HS.out]; exact oG.set k _
                case measure => simp [intOf]; omega
              · have he : (enB fn fd n1 C || enB fn fd n2 T) = false := by
                  cases a1 : enB fn fd n1 C with
                  | true => exact absurd (L1.out.2 a1) hc
                  | false => cases a2 : enB fn fd n2 T with
                    | true => exact absurd (L2.out.2 a2) hc2
                    | false => rfl
                have HS : Hid (bv xs.length (fk T C xs fn fd k) = bv xs.length (fk T C xs fn fd (k + 1))) := bv_same _ _ _ (fun j _ => (HNo.out he j).symm)
                go_wp2
                go_roundw
                case rel => exact ⟨k + 1, by omega, by go_num, oM, oR, oT, oC, oX, by rw [← HS.out]; exact oG, hbr⟩
                case measure => simp [intOf]; omega
          · obtain rfl : k = xs.length := by omega
            obtain ⟨rR, fR⟩ := oR.rules
            rw [fk_end] at oG
            go_wp2
            refine bodyPost_ret (v := .agg #[.int .i64 T, .int .i64 C, .slice (some ⟨g, 0, none⟩) xs.length cp]) (by simp [results, Try.results47, go_sem, rR]) rfl ⟨_, rfl, ?_, ?_, ?_⟩
            · unfold SB
              rw [fillL_len]
              exact (((oG.other (g' := w.heap.size + 1 + 1) (by omega) _ _).other (g' := w.heap.size + 1 + 1) (by omega) _ _).other (g' := w.heap.size + 1 + 1) (by omega) _ _).sl cp hcp (by omega) _ ⟨js, rfl⟩
            · show w.heap.size ≤ g
              omega
            · repeat (refine Below.setCell ?_ (by first | omega | (simp; omega)) _)
              exact hbr

end Go.Proofs.Ytpkggglifahioaa
