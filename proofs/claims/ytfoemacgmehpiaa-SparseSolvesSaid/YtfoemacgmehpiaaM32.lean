/- What is proved here: contracts of functions and plain facts, several texts in one; each one says ahead what it proves, and its conditions. -/
import Derived.Test.YtfoemacgmehpiaaM31
import Derived.Test.YtfoemacgmehpiaaM01
import Derived.Test.YtfoemacgmehpiaaM27
import Derived.Deep.DeepCutAuto
import Derived.IntWalk
/- What is proved here: the contract of fringeref37.Det: at a square matrix it is the determinant by the first row, cut to 64 bits. Condition: at most 20 rows, each as long as there are rows, that can be read. -/
namespace Go.Proofs.Ytfoemacgmehpiaa
open Go.RowKit

theorem info_i64 : (Try.prog.info? 2).map (fun i => (i.zero, i.size, i.bytes)) = some (some (.int .i64 0), 1, 8) := by kernel_rfl
theorem info_i64s : (Try.prog.info? 104).map (fun i => (i.zero, i.size, i.bytes)) = some (some (.slice none 0 0), 1, 24) := by kernel_rfl
theorem ba1' {B : Nat} (w : World) (o : Obj) (h : B ≤ w.heap.size) : Below B w (w.alloc o) := (Below.refl B w).alloc h o
set_option maxRecDepth 100000 in
set_option maxHeartbeats 16000000 in
theorem rdet_any (n : Nat) : ∀ (m : List (List Int)) (v : Value) (w : World), n ≤ 20 → m.length = n → (∀ i (h : i < m.length), m[i].length = n) → SS w v m →
    Calls Try.prog 103 #[v] w fun e w' => e = .returned (.int .i64 (wrap64 (detF n m))) ∧ Below w.heap.size w w' := by
  induction n with
  | zero =>
    intro m v w _ hl _ hs
    obtain ⟨ad, cap, rfl, _, _, _⟩ := hs.open
    rw [hl]
    go_enter Try.func103, Try.ntmps103
    have hy := Below.refl w.heap.size w
    go_wp2
    go_ret
    refine ⟨?_, hy⟩
    have h1 : wrap64 (detF 0 m) = 1 := by show wrap64 1 = 1; unfold wrap64; omega
    rw [h1]; rfl
  | succ n ih =>
    intro m v w hn hl hw hs
    have IH := Lib.hid ih
    clear ih
    have HW := Lib.hid hw
    have HL := Lib.hid hl
    have HS := Lib.hid hs
    obtain ⟨ad, cap, rfl, hc1, hc2, _⟩ := hs.open
    clear hs hw
    rw [hl] at hc1 hc2 ⊢
    clear hl
    have DS := Lib.hid (detF_succ n m)
    have l1 : ((((n + 1 : Nat) : Int)) == 0) = false := beq_eq_false_iff_ne.2 (by omega)
    obtain ⟨N, hN⟩ : ∃ N, N = n + 1 := ⟨_, rfl⟩
    rw [← hN] at hc1 hc2 l1 HL DS ⊢
    have HN := Lib.hid hN
    clear hN
    go_enter Try.func103, Try.ntmps103
    have hy := Below.refl w.heap.size w
    have s0 : wrap64 (detK n m 0) = 0 := by show wrap64 0 = 0; unfold wrap64; omega
    go_wp2
    go_loopw [3, 4, 5] (fun s g i wr => ∃ k : Nat, k ≤ N ∧ i = .int .i64 k ∧ s = .int .i64 (wrap64 (detK n m k)) ∧ g = .int .i64 (sgn k) ∧ Below w.heap.size w wr) (fun _ _ i _ => N - (intOf i).toNat)
    case atStart => exact ⟨0, Nat.zero_le _, rfl, by rw [s0], rfl, hy⟩
    case round =>
      clear hy s0
      obtain ⟨k, hk, rfl, rfl, rfl, hW⟩ := hrel
      rename World => W
      by_cases hlt : k < N
      · have hSW := HS.out.below hW
        go_wp2
        go_loopw [6, 7] (fun ov i wr => ∃ (r : Nat) (cs : List Value), r ≤ n ∧ i = .int .i64 ((r : Int) + 1) ∧ wr.ownsRow W.heap.size 104 1 ov r cs ∧ Hid (Less wr W.heap.size n 2 m k ov r cs) ∧ Below W.heap.size W wr) (fun _ i _ => N - (intOf i).toNat)
        case atStart => exact ⟨0, [], Nat.zero_le _, rfl, World.ownsRow_nil _ _ _ _, fun j h => absurd h (Nat.not_lt_zero j), Below.refl _ _⟩
        case round =>
          obtain ⟨r, cs, hr, rfl, ow, hv, hQ⟩ := hrel
          rename World => W1
          by_cases hlr : r < n
          · have lt1 : ((r : Int) + 1) < N := by have := HN.out; omega
            have lt2 : r + 1 < N := by omega
            have hrm : r + 1 < m.length := by rw [HL.out]; omega
            obtain ⟨_, _, e, _, _, H⟩ := (hSW.below hQ).open
            rw [HL.out] at e
            cases e
            obtain ⟨b, off, ad', cap', rfl, c1, c2, c3, sR⟩ := H.out (r + 1) hrm
            clear H
            have hw1 : m[r + 1].length = n + 1 := HW.out _ hrm
            have ML := Lib.hid (mrow_len (r := m[r + 1]) (k := k) (n := n) hw1 (by have := HN.out; omega))
            have hw2 : N = n + 1 := HN.out
            rw [hw1, ← hw2] at c1 c2 c3 sR
            obtain ⟨_, _, e, _, _, H⟩ := sR.open
            rw [hw1, ← hw2] at e
            clear hw2
            cases e
            obtain ⟨b1, o1, rfl, hx0⟩ := H.out 0 (by omega)
            clear H hx0
            go_wp2_with fail
            refine wp_region_pstt [0] [.t [2, 3, 4, 5, 6, 7, 9, 10, 11, 12, 13, 14, 15], .f 1, .f 8] [] [16, 17, 18, 19] (by kernel_rfl) (by kernel_rfl) (fun _ _ _ _ _ h => h) ?_
            have z1 := World.block_lt_of_cell? W1 _ c1
            simp only at z1
            have gl := @grow_lt
            try simp only [opsAt, List.getElem?_toArray, List.getElem?_cons_zero, List.getElem?_cons_succ, Option.getD_some]
            repeat (go_big_quiet_step (fail))
            refine wpQuiet_nil ?_
            refine wpX_t ?_
            try simp only [opsAt, List.getElem?_toArray, List.getElem?_cons_zero, List.getElem?_cons_succ, Option.getD_some]
            repeat (go_big_quiet_step (fail))
            refine wpQuiet_nil ?_
            clear gl z1
            have hR : Below W1.heap.size W1 W1.drew := (Below.refl _ _).drew
            refine wpX_f rfl rfl (fun K' hK' => ?_)
            go_simp
            generalize hadq : (if cap' = k + 1 then some (⟨b1, o1, none⟩ : Addr) else some ⟨b1, o1 + (k + 1), none⟩) = adq
            refine hK' _ _ (grow_of ((ba1 W1 _).drew)) ?_
            clear hK' K' hR
            have hU : Below W1.heap.size W1 (W1.alloc (.cells #[] 2)).drew := (ba1 W1 _).drew
            have hUp : (W1.alloc (.cells #[] 2)).drew.heap[W1.heap.size]? = some (.cells #[] 2 (0, 0)) := heap_alloc_new W1 _
            have hUs : (W1.alloc (.cells #[] 2)).drew.heap.size = W1.heap.size + 1 := by simp
            have hBs := hQ.size
            generalize (W1.alloc (.cells #[] 2)).drew = U at *
            have hw3 : m[r + 1].length = N := hw1.trans HN.out.symm
            have sP := row_part (sR.below hU) hw3 (k := k) (by omega)
            refine wpX_f rfl rfl (fun K' hK' => ?_)
            refine wp_apps U _ _ rfl W.heap.size 2 1 8 (.int .i64 0) Try.underlying104 info_i64 rfl (by omega) (by omega) (.slice (some ⟨W1.heap.size, 0, none⟩) 0 0) 0 [] rfl (own_empty hBs hUp) (by omega) (.slice (some ⟨b1, o1, none⟩) k cap') k (ics (m[r + 1].take k)) rfl sP (by rw [ics_len, List.length_take, hw3]; omega) (one_ics _) (by omega) ?_
            intro v1 U1 ho1 hk1
            rw [Nat.zero_add, List.nil_append] at ho1
            have hU1 : Below W1.heap.size U U1 := hk1.below (by omega) (fun b hb => by simp only [Value.ownBlock, Option.some.injEq] at hb; omega)
            have hWU1 : Below W1.heap.size W1 U1 := hU.trans hU1
            have zU1 := hWU1.size
            refine hK' _ _ (grow_of hWU1) ?_
            clear hK' K' sP
            have sQ := row_rest' (k := k) ((sR.below hWU1)) hw3 (by omega)
            rw [hadq] at sQ
            clear hadq
            have hkn : k + (N - (k + 1)) = n := by have := HN.out; omega
            have hdl : (ics (m[r + 1].drop (k + 1))).length = (N - (k + 1)) * 1 := by rw [ics_len, List.length_drop, hw3]; omega
            clear hw3 hw1
            have happ : ics (m[r + 1].take k) ++ ics (m[r + 1].drop (k + 1)) = ics (mrow m[r + 1] k) := by simp [ics, mrow]
            have zr := hQ.size
            refine wpX_nil ?_
            try simp only [opsAt, List.getElem?_toArray, List.getElem?_cons_zero, List.getElem?_cons_succ, Option.getD_some]
            refine wpQuiet_nil ?_
            try simp only [opsAt, List.getElem?_toArray, List.getElem?_cons_zero, List.getElem?_cons_succ, Option.getD_some]
            go_simp
            go_wp2_with (at_builtin; first | (refine wpList_apps U1 rfl _ _ _ rfl W.heap.size 2 1 8 (.int .i64 0) Try.underlying104 info_i64 rfl (by omega) (by omega) v1 k _ rfl ho1 (by omega) _ (N - (k + 1)) (ics (m[r + 1].drop (k + 1))) rfl sQ hdl (one_ics _) (by omega) ?_; intro v2 U2 ho2 hk2; rw [hkn, happ] at ho2; have rt := row_thru ow hU hk1 hk2; have hWU2 : Below W.heap.size W1 U2 := (hWU1.mono zr).trans (hk2.below (by omega) (fun b hb => (row_lt ho1 hb).1)); have zU2 := hWU2.size; obtain ⟨ad2, cp2, rfl⟩ := owns_slice ho2) | (refine wpList_app3 _ rfl _ _ _ rfl W.heap.size 104 1 24 (.slice none 0 0) Try.underlying122 info_i64s rfl (by omega) (by omega) _ r _ rfl (rt.1.alloc _) (by omega) (by simp; omega) U2.heap.size [.slice ad2 n cp2] (0, 0) rfl (heap_alloc_new U2 _) rfl (by simp [Value.oneCell']) ?_; intro g cap9 w9 hown hg hbw hkp))
            have hcl : cs.length = r := by have := ow.1; omega
            go_roundw
            case rel =>
              refine ⟨r + 1, cs ++ [.slice ad2 n cp2], by omega, by go_num, hown, fun j hj h' => ?_, hQ.trans (hWU2.trans ((ba1' U2 _ (by omega)).trans hbw))⟩
              rcases Nat.lt_or_ge j r with h1 | h1
              · obtain ⟨u, e, ro, ap⟩ := hv.out j h1 h'
                have rt' := row_thru ro hU hk1 hk2
                exact ⟨u, by rw [List.getElem?_append_left (by omega)]; exact e, hkp.row (rt'.1.alloc _) ap, hkp.apart (rt'.1.alloc _) ap _ _⟩
              · obtain rfl : j = r := by omega
                exact ⟨_, by rw [List.getElem?_append_right (by omega), hcl]; simp, hkp.row (ho2.alloc _) rt.2.symm, hkp.apart (ho2.alloc _) rt.2.symm _ _⟩
            case measure => simp [intOf]; try omega
          · obtain rfl : r = n := by omega
            have hml : (minor m k).length = r := by rw [minor_len, HL.out, HN.out]; omega
            have sM : SS W1 u6 (minor m k) := by
              have hcl : cs.length = r := by have := ow.1; omega
              refine ⟨cs, by omega, by rw [hml]; exact owns_sl ow (by omega), fun i hi hi' => ?_⟩
              obtain ⟨u, e, ro, _⟩ := hv.out i (by omega) (by rw [HL.out, HN.out]; omega)
              have e2 : cs[i] = u := by simpa [hi'] using e
              rw [e2, minor_get hi]
              unfold SI
              rw [mrow_len (n := r) (by rw [HW.out]) (by have := HN.out; omega)]
              exact owns_sl ro (by omega)
            have hmw : ∀ i (h : i < (minor m k).length), (minor m k)[i].length = r := fun i hi => by
              rw [minor_get hi]; exact mrow_len (by rw [HW.out]) (by have := HN.out; omega)
            have CT := fun w' (h : SS w' u6 (minor m k)) => IH.out (minor m k) u6 w' (by omega) hml hmw h
            have D1 := Lib.hid (detK_succ r m k)
            have D2 := Lib.hid (det_step (detK r m k) (sgn k) ((m.getD 0 []).getD k 0) (detF r (minor m k)))
            have h0m : 0 < m.length := by rw [HL.out]; omega
            obtain ⟨_, _, e, _, _, H⟩ := (hSW.below hQ).open
            rw [HL.out] at e
            cases e
            obtain ⟨b, off, ad', cap', rfl, c1, c2, c3, sR⟩ := H.out 0 h0m
            clear H
            have hw0 : m[0].length = N := (HW.out 0 h0m).trans HN.out.symm
            rw [hw0] at c1 c2 c3 sR
            obtain ⟨_, _, e, zz1, zz2, H⟩ := sR.open
            clear zz1 zz2
            rw [hw0] at e
            cases e
            obtain ⟨b1, o1, rfl, d1⟩ := H.out k (by omega)
            clear H
            have ex : m[0][k]'(by omega) = (m.getD 0 []).getD k 0 := by rw [gd_at (d := 0), gd_at (xs := m) (d := []) h0m]
            rw [ex] at d1
            clear ex hw0
            generalize (m.getD 0 []).getD k 0 = x0 at *
            generalize detF r (minor m k) = dv at *
            rw [Nat.add_zero] at c1
            have z1 := World.block_lt_of_cell? W1 _ c1
            have z2 := World.block_lt_of_cell? W1 _ d1
            simp only at z1 z2
            have lt1 : ¬ ((r : Int) + 1) < N := by have := HN.out; omega
            have n0 : 0 < N := by omega
            have zr := hQ.size
            have NG := Lib.hid (sgn_wrap k)
            go_wp2_with fail
            refine wp_region_st [.t [0, 1, 2, 3, 4, 5, 6, 7, 8, 9], .f 10, .t [11, 12]] [13] (by kernel_rfl) (by kernel_rfl) (fun _ _ _ _ _ h => h) ?_
            have gl := @grow_lt
            refine wpX_t ?_
            try simp only [opsAt, List.getElem?_toArray, List.getElem?_cons_zero, List.getElem?_cons_succ, Option.getD_some]
            repeat (go_big_quiet_step (fail))
            refine wpQuiet_nil ?_
            clear gl z1 z2
            refine wpX_f rfl rfl (fun K' hK' => ?_)
            go_simp
            refine (CT _ (sM.below ((Below.refl _ _).drew))).mono ?_
            rintro e W2 ⟨rfl, hq1⟩
            refine hK' _ _ (grow_of (below_to ((Below.refl _ _).drew) hq1)) ?_
            clear hK' K'
            refine wpX_t ?_
            try simp only [opsAt, List.getElem?_toArray, List.getElem?_cons_zero, List.getElem?_cons_succ, Option.getD_some]
            repeat (go_big_quiet_step (fail))
            refine wpQuiet_nil ?_
            refine wpX_nil ?_
            try simp only [opsAt, List.getElem?_toArray, List.getElem?_cons_zero, List.getElem?_cons_succ, Option.getD_some]
            have hq : Below W1.heap.size W1 W2 := below_to ((Below.refl _ _).drew) hq1
            have hW' := below_to hW (below_to hQ hq)
            clear hq1 hq c1 c2 c3 d1
            go_wp2
            go_roundw
            case rel => exact ⟨k + 1, by omega, by go_num, by rw [D1.out, ← D2.out], by rw [NG.out], hW'⟩
            case measure => simp [intOf]; try omega
      · obtain rfl : k = N := by omega
        have h1 := DS.out
        go_wp2
        go_ret
        exact ⟨by rw [h1]; rfl, hW⟩
end Go.Proofs.Ytfoemacgmehpiaa
