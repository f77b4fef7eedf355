/- What is proved here: the walk of the law FlagFills: it returns true whatever mask, fraction and weights come in. -/
import Derived.Test.YtpkggglifahioaaFillG
import Derived.Test.YtpkggglifahioaaFillH
import Derived.Test.YtpkggglifahioaaFloatS
namespace Go.Proofs.Ytpkggglifahioaa
open Go.RowKit

theorem owns_other {w : World} {B : Nat} {T T' : TypeId} {size n b : Nat} {v : Value} {cs zs : List Value} (h : w.ownsRow B T size v n cs) (ho : Own w b T' zs) (hT : T ≠ T') (k : Nat) (x : Value) : (w.setCell ⟨b, k, none⟩ x).ownsRow B T size v n cs := by
  obtain ⟨hl, h2⟩ := h
  refine ⟨hl, ?_⟩
  rcases h2 with h2 | ⟨g, cap, cur, h3, hg, hh, r⟩
  · exact .inl h2
  · refine .inr ⟨g, cap, cur, h3, hg, ?_, r⟩
    have hne : g ≠ b := by
      rintro rfl
      unfold Own at ho
      rw [hh] at ho
      simp only [Option.some.injEq, Obj.cells.injEq] at ho
      exact hT ho.2.1
    rw [Below.heap_setCell _ _ _ _ (by simpa using hne)]
    exact hh
/-- Cells lie in no block that has none. -/
theorem SB.grown {w w' : World} {u : Value} {xs : List Bool} {p : Nat} {T : TypeId} (h : SB w u xs) (o : Own w p T []) (hg : w.grownBy w' (some p)) : SB w' u xs := by
  obtain ⟨ad, cap, h1, h2, h3, h4⟩ := h
  refine ⟨ad, cap, h1, h2, h3, fun i y hy => ?_⟩
  obtain ⟨b', off, e, hc⟩ := h4 i y hy
  refine ⟨b', off, e, ?_⟩
  have hne : b' ≠ p := by
    rintro rfl
    rw [o.rules.1] at hc
    simp at hc
  exact (World.cell?_of_block (hg.block b' (World.block_lt_of_cell? w _ hc) (by simpa using hne))).trans hc

set_option maxRecDepth 100000 in
set_option maxHeartbeats 16000000 in
theorem fills_any (t c : Int) (v v' : Value) (xs : List Bool) (fn fd : Int) (ws : List Int) (w : World) (h : SB w v xs) (h' : SI w v' ws) (h1 : i64 fn) (h2 : i64 fd) :
    Calls Try.prog 5 #[.agg #[.int .i64 t, .int .i64 c, v], .agg #[.int .i64 fn, .int .i64 fd], v'] w fun e w' => e = .returned (.bool true) ∧ Below w.heap.size w w' := by
  have hs := h
  have hs' := h'
  obtain ⟨ad, cap, rfl, q1, q2, q3⟩ := h.open
  obtain ⟨ad', cap', rfl, r1, r2, r3⟩ := h'.open
  clear h h' q3 r3
  by_cases g1 : 600 < xs.length
  · have b1 : decide (600 < xs.length) = true := by simpa using g1
    go_enter Try.func5, Try.ntmps5
    go_wp2_with fail
    refine (great_any _ _ _ xs _ (hs.below (ba2 _ _ _))).mono ?_
    rintro e w1 ⟨rfl, hb1⟩
    go_wp2
    go_ret
    exact ⟨rfl, below_to (ba2 _ _ _) hb1⟩
  · have b1 : decide (600 < xs.length) = false := by simpa using g1
    by_cases g2 : 600 < ws.length
    · go_enter Try.func5, Try.ntmps5
      go_wp2_with fail
      refine (great_any _ _ _ xs _ (hs.below (ba2 _ _ _))).mono ?_
      rintro e w1 ⟨rfl, hb1⟩
      go_wp2
      go_ret
      exact ⟨rfl, below_to (ba2 _ _ _) hb1⟩
    · go_enter Try.func5, Try.ntmps5
      go_wp2_with fail
      refine (great_any _ _ _ xs _ (hs.below (ba2 _ _ _))).mono ?_
      rintro e w1 ⟨rfl, hb1⟩
      have oM := (own_first w 24 [.int .i64 t, .int .i64 c, .slice ad xs.length cap] (.cells #[.int .i64 fn, .int .i64 fd] 49)).below hb1
      have oP := (own_second w 49 [.int .i64 fn, .int .i64 fd] (.cells #[.int .i64 t, .int .i64 c, .slice ad xs.length cap] 24)).below hb1
      have hB := below_to (ba2 _ _ _) hb1
      clear hb1
      have sM := hs.below hB
      have sW := hs'.below hB
      obtain ⟨rM, fM⟩ := oM.rules
      have z0 := oM.lt
      go_wp2_with fail
      go_cut [7, 8] (fun s lv wx => ∃ (bx : Nat) (u : Value), s = .pointer (some ⟨bx, 0, none⟩) ∧ w1.heap.size ≤ bx ∧ Own wx bx 24 [.int .i64 t, .int .i64 c, u] ∧ SB wx u xs ∧ SI wx lv ws ∧ Below w1.heap.size w1 wx)
      case first =>
        have gl := @grow_lt
        refine wp_region_fs [(4, ⟨4, [], fun b => .slice (some ⟨b, 0, none⟩) 0 0⟩), (9, ⟨3, [], fun b => .slice (some ⟨b, 0, none⟩) 0 0⟩), (12, ⟨24, [.int .i64 0, .int .i64 0, .slice none 0 0], fun b => .pointer (some ⟨b, 0, none⟩)⟩)] [0, 1, 2, 3, 5, 6, 10] [.fl 4, .op 7, .tk 8, .fl 9, .op 11, .fl 12] [13, 14] (by kernel_rfl) (by kernel_rfl) ⟨fun ρ W => by kernel_rfl, fun ρ W => by kernel_rfl, fun ρ W => by kernel_rfl, trivial⟩ (fun _ _ _ _ _ h => h) (fun _ _ _ _ _ h => h) ?_
        simp only [opsAt, List.getElem?_toArray, List.getElem?_cons_zero, List.getElem?_cons_succ, Option.getD_some]
        repeat (go_big_quiet_step (fail))
        refine wpQuiet_nil ?_
        clear gl
        refine wpFl_fl rfl ?_
        intro b4 w2 hb2 o4 hl4 _
        go_simp
        refine wpFl_op rfl ?_
        intro w3 hb3 K' hK'
        have p4 := o4.below hb3
        have hb5 := below_to hb2 hb3
        refine wp_own _ _ _ _ rfl 4 1 1 (.bool false) Try.underlying22 Try.infoBool rfl (by omega) (by omega) b4 rfl p4 _ xs.length (xs.map Value.bool) rfl (sM.below hb5) (by simp) (one_bools xs) (by omega) ?_
        intro g cp w5 how hgp hgw
        have hM5 : Mod [b4] w3 w5 := Mod.of_grown hgw (by simp)
        refine hK' _ _ hM5 ?_
        clear hK' K'
        have hb7 := hM5.below hb5 (fun b hb => by simp at hb; omega)
        go_simp
        refine wpFl_tk ?_
        try simp only [opsAt, List.getElem?_toArray, List.getElem?_cons_zero, List.getElem?_cons_succ, Option.getD_some]
        repeat (go_big_quiet_step (fail))
        refine wpQuiet_nil ?_
        refine wpFl_fl rfl ?_
        intro b9 w8 hb8 o9 hl9 hn9
        go_simp
        refine wpFl_op rfl ?_
        intro w10 hb10 K' hK'
        have p9 := o9.below hb10
        have hb11 := below_to (below_to hb7 hb8) hb10
        refine wp_own _ _ _ _ rfl 3 1 8 (.int .i64 0) Try.underlying50 Try.infoInt rfl (by omega) (by omega) b9 rfl p9 _ ws.length (ws.map (Value.int .i64)) rfl (sW.below hb11) (by simp) (one_ints ws) (by omega) ?_
        intro g' cp' w12 how' hgp' hgw'
        have hM12 : Mod [b9, b4] w10 w12 := Mod.of_grown hgw' (by simp)
        refine hK' _ _ hM12 ?_
        clear hK' K'
        have hb13 := hM12.below hb11 (fun b hb => by simp at hb; omega)
        have su : SB w5 (.slice (some ⟨g, 0, none⟩) xs.length cp) xs := owns_sl how (by omega)
        have su := ((su.below hb8).below hb10).grown p9 hgw'
        clear how hgp hgw hM5 hb8 hb10 hb11 hM12 hgw' hgp' p9 o9 hb5 hb3 hb2 p4 o4
        go_simp
        refine wpFl_fl rfl ?_
        intro b12 w14 hb14 o12 hl12 hn12
        go_simp
        refine wpFl_nil (fun w15 hb15 => ?_)
        have oB := o12.below hb15
        have su := (su.below hb14).below hb15
        have sl := owns_at (owns_at how' hb14) hb15
        have hbF := below_to (below_to hb13 hb14) hb15
        clear how' hb14 hb15 o12 hb13 rM fM
        obtain ⟨rB, fB⟩ := oB.rules
        try simp only [opsAt, List.getElem?_toArray, List.getElem?_cons_zero, List.getElem?_cons_succ, Option.getD_some]
        go_wp2
        go_meet
        refine ⟨b12, .slice (some ⟨g, 0, none⟩) xs.length cp, rfl, by simpa using hl12, ((oB.set 0 _).set 1 _).set 2 _, ?_, ?_, ?_⟩
        · have s1 := su.box oB (fun y hy => by simp at hy) 0 (.int .i64 t)
          have s2 := s1.box (oB.set 0 _) (fun y hy => by simp at hy) 1 (.int .i64 c)
          exact s2.box ((oB.set 0 _).set 1 _) (fun y hy => by simp at hy) 2 _
        · have s1 := owns_other sl oB (by decide) 0 (.int .i64 t)
          have s2 := owns_other s1 (oB.set 0 _) (by decide) 1 (.int .i64 c)
          exact owns_sl (owns_other s2 ((oB.set 0 _).set 1 _) (by decide) 2 _) (by omega)
        · repeat (refine Below.setCell ?_ (by first | omega | (simp; omega)) _)
          exact hbF
      case rest =>
        obtain ⟨bx, u, rfl, hbx, oO, sO, sL, hbx2⟩ := hcut
        clear rM fM
        have oM := oM.below hbx2
        have oP := oP.below hbx2
        have sM := sM.below hbx2
        have sW := sW.below hbx2
        have hB := below_to hB hbx2
        clear hbx2
        have sO0 := sO
        obtain ⟨aO, cO, hO, _, _, _⟩ := sO0.open
        subst hO
        clear sO0
        have sL0 := sL
        obtain ⟨aL, cL, hL, _, _, _⟩ := sL0.open
        subst hL
        clear sL0
        obtain ⟨rO, fO⟩ := oO.rules
        obtain ⟨rP, fP⟩ := oP.rules
        have zO := oO.lt
        have zP := oP.lt
        go_wp2_with fail
        refine (mfill_any _ _ _ xs fn fd _ sO h1 h2).mono ?_
        rintro e v1 ⟨uA, rfl, sA, _, hq⟩
        clear rO fO zO rP fP zP
        have oO := oO.below hq
        have oM := oM.below hq
        have oP := oP.below hq
        have sO := sO.below hq
        have sL := sL.below hq
        have sM := sM.below hq
        have sW := sW.below hq
        have hB := below_to hB hq
        clear hq
        have sA' := sA
        obtain ⟨aA, cA, huA, _, _, _⟩ := sA'.open
        subst huA
        clear sA'
        go_upto_region 5 with fail
        have oO := oO.alloc (.cells #[.int .i64 (zt (ferr t c xs.length fn fd) t), .int .i64 (zt (ferr t c xs.length fn fd) c), .slice aA (zl (ferr t c xs.length fn fd) (fillL t.toNat c.toNat xs fn fd)).length cA] 24)
        have oM := oM.alloc (.cells #[.int .i64 (zt (ferr t c xs.length fn fd) t), .int .i64 (zt (ferr t c xs.length fn fd) c), .slice aA (zl (ferr t c xs.length fn fd) (fillL t.toNat c.toNat xs fn fd)).length cA] 24)
        have oP := oP.alloc (.cells #[.int .i64 (zt (ferr t c xs.length fn fd) t), .int .i64 (zt (ferr t c xs.length fn fd) c), .slice aA (zl (ferr t c xs.length fn fd) (fillL t.toNat c.toNat xs fn fd)).length cA] 24)
        have sO := sO.below (ba1 v1 (.cells #[.int .i64 (zt (ferr t c xs.length fn fd) t), .int .i64 (zt (ferr t c xs.length fn fd) c), .slice aA (zl (ferr t c xs.length fn fd) (fillL t.toNat c.toNat xs fn fd)).length cA] 24))
        have sL := sL.below (ba1 v1 (.cells #[.int .i64 (zt (ferr t c xs.length fn fd) t), .int .i64 (zt (ferr t c xs.length fn fd) c), .slice aA (zl (ferr t c xs.length fn fd) (fillL t.toNat c.toNat xs fn fd)).length cA] 24))
        have sM := sM.below (ba1 v1 (.cells #[.int .i64 (zt (ferr t c xs.length fn fd) t), .int .i64 (zt (ferr t c xs.length fn fd) c), .slice aA (zl (ferr t c xs.length fn fd) (fillL t.toNat c.toNat xs fn fd)).length cA] 24))
        have sW := sW.below (ba1 v1 (.cells #[.int .i64 (zt (ferr t c xs.length fn fd) t), .int .i64 (zt (ferr t c xs.length fn fd) c), .slice aA (zl (ferr t c xs.length fn fd) (fillL t.toNat c.toNat xs fn fd)).length cA] 24))
        have sA := sA.below (ba1 v1 (.cells #[.int .i64 (zt (ferr t c xs.length fn fd) t), .int .i64 (zt (ferr t c xs.length fn fd) c), .slice aA (zl (ferr t c xs.length fn fd) (fillL t.toNat c.toNat xs fn fd)).length cA] 24))
        have hB := below_to hB (ba1 v1 (.cells #[.int .i64 (zt (ferr t c xs.length fn fd) t), .int .i64 (zt (ferr t c xs.length fn fd) c), .slice aA (zl (ferr t c xs.length fn fd) (fillL t.toNat c.toNat xs fn fd)).length cA] 24))
        have oA := Own.new v1 24 [.int .i64 (zt (ferr t c xs.length fn fd) t), .int .i64 (zt (ferr t c xs.length fn fd) c), .slice aA (zl (ferr t c xs.length fn fd) (fillL t.toNat c.toNat xs fn fd)).length cA]
        generalize hbk : v1.heap.size = kA at oA ⊢
        clear hbk
        generalize v1.alloc (.cells #[.int .i64 (zt (ferr t c xs.length fn fd) t), .int .i64 (zt (ferr t c xs.length fn fd) c), .slice aA (zl (ferr t c xs.length fn fd) (fillL t.toNat c.toNat xs fn fd)).length cA] 24) = y1 at *
        obtain ⟨rM, fM⟩ := oM.rules
        obtain ⟨rP, fP⟩ := oP.rules
        have zM := oM.lt
        have zP := oP.lt
        go_wp2_with fail
        refine (rfill_any _ _ _ xs fn fd _ sM h1 h2).mono ?_
        rintro e v2 ⟨uB, rfl, sB, _, hq⟩
        clear rM fM zM rP fP zP
        have oO := oO.below hq
        have oM := oM.below hq
        have oP := oP.below hq
        have oA := oA.below hq
        have sO := sO.below hq
        have sL := sL.below hq
        have sM := sM.below hq
        have sW := sW.below hq
        have sA := sA.below hq
        have hB := below_to hB hq
        clear hq
        have sB' := sB
        obtain ⟨aB, cB, huB, _, _, _⟩ := sB'.open
        subst huB
        clear sB'
        go_upto_region 6 with fail
        have oO := oO.alloc (.cells #[.int .i64 (zt (ferr t c xs.length fn fd) t), .int .i64 (zt (ferr t c xs.length fn fd) c), .slice aB (zl (ferr t c xs.length fn fd) (fillL t.toNat c.toNat xs fn fd)).length cB] 24)
        have oM := oM.alloc (.cells #[.int .i64 (zt (ferr t c xs.length fn fd) t), .int .i64 (zt (ferr t c xs.length fn fd) c), .slice aB (zl (ferr t c xs.length fn fd) (fillL t.toNat c.toNat xs fn fd)).length cB] 24)
        have oP := oP.alloc (.cells #[.int .i64 (zt (ferr t c xs.length fn fd) t), .int .i64 (zt (ferr t c xs.length fn fd) c), .slice aB (zl (ferr t c xs.length fn fd) (fillL t.toNat c.toNat xs fn fd)).length cB] 24)
        have oA := oA.alloc (.cells #[.int .i64 (zt (ferr t c xs.length fn fd) t), .int .i64 (zt (ferr t c xs.length fn fd) c), .slice aB (zl (ferr t c xs.length fn fd) (fillL t.toNat c.toNat xs fn fd)).length cB] 24)
        have sO := sO.below (ba1 v2 (.cells #[.int .i64 (zt (ferr t c xs.length fn fd) t), .int .i64 (zt (ferr t c xs.length fn fd) c), .slice aB (zl (ferr t c xs.length fn fd) (fillL t.toNat c.toNat xs fn fd)).length cB] 24))
        have sL := sL.below (ba1 v2 (.cells #[.int .i64 (zt (ferr t c xs.length fn fd) t), .int .i64 (zt (ferr t c xs.length fn fd) c), .slice aB (zl (ferr t c xs.length fn fd) (fillL t.toNat c.toNat xs fn fd)).length cB] 24))
        have sM := sM.below (ba1 v2 (.cells #[.int .i64 (zt (ferr t c xs.length fn fd) t), .int .i64 (zt (ferr t c xs.length fn fd) c), .slice aB (zl (ferr t c xs.length fn fd) (fillL t.toNat c.toNat xs fn fd)).length cB] 24))
        have sW := sW.below (ba1 v2 (.cells #[.int .i64 (zt (ferr t c xs.length fn fd) t), .int .i64 (zt (ferr t c xs.length fn fd) c), .slice aB (zl (ferr t c xs.length fn fd) (fillL t.toNat c.toNat xs fn fd)).length cB] 24))
        have sA := sA.below (ba1 v2 (.cells #[.int .i64 (zt (ferr t c xs.length fn fd) t), .int .i64 (zt (ferr t c xs.length fn fd) c), .slice aB (zl (ferr t c xs.length fn fd) (fillL t.toNat c.toNat xs fn fd)).length cB] 24))
        have sB := sB.below (ba1 v2 (.cells #[.int .i64 (zt (ferr t c xs.length fn fd) t), .int .i64 (zt (ferr t c xs.length fn fd) c), .slice aB (zl (ferr t c xs.length fn fd) (fillL t.toNat c.toNat xs fn fd)).length cB] 24))
        have hB := below_to hB (ba1 v2 (.cells #[.int .i64 (zt (ferr t c xs.length fn fd) t), .int .i64 (zt (ferr t c xs.length fn fd) c), .slice aB (zl (ferr t c xs.length fn fd) (fillL t.toNat c.toNat xs fn fd)).length cB] 24))
        have oB := Own.new v2 24 [.int .i64 (zt (ferr t c xs.length fn fd) t), .int .i64 (zt (ferr t c xs.length fn fd) c), .slice aB (zl (ferr t c xs.length fn fd) (fillL t.toNat c.toNat xs fn fd)).length cB]
        generalize hbk : v2.heap.size = kB at oB ⊢
        clear hbk
        generalize v2.alloc (.cells #[.int .i64 (zt (ferr t c xs.length fn fd) t), .int .i64 (zt (ferr t c xs.length fn fd) c), .slice aB (zl (ferr t c xs.length fn fd) (fillL t.toNat c.toNat xs fn fd)).length cB] 24) = y2 at *
        obtain ⟨rO, fO⟩ := oO.rules
        obtain ⟨rP, fP⟩ := oP.rules
        have zO := oO.lt
        have zP := oP.lt
        go_wp2_with fail
        refine (mclose_any _ _ _ xs fn fd _ sO h1 h2).mono ?_
        rintro e v3 ⟨uX, rfl, sX, _, hq⟩
        clear rO fO zO rP fP zP
        have oO := oO.below hq
        have oM := oM.below hq
        have oP := oP.below hq
        have oA := oA.below hq
        have oB := oB.below hq
        have sO := sO.below hq
        have sL := sL.below hq
        have sM := sM.below hq
        have sW := sW.below hq
        have sA := sA.below hq
        have sB := sB.below hq
        have hB := below_to hB hq
        clear hq
        have sX' := sX
        obtain ⟨aX, cX, huX, _, _, _⟩ := sX'.open
        subst huX
        clear sX'
        go_upto_region 7 with fail
        have oO := oO.alloc (.cells #[.int .i64 (zt (ferr t c xs.length fn fd) t), .int .i64 (zt (ferr t c xs.length fn fd) c), .slice aX (zl (ferr t c xs.length fn fd) (cloL t.toNat c.toNat xs fn fd)).length cX] 24)
        have oM := oM.alloc (.cells #[.int .i64 (zt (ferr t c xs.length fn fd) t), .int .i64 (zt (ferr t c xs.length fn fd) c), .slice aX (zl (ferr t c xs.length fn fd) (cloL t.toNat c.toNat xs fn fd)).length cX] 24)
        have oP := oP.alloc (.cells #[.int .i64 (zt (ferr t c xs.length fn fd) t), .int .i64 (zt (ferr t c xs.length fn fd) c), .slice aX (zl (ferr t c xs.length fn fd) (cloL t.toNat c.toNat xs fn fd)).length cX] 24)
        have oA := oA.alloc (.cells #[.int .i64 (zt (ferr t c xs.length fn fd) t), .int .i64 (zt (ferr t c xs.length fn fd) c), .slice aX (zl (ferr t c xs.length fn fd) (cloL t.toNat c.toNat xs fn fd)).length cX] 24)
        have oB := oB.alloc (.cells #[.int .i64 (zt (ferr t c xs.length fn fd) t), .int .i64 (zt (ferr t c xs.length fn fd) c), .slice aX (zl (ferr t c xs.length fn fd) (cloL t.toNat c.toNat xs fn fd)).length cX] 24)
        have sO := sO.below (ba1 v3 (.cells #[.int .i64 (zt (ferr t c xs.length fn fd) t), .int .i64 (zt (ferr t c xs.length fn fd) c), .slice aX (zl (ferr t c xs.length fn fd) (cloL t.toNat c.toNat xs fn fd)).length cX] 24))
        have sL := sL.below (ba1 v3 (.cells #[.int .i64 (zt (ferr t c xs.length fn fd) t), .int .i64 (zt (ferr t c xs.length fn fd) c), .slice aX (zl (ferr t c xs.length fn fd) (cloL t.toNat c.toNat xs fn fd)).length cX] 24))
        have sM := sM.below (ba1 v3 (.cells #[.int .i64 (zt (ferr t c xs.length fn fd) t), .int .i64 (zt (ferr t c xs.length fn fd) c), .slice aX (zl (ferr t c xs.length fn fd) (cloL t.toNat c.toNat xs fn fd)).length cX] 24))
        have sW := sW.below (ba1 v3 (.cells #[.int .i64 (zt (ferr t c xs.length fn fd) t), .int .i64 (zt (ferr t c xs.length fn fd) c), .slice aX (zl (ferr t c xs.length fn fd) (cloL t.toNat c.toNat xs fn fd)).length cX] 24))
        have sA := sA.below (ba1 v3 (.cells #[.int .i64 (zt (ferr t c xs.length fn fd) t), .int .i64 (zt (ferr t c xs.length fn fd) c), .slice aX (zl (ferr t c xs.length fn fd) (cloL t.toNat c.toNat xs fn fd)).length cX] 24))
        have sB := sB.below (ba1 v3 (.cells #[.int .i64 (zt (ferr t c xs.length fn fd) t), .int .i64 (zt (ferr t c xs.length fn fd) c), .slice aX (zl (ferr t c xs.length fn fd) (cloL t.toNat c.toNat xs fn fd)).length cX] 24))
        have sX := sX.below (ba1 v3 (.cells #[.int .i64 (zt (ferr t c xs.length fn fd) t), .int .i64 (zt (ferr t c xs.length fn fd) c), .slice aX (zl (ferr t c xs.length fn fd) (cloL t.toNat c.toNat xs fn fd)).length cX] 24))
        have hB := below_to hB (ba1 v3 (.cells #[.int .i64 (zt (ferr t c xs.length fn fd) t), .int .i64 (zt (ferr t c xs.length fn fd) c), .slice aX (zl (ferr t c xs.length fn fd) (cloL t.toNat c.toNat xs fn fd)).length cX] 24))
        have oX := Own.new v3 24 [.int .i64 (zt (ferr t c xs.length fn fd) t), .int .i64 (zt (ferr t c xs.length fn fd) c), .slice aX (zl (ferr t c xs.length fn fd) (cloL t.toNat c.toNat xs fn fd)).length cX]
        generalize hbk : v3.heap.size = kX at oX ⊢
        clear hbk
        generalize v3.alloc (.cells #[.int .i64 (zt (ferr t c xs.length fn fd) t), .int .i64 (zt (ferr t c xs.length fn fd) c), .slice aX (zl (ferr t c xs.length fn fd) (cloL t.toNat c.toNat xs fn fd)).length cX] 24) = y3 at *
        obtain ⟨rM, fM⟩ := oM.rules
        obtain ⟨rP, fP⟩ := oP.rules
        have zM := oM.lt
        have zP := oP.lt
        go_wp2_with fail
        refine (rclose_any _ _ _ xs fn fd _ sM h1 h2).mono ?_
        rintro e v4 ⟨uY, rfl, sY, _, hq⟩
        clear rM fM zM rP fP zP
        have oO := oO.below hq
        have oM := oM.below hq
        have oP := oP.below hq
        have oA := oA.below hq
        have oB := oB.below hq
        have oX := oX.below hq
        have sO := sO.below hq
        have sL := sL.below hq
        have sM := sM.below hq
        have sW := sW.below hq
        have sA := sA.below hq
        have sB := sB.below hq
        have sX := sX.below hq
        have hB := below_to hB hq
        clear hq
        have sY' := sY
        obtain ⟨aY, cY, huY, _, _, _⟩ := sY'.open
        subst huY
        clear sY'
        go_upto_region 8 with fail
        have oO := oO.alloc (.cells #[.int .i64 (zt (ferr t c xs.length fn fd) t), .int .i64 (zt (ferr t c xs.length fn fd) c), .slice aY (zl (ferr t c xs.length fn fd) (cloL t.toNat c.toNat xs fn fd)).length cY] 24)
        have oM := oM.alloc (.cells #[.int .i64 (zt (ferr t c xs.length fn fd) t), .int .i64 (zt (ferr t c xs.length fn fd) c), .slice aY (zl (ferr t c xs.length fn fd) (cloL t.toNat c.toNat xs fn fd)).length cY] 24)
        have oP := oP.alloc (.cells #[.int .i64 (zt (ferr t c xs.length fn fd) t), .int .i64 (zt (ferr t c xs.length fn fd) c), .slice aY (zl (ferr t c xs.length fn fd) (cloL t.toNat c.toNat xs fn fd)).length cY] 24)
        have oA := oA.alloc (.cells #[.int .i64 (zt (ferr t c xs.length fn fd) t), .int .i64 (zt (ferr t c xs.length fn fd) c), .slice aY (zl (ferr t c xs.length fn fd) (cloL t.toNat c.toNat xs fn fd)).length cY] 24)
        have oB := oB.alloc (.cells #[.int .i64 (zt (ferr t c xs.length fn fd) t), .int .i64 (zt (ferr t c xs.length fn fd) c), .slice aY (zl (ferr t c xs.length fn fd) (cloL t.toNat c.toNat xs fn fd)).length cY] 24)
        have oX := oX.alloc (.cells #[.int .i64 (zt (ferr t c xs.length fn fd) t), .int .i64 (zt (ferr t c xs.length fn fd) c), .slice aY (zl (ferr t c xs.length fn fd) (cloL t.toNat c.toNat xs fn fd)).length cY] 24)
        have sO := sO.below (ba1 v4 (.cells #[.int .i64 (zt (ferr t c xs.length fn fd) t), .int .i64 (zt (ferr t c xs.length fn fd) c), .slice aY (zl (ferr t c xs.length fn fd) (cloL t.toNat c.toNat xs fn fd)).length cY] 24))
        have sL := sL.below (ba1 v4 (.cells #[.int .i64 (zt (ferr t c xs.length fn fd) t), .int .i64 (zt (ferr t c xs.length fn fd) c), .slice aY (zl (ferr t c xs.length fn fd) (cloL t.toNat c.toNat xs fn fd)).length cY] 24))
        have sM := sM.below (ba1 v4 (.cells #[.int .i64 (zt (ferr t c xs.length fn fd) t), .int .i64 (zt (ferr t c xs.length fn fd) c), .slice aY (zl (ferr t c xs.length fn fd) (cloL t.toNat c.toNat xs fn fd)).length cY] 24))
        have sW := sW.below (ba1 v4 (.cells #[.int .i64 (zt (ferr t c xs.length fn fd) t), .int .i64 (zt (ferr t c xs.length fn fd) c), .slice aY (zl (ferr t c xs.length fn fd) (cloL t.toNat c.toNat xs fn fd)).length cY] 24))
        have sA := sA.below (ba1 v4 (.cells #[.int .i64 (zt (ferr t c xs.length fn fd) t), .int .i64 (zt (ferr t c xs.length fn fd) c), .slice aY (zl (ferr t c xs.length fn fd) (cloL t.toNat c.toNat xs fn fd)).length cY] 24))
        have sB := sB.below (ba1 v4 (.cells #[.int .i64 (zt (ferr t c xs.length fn fd) t), .int .i64 (zt (ferr t c xs.length fn fd) c), .slice aY (zl (ferr t c xs.length fn fd) (cloL t.toNat c.toNat xs fn fd)).length cY] 24))
        have sX := sX.below (ba1 v4 (.cells #[.int .i64 (zt (ferr t c xs.length fn fd) t), .int .i64 (zt (ferr t c xs.length fn fd) c), .slice aY (zl (ferr t c xs.length fn fd) (cloL t.toNat c.toNat xs fn fd)).length cY] 24))
        have sY := sY.below (ba1 v4 (.cells #[.int .i64 (zt (ferr t c xs.length fn fd) t), .int .i64 (zt (ferr t c xs.length fn fd) c), .slice aY (zl (ferr t c xs.length fn fd) (cloL t.toNat c.toNat xs fn fd)).length cY] 24))
        have hB := below_to hB (ba1 v4 (.cells #[.int .i64 (zt (ferr t c xs.length fn fd) t), .int .i64 (zt (ferr t c xs.length fn fd) c), .slice aY (zl (ferr t c xs.length fn fd) (cloL t.toNat c.toNat xs fn fd)).length cY] 24))
        have oY := Own.new v4 24 [.int .i64 (zt (ferr t c xs.length fn fd) t), .int .i64 (zt (ferr t c xs.length fn fd) c), .slice aY (zl (ferr t c xs.length fn fd) (cloL t.toNat c.toNat xs fn fd)).length cY]
        generalize hbk : v4.heap.size = kY at oY ⊢
        clear hbk
        generalize v4.alloc (.cells #[.int .i64 (zt (ferr t c xs.length fn fd) t), .int .i64 (zt (ferr t c xs.length fn fd) c), .slice aY (zl (ferr t c xs.length fn fd) (cloL t.toNat c.toNat xs fn fd)).length cY] 24) = y4 at *
        obtain ⟨rO, fO⟩ := oO.rules
        have zO := oO.lt
        go_wp2_with fail
        refine (drop_any _ _ _ _ xs ws _ sO sL).mono ?_
        rintro e v5 ⟨uU, rfl, sU, _, hq⟩
        clear rO fO zO
        have oO := oO.below hq
        have oM := oM.below hq
        have oP := oP.below hq
        have oA := oA.below hq
        have oB := oB.below hq
        have oX := oX.below hq
        have oY := oY.below hq
        have sO := sO.below hq
        have sL := sL.below hq
        have sM := sM.below hq
        have sW := sW.below hq
        have sA := sA.below hq
        have sB := sB.below hq
        have sX := sX.below hq
        have sY := sY.below hq
        have hB := below_to hB hq
        clear hq
        have sU' := sU
        obtain ⟨aU, cU, huU, _, _, _⟩ := sU'.open
        subst huU
        clear sU'
        obtain ⟨rM, fM⟩ := oM.rules
        have zM := oM.lt
        go_wp2_with fail
        refine (rdrop_any _ _ _ _ xs ws _ sM sW (by omega)).mono ?_
        rintro e v6 ⟨uV, rfl, sV, _, hq⟩
        clear rM fM zM
        have oO := oO.below hq
        have oM := oM.below hq
        have oP := oP.below hq
        have oA := oA.below hq
        have oB := oB.below hq
        have oX := oX.below hq
        have oY := oY.below hq
        have sO := sO.below hq
        have sL := sL.below hq
        have sM := sM.below hq
        have sW := sW.below hq
        have sA := sA.below hq
        have sB := sB.below hq
        have sX := sX.below hq
        have sY := sY.below hq
        have sU := sU.below hq
        have hB := below_to hB hq
        clear hq
        have sV' := sV
        obtain ⟨aV, cV, huV, _, _, _⟩ := sV'.open
        subst huV
        clear sV'
        obtain ⟨rA, fA⟩ := oA.rules
        obtain ⟨rB, fB⟩ := oB.rules
        have zA := oA.lt
        have zB := oB.lt
        go_wp2_with fail
        refine (same_any _ _ _ _ _ _ _ _ _ sA sB).mono ?_
        rintro e v7 ⟨rfl, hq⟩
        clear rA fA zA rB fB zB
        have oO := oO.below hq
        have oM := oM.below hq
        have oP := oP.below hq
        have oA := oA.below hq
        have oB := oB.below hq
        have oX := oX.below hq
        have oY := oY.below hq
        have sO := sO.below hq
        have sL := sL.below hq
        have sM := sM.below hq
        have sW := sW.below hq
        have sA := sA.below hq
        have sB := sB.below hq
        have sX := sX.below hq
        have sY := sY.below hq
        have sU := sU.below hq
        have sV := sV.below hq
        have hB := below_to hB hq
        clear hq
        rw [msame_eq, decide_eq_true rfl]
        obtain ⟨rX, fX⟩ := oX.rules
        obtain ⟨rY, fY⟩ := oY.rules
        have zX := oX.lt
        have zY := oY.lt
        go_wp2_with fail
        refine (same_any _ _ _ _ _ _ _ _ _ sX sY).mono ?_
        rintro e v8 ⟨rfl, hq⟩
        clear rX fX zX rY fY zY
        have oO := oO.below hq
        have oM := oM.below hq
        have oP := oP.below hq
        have oA := oA.below hq
        have oB := oB.below hq
        have oX := oX.below hq
        have oY := oY.below hq
        have sO := sO.below hq
        have sL := sL.below hq
        have sM := sM.below hq
        have sW := sW.below hq
        have sA := sA.below hq
        have sB := sB.below hq
        have sX := sX.below hq
        have sY := sY.below hq
        have sU := sU.below hq
        have sV := sV.below hq
        have hB := below_to hB hq
        clear hq
        rw [msame_eq, decide_eq_true rfl]
        go_wp2_with fail
        refine (same13_any _ _ _ _ _ sU sV).mono ?_
        rintro e v9 ⟨rfl, hq⟩
        have oO := oO.below hq
        have oM := oM.below hq
        have oP := oP.below hq
        have oA := oA.below hq
        have oB := oB.below hq
        have oX := oX.below hq
        have oY := oY.below hq
        have sO := sO.below hq
        have sL := sL.below hq
        have sM := sM.below hq
        have sW := sW.below hq
        have sA := sA.below hq
        have sB := sB.below hq
        have sX := sX.below hq
        have sY := sY.below hq
        have sU := sU.below hq
        have sV := sV.below hq
        have hB := below_to hB hq
        clear hq
        rw [decide_eq_true rfl]
        obtain ⟨rO, fO⟩ := oO.rules
        obtain ⟨rM, fM⟩ := oM.rules
        have zO := oO.lt
        have zM := oM.lt
        go_wp2_with fail
        refine (same_any _ _ _ _ _ _ _ _ _ sO sM).mono ?_
        rintro e v10 ⟨rfl, hq⟩
        clear rO fO zO rM fM zM
        have oO := oO.below hq
        have oM := oM.below hq
        have oP := oP.below hq
        have oA := oA.below hq
        have oB := oB.below hq
        have oX := oX.below hq
        have oY := oY.below hq
        have sO := sO.below hq
        have sL := sL.below hq
        have sM := sM.below hq
        have sW := sW.below hq
        have sA := sA.below hq
        have sB := sB.below hq
        have sX := sX.below hq
        have sY := sY.below hq
        have sU := sU.below hq
        have sV := sV.below hq
        have hB := below_to hB hq
        clear hq
        rw [msame_eq, decide_eq_true rfl]
        go_wp2_with fail
        refine (same13_any _ _ _ _ _ sL sW).mono ?_
        rintro e v11 ⟨rfl, hq⟩
        have oO := oO.below hq
        have oM := oM.below hq
        have oP := oP.below hq
        have oA := oA.below hq
        have oB := oB.below hq
        have oX := oX.below hq
        have oY := oY.below hq
        have sO := sO.below hq
        have sL := sL.below hq
        have sM := sM.below hq
        have sW := sW.below hq
        have sA := sA.below hq
        have sB := sB.below hq
        have sX := sX.below hq
        have sY := sY.below hq
        have sU := sU.below hq
        have sV := sV.below hq
        have hB := below_to hB hq
        clear hq
        rw [decide_eq_true rfl]
        go_wp2
        go_ret
        exact ⟨rfl, hB⟩

end Go.Proofs.Ytpkggglifahioaa
