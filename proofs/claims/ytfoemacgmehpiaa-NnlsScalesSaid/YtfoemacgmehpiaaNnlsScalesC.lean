/- What is proved here: the law NnlsScales returns true. Condition: a system that can be read, and two numbers. -/
import Derived.Test.YtfoemacgmehpiaaC25
import Derived.Test.YtfoemacgmehpiaaC52
import Derived.Test.YtfoemacgmehpiaaC53
import Derived.Test.YtfoemacgmehpiaaC54
import Derived.Test.YtfoemacgmehpiaaC24
import Derived.Test.YtfoemacgmehpiaaC28
import Derived.Test.YtfoemacgmehpiaaC02
import Derived.Test.YtfoemacgmehpiaaC15
import Derived.Test.YtfoemacgmehpiaaC01
import Derived.Deep.DeepCutAuto
namespace Go.Proofs.Ytfoemacgmehpiaa
open Go.RowKit

theorem info_ints : (Try.prog.info? 23).map (fun i => (i.zero, i.size, i.bytes)) = some (some (.slice none 0 0), 1, 24) := by kernel_rfl
theorem fmul2_as (an ad bn bd : Int) (r : FR) (w : World) (h1 : i64 an) (h2 : i64 ad) (h3 : i64 bn) (h4 : i64 bd) (hr : fmul an ad bn bd = r) :
    Calls Try.prog 47 #[.agg #[.int .i64 an, .int .i64 ad], .agg #[.int .i64 bn, .int .i64 bd]] w fun e w' => e = .returned (.tuple #[.agg #[.int .i64 r.n, .int .i64 r.d], .int .i64 r.e]) ∧ Below w.heap.size w w' := by
  subst hr; exact fmul_any an ad bn bd w h1 h2 h3 h4
/-- The rows' slices in the order that is turned. -/
def rotV (VS : List Value) (m t r : Nat) : List Value := (List.range r).map fun i => VS.getD ((i + t) % m) (.slice none 0 0)
theorem rotV_succ (VS : List Value) (m t r : Nat) : rotV VS m t (r + 1) = rotV VS m t r ++ [VS.getD ((r + t) % m) (.slice none 0 0)] := by simp [rotV, List.range_succ]
theorem rotV_len (VS : List Value) (m t r : Nat) : (rotV VS m t r).length = r := by simp [rotV]
theorem rotV_SS {w : World} {v : Value} {A : List (List Int)} {VS : List Value} (t : Nat) (hl : VS.length = A.length) (hm : 0 < A.length) (hv : Sl w v A.length (rotV VS A.length t A.length))
    (hs : ∀ i (h : i < A.length) (h' : i < VS.length), SI w VS[i] A[i]) : SS w v (rotA A t A.length) := by
  refine ⟨rotV VS A.length t A.length, by rw [rotV_len, rotA_len], by rw [rotA_len]; exact hv, fun i hi hi' => ?_⟩
  have h1 : i < A.length := by rw [rotA_len] at hi; exact hi
  have h2 : (i + t) % A.length < A.length := Nat.mod_lt _ hm
  have e1 : (rotV VS A.length t A.length)[i] = VS[(i + t) % A.length]'(by omega) := by
    simp only [rotV, List.getElem_map, List.getElem_range]
    exact getD_get (by omega)
  have e2 : (rotA A t A.length)[i] = A[(i + t) % A.length]'h2 := by
    simp only [rotA, List.getElem_map, List.getElem_range]
    exact getD_get h2
  rw [e1, e2]
  exact hs _ h2 (by omega)
set_option maxRecDepth 100000 in
set_option maxHeartbeats 16000000 in
theorem nnlsScales_any (A : List (List Int)) (B : List Int) (q turn : Int) (va vb : Value) (w : World) (hA : SS w va A) (hB : SI w vb B) :
    Calls Try.prog 10 #[.agg #[va, vb], .int .i64 q, .int .i64 turn] w fun e w' => e = .returned (.bool true) ∧ Below w.heap.size w w' := by
  go_enter Try.func10, Try.ntmps10
  have oS := Own.new w 25 [va, vb]
  have hy := ba1 w (.cells #[va, vb] 25)
  replace hA := hA.below hy
  replace hB := hB.below hy
  obtain ⟨rS, fS⟩ := oS.rules
  have zS := oS.lt
  go_wp2_with fail
  refine (alive37_any _).mono ?_
  rintro e y1 ⟨rfl, hq⟩
  clear rS fS zS
  replace oS := oS.below hq
  replace hA := hA.below hq
  replace hB := hB.below hq
  replace hy := below_to hy hq
  clear hq
  obtain ⟨rS, fS⟩ := oS.rules
  have zS := oS.lt
  go_wp2_with fail
  refine (rngreat_any A B _ _ _ hA hB).mono ?_
  rintro e y2 ⟨rfl, hq⟩
  clear rS fS zS
  replace oS := oS.below hq
  replace hA := hA.below hq
  replace hB := hB.below hq
  replace hy := below_to hy hq
  clear hq
  obtain ⟨rS, fS⟩ := oS.rules
  have zS := oS.lt
  by_cases g1 : ngreat A B = true
  · rw [g1]
    clear g1 hA hB
    go_wp2
    go_ret
    exact ⟨by first | rfl | simp, hy⟩
  have g1' : ngreat A B = false := by simpa using g1
  rw [g1']
  clear g1 g1'
  go_wp2_with fail
  refine (rncheck_any A B _ _ _ hA hB).mono ?_
  rintro e y3 ⟨rfl, hq⟩
  clear rS fS zS
  replace oS := oS.below hq
  replace hA := hA.below hq
  replace hB := hB.below hq
  replace hy := below_to hy hq
  clear hq
  obtain ⟨rS, fS⟩ := oS.rules
  have zS := oS.lt
  by_cases h0 : ncheck A B = 0
  case neg =>
    have q0 : (ncheck A B != 0) = true := by simpa using h0
    clear h0 hA hB
    go_wp2
    go_ret
    exact ⟨by first | rfl | simp, hy⟩
  rw [h0]
  by_cases g1 : q < 1
  · have q1 : decide (q < 1) = true := by simpa using g1
    clear hA hB h0
    go_wp2
    go_ret
    exact ⟨by first | rfl | simp, hy⟩
  have q1 : decide (q < 1) = false := by simpa using g1
  by_cases g2 : 50 < q
  · have q2 : decide (50 < q) = true := by simpa using g2
    clear hA hB h0
    go_wp2
    go_ret
    exact ⟨by first | rfl | simp, hy⟩
  have q2 : decide (50 < q) = false := by simpa using g2
  by_cases g3 : turn < 0
  · have q3 : decide (turn < 0) = true := by simpa using g3
    clear hA hB h0
    go_wp2
    go_ret
    exact ⟨by first | rfl | simp, hy⟩
  have q3 : decide (turn < 0) = false := by simpa using g3
  by_cases g4 : 100 < turn
  · have q4 : decide (100 < turn) = true := by simpa using g4
    clear hA hB h0
    go_wp2
    go_ret
    exact ⟨by first | rfl | simp, hy⟩
  have q4 : decide (100 < turn) = false := by simpa using g4
  obtain ⟨t, rfl⟩ : ∃ t : Nat, turn = (t : Int) := ⟨turn.toNat, by omega⟩
  have t100 : t ≤ 100 := by omega
  have qr : 1 ≤ q ∧ q ≤ 50 := ⟨by omega, by omega⟩
  clear g1 g2 g3 g4
  have HF := Lib.hid (fit_of h0)
  have hl1 := HF.out.rows
  have HR := Lib.hid HF.out.right
  have HI := Lib.hid (sol_FI (c := 0) HF.out (Int.le_refl 0) (by decide))
  have HS : Hid (nSolve A B 0 = (nsol A B 0 (A.getD 0 []).length, nS A B 0, 0)) := if_pos h0
  have RS := Lib.hid (rot_solve h0 t)
  have MS := Lib.hid (fun hm => more_solve h0 (q := q) (by omega) hm)
  clear h0
  go_wp2_with fail
  refine (nsolve_as A B _ _ _ _ hA hB HS.out).mono ?_
  rintro e y4 ⟨u, rfl, sx, hq⟩
  clear rS fS zS
  replace oS := oS.below hq
  replace hA := hA.below hq
  replace hB := hB.below hq
  replace hy := below_to hy hq
  clear hq
  obtain ⟨rS, fS⟩ := oS.rules
  have zS := oS.lt
  have sx' : SF y4 u (nsol A B 0 (A.getD 0 []).length) := sx
  clear sx
  obtain ⟨VS, hvl, ⟨ada, capa, rfl, ha1, ha2, ha3⟩, hvs⟩ := hA
  obtain ⟨adb, capb, rfl, hb1, hb2, hb3⟩ := hB.open
  have oM := own_first y4 25 [.slice ada A.length capa, .slice none 0 0] (.cells #[.slice none 0 0, .slice none 0 0] 25)
  have oT := own_second y4 25 [.slice none 0 0, .slice none 0 0] (.cells #[.slice ada A.length capa, .slice none 0 0] 25)
  have hq := ba2 y4 (.cells #[.slice ada A.length capa, .slice none 0 0] 25) (.cells #[.slice none 0 0, .slice none 0 0] 25)
  have HA3 := Lib.hid ha3
  have HV3 := Lib.hid hvs
  have HB3 := Lib.hid hb3
  have HVL := Lib.hid hvl
  have BO := Lib.hid hB
  have SX := Lib.hid sx'
  have OS := Lib.hid oS
  have HY := Lib.hid hy
  have z4 := oS.lt
  clear ha3 hvs hb3 hvl hB sx' hy oS
  have hb1' : A.length ≤ capb := by have := HR.out; omega
  have BL : Hid (B.length = A.length) := HF.out.right
  rw [BL.out] at hb1 hb2 ⊢
  go_upto_region 9 with fail
  have zq := hq.size
  generalize hW5 : ((y4.alloc (.cells #[.slice ada A.length capa, .slice none 0 0] 25)).alloc (.cells #[.slice none 0 0, .slice none 0 0] 25)) = y5 at *
  have hs5 : y5.heap.size = y4.heap.size + 2 := by rw [← hW5]; simp
  clear hW5 rS fS zS
  obtain ⟨b0, hb0⟩ : ∃ b, b = y4.heap.size := ⟨_, rfl⟩
  rw [← hb0] at oM oT zq hs5 z4 ⊢
  have HB0 := Lib.hid hb0
  clear hb0
  go_wp2
  go_loopw [13] (fun i wr => ∃ (r : Nat) (v1 v2 v3 : Value), r ≤ A.length ∧ i = .int .i64 r ∧ Own wr b0 25 [.slice ada A.length capa, v1] ∧ Own wr (b0 + 1) 25 [v2, v3] ∧ wr.ownsRow (b0 + 2) 3 1 v1 r (ics (moreB B q r)) ∧ wr.ownsRow (b0 + 2) 23 1 v2 r (rotV VS A.length t r) ∧ wr.ownsRow (b0 + 2) 3 1 v3 r (ics (rotB A B t r)) ∧ Apart v1 v2 ∧ Apart v1 v3 ∧ Apart v2 v3 ∧ Below b0 y4 wr ∧ b0 + 2 ≤ wr.heap.size) (fun i _ => A.length - (intOf i).toNat)
  case atStart => exact ⟨0, _, _, _, Nat.zero_le _, rfl, oM, oT, World.ownsRow_nil _ _ _ _, World.ownsRow_nil _ _ _ _, World.ownsRow_nil _ _ _ _, apart_nil _, apart_nil _, apart_nil _, by rw [HB0.out]; exact hq, by omega⟩
  case round =>
    clear oM oT hq zq
    obtain ⟨r, v1, v2, v3, hr, rfl, oM, oT, w1, w2, w3, p12, p13, p23, hW, hsz⟩ := hrel
    rename World => W
    have hWy : Below y4.heap.size y4 W := by rw [← HB0.out]; exact hW
    by_cases hlt : r < A.length
    · obtain ⟨j, hj⟩ : ∃ j, j = (r + t) % A.length := ⟨_, rfl⟩
      have hj2 : j < A.length := by rw [hj]; exact Nat.mod_lt _ (by omega)
      have m4 : ((r : Int) + (t : Int)) % (A.length : Int) = (j : Int) := by rw [hj]; rfl
      have m3 : ((A.length : Int) == 0) = false := beq_eq_false_iff_ne.2 (by omega)
      have hrB : r < B.length := by rw [BL.out]; exact hlt
      have hjB : j < B.length := by rw [BL.out]; exact hj2
      have hjV : j < VS.length := by rw [HVL.out]; exact hj2
      obtain ⟨b1, o1, e, c1⟩ := HB3.out r hrB
      subst e
      obtain ⟨_, _, e, c2⟩ := HB3.out j hjB
      cases e
      obtain ⟨b3, o3, e, c3⟩ := HA3.out j VS[j] (by simp [hjV])
      subst e
      obtain ⟨ad', cap', ev, _, _, _⟩ := HV3.out j hj2 hjV
      have EV : Hid (VS.getD ((r + t) % A.length) (.slice none 0 0) = .slice ad' A[j].length cap') := by show _ = _; rw [← hj, getD_get hjV, ev]
      rw [ev] at c3
      have E1 := Lib.hid (moreB_succ (B := B) q r)
      have E2 := Lib.hid (rotV_succ VS A.length t r)
      have E3 := Lib.hid (rotB_succ (A := A) (B := B) t r)
      have bb := HF.out.side r hrB
      have em : wrap64 (q * B[r]) = q * B[r] := by
        rcases wr_mulbd' (X := 50) (Y := 50) (Z := 2500) (x := q) (y := B[r]) (by omega) (by omega) (by decide) with ⟨u1, u2⟩
        exact Go.IntWalk.wrap64_in _ (by omega)
      rw [getD_get hrB] at E1
      rw [← hj, getD_get hjB] at E3
      rw [EV.out] at E2
      clear ev bb EV hj
      have C1 : Hid (y4.cell? ⟨b1, o1 + r, none⟩ = some (.int .i64 B[r])) := c1
      have C2 : Hid (y4.cell? ⟨b1, o1 + j, none⟩ = some (.int .i64 B[j])) := c2
      have C3 : Hid (y4.cell? ⟨b3, o3 + j, none⟩ = some (.slice ad' A[j].length cap')) := c3
      clear c1 c2 c3
      generalize B[r] = x1 at *
      generalize B[j] = x2 at *
      generalize A[j].length = n3 at *
      have oS := OS.out.below hWy
      have d1 := below_cell hWy C1.out
      clear hWy
      obtain ⟨rS, fS⟩ := oS.rules
      have zS := oS.lt
      obtain ⟨rM, fM⟩ := oM.rules
      have zM := oM.lt
      obtain ⟨rT, fT⟩ := oT.rules
      have zT := oT.lt
      go_wp2_with fail
      refine wp_region_st [.t [0, 1, 2, 3, 4, 5, 6, 7, 8], .f 9] [10, 11, 12] (by kernel_rfl) (by kernel_rfl) (fun _ _ _ _ _ h => h) ?_
      have z1 := World.block_lt_of_cell? W _ d1
      simp only at z1
      have gl := @grow_lt
      refine wpX_t ?_
      try simp only [opsAt, List.getElem?_toArray, List.getElem?_cons_zero, List.getElem?_cons_succ, Option.getD_some]
      repeat (go_big_quiet_step (fail))
      refine wpQuiet_nil ?_
      clear gl z1
      have hR : Below W.heap.size W W.drew := (Below.refl _ _).drew
      clear rS fS zS rM fM zM rT fT zT
      replace oS := oS.below hR
      replace oM := oM.below hR
      replace oT := oT.below hR
      replace w1 := owns_at w1 hR
      replace w2 := owns_at w2 hR
      replace w3 := owns_at w3 hR
      clear d1
      replace hW := hW.trans (hR.mono (by omega))
      have hsz1 := Nat.le_trans hsz hR.size
      clear hsz
      have hsz := hsz1
      clear hsz1
      generalize W.drew = U12 at *
      obtain ⟨rS, fS⟩ := oS.rules
      have zS := oS.lt
      obtain ⟨rM, fM⟩ := oM.rules
      have zM := oM.lt
      obtain ⟨rT, fT⟩ := oT.rules
      have zT := oT.lt
      refine wpX_f rfl rfl (fun K' hK' => ?_)
      go_simp
      refine hK' _ _ (grow_of (hR.alloc hR.size _)) ?_
      clear hK' K' hR
      refine wpX_nil ?_
      try simp only [opsAt, List.getElem?_toArray, List.getElem?_cons_zero, List.getElem?_cons_succ, Option.getD_some]
      go_wp2_with (at_builtin; refine wpList_app3 _ rfl _ _ _ rfl (b0 + 2) 3 1 8 (.int .i64 0) Try.underlying23 Try.infoInt rfl (by omega) (by omega) v1 r _ rfl (w1.alloc _) (by omega) (by simp; omega) U12.heap.size [.int .i64 (q * x1)] (0, 0) rfl (heap_alloc_new U12 _) rfl (by simp [Value.oneCell']) ?_; intro g1 cap1 X12 hown hg hbw hkp; have hoS := (oS.alloc (.cells #[.int .i64 (q * x1)] 3)).at hbw (by omega); have hoM := (oM.alloc (.cells #[.int .i64 (q * x1)] 3)).at hbw (by omega); have hoT := (oT.alloc (.cells #[.int .i64 (q * x1)] 3)).at hbw (by omega); obtain ⟨rA, fA⟩ := hoM.rules; have zA := hoM.lt; obtain ⟨rC, fC⟩ := hoT.rules; have zC := hoT.lt)
      clear rS fS zS rM fM zM rT fT zT
      clear rA fA zA rC fC zC oS oM oT
      have nw1 := owns_set_low hown (p := ⟨b0, 1, none⟩) (by show b0 < b0 + 2; omega) (Value.slice (some ⟨g1, 0, none⟩) (r + 1) cap1)
      have nw2 := owns_set_low (hkp.row (w2.alloc _) p12.symm) (p := ⟨b0, 1, none⟩) (by show b0 < b0 + 2; omega) (Value.slice (some ⟨g1, 0, none⟩) (r + 1) cap1)
      have nw3 := owns_set_low (hkp.row (w3.alloc _) p13.symm) (p := ⟨b0, 1, none⟩) (by show b0 < b0 + 2; omega) (Value.slice (some ⟨g1, 0, none⟩) (r + 1) cap1)
      have np12 := (hkp.apart (w2.alloc _) p12.symm (r + 1) cap1).symm
      have np13 := (hkp.apart (w3.alloc _) p13.symm (r + 1) cap1).symm
      clear hkp w1 w2 w3 p12 p13
      have w1 := nw1
      have w2 := nw2
      have w3 := nw3
      have p12 := np12
      have p13 := np13
      clear nw1 nw2 nw3 np12 np13
      have oM := hoM.set 1 (Value.slice (some ⟨g1, 0, none⟩) (r + 1) cap1)
      have oT := hoT.other (g' := b0) (by omega) 1 (Value.slice (some ⟨g1, 0, none⟩) (r + 1) cap1)
      replace hW := ((hW.alloc (by omega) (.cells #[.int .i64 (q * x1)] 3)).trans (hbw.mono (by omega))).setCell (p := ⟨b0, 1, none⟩) (by show b0 ≤ b0; omega) (Value.slice (some ⟨g1, 0, none⟩) (r + 1) cap1)
      have hsz1 : b0 + 2 ≤ (X12.setCell ⟨b0, 1, none⟩ (Value.slice (some ⟨g1, 0, none⟩) (r + 1) cap1)).heap.size := by have := hbw.size; simp at this ⊢; omega
      clear hsz hoS hoM hoT hown hg hbw
      have hsz := hsz1
      clear hsz1
      generalize X12.setCell ⟨b0, 1, none⟩ (Value.slice (some ⟨g1, 0, none⟩) (r + 1) cap1) = W13 at *
      have hWy : Below y4.heap.size y4 W13 := by rw [← HB0.out]; exact hW
      generalize (Value.slice (some ⟨g1, 0, none⟩) (r + 1) cap1) = nv1 at *
      have oS := OS.out.below hWy
      have d1 := below_cell hWy C3.out
      clear hWy
      obtain ⟨rS, fS⟩ := oS.rules
      have zS := oS.lt
      obtain ⟨rM, fM⟩ := oM.rules
      have zM := oM.lt
      obtain ⟨rT, fT⟩ := oT.rules
      have zT := oT.lt
      go_upto_region 13 with fail
      refine wp_region_st [.t [0, 1, 2, 3, 4, 5, 6, 7, 8, 9, 10, 11, 12], .f 13] [14, 15, 16] (by kernel_rfl) (by kernel_rfl) (fun _ _ _ _ _ h => h) ?_
      have z1 := World.block_lt_of_cell? W13 _ d1
      simp only at z1
      have gl := @grow_lt
      refine wpX_t ?_
      try simp only [opsAt, List.getElem?_toArray, List.getElem?_cons_zero, List.getElem?_cons_succ, Option.getD_some]
      repeat (go_big_quiet_step (fail))
      refine wpQuiet_nil ?_
      clear gl z1
      have hR : Below W13.heap.size W13 W13.drew := (Below.refl _ _).drew
      clear rS fS zS rM fM zM rT fT zT
      replace oS := oS.below hR
      replace oM := oM.below hR
      replace oT := oT.below hR
      replace w1 := owns_at w1 hR
      replace w2 := owns_at w2 hR
      replace w3 := owns_at w3 hR
      clear d1
      replace hW := hW.trans (hR.mono (by omega))
      have hsz1 := Nat.le_trans hsz hR.size
      clear hsz
      have hsz := hsz1
      clear hsz1
      generalize W13.drew = U13 at *
      obtain ⟨rS, fS⟩ := oS.rules
      have zS := oS.lt
      obtain ⟨rM, fM⟩ := oM.rules
      have zM := oM.lt
      obtain ⟨rT, fT⟩ := oT.rules
      have zT := oT.lt
      refine wpX_f rfl rfl (fun K' hK' => ?_)
      go_simp
      refine hK' _ _ (grow_of (hR.alloc hR.size _)) ?_
      clear hK' K' hR
      refine wpX_nil ?_
      try simp only [opsAt, List.getElem?_toArray, List.getElem?_cons_zero, List.getElem?_cons_succ, Option.getD_some]
      go_wp2_with (at_builtin; refine wpList_app3 _ rfl _ _ _ rfl (b0 + 2) 23 1 24 (.slice none 0 0) Try.underlying22 info_ints rfl (by omega) (by omega) v2 r _ rfl (w2.alloc _) (by omega) (by simp; omega) U13.heap.size [(.slice ad' n3 cap')] (0, 0) rfl (heap_alloc_new U13 _) rfl (by simp [Value.oneCell']) ?_; intro g2 cap2 X13 hown hg hbw hkp; have hoS := (oS.alloc (.cells #[(.slice ad' n3 cap')] 23)).at hbw (by omega); have hoM := (oM.alloc (.cells #[(.slice ad' n3 cap')] 23)).at hbw (by omega); have hoT := (oT.alloc (.cells #[(.slice ad' n3 cap')] 23)).at hbw (by omega); obtain ⟨rA, fA⟩ := hoM.rules; have zA := hoM.lt; obtain ⟨rC, fC⟩ := hoT.rules; have zC := hoT.lt)
      clear rS fS zS rM fM zM rT fT zT
      clear rA fA zA rC fC zC oS oM oT
      have nw2 := owns_set_low hown (p := ⟨b0 + 1, 0, none⟩) (by show b0 + 1 < b0 + 2; omega) (Value.slice (some ⟨g2, 0, none⟩) (r + 1) cap2)
      have nw1 := owns_set_low (hkp.row (w1.alloc _) p12) (p := ⟨b0 + 1, 0, none⟩) (by show b0 + 1 < b0 + 2; omega) (Value.slice (some ⟨g2, 0, none⟩) (r + 1) cap2)
      have nw3 := owns_set_low (hkp.row (w3.alloc _) p23.symm) (p := ⟨b0 + 1, 0, none⟩) (by show b0 + 1 < b0 + 2; omega) (Value.slice (some ⟨g2, 0, none⟩) (r + 1) cap2)
      have np12 := (hkp.apart (w1.alloc _) p12 (r + 1) cap2)
      have np23 := (hkp.apart (w3.alloc _) p23.symm (r + 1) cap2).symm
      clear hkp w1 w2 w3 p12 p23
      have w1 := nw1
      have w2 := nw2
      have w3 := nw3
      have p12 := np12
      have p23 := np23
      clear nw1 nw2 nw3 np12 np23
      have oT := hoT.set 0 (Value.slice (some ⟨g2, 0, none⟩) (r + 1) cap2)
      have oM := hoM.other (g' := b0 + 1) (by omega) 0 (Value.slice (some ⟨g2, 0, none⟩) (r + 1) cap2)
      replace hW := ((hW.alloc (by omega) (.cells #[(.slice ad' n3 cap')] 23)).trans (hbw.mono (by omega))).setCell (p := ⟨b0 + 1, 0, none⟩) (by show b0 ≤ b0 + 1; omega) (Value.slice (some ⟨g2, 0, none⟩) (r + 1) cap2)
      have hsz1 : b0 + 2 ≤ (X13.setCell ⟨b0 + 1, 0, none⟩ (Value.slice (some ⟨g2, 0, none⟩) (r + 1) cap2)).heap.size := by have := hbw.size; simp at this ⊢; omega
      clear hsz hoS hoM hoT hown hg hbw
      have hsz := hsz1
      clear hsz1
      generalize X13.setCell ⟨b0 + 1, 0, none⟩ (Value.slice (some ⟨g2, 0, none⟩) (r + 1) cap2) = W14 at *
      have hWy : Below y4.heap.size y4 W14 := by rw [← HB0.out]; exact hW
      generalize (Value.slice (some ⟨g2, 0, none⟩) (r + 1) cap2) = nv2 at *
      have oS := OS.out.below hWy
      have d1 := below_cell hWy C2.out
      clear hWy
      obtain ⟨rS, fS⟩ := oS.rules
      have zS := oS.lt
      obtain ⟨rM, fM⟩ := oM.rules
      have zM := oM.lt
      obtain ⟨rT, fT⟩ := oT.rules
      have zT := oT.lt
      go_upto_region 14 with fail
      refine wp_region_st [.t [0, 1, 2, 3, 4, 5, 6, 7, 8, 9, 10, 11, 12], .f 13] [14, 15, 16] (by kernel_rfl) (by kernel_rfl) (fun _ _ _ _ _ h => h) ?_
      have z1 := World.block_lt_of_cell? W14 _ d1
      simp only at z1
      have gl := @grow_lt
      refine wpX_t ?_
      try simp only [opsAt, List.getElem?_toArray, List.getElem?_cons_zero, List.getElem?_cons_succ, Option.getD_some]
      repeat (go_big_quiet_step (fail))
      refine wpQuiet_nil ?_
      clear gl z1
      have hR : Below W14.heap.size W14 W14.drew := (Below.refl _ _).drew
      clear rS fS zS rM fM zM rT fT zT
      replace oS := oS.below hR
      replace oM := oM.below hR
      replace oT := oT.below hR
      replace w1 := owns_at w1 hR
      replace w2 := owns_at w2 hR
      replace w3 := owns_at w3 hR
      clear d1
      replace hW := hW.trans (hR.mono (by omega))
      have hsz1 := Nat.le_trans hsz hR.size
      clear hsz
      have hsz := hsz1
      clear hsz1
      generalize W14.drew = U14 at *
      obtain ⟨rS, fS⟩ := oS.rules
      have zS := oS.lt
      obtain ⟨rM, fM⟩ := oM.rules
      have zM := oM.lt
      obtain ⟨rT, fT⟩ := oT.rules
      have zT := oT.lt
      refine wpX_f rfl rfl (fun K' hK' => ?_)
      go_simp
      refine hK' _ _ (grow_of (hR.alloc hR.size _)) ?_
      clear hK' K' hR
      refine wpX_nil ?_
      try simp only [opsAt, List.getElem?_toArray, List.getElem?_cons_zero, List.getElem?_cons_succ, Option.getD_some]
      go_wp2_with (at_builtin; refine wpList_app3 _ rfl _ _ _ rfl (b0 + 2) 3 1 8 (.int .i64 0) Try.underlying23 Try.infoInt rfl (by omega) (by omega) v3 r _ rfl (w3.alloc _) (by omega) (by simp; omega) U14.heap.size [.int .i64 x2] (0, 0) rfl (heap_alloc_new U14 _) rfl (by simp [Value.oneCell']) ?_; intro g3 cap3 X14 hown hg hbw hkp; have hoS := (oS.alloc (.cells #[.int .i64 x2] 3)).at hbw (by omega); have hoM := (oM.alloc (.cells #[.int .i64 x2] 3)).at hbw (by omega); have hoT := (oT.alloc (.cells #[.int .i64 x2] 3)).at hbw (by omega); obtain ⟨rA, fA⟩ := hoM.rules; have zA := hoM.lt; obtain ⟨rC, fC⟩ := hoT.rules; have zC := hoT.lt)
      go_roundw
      case rel =>
        have nw1 := owns_set_low (hkp.row (w1.alloc _) p13) (p := ⟨b0 + 1, 1, none⟩) (by show b0 + 1 < b0 + 2; omega) (Value.slice (some ⟨g3, 0, none⟩) (r + 1) cap3)
        have nw2 := owns_set_low (hkp.row (w2.alloc _) p23) (p := ⟨b0 + 1, 1, none⟩) (by show b0 + 1 < b0 + 2; omega) (Value.slice (some ⟨g3, 0, none⟩) (r + 1) cap3)
        have nw3 := owns_set_low hown (p := ⟨b0 + 1, 1, none⟩) (by show b0 + 1 < b0 + 2; omega) (Value.slice (some ⟨g3, 0, none⟩) (r + 1) cap3)
        refine ⟨r + 1, nv1, nv2, _, by omega, by go_num, hoM.other (g' := b0 + 1) (by omega) 1 (Value.slice (some ⟨g3, 0, none⟩) (r + 1) cap3), hoT.set 1 (Value.slice (some ⟨g3, 0, none⟩) (r + 1) cap3), ?_, ?_, ?_, p12, hkp.apart (w1.alloc _) p13 (r + 1) cap3, hkp.apart (w2.alloc _) p23 (r + 1) cap3, ((hW.alloc (by omega) (.cells #[.int .i64 x2] 3)).trans (hbw.mono (by omega))).setCell (p := ⟨b0 + 1, 1, none⟩) (by show b0 ≤ b0 + 1; omega) (Value.slice (some ⟨g3, 0, none⟩) (r + 1) cap3), by have := hbw.size; simp at this ⊢; omega⟩
        · rw [E1.out]; simpa [ics] using nw1
        · rw [E2.out]; exact nw2
        · rw [E3.out]; simpa [ics] using nw3
      case measure => simp [intOf]; try omega
    · obtain rfl : r = A.length := by omega
      have oS := OS.out.below hWy
      have hA : SS W (.slice ada A.length capa) A := ⟨VS, HVL.out, Sl.below ⟨ada, capa, rfl, ha1, ha2, HA3.out⟩ hWy, fun i hi hi' => (HV3.out i hi hi').below hWy⟩
      have sA : SS W v2 (rotA A t A.length) := rotV_SS t HVL.out hl1.1 (by have h := owns_sl w2 (by omega); exact h) fun i hi hi' => (HV3.out i hi hi').below hWy
      have sB : SI W v3 (rotB A B t A.length) := by
        have h := owns_sl w3 (by omega)
        unfold SI
        rw [rotB_len]; exact h
      have sM : SI W v1 (moreB B q A.length) := by
        have h := owns_sl w1 (by omega)
        unfold SI
        rw [moreB_len]; exact h
      have sx := SX.out.below hWy
      have hy := below_to HY.out hWy
      clear HA3 HV3 HB3 HVL BO SX OS HY w1 w2 w3 p12 p13 p23 hW hWy hsz HB0
      obtain ⟨rs1, rs2⟩ := RS.out
      have RS2 := Lib.hid rs2
      clear RS rs1 rs2
      have n3 := HF.out.cols.2
      obtain ⟨n, hn⟩ : ∃ n, n = (A.getD 0 []).length := ⟨_, rfl⟩
      rw [← hn] at RS2 HI HS MS sx n3
      have EX : Hid (∀ k, k < n → (nsol A B 0 n)[k]? = some (up (nsx A B 0 k))) := fun k hk => nsol_get hk
      have XL : Hid ((nsol A B 0 n).length = n) := nsol_len
      clear hn HS
      generalize nS A B 0 = st at *
      generalize nsol A B 0 n = X at *
      have hrB : ¬ (A.length : Int) < (B.length : Int) := by rw [BL.out]; omega
      have qB : decide ((A.length : Int) < (B.length : Int)) = false := decide_eq_false hrB
      obtain ⟨rS, fS⟩ := oS.rules
      have zS := oS.lt
      obtain ⟨rM, fM⟩ := oM.rules
      have zM := oM.lt
      obtain ⟨rT, fT⟩ := oT.rules
      have zT := oT.lt
      go_wp2_with fail
      refine (nsolve_as (rotA A t A.length) (rotB A B t A.length) _ _ _ _ sA sB RS2.out).mono ?_
      rintro e z1 ⟨u2, rfl, sz, hq⟩
      clear rS fS zS rM fM zM rT fT zT
      replace oS := oS.below hq
      replace oM := oM.below hq
      replace oT := oT.below hq
      replace hA := hA.below hq
      replace sM := sM.below hq
      replace sx := sx.below hq
      replace hy := below_to hy hq
      clear hq
      obtain ⟨rS, fS⟩ := oS.rules
      have zS := oS.lt
      obtain ⟨rM, fM⟩ := oM.rules
      have zM := oM.lt
      obtain ⟨rT, fT⟩ := oT.rules
      have zT := oT.lt
      have sz' : SF z1 u2 X := sz
      clear sz sA sB RS2
      have b5 : ((st : Int) != (st : Int)) = false := by simp
      go_wp2_with fail
      refine (rsame_true X _ _ _ sz' sx).mono ?_
      rintro e z2 ⟨rfl, hq⟩
      clear rS fS zS rM fM zM rT fT zT
      replace oS := oS.below hq
      replace oM := oM.below hq
      replace oT := oT.below hq
      replace hA := hA.below hq
      replace sM := sM.below hq
      replace sx := sx.below hq
      replace hy := below_to hy hq
      clear hq
      obtain ⟨rS, fS⟩ := oS.rules
      have zS := oS.lt
      obtain ⟨rM, fM⟩ := oM.rules
      have zM := oM.lt
      obtain ⟨rT, fT⟩ := oT.rules
      have zT := oT.lt
      clear sz'
      go_wp2_with fail
      refine (rncheck_any A (moreB B q A.length) _ _ _ hA sM).mono ?_
      rintro e z3 ⟨rfl, hq⟩
      clear rS fS zS rM fM zM rT fT zT
      replace oS := oS.below hq
      replace oM := oM.below hq
      replace oT := oT.below hq
      replace hA := hA.below hq
      replace sM := sM.below hq
      replace sx := sx.below hq
      replace hy := below_to hy hq
      clear hq
      obtain ⟨rS, fS⟩ := oS.rules
      have zS := oS.lt
      obtain ⟨rM, fM⟩ := oM.rules
      have zM := oM.lt
      obtain ⟨rT, fT⟩ := oT.rules
      have zT := oT.lt
      by_cases h0 : ncheck A (moreB B q A.length) = 0
      case neg =>
        have q0 : (ncheck A (moreB B q A.length) != 0) = true := by simpa using h0
        clear h0 hA sM sx
        go_wp2
        go_ret
        exact ⟨by first | rfl | simp, hy⟩
      rw [h0]
      obtain ⟨ms1, ms2⟩ := MS.out h0
      have MS1 := Lib.hid ms1
      have MS2 := Lib.hid ms2
      clear MS ms1 ms2 h0
      go_wp2_with fail
      refine (nsolve_as A (moreB B q A.length) _ _ _ _ hA sM MS1.out).mono ?_
      rintro e z4 ⟨u3, rfl, sw, hq⟩
      clear rS fS zS rM fM zM rT fT zT
      replace oS := oS.below hq
      replace oM := oM.below hq
      replace oT := oT.below hq
      replace sx := sx.below hq
      replace hy := below_to hy hq
      clear hq
      obtain ⟨rS, fS⟩ := oS.rules
      have zS := oS.lt
      obtain ⟨rM, fM⟩ := oM.rules
      have zM := oM.lt
      obtain ⟨rT, fT⟩ := oT.rules
      have zT := oT.lt
      have sw' : SF z4 u3 ((List.range n).map fun k => up (nsx A B 0 k * (q : Rat))) := sw
      clear sw hA sM MS1
      have YL : Hid (((List.range n).map fun k => up (nsx A B 0 k * (q : Rat))).length = n) := by show _ = _; simp
      have EY : Hid (∀ k, k < n → ((List.range n).map fun k => up (nsx A B 0 k * (q : Rat)))[k]? = some (up (nsx A B 0 k * (q : Rat)))) := fun k hk => by
        show _ = _
        rw [List.getElem?_map, List.getElem?_range hk]; rfl
      have EM : Hid (∀ k, k < n → fmul (up (nsx A B 0 k)).1 (up (nsx A B 0 k)).2 q 1 = ⟨(up (nsx A B 0 k * (q : Rat))).1, (up (nsx A B 0 k * (q : Rat))).2, 0⟩) := fun k hk => mul_whole (by omega) qr.2 (MS2.out k hk).1 (MS2.out k hk).2
      have EC : Hid (∀ k, k < n → i64 (up (nsx A B 0 k)).1 ∧ i64 (up (nsx A B 0 k)).2) := fun k hk => fr_i64 (up_chk (MS2.out k hk).1)
      have iq : i64 q := ⟨by omega, by omega⟩
      clear MS2
      generalize ((List.range n).map fun k => up (nsx A B 0 k * (q : Rat))) = Y at *
      obtain ⟨adx, capx, e, hx1, hx2, _⟩ := sx.open
      subst e
      obtain ⟨ady, capy, e, hy1, hy2, _⟩ := sw'.open
      subst e
      rw [XL.out] at hx1 hx2 sx ⊢
      rw [YL.out] at hy1 hy2 sw' ⊢
      have SX := Lib.hid sx
      have SY := Lib.hid sw'
      have HY := Lib.hid hy
      have b6 : ((n : Int) != (n : Int)) = false := by simp
      clear sx sw' hy oS oM oT
      go_wp2
      clear rS fS zS rM fM zM rT fT zT
      go_loopw [20] (fun i wr => ∃ k : Nat, k ≤ n ∧ i = .int .i64 k ∧ Below z4.heap.size z4 wr) (fun i _ => n - (intOf i).toNat)
      case atStart => exact ⟨0, Nat.zero_le _, rfl, Below.refl _ _⟩
      case round =>
        obtain ⟨k, hk, rfl, hW⟩ := hrel
        rename World => W9
        by_cases hlk : k < n
        · have hkX : k < X.length := by rw [XL.out]; exact hlk
          have hkY : k < Y.length := by rw [YL.out]; exact hlk
          obtain ⟨_, _, e, _, _, H⟩ := (SX.out.below hW).open
          rw [XL.out] at e
          cases e
          obtain ⟨b1, o1, rfl, d1, d2⟩ := H.out k hkX
          clear H
          obtain ⟨_, _, e, _, _, H⟩ := (SY.out.below hW).open
          rw [YL.out] at e
          cases e
          obtain ⟨b2, o2, rfl, d3, d4⟩ := H.out k hkY
          clear H
          rw [show X[k] = up (nsx A B 0 k) by simpa [hkX] using EX.out k hlk] at d1 d2
          rw [show Y[k] = up (nsx A B 0 k * (q : Rat)) by simpa [hkY] using EY.out k hlk] at d3 d4
          have em := Lib.hid (EM.out k hlk)
          have I1 := Lib.hid (EC.out k hlk)
          clear hkX hkY
          generalize (up (nsx A B 0 k)).1 = xn at *
          generalize (up (nsx A B 0 k)).2 = xd at *
          generalize (up (nsx A B 0 k * (q : Rat))).1 = pn at *
          generalize (up (nsx A B 0 k * (q : Rat))).2 = pd at *
          have z1' := World.block_lt_of_cell? W9 _ d1
          have z2' := World.block_lt_of_cell? W9 _ d3
          simp only at z1' z2'
          go_wp2_with fail
          have gl := @grow_lt
          refine wp_region_fs [(10, ⟨39, [.int .i64 0, .int .i64 0], fun b => .pointer (some ⟨b, 0, none⟩)⟩)] [0, 1, 2, 3, 4] [.op 5, .op 6, .tk 7, .tk 8, .tk 9, .fl 10, .op 11] [12] (by kernel_rfl) (by kernel_rfl) ⟨fun ρ W => by kernel_rfl, trivial⟩ (fun _ _ _ _ _ h => h) (fun _ _ _ _ _ h => h) ?_
          try simp only [opsAt, List.getElem?_toArray, List.getElem?_cons_zero, List.getElem?_cons_succ, Option.getD_some]
          repeat (go_big_quiet_step (fail))
          refine wpQuiet_nil ?_
          clear gl
          refine wpFl_op rfl ?_
          intro w3 hb3 K' hK'
          go_simp
          refine (rof_any q _).mono ?_
          rintro e w5 ⟨rfl, hq⟩
          refine hK' _ _ (Mod.of_below hq) ?_
          clear hK' K'
          have hF := below_to hb3 hq
          clear hb3 hq
          refine wpFl_op rfl ?_
          intro w3 hb3 K' hK'
          go_simp
          refine (fmul2_as xn xd q 1 _ _ I1.out.1 I1.out.2 iq ⟨by decide, by decide⟩ em.out).mono ?_
          rintro e w5 ⟨rfl, hq⟩
          refine hK' _ _ (Mod.of_below hq) ?_
          clear hK' K'
          replace hF := below_to hF (below_to hb3 hq)
          clear hb3 hq
          refine wpFl_tk ?_
          try simp only [opsAt, List.getElem?_toArray, List.getElem?_cons_zero, List.getElem?_cons_succ, Option.getD_some]
          repeat (go_big_quiet_step (fail))
          refine wpQuiet_nil ?_
          refine wpFl_tk ?_
          try simp only [opsAt, List.getElem?_toArray, List.getElem?_cons_zero, List.getElem?_cons_succ, Option.getD_some]
          repeat (go_big_quiet_step (fail))
          refine wpQuiet_nil ?_
          refine wpFl_tk ?_
          try simp only [opsAt, List.getElem?_toArray, List.getElem?_cons_zero, List.getElem?_cons_succ, Option.getD_some]
          repeat (go_big_quiet_step (fail))
          refine wpQuiet_nil ?_
          refine wpFl_fl rfl ?_
          intro bN w6 hb6 oN zN0 _
          go_simp
          replace hF := below_to hF hb6
          refine wpFl_op rfl ?_
          intro w7 hb7 K' hK'
          replace oN := oN.below hb7
          replace hF := below_to hF hb7
          clear hb6 hb7
          obtain ⟨rN, fN⟩ := oN.rules
          have zN := oN.lt
          go_wp2_with fail
          refine hK' _ _ (((Mod.refl _ _).set (by simp) _).set (by simp) _) ?_
          clear hK' K' rN fN zN
          replace oN := (oN.set 0 (.int .i64 pn)).set 1 (.int .i64 pd)
          replace hF := (hF.setCell (p := ⟨bN, 0, none⟩) zN0 (.int .i64 pn)).setCell (p := ⟨bN, 1, none⟩) zN0 (.int .i64 pd)
          refine wpFl_nil (fun w8 hb8 => ?_)
          replace oN := oN.below hb8
          replace hF := below_to hF hb8
          clear hb8
          try simp only [opsAt, List.getElem?_toArray, List.getElem?_cons_zero, List.getElem?_cons_succ, Option.getD_some]
          replace d3 := below_cell hF d3
          replace d4 := below_cell hF d4
          replace hW := below_to hW hF
          clear hF d1 d2 z1' z2'
          have z2' := World.block_lt_of_cell? _ _ d3
          simp only at z2'
          obtain ⟨rN, fN⟩ := oN.rules
          have zN := oN.lt
          go_upto_region 27 with fail
          have gl := @grow_lt
          refine wp_region_grow (by kernel_rfl) (by kernel_rfl) ?_
          repeat (go_big_quiet_step (fail))
          refine wpQuiet_nil ?_
          rintro _ ⟨ex2, rfl⟩
          have hq := below_grow w8 ex2
          clear gl
          go_wp2
          go_roundw
          case rel => exact ⟨k + 1, by omega, by go_num, below_to hW hq⟩
          case measure => simp [intOf]; try omega
        · obtain rfl : k = n := by omega
          have hy := below_to HY.out hW
          go_wp2
          go_ret
          exact ⟨by first | rfl | simp, hy⟩
end Go.Proofs.Ytfoemacgmehpiaa
