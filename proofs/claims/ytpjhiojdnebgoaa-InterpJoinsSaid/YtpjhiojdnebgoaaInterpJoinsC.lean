/- What is proved here: the law InterpJoins returns true. Condition: four slices of fractions of 64-bit numbers. -/
import Derived.Test.YtpjhiojdnebgoaaC39
import Derived.Test.YtpjhiojdnebgoaaC43
import Derived.Test.YtpjhiojdnebgoaaC35
import Derived.Test.YtpjhiojdnebgoaaC38
import Derived.Test.YtpjhiojdnebgoaaC02
import Derived.Test.YtpjhiojdnebgoaaC23
import Derived.Test.YtpjhiojdnebgoaaC21
import Derived.Test.YtpjhiojdnebgoaaC01
import Derived.RegionTactic
import Derived.ChangeAlike
import Derived.BigRegion
import Derived.BigQuiet
import Derived.IntWalk
import Derived.Deep.DeepCutAuto
namespace Go.Proofs.Ytpjhiojdnebgoaa
open Go.RowKit

theorem ffilt_20 {l t : List (Int × Int)} (h : (ffilt l t).2 = 0) : t.length ≤ 20 := by
  unfold ffilt at h
  split at h
  · cases h
  · omega
theorem addF_i64 (l m : List (Int × Int)) (k : Nat) : i64 (addF l m k).n ∧ i64 (addF l m k).d := fadd_i64 _ _ _ _
theorem joins_info : (Try.prog.info? 24).map (fun i => (i.zero, i.size, i.bytes)) = some (some (.agg #[.int .i64 0, .int .i64 0]), 2, 16) := by kernel_rfl
def sumsOk (l m : List (Int × Int)) (k : Nat) : Prop := ∀ i, i < k → fchk (l.getD i (0, 0)).1 (l.getD i (0, 0)).2 = 0 ∧ fchk (m.getD i (0, 0)).1 (m.getD i (0, 0)).2 = 0 ∧ (addF l m i).e = 0
theorem sumsOk_succ {l m : List (Int × Int)} {k : Nat} (h : sumsOk l m k) (h1 : fchk (l.getD k (0, 0)).1 (l.getD k (0, 0)).2 = 0) (h2 : fchk (m.getD k (0, 0)).1 (m.getD k (0, 0)).2 = 0) (h3 : (addF l m k).e = 0) : sumsOk l m (k + 1) := fun i hi => by
  rcases Nat.lt_or_ge i k with h4 | h4
  · exact h i h4
  · obtain rfl : i = k := by omega
    exact ⟨h1, h2, h3⟩
theorem sums_SF {w : World} {B : Nat} {T : TypeId} {v : Value} {l m : List (Int × Int)} {k : Nat} (h : w.ownsRow B T 2 v k (fcs (addsN l m k))) : SF w v (addsN l m k) := by
  refine owns_SF (B := B) (T := T) ?_
  rw [addsN_len]; exact h
set_option maxRecDepth 100000 in
set_option maxHeartbeats 64000000 in
theorem interpJoins_any (l m a b : List (Int × Int)) (vl vm va vb : Value) (w : World) (hl : SF w vl l) (hm : SF w vm m) (ha : SF w va a) (hb : SF w vb b) (il : FI l) (im : FI m) (ia : FI a) (ib : FI b) :
    Calls Try.prog 8 #[vl, vm, va, vb] w fun e w' => e = .returned (.bool true) ∧ Below w.heap.size w w' := by
  have SL := Lib.hid hl
  have SM := Lib.hid hm
  have SA := Lib.hid ha
  have SB' := Lib.hid hb
  have IL := Lib.hid il
  have IM := Lib.hid im
  have IA := Lib.hid ia
  have IB := Lib.hid ib
  obtain ⟨adl, capl, rfl, l1, l2, _⟩ := hl.open
  obtain ⟨adm, capm, rfl, m1, m2, _⟩ := hm.open
  obtain ⟨ada, capa, rfl, a1, a2, _⟩ := ha.open
  obtain ⟨adb, capb, rfl, b1, b2, _⟩ := hb.open
  clear hl hm ha hb il im ia ib
  by_cases g1 : 30 < l.length
  · have c1 : decide (30 < (l.length : Int)) = true := by simp; omega
    go_enter Try.func8, Try.ntmps8
    go_wp2_with fail
    refine (alive15_any _).mono ?_
    rintro e y1 ⟨rfl, hB⟩
    go_wp2
    go_ret
    exact ⟨rfl, hB⟩
  have c1 : decide (30 < (l.length : Int)) = false := by simp; omega
  by_cases g2 : m.length = l.length
  case neg =>
    have c2 : ((m.length : Int) != (l.length : Int)) = true := by simp; omega
    clear g2
    go_enter Try.func8, Try.ntmps8
    go_wp2_with fail
    refine (alive15_any _).mono ?_
    rintro e y1 ⟨rfl, hB⟩
    go_wp2
    go_ret
    exact ⟨rfl, hB⟩
  have c2 : ((m.length : Int) != (l.length : Int)) = false := by simp; omega
  have G2 := Lib.hid g2
  clear g2
  obtain ⟨S, hS⟩ : ∃ S, S = wrap64 ((a.length : Int) + (b.length : Int)) := ⟨_, rfl⟩
  have HS := Lib.hid hS
  by_cases g3 : 21 < S
  · have c3 : decide (21 < wrap64 ((a.length : Int) + (b.length : Int))) = true := by rw [← hS]; simpa using g3
    clear hS g3
    go_enter Try.func8, Try.ntmps8
    go_wp2_with fail
    refine (alive15_any _).mono ?_
    rintro e y1 ⟨rfl, hB⟩
    go_wp2
    go_ret
    exact ⟨rfl, hB⟩
  have c3 : decide (21 < wrap64 ((a.length : Int) + (b.length : Int))) = false := by rw [← hS]; simpa using g3
  clear hS g3
  have l30 : l.length ≤ 30 := by omega
  clear g1
  go_enter Try.func8, Try.ntmps8
  go_wp2_with fail
  refine (alive15_any _).mono ?_
  rintro e y0 ⟨rfl, hB⟩
  go_wp2_with fail
  refine (ifilt_any l a _ _ _ (SL.out.below hB) (SA.out.below hB) IL.out IA.out).mono ?_
  rintro e y1 ⟨ux, rfl, sx, hq⟩
  replace hB := below_to hB hq
  clear hq
  go_wp2_with fail
  refine (ifilt_any (ffilt l a).1 b _ _ _ sx (SB'.out.below hB) (ffilt_FI _ _) IB.out).mono ?_
  rintro e y2 ⟨uy, rfl, sy, hq⟩
  replace hB := below_to hB hq
  replace sx := sx.below hq
  clear hq
  go_wp2_with fail
  refine (ijoin_any a b _ _ _ (SA.out.below hB) (SB'.out.below hB) IA.out IB.out).mono ?_
  rintro e y3 ⟨uj, rfl, sj, hq⟩
  replace hB := below_to hB hq
  replace sx := sx.below hq
  replace sy := sy.below hq
  clear hq
  go_wp2_with fail
  refine (ifilt_any l (fjoin a b).1 _ _ _ (SL.out.below hB) sj IL.out (fjoin_FI _ _)).mono ?_
  rintro e y4 ⟨uz, rfl, sz, hq⟩
  replace hB := below_to hB hq
  replace sx := sx.below hq
  replace sy := sy.below hq
  clear hq sj
  have JL := Lib.hid (join_law (l := l) (a := a) (b := b))
  have F1 := Lib.hid (ffilt_20 (l := l) (t := a))
  have F2 := Lib.hid (ffilt_20 (l := (ffilt l a).1) (t := b))
  have F3 := Lib.hid (fun h => (ffilt_ok (l := l) (t := a) h).pos)
  have IX := Lib.hid (ffilt_FI l a)
  have AL := Lib.hid (adds_law (l := l) (m := m) (a := a) G2.out.symm)
  have SX := Lib.hid sx
  have SY := Lib.hid sy
  have SZ := Lib.hid sz
  clear sx sy sz
  generalize hex : (ffilt l a).2 = ex at *
  generalize hey : (ffilt (ffilt l a).1 b).2 = ey at *
  generalize hej : (fjoin a b).2 = ej at *
  generalize hez : (ffilt l (fjoin a b).1).2 = ez at *
  clear hex hey hej hez
  generalize (ffilt l (fjoin a b).1).1 = zz at *
  generalize (ffilt (ffilt l a).1 b).1 = yy at *
  generalize (ffilt l a).1 = xx at *
  go_upto_region 8 with fail
  go_cut [107] (fun c wx => c = .bool false ∧ Below y4.heap.size y4 wx)
  case first =>
    by_cases e1 : ex = 0
    case neg =>
      have d1 : (ex == 0) = false := by simpa using e1
      go_wp2
      go_meet
      exact ⟨rfl, Below.refl _ _⟩
    have d1 : (ex == 0) = true := by simpa using e1
    by_cases e2 : ey = 0
    case neg =>
      have d2 : (ey == 0) = false := by simpa using e2
      clear e1
      go_wp2
      go_meet
      exact ⟨rfl, Below.refl _ _⟩
    have d2 : (ey == 0) = true := by simpa using e2
    by_cases e3 : ej = 0
    case neg =>
      have d3 : (ej == 0) = false := by simpa using e3
      clear e1 e2
      go_wp2
      go_meet
      exact ⟨rfl, Below.refl _ _⟩
    have d3 : (ej == 0) = true := by simpa using e3
    by_cases e4 : ez = 0
    case neg =>
      have d4 : (ez == 0) = false := by simpa using e4
      clear e1 e2 e3
      go_wp2
      go_meet
      exact ⟨rfl, Below.refl _ _⟩
    have d4 : (ez == 0) = true := by simpa using e4
    have f1 := F1.out e1
    have f2 := F2.out e2
    have f3 := F3.out e1
    have w1 : IntKind.i64.wrap ((a.length : Int) + (b.length : Int)) = (a.length : Int) + (b.length : Int) := IntWalk.i64_in _ (by omega)
    have w2 : IntKind.i64.wrap ((a.length : Int) + (b.length : Int) - 1) = (a.length : Int) + (b.length : Int) - 1 := IntWalk.i64_in _ (by omega)
    by_cases e5 : (a.length : Int) + (b.length : Int) - 1 ≤ (l.length : Int)
    case neg =>
      have d5 : decide ((a.length : Int) + (b.length : Int) - 1 ≤ (l.length : Int)) = false := by simpa using e5
      clear e1 e2 e3 e4
      go_wp2
      go_meet
      exact ⟨rfl, Below.refl _ _⟩
    have d5 : decide ((a.length : Int) + (b.length : Int) - 1 ≤ (l.length : Int)) = true := by simpa using e5
    have q := Lib.hid (JL.out e1 e2 e3 e4 (by omega))
    clear e1 e2 e3 e4
    go_wp2_with fail
    refine (rsame_any yy zz _ _ _ SY.out SZ.out).mono ?_
    rintro e y5 ⟨rfl, hq⟩
    rw [decide_eq_true q.out]
    go_wp2
    go_meet
    exact ⟨rfl, hq⟩
  case rest =>
    obtain ⟨rfl, hq⟩ := hcut
    replace hB := below_to hB hq
    have SX' := Lib.hid (SX.out.below hq)
    have zwc := hB.size
    clear hq SY SZ SX JL F1 F2 F3 c1 c2 c3 HS
    go_wp2
    go_loopw [18, 19] (fun ov i wr => ∃ k : Nat, k ≤ l.length ∧ i = .int .i64 k ∧ Hid (sumsOk l m k) ∧ wr.ownsRow wc.heap.size 24 2 ov k (fcs (addsN l m k)) ∧ Below w.heap.size w wr ∧ Below wc.heap.size wc wr) (fun _ i _ => l.length + 1 - (intOf i).toNat)
    case atStart => exact ⟨0, Nat.zero_le _, rfl, (fun i hi => absurd hi (Nat.not_lt_zero _)), World.ownsRow_nil _ _ _ _, hB, Below.refl _ _⟩
    case round =>
      clear hB
      obtain ⟨k, hk, rfl, hv, ow, hB, hC⟩ := hrel
      rename World => W
      by_cases hlt : k < l.length
      · have hlt2 : k < m.length := by have := G2.out; omega
        obtain ⟨_, _, e, _, _, H⟩ := (SL.out.below hB).open
        cases e
        obtain ⟨b1', off1, rfl, q1, q2⟩ := H.out k hlt
        obtain ⟨_, _, e, _, _, H'⟩ := (SM.out.below hB).open
        cases e
        obtain ⟨b2', off2, rfl, q3, q4⟩ := H'.out k hlt2
        clear H H'
        obtain ⟨j1, j2⟩ := IL.out.get k hlt
        obtain ⟨j3, j4⟩ := IM.out.get k hlt2
        have J1 := Lib.hid j1
        have J2 := Lib.hid j2
        have J3 := Lib.hid j3
        have J4 := Lib.hid j4
        clear j1 j2 j3 j4
        have E1 : l.getD k (0, 0) = l[k] := by simp [List.getD, hlt]
        have E2 : m.getD k (0, 0) = m[k] := by simp [List.getD, hlt2]
        have HN := Lib.hid (fun h1 h2 h3 => sumsOk_succ (k := k) hv.out h1 h2 h3)
        have HA : Hid (addF l m k = fadd l[k].1 l[k].2 m[k].1 m[k].2) := by show _ = _; unfold addF; rw [E1, E2]
        have HSu := Lib.hid (addsN_succ l m k)
        rw [E1, E2] at HN
        clear E1 E2
        generalize l[k].1 = ln at *
        generalize l[k].2 = ld at *
        generalize m[k].1 = mn at *
        generalize m[k].2 = md at *
        have zb1 := World.block_lt_of_cell? _ _ q1
        have zb2 := World.block_lt_of_cell? _ _ q3
        simp only at zb1 zb2
        have hD := Below.refl W.heap.size W
        by_cases v1 : fchk ln ld = 0
        case neg =>
          have b1 : (fchk ln ld != 0) = true := by simpa using v1
          clear v1
          go_wp2_with fail
          refine (rcheck_any ln ld _ J1.out J2.out).mono ?_
          rintro e y6 ⟨rfl, hq⟩
          replace hB := below_to hB hq
          clear hq ow q1 q2 q3 q4
          go_wp2
          go_ret
          exact ⟨rfl, hB⟩
        have b1 : (fchk ln ld != 0) = false := by simpa using v1
        have V1 := Lib.hid v1
        clear v1
        go_wp2_with fail
        refine (rcheck_any ln ld _ J1.out J2.out).mono ?_
        rintro e y6 ⟨rfl, hq⟩
        replace q1 := below_cell hq q1
        replace q2 := below_cell hq q2
        replace q3 := below_cell hq q3
        replace q4 := below_cell hq q4
        replace hD := below_to hD hq
        clear hq
        by_cases v2 : fchk mn md = 0
        case neg =>
          have b2 : (fchk mn md != 0) = true := by simpa using v2
          clear v2
          go_wp2_with fail
          refine (rcheck_any mn md _ J3.out J4.out).mono ?_
          rintro e y7 ⟨rfl, hq⟩
          replace hB := below_to hB (below_to hD hq)
          clear hq ow q1 q2 q3 q4
          go_wp2
          go_ret
          exact ⟨rfl, hB⟩
        have b2 : (fchk mn md != 0) = false := by simpa using v2
        have V2 := Lib.hid v2
        clear v2
        go_wp2_with fail
        refine (rcheck_any mn md _ J3.out J4.out).mono ?_
        rintro e y7 ⟨rfl, hq⟩
        replace q1 := below_cell hq q1
        replace q2 := below_cell hq q2
        replace q3 := below_cell hq q3
        replace q4 := below_cell hq q4
        replace hD := below_to hD hq
        clear hq
        have zb1 := World.block_lt_of_cell? _ _ q1
        have zb2 := World.block_lt_of_cell? _ _ q3
        simp only at zb1 zb2
        generalize hpp : addF l m k = p at *
        clear hpp
        go_wp2
        go_wp2_with fail
        have gl := @grow_lt
        refine wp_region_fs [(12, ⟨24, [.int .i64 0, .int .i64 0], fun b => .pointer (some ⟨b, 0, none⟩)⟩)] [0, 1, 2, 3, 4, 5, 6, 7] [.op 8, .tk 9, .tk 10, .tk 11, .fl 12, .op 13] [14] (by kernel_rfl) (by kernel_rfl) ⟨fun ρ W => by kernel_rfl, trivial⟩ (fun _ _ _ _ _ h => h) (fun _ _ _ _ _ h => h) ?_
        try simp only [opsAt, List.getElem?_toArray, List.getElem?_cons_zero, List.getElem?_cons_succ, Option.getD_some]
        repeat (go_big_quiet_step (fail))
        refine wpQuiet_nil ?_
        clear gl
        refine wpFl_op rfl ?_
        intro w3 hb3 K' hK'
        go_simp
        refine (radd_any ln ld mn md _ J1.out J2.out J3.out J4.out).mono ?_
        rintro e w5 ⟨rfl, hq⟩
        refine hK' _ _ (Mod.of_below hq) ?_
        clear hK' K'
        have hF := below_to hb3 hq
        clear hb3 hq
        rw [← HA.out]
        refine wpFl_tk ?_
        try simp only [opsAt, List.getElem?_toArray, List.getElem?_cons_zero, List.getElem?_cons_succ, Option.getD_some]
        repeat (go_big_quiet_step (fail))
        refine wpQuiet_nil ?_
        refine wpFl_tk ?_
        try simp only [opsAt, List.getElem?_toArray, List.getElem?_cons_zero, List.getElem?_cons_succ, Option.getD_some]
        repeat (go_big_quiet_step (fail))
        refine wpQuiet_nil ?_
        refine wpFl_tk ?_
        try simp only [opsAt, List.getElem?_toArray, List.getElem?_cons_zero, List.getElem?_cons_succ, Option.getD_some]
        repeat (go_big_quiet_step (fail))
        refine wpQuiet_nil ?_
        refine wpFl_fl rfl ?_
        intro bP w6 hb6 oP zP0 _
        go_simp
        replace hF := below_to hF hb6
        refine wpFl_op rfl ?_
        intro w7 hb7 K' hK'
        replace oP := oP.below hb7
        replace hF := below_to hF hb7
        clear hb6 hb7
        obtain ⟨rP, fP⟩ := oP.rules
        have zP := oP.lt
        go_wp2_with fail
        refine hK' _ _ (((Mod.refl _ _).set (by simp) _).set (by simp) _) ?_
        clear hK' K' rP fP zP
        replace oP := (oP.set 0 (.int .i64 p.n)).set 1 (.int .i64 p.d)
        replace hF := (hF.setCell (p := ⟨bP, 0, none⟩) zP0 (.int .i64 p.n)).setCell (p := ⟨bP, 1, none⟩) zP0 (.int .i64 p.d)
        refine wpFl_nil (fun w8 hb8 => ?_)
        replace oP := oP.below hb8
        replace hF := below_to hF hb8
        clear hb8
        try simp only [opsAt, List.getElem?_toArray, List.getElem?_cons_zero, List.getElem?_cons_succ, Option.getD_some]
        clear q1 q2 q3 q4
        replace hD := below_to hD hF
        clear hF
        by_cases he : p.e = 0
        case neg =>
          have b3 : (p.e != 0) = true := by simpa using he
          replace hB := below_to hB hD
          clear he ow oP
          go_wp2
          go_ret
          exact ⟨rfl, hB⟩
        have b3 : (p.e != 0) = false := by simpa using he
        have PE := Lib.hid he
        clear he
        have ow2 := owns_at ow hD
        have zr := hC.size
        have zq := hD.size
        obtain ⟨rP, fP⟩ := oP.rules
        have zP := oP.lt
        go_wp2_with (at_builtin; refine wpList_app _ rfl _ _ _ rfl wc.heap.size 24 2 16 (.agg #[.int .i64 0, .int .i64 0]) Try.underlying26 joins_info rfl (by omega) (by omega) _ k _ rfl (ow2.alloc _) (by omega) (by simp; omega) w8.heap.size [.int .i64 p.n, .int .i64 p.d] (0, 0) rfl (heap_alloc_new w8 _) rfl (by simp [Value.oneCell']) ?_; intro g cap2 w2 hown hg hbw)
        go_roundw
        case rel =>
          refine ⟨k + 1, by omega, by go_num, HN.out V1.out V2.out PE.out, ?_, ?_, ?_⟩
          · rw [HSu.out, fcs_append]; exact hown
          · exact (below_to (below_to hB hD) (ba1 w8 _)).trans (hbw.mono zwc)
          · exact (below_to (below_to hC hD) (ba1 w8 _)).trans (hbw.mono (Nat.le_refl _))
        case measure => simp [intOf]; try omega
      · obtain rfl : k = l.length := by omega
        have SV0 := Lib.hid (sums_SF ow)
        have HV := Lib.hid hv.out
        clear ow hv hk
        have hD := Below.refl W.heap.size W
        have SX'' := Lib.hid (SX'.out.below hC)
        go_wp2_with fail
        refine (ifilt_any m a _ _ _ (SM.out.below hB) (SA.out.below hB) IM.out IA.out).mono ?_
        rintro e y6 ⟨uu, rfl, su, hq⟩
        replace hB := below_to hB hq
        replace hD := below_to hD hq
        clear hq
        go_wp2_with fail
        refine (ifilt_any (addsN l m l.length) a _ _ _ (SV0.out.below hD) (SA.out.below hB) (addsN_FI _ _ _) IA.out).mono ?_
        rintro e y7 ⟨uv, rfl, sv, hq⟩
        replace su := su.below hq
        replace hB := below_to hB hq
        replace hD := below_to hD hq
        clear hq SV0
        have SX1 := Lib.hid (SX''.out.below hD)
        have SU := Lib.hid su
        have SW := Lib.hid sv
        clear su sv SX'' SX'
        have IU := Lib.hid (ffilt_FI m a)
        have AL2 := Lib.hid (AL.out HV.out)
        clear AL HV
        generalize (ffilt m a).2 = eu at *
        generalize (ffilt (addsN l m l.length) a).2 = ew at *
        generalize (ffilt m a).1 = uul at *
        generalize (ffilt (addsN l m l.length) a).1 = ww at *
        by_cases e1 : ex = 0
        case neg =>
          have d1 : (ex != 0) = true := by simpa using e1
          clear e1
          go_wp2
          go_ret
          exact ⟨rfl, hB⟩
        have d1 : (ex != 0) = false := by simpa using e1
        by_cases e2 : eu = 0
        case neg =>
          have d2 : (eu != 0) = true := by simpa using e2
          clear e1 e2
          go_wp2
          go_ret
          exact ⟨rfl, hB⟩
        have d2 : (eu != 0) = false := by simpa using e2
        by_cases e3 : ew = 0
        case neg =>
          have d3 : (ew != 0) = true := by simpa using e3
          clear e1 e2 e3
          go_wp2
          go_ret
          exact ⟨rfl, hB⟩
        have d3 : (ew != 0) = false := by simpa using e3
        obtain ⟨q1, q2, q3⟩ := AL2.out e1 e2 e3
        clear e1 e2 e3 AL2
        have Q3 := Lib.hid q3
        clear q3
        obtain ⟨adx, capx, hux, x1, x2, _⟩ := SX1.out.open
        obtain ⟨adu, capu, huu, u1, u2, _⟩ := SU.out.open
        obtain ⟨adw, capw, huw, v1, v2, _⟩ := SW.out.open
        subst hux
        subst huu
        subst huw
        have p1 : ((xx.length : Int) != (uul.length : Int)) = false := by simp; omega
        have p2 : ((ww.length : Int) != (xx.length : Int)) = false := by simp; omega
        have Q1 := Lib.hid q1
        have Q2 := Lib.hid q2
        clear q1 q2
        go_wp2
        go_loopw [26] (fun i wr => ∃ k : Nat, k ≤ xx.length ∧ i = .int .i64 k ∧ Below w.heap.size w wr ∧ Below y7.heap.size y7 wr) (fun i _ => xx.length + 1 - (intOf i).toNat)
        case atStart => exact ⟨0, Nat.zero_le _, rfl, hB, Below.refl _ _⟩
        case round =>
          clear hB hC hD
          obtain ⟨k, hk, rfl, hB, hC⟩ := hrel
          rename World => W2
          by_cases hlt : k < xx.length
          · have hlt2 : k < uul.length := by have := Q1.out; omega
            have hlt3 : k < ww.length := by have := Q2.out; omega
            obtain ⟨_, _, e, _, _, H⟩ := (SX1.out.below hC).open
            cases e
            obtain ⟨b1', off1, rfl, q1, q2⟩ := H.out k hlt
            obtain ⟨_, _, e, _, _, H'⟩ := (SU.out.below hC).open
            cases e
            obtain ⟨b2', off2, rfl, q3, q4⟩ := H'.out k hlt2
            obtain ⟨_, _, e, _, _, H''⟩ := (SW.out.below hC).open
            cases e
            obtain ⟨b3', off3, rfl, q5, q6⟩ := H''.out k hlt3
            clear H H' H''
            obtain ⟨j1, j2⟩ := IX.out.get k hlt
            obtain ⟨j3, j4⟩ := IU.out.get k hlt2
            have J1 := Lib.hid j1
            have J2 := Lib.hid j2
            have J3 := Lib.hid j3
            have J4 := Lib.hid j4
            clear j1 j2 j3 j4
            have E1 : xx.getD k (0, 0) = xx[k] := by simp [List.getD, hlt]
            have E2 : uul.getD k (0, 0) = uul[k] := by simp [List.getD, hlt2]
            have E3 : ww.getD k (0, 0) = ww[k] := by simp [List.getD, hlt3]
            have HA : Hid (addF xx uul k = fadd xx[k].1 xx[k].2 uul[k].1 uul[k].2) := by show _ = _; unfold addF; rw [E1, E2]
            have HW := Lib.hid (Q3.out k hlt)
            rw [E3] at HW
            clear E1 E2 E3
            generalize hw : ww[k] = wk at *
            clear hw
            obtain ⟨wn, wd⟩ := wk
            generalize xx[k].1 = ln at *
            generalize xx[k].2 = ld at *
            generalize uul[k].1 = mn at *
            generalize uul[k].2 = md at *
            have zb1 := World.block_lt_of_cell? _ _ q1
            have zb2 := World.block_lt_of_cell? _ _ q3
            have zb3 := World.block_lt_of_cell? _ _ q5
            simp only at zb1 zb2 zb3
            have hD := Below.refl W2.heap.size W2
            generalize hpp : addF xx uul k = p at *
            clear hpp
            go_wp2
            go_wp2_with fail
            have gl := @grow_lt
            refine wp_region_fs [(12, ⟨24, [.int .i64 0, .int .i64 0], fun b => .pointer (some ⟨b, 0, none⟩)⟩)] [0, 1, 2, 3, 4, 5, 6, 7] [.op 8, .tk 9, .tk 10, .tk 11, .fl 12, .op 13] [14] (by kernel_rfl) (by kernel_rfl) ⟨fun ρ W => by kernel_rfl, trivial⟩ (fun _ _ _ _ _ h => h) (fun _ _ _ _ _ h => h) ?_
            try simp only [opsAt, List.getElem?_toArray, List.getElem?_cons_zero, List.getElem?_cons_succ, Option.getD_some]
            repeat (go_big_quiet_step (fail))
            refine wpQuiet_nil ?_
            clear gl
            refine wpFl_op rfl ?_
            intro w3 hb3 K' hK'
            go_simp
            refine (radd_any ln ld mn md _ J1.out J2.out J3.out J4.out).mono ?_
            rintro e w5 ⟨rfl, hq⟩
            refine hK' _ _ (Mod.of_below hq) ?_
            clear hK' K'
            have hF := below_to hb3 hq
            clear hb3 hq
            rw [← HA.out]
            refine wpFl_tk ?_
            try simp only [opsAt, List.getElem?_toArray, List.getElem?_cons_zero, List.getElem?_cons_succ, Option.getD_some]
            repeat (go_big_quiet_step (fail))
            refine wpQuiet_nil ?_
            refine wpFl_tk ?_
            try simp only [opsAt, List.getElem?_toArray, List.getElem?_cons_zero, List.getElem?_cons_succ, Option.getD_some]
            repeat (go_big_quiet_step (fail))
            refine wpQuiet_nil ?_
            refine wpFl_tk ?_
            try simp only [opsAt, List.getElem?_toArray, List.getElem?_cons_zero, List.getElem?_cons_succ, Option.getD_some]
            repeat (go_big_quiet_step (fail))
            refine wpQuiet_nil ?_
            refine wpFl_fl rfl ?_
            intro bP w6 hb6 oP zP0 _
            go_simp
            replace hF := below_to hF hb6
            refine wpFl_op rfl ?_
            intro w7 hb7 K' hK'
            replace oP := oP.below hb7
            replace hF := below_to hF hb7
            clear hb6 hb7
            obtain ⟨rP, fP⟩ := oP.rules
            have zP := oP.lt
            go_wp2_with fail
            refine hK' _ _ (((Mod.refl _ _).set (by simp) _).set (by simp) _) ?_
            clear hK' K' rP fP zP
            replace oP := (oP.set 0 (.int .i64 p.n)).set 1 (.int .i64 p.d)
            replace hF := (hF.setCell (p := ⟨bP, 0, none⟩) zP0 (.int .i64 p.n)).setCell (p := ⟨bP, 1, none⟩) zP0 (.int .i64 p.d)
            refine wpFl_nil (fun w8 hb8 => ?_)
            replace oP := oP.below hb8
            replace hF := below_to hF hb8
            clear hb8
            try simp only [opsAt, List.getElem?_toArray, List.getElem?_cons_zero, List.getElem?_cons_succ, Option.getD_some]
            clear q1 q2 q3 q4
            replace q5 := below_cell hF q5
            replace q6 := below_cell hF q6
            replace hB := below_to hB hF
            replace hC := below_to hC hF
            clear hF hD
            have zb3 := World.block_lt_of_cell? _ _ q5
            simp only at zb3
            obtain ⟨rP, fP⟩ := oP.rules
            have zP := oP.lt
            by_cases he : p.e = 0
            · have d5 : (p.e == 0) = true := by simpa using he
              obtain ⟨rfl, rfl⟩ := Prod.mk.inj (HW.out he)
              clear he HW
              go_wp2_with fail
              go_quiet (fail)
              go_wp2
              go_roundw
              case rel => exact ⟨k + 1, by omega, by go_num, bd hB _, bd hC _⟩
              case measure => simp [intOf]; try omega
            · have d5 : (p.e == 0) = false := by simpa using he
              clear he HW
              go_wp2_with fail
              go_quiet (fail)
              go_wp2
              go_roundw
              case rel => exact ⟨k + 1, by omega, by go_num, bd hB _, bd hC _⟩
              case measure => simp [intOf]; try omega
          · obtain rfl : k = xx.length := by omega
            go_wp2
            go_ret
            exact ⟨rfl, hB⟩
end Go.Proofs.Ytpjhiojdnebgoaa
