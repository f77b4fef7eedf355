/- What is proved here: contracts of functions and plain facts, several texts in one; each one says ahead what it proves, and its conditions. -/
import Derived.Test.YtpjhiojdnebgoaaC10
import Derived.Test.YtpjhiojdnebgoaaC20
import Derived.Test.YtpjhiojdnebgoaaC01
import Derived.WalkMore
import Derived.Test.YtpjhiojdnebgoaaC02
/- What is proved here: the contract of weight.Group. Condition: a slice of visibilities. -/
namespace Go.Proofs.Ytpjhiojdnebgoaa
open Go.RowKit

theorem vis_info : (Try.prog.info? 60).map (fun i => (i.zero, i.size, i.bytes)) = some (some (.agg #[.int .i64 0, .int .i64 0, .int .i64 0, .int .i64 0, .int .i64 0, .int .i64 0]), 6, 48) := by kernel_rfl
theorem owns_SV {w : World} {B : Nat} {T : TypeId} {v : Value} {xs : List Vs} (h : w.ownsRow B T 6 v xs.length (vcs xs)) (hn : xs.length ≤ 9223372036854775807) : SV w v xs := owns_sl h hn
/-- A list of visibilities and an error, as results. -/
def vrows_post (w : World) (r : List Vs × Int) (e : Ending) (w' : World) : Prop := ∃ u, e = .returned (.tuple #[u, .int .i64 r.2]) ∧ SV w' u r.1 ∧ Below w.heap.size w w'
set_option maxRecDepth 100000 in
set_option maxHeartbeats 16000000 in
theorem vgroup_any (l : List Vs) (v : Value) (w : World) (hs : SV w v l) :
    Calls Try.prog 38 #[v] w (vrows_post w (vGroup l)) := by
  have S0 := Lib.hid hs
  obtain ⟨ad, cap, rfl, h1, h2, _⟩ := hs.open
  clear hs
  go_enter Try.func38, Try.ntmps38
  go_wp2_with fail
  go_step3
  go_wp2_with fail
  refine (vclist_any l _ _ S0.out).mono ?_
  rintro e y1 ⟨rfl, hB⟩
  by_cases hl : vlist l = 0
  case neg =>
    have b1 : (vlist l != 0) = true := by simpa using hl
    have HF := Lib.hid (vGroup_l hl)
    clear hl
    generalize vlist l = u at *
    go_wp2
    go_ret2
    exact ⟨.slice none 0 0, by rw [HF.out]; rfl, by rw [HF.out]; exact sv_nil _, hB⟩
  have b1 : (vlist l != 0) = false := by simpa using hl
  have HM := Lib.hid (vlist_0 hl)
  have GE := Lib.hid (fun m => vGroup_err (m := m) hl)
  have G0 := Lib.hid (vGroup_0 hl)
  clear hl
  generalize vlist l = u at *
  go_wp2
  go_step3
  go_wp2
  go_loopw [5, 21] (fun ov i wr => ∃ m : Nat, m ≤ 64 ∧ i = .int .i64 m ∧ Hid ((vgrp l m).2 = 0) ∧ wr.ownsRow w.heap.size 60 6 ov (vgrp l m).1.length (vcs (vgrp l m).1) ∧ Below w.heap.size w wr) (fun _ i _ => 65 - (intOf i).toNat)
  case atStart => exact ⟨0, Nat.zero_le _, rfl, rfl, World.ownsRow_nil _ _ _ _, hB⟩
  case round =>
    clear hB
    obtain ⟨m, hm, rfl, hv, ow, hB⟩ := hrel
    rename World => W
    by_cases hlt : m < 64
    · have Q1 : Hid ((m : Int) / 8 = ((m / 8 : Nat) : Int)) := by show _ = _; omega
      have d0 : decide ((m : Int) < 64) = true := by simp; omega
      have q2 : Int.tmod (m : Int) 8 = ((m % 8 : Nat) : Int) := by rw [Int.tmod_eq_emod_of_nonneg (by omega)]; omega
      have VA := Lib.hid (vof_all (a := ((m / 8 : Nat) : Int)) (b := ((m % 8 : Nat) : Int)) HM.out.2)
      have VL := Lib.hid (vof_len l ((m / 8 : Nat) : Int) ((m % 8 : Nat) : Int))
      have KS := Lib.hid (vgrp_skip (l := l) hv.out)
      have KE := Lib.hid (vgrp_err (l := l) hv.out)
      have KO := Lib.hid (vgrp_ok (l := l) hv.out)
      unfold vgr at KS KE KO
      have GEm := Lib.hid (GE.out m hlt)
      generalize ((m / 8 : Nat) : Int) = qa at *
      generalize ((m % 8 : Nat) : Int) = qb at *
      have OL := Lib.hid (vgrp_len l m)
      have HV := Lib.hid hv.out
      generalize hos : (vgrp l m).1 = os at *
      have OS := Lib.hid hos
      clear hos
      clear hv
      go_upto_region 10 with fail
      rw [Q1.out]
      go_wp2
      go_loopw [9, 30] (fun gv i wr => ∃ k : Nat, k ≤ l.length ∧ i = .int .i64 k ∧ wr.ownsRow W.heap.size 60 6 gv (vof (l.take k) qa qb).length (vcs (vof (l.take k) qa qb)) ∧ Below W.heap.size W wr) (fun _ i _ => l.length + 1 - (intOf i).toNat)
      case atStart => exact ⟨0, Nat.zero_le _, rfl, World.ownsRow_nil _ _ _ _, Below.refl _ _⟩
      case round =>
        obtain ⟨k, hk, rfl, og, hS⟩ := hrel
        rename World => W2
        by_cases hkl : k < l.length
        · obtain ⟨_, _, e, _, _, H⟩ := ((S0.out.below hB).below hS).open
          cases e
          obtain ⟨b, off, rfl, c0, c1, c2, c3, c4, c5⟩ := H.out k hkl
          clear H
          have TL := Lib.hid (vof_len (l.take k) qa qb)
          have TK := Lib.hid (List.length_take_le k l)
          have HT := Lib.hid (vof_take (a := qa) (b := qb) hkl)
          have L200 : l.length ≤ 200 := HM.out.1
          have GL : (vof (l.take k) qa qb).length ≤ 200 := by have := TL.out; have := TK.out; omega
          generalize l[k] = x at *
          have q3 : ∀ (i : Nat), vcs [x] = [.int .i64 x.i, .int .i64 x.j, .int .i64 x.re, .int .i64 x.im, .int .i64 x.den, .int .i64 x.n] := fun _ => rfl
          have VX := Lib.hid (q3 0)
          clear q3
          have hq := ba1 W2 (.cells #[.int .i64 x.i, .int .i64 x.j, .int .i64 x.re, .int .i64 x.im, .int .i64 x.den, .int .i64 x.n] 60)
          have oV := Own.new W2 60 [.int .i64 x.i, .int .i64 x.j, .int .i64 x.re, .int .i64 x.im, .int .i64 x.den, .int .i64 x.n]
          go_upto_region 13 with fail
          have og2 := owns_at og hq
          have hS2 := below_to hS hq
          clear hq c0 c1 c2 c3 c4 c5 og
          obtain ⟨bV, hV⟩ : ∃ B, B = W2.heap.size := ⟨_, rfl⟩
          rw [← hV] at oV ⊢
          clear hV
          generalize W2.alloc (.cells #[.int .i64 x.i, .int .i64 x.j, .int .i64 x.re, .int .i64 x.im, .int .i64 x.den, .int .i64 x.n] 60) = y2 at *
          obtain ⟨rV, fV⟩ := oV.rules
          have zV := oV.lt
          have zS := hS2.size
          by_cases e1 : x.i = qa
          case neg =>
            have p1 : (x.i == qa) = false := by simpa using e1
            have HU : Hid (vof (l.take (k + 1)) qa qb = vof (l.take k) qa qb) := by show _ = _; rw [HT.out, if_neg (fun h => e1 h.1)]
            clear e1 HT
            go_wp2
            go_roundw
            case rel => exact ⟨k + 1, by omega, by go_num, by rw [HU.out]; exact og2, hS2⟩
            case measure => simp [intOf]; try omega
          have p1 : (x.i == qa) = true := by simpa using e1
          by_cases e2 : x.j = qb
          case neg =>
            have p2 : (x.j == qb) = false := by simpa using e2
            have HU : Hid (vof (l.take (k + 1)) qa qb = vof (l.take k) qa qb) := by show _ = _; rw [HT.out, if_neg (fun h => e2 h.2)]
            clear e1 e2 HT
            go_wp2
            go_roundw
            case rel => exact ⟨k + 1, by omega, by go_num, by rw [HU.out]; exact og2, hS2⟩
            case measure => simp [intOf]; try omega
          have p2 : (x.j == qb) = true := by simpa using e2
          have HU : Hid (vof (l.take (k + 1)) qa qb = vof (l.take k) qa qb ++ [x]) := by show _ = _; rw [HT.out, if_pos ⟨e1, e2⟩]
          clear e1 e2 HT
          go_wp2_with (at_builtin; refine wpList_app _ rfl _ _ _ rfl W.heap.size 60 6 48 (.agg #[.int .i64 0, .int .i64 0, .int .i64 0, .int .i64 0, .int .i64 0, .int .i64 0]) Try.underlying55 vis_info rfl (by omega) (by omega) _ _ _ rfl (og2.alloc _) (by omega) (by simp; omega) y2.heap.size [.int .i64 x.i, .int .i64 x.j, .int .i64 x.re, .int .i64 x.im, .int .i64 x.den, .int .i64 x.n] (0, 0) rfl (heap_alloc_new y2 _) rfl (by simp [Value.oneCell']) ?_; intro g cap2 w2 hown hg hbw)
          go_roundw
          case rel =>
            refine ⟨k + 1, by omega, by go_num, ?_, ?_⟩
            · rw [HU.out, vcs_append, List.length_append, VX.out]; exact hown
            · exact (below_to hS2 (ba1 y2 _)).trans (hbw.mono (Nat.le_refl _))
          case measure => simp [intOf]; try omega
        · obtain rfl : k = l.length := by omega
          rw [vof_end (Nat.lt_irrefl _)] at og
          have L200 : l.length ≤ 200 := HM.out.1
          have GL : (vof l qa qb).length ≤ 200 := by have := VL.out; omega
          have WN := Lib.hid (fun t (ht : t < (vof l qa qb).length) => wsum_nz VA.out ht)
          have WS := Lib.hid (fun t (ht : t < (vof l qa qb).length) => wsum_succ (k := t) ht)
          have sg := owns_SV og (by omega)
          clear og hkl hk VL
          generalize vof l qa qb = G at *
          have SG := Lib.hid sg
          obtain ⟨adg, capg, rfl, g1, g2, _⟩ := sg.open
          clear sg
          go_wp2
          go_loopw [5, 51] (fun o5 i wr => ∃ t : Nat, t ≤ G.length ∧ i = .int .i64 t ∧ o5 = u5 ∧ Hid (wsum G t = 0) ∧ Below W2.heap.size W2 wr) (fun _ i _ => G.length + 1 - (intOf i).toNat)
          case atStart => exact ⟨0, Nat.zero_le _, rfl, rfl, rfl, Below.refl _ _⟩
          case round =>
            obtain ⟨t, ht, rfl, rfl, hw, hS3⟩ := hrel
            rename World => W3
            by_cases htl : t < G.length
            · obtain ⟨_, _, e, _, _, H⟩ := (SG.out.below hS3).open
              cases e
              obtain ⟨b, off, rfl, c0, c1, c2, c3, c4, c5⟩ := H.out t htl
              clear H
              have NZ := Lib.hid (WN.out t htl)
              have SU := Lib.hid (WS.out t htl)
              have hG0 : 0 < G.length := by omega
              generalize G[t] = x at *
              have hq := ba1 W3 (.cells #[.int .i64 x.i, .int .i64 x.j, .int .i64 x.re, .int .i64 x.im, .int .i64 x.den, .int .i64 x.n] 60)
              have oV := Own.new W3 60 [.int .i64 x.i, .int .i64 x.j, .int .i64 x.re, .int .i64 x.im, .int .i64 x.den, .int .i64 x.n]
              go_upto_region 19 with fail
              have hS4 := below_to hS3 hq
              clear hq c0 c1 c2 c3 c4 c5
              obtain ⟨bV, hV⟩ : ∃ B, B = W3.heap.size := ⟨_, rfl⟩
              rw [← hV] at oV ⊢
              clear hV
              generalize W3.alloc (.cells #[.int .i64 x.i, .int .i64 x.j, .int .i64 x.re, .int .i64 x.im, .int .i64 x.den, .int .i64 x.n] 60) = y3 at *
              obtain ⟨rV, fV⟩ := oV.rules
              have zV := oV.lt
              by_cases hn : x.n = 0
              · have p1 : (x.n == 0) = true := by simpa using hn
                have HS : Hid (wsum G (t + 1) = 0) := by show _ = _; rw [SU.out, hw.out, hn]; rfl
                clear hn
                go_wp2
                go_roundw
                case rel => exact ⟨t + 1, by omega, by go_num, rfl, HS, hS4⟩
                case measure => simp [intOf]; try omega
              · have p1 : (x.n == 0) = false := by simpa using hn
                have NN := Lib.hid (NZ.out hn)
                clear hn NZ hw
                go_wp2_with fail
                refine (vmean_any G _ _ (SG.out.below hS4) VA.out GL hG0).mono ?_
                rintro e y4 ⟨rfl, hq⟩
                clear rV fV zV oV
                replace hS4 := below_to hS4 hq
                clear hq
                replace KE := Lib.hid (KE.out NN.out)
                replace KO := Lib.hid (KO.out NN.out)
                clear NN KS
                generalize hr : vmean G = r at *
                clear hr
                unfold VR.res
                have hq := ba1 y4 (.cells #[.int .i64 r.i, .int .i64 r.j, .int .i64 r.re, .int .i64 r.im, .int .i64 r.den, .int .i64 r.n] 60)
                have oM := Own.new y4 60 [.int .i64 r.i, .int .i64 r.j, .int .i64 r.re, .int .i64 r.im, .int .i64 r.den, .int .i64 r.n]
                go_upto_region 21 with fail
                replace hS4 := below_to hS4 hq
                clear hq
                obtain ⟨bM, hM⟩ : ∃ B, B = y4.heap.size := ⟨_, rfl⟩
                rw [← hM] at oM ⊢
                clear hM
                generalize y4.alloc (.cells #[.int .i64 r.i, .int .i64 r.j, .int .i64 r.re, .int .i64 r.im, .int .i64 r.den, .int .i64 r.n] 60) = y5 at *
                have hS5 := below_to hS hS4
                by_cases he : r.e = 0
                case neg =>
                  have p2 : (r.e != 0) = true := by simpa using he
                  have HE := Lib.hid (KE.out he)
                  have HF := Lib.hid (GEm.out (by rw [HE.out]; exact he))
                  clear he KO KE
                  go_wp2
                  go_ret2
                  exact ⟨.slice none 0 0, by rw [HF.out, HE.out]; rfl, by rw [HF.out, HE.out]; exact sv_nil _, below_to hB hS5⟩
                have p2 : (r.e != 0) = false := by simpa using he
                have HO := Lib.hid (KO.out he)
                clear he KO KE
                have HO1 := Lib.hid (congrArg Prod.fst HO.out)
                have HO2 : Hid ((vgrp l (m + 1)).2 = 0) := by show _ = _; rw [HO.out]
                clear HO
                have q3 : ∀ (i : Nat), vcs [r.vs] = [.int .i64 r.i, .int .i64 r.j, .int .i64 r.re, .int .i64 r.im, .int .i64 r.den, .int .i64 r.n] := fun _ => rfl
                have VX := Lib.hid (q3 0)
                clear q3
                have ow2 := owns_at ow hS5
                have hB5 := below_to hB hS5
                have z5 := hB5.size
                have oL : os.length < 1000000 := Nat.lt_of_le_of_lt OL.out (by omega)
                obtain ⟨rM, fM⟩ := oM.rules
                have zM := oM.lt
                go_wp2_with (at_builtin; refine wpList_app _ rfl _ _ _ rfl w.heap.size 60 6 48 (.agg #[.int .i64 0, .int .i64 0, .int .i64 0, .int .i64 0, .int .i64 0, .int .i64 0]) Try.underlying55 vis_info rfl (by omega) (by omega) _ _ _ rfl (ow2.alloc _) (by omega) (by simp; omega) y5.heap.size [.int .i64 r.i, .int .i64 r.j, .int .i64 r.re, .int .i64 r.im, .int .i64 r.den, .int .i64 r.n] (0, 0) rfl (heap_alloc_new y5 _) rfl (by simp [Value.oneCell']) ?_; intro g cap2 w2 hown hg hbw)
                go_roundw
                case rel =>
                  refine ⟨m + 1, by omega, by go_num, HO2, ?_, ?_⟩
                  · rw [HO1.out, vcs_append, List.length_append, VX.out]; exact hown
                  · exact (below_to hB5 (ba1 y5 _)).trans (hbw.mono (Nat.le_refl _))
                case measure => simp [intOf]; try omega
            · obtain rfl : t = G.length := by omega
              have HK := Lib.hid (KS.out hw.out)
              clear hw htl ht
              have hS5 := below_to hS hS3
              go_wp2
              go_roundw
              case rel =>
                refine ⟨m + 1, by omega, by go_num, ?_, ?_, below_to hB hS5⟩
                · show _ = _; rw [HK.out]; exact HV.out
                · rw [HK.out, OS.out]; exact owns_at ow hS5
              case measure => simp [intOf]; try omega
    · obtain rfl : m = 64 := by omega
      go_wp2
      go_ret2
      refine ⟨_, by rw [G0.out, hv.out]; rfl, ?_, hB⟩
      rw [G0.out]
      exact owns_SV ow (by have := vgrp_len l 64; omega)
end Go.Proofs.Ytpjhiojdnebgoaa

/- What is proved here: what making a slice of visibilities gives, and a part of one visibility. Condition: at most 100,000 visibilities. -/
namespace Go.Proofs.Ytpjhiojdnebgoaa
open Go.RowKit

theorem vcs_zero (n : Nat) : vcs (List.replicate n ⟨0, 0, 0, 0, 0, 0⟩) = List.replicate (n * 6) (.int .i64 0) := by
  induction n with
  | zero => rfl
  | succ n ih => rw [List.replicate_succ, vcs_cons, ih, Nat.succ_mul, Nat.add_comm, ← List.replicate_append_replicate]; rfl
theorem made_viss (n : Nat) : madeCells (Value.agg #[.int .i64 0, .int .i64 0, .int .i64 0, .int .i64 0, .int .i64 0, .int .i64 0]).cells (n * 6) = (vcs (List.replicate n ⟨0, 0, 0, 0, 0, 0⟩)).toArray := by
  rw [vcs_zero]
  apply Array.ext
  · simp [size_madeCells]
  · intro i h1 h2
    have : i % 6 = 0 ∨ i % 6 = 1 ∨ i % 6 = 2 ∨ i % 6 = 3 ∨ i % 6 = 4 ∨ i % 6 = 5 := by omega
    rcases this with h | h | h | h | h | h <;> simp [madeCells, Value.cells, h]
theorem mk_viss (n : Nat) (hn : n ≤ 100000) (w : World) : (Instr.makeSlice 55 (.int .i64 (n : Int)) (.int .i64 (n : Int))).run Try.prog w = .ok (.slice (some ⟨w.heap.size, 0, none⟩) n n) (w.alloc (.cells (vcs (List.replicate n ⟨0, 0, 0, 0, 0, 0⟩)).toArray 60)) := by
  obtain ⟨i0, hi, hz0, hz1, hz2⟩ := info_parts vis_info
  have h := run_make w 55 60 i0 (.agg #[.int .i64 0, .int .i64 0, .int .i64 0, .int .i64 0, .int .i64 0, .int .i64 0]) Try.underlying55 hi hz0 .i64 .i64 (n : Int) (n : Int) (by omega) (by omega) (by rw [hz2]; omega) (by omega)
  rw [Int.toNat_natCast, hz1, made_viss] at h
  exact h
theorem sv_one {w : World} {b off cap c : Nat} {l : List Vs} (h : SV w (.slice (some ⟨b, off, none⟩) l.length cap) l) {k : Nat} (hk : k < l.length) (hc : 1 ≤ c) : SV w (.slice (some ⟨b, off + k * 6, none⟩) 1 c) [l[k]] := by
  obtain ⟨ad', cap', e, h1, h2, h3⟩ := h
  cases e
  refine ⟨_, _, rfl, hc, (by show 1 ≤ _; decide), fun i x hx => ⟨b, off + k * 6, rfl, ?_⟩⟩
  have h6 : i < 6 := by
    rcases Nat.lt_or_ge i 6 with h4 | h4
    · exact h4
    · rw [List.getElem?_eq_none (by simp [vcs, Vs.cs]; omega)] at hx; cases hx
  have hx' : (l[k]).cs[i]? = some x := by rw [← hx]; simp [vcs]
  obtain ⟨b', off', e, hc⟩ := h3 (k * 6 + i) x (by rw [vcs_get l k hk i h6, hx'])
  cases e
  rw [Nat.add_assoc]; exact hc
end Go.Proofs.Ytpjhiojdnebgoaa
