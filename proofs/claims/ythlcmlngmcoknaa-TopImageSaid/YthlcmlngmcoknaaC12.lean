/- What is proved here: contracts of functions and plain facts, several texts in one; each one says ahead what it proves, and its conditions. -/
import Derived.Test.YthlcmlngmcoknaaC09
import Derived.Test.YthlcmlngmcoknaaC11
import Derived.Test.YthlcmlngmcoknaaC01
import Derived.Deep.DeepCutAuto
/- What is proved here: the contract of sky.See. Condition: valid places and a valid sky that can be read. -/
namespace Go.Proofs.Ythlcmlngmcoknaa
open Go.RowKit

theorem quarters_b (p : List (Int × Int)) (i j : Nat) (x y : Int) (v : Value) (w : World) (hs : SF w v p) (hp : Near p) (hi : i < p.length) (hj : j < p.length) (hx : -16 ≤ x ∧ x ≤ 16) (hy : -16 ≤ y ∧ y ≤ 16) (q : Int) (hq : Qq p i j x y = q) :
    Calls Try.prog 81 #[v, .int .i64 i, .int .i64 j, .int .i64 x, .int .i64 y] w fun e w' => e = .returned (.int .i64 q) ∧ Below w.heap.size w w' := by
  subst hq
  refine (quarters_any p i j x y v w hs hp hi hj hx hy).mono ?_
  rintro e w' ⟨rfl, n, rfl⟩
  exact ⟨rfl, below_drewN _ _⟩
theorem vis_info41 : (Try.prog.info? 122).map (fun i => (i.zero, i.size, i.bytes)) = some (some (.agg #[.int .i64 0, .int .i64 0, .int .i64 0, .int .i64 0, .int .i64 0, .int .i64 0]), 6, 48) := by kernel_rfl
theorem owns_SV41 {w : World} {B : Nat} {T : TypeId} {v : Value} {xs : List Vs} (h : w.ownsRow B T 6 v xs.length (vcs xs)) (hn : xs.length ≤ 9223372036854775807) : SV w v xs := owns_sl h hn
theorem near_of {p : List (Int × Int)} (h : plcN p = 0) : Near p := (plcN_of h).2.2
theorem small_of {l : List T3} (h : skyN l = 0) : Small l 1000 := fun s hs => by have := (skyN_of h).2 s hs; omega
/-- A list of visibilities and an error, as results. -/
def see_post (w : World) (l : List Vs) (e : Ending) (w' : World) : Prop := ∃ u, e = .returned (.tuple #[u, .int .i64 0]) ∧ SV w' u l ∧ Below w.heap.size w w'
set_option maxRecDepth 100000 in
set_option maxHeartbeats 16000000 in
theorem see_any (p : List (Int × Int)) (l : List T3) (vp vl : Value) (w : World) (hp : SF w vp p) (hl : ST w vl l) (h0 : bothN p l = 0) :
    Calls Try.prog 79 #[vp, vl] w (see_post w ((prs p.length).map (visOf p l))) := by
  obtain ⟨g1, g2⟩ := bothN_of h0
  clear h0
  have NP := Lib.hid (near_of g1)
  have SM := Lib.hid (small_of g2)
  have L16 := Lib.hid (skyN_of g2).1
  have LC := Lib.hid (skyN_of g2).2
  have P8 : Hid (p.length ≤ 8) := (plcN_of g1).2.1
  have P0 := Lib.hid hp
  have S0 := Lib.hid hl
  obtain ⟨ad, cap, rfl, h1, h2, _⟩ := hp.open
  obtain ⟨ad', cap', rfl, h3, h4, _⟩ := hl.open
  clear hp hl
  go_enter Try.func79, Try.ntmps79
  go_wp2_with fail
  refine (skyPlaces_any p _ _ P0.out).mono ?_
  rintro e y1 ⟨rfl, hy⟩
  rw [g1]
  go_wp2_with fail
  refine (skyCheck_any l _ _ (S0.out.below hy)).mono ?_
  rintro e y2 ⟨rfl, hq⟩
  rw [g2]
  replace hy := below_to hy hq
  clear hq g1 g2
  replace P0 := Lib.hid (P0.out.below hy)
  replace S0 := Lib.hid (S0.out.below hy)
  go_wp2
  go_loopw [8, 27] (fun gv iv wr => ∃ i : Nat, i ≤ p.length ∧ iv = .int .i64 i ∧ wr.ownsRow y2.heap.size 122 6 gv (seeL p l i 0).length (vcs (seeL p l i 0)) ∧ Below y2.heap.size y2 wr) (fun _ iv _ => p.length - (intOf iv).toNat)
  case atStart => exact ⟨0, Nat.zero_le _, rfl, World.ownsRow_nil _ _ _ _, Below.refl _ _⟩
  case round =>
    obtain ⟨i, hi, rfl, og, hC⟩ := hrel
    rename World => Y
    by_cases hip : i < p.length
    · go_wp2
      go_loopw [8, 10] (fun gv jv wr => ∃ d : Nat, d ≤ p.length - 1 - i ∧ jv = .int .i64 ((i + 1 + d : Nat) : Int) ∧ wr.ownsRow y2.heap.size 122 6 gv (seeL p l i d).length (vcs (seeL p l i d)) ∧ Below y2.heap.size y2 wr) (fun _ jv _ => p.length - (intOf jv).toNat)
      case atStart => exact ⟨0, Nat.zero_le _, by go_num, og, hC⟩
      case round =>
        clear og hC
        obtain ⟨d, hd, rfl, og, hC⟩ := hrel
        rename World => W
        by_cases hdp : d < p.length - 1 - i
        · have NX := Lib.hid (seeL_next p l i d)
          have LN := Lib.hid (seeL_len P8.out l (i := i) (d := d) (by have := P8.out; omega) (by have := P8.out; omega))
          have hjp : i + 1 + d < p.length := by omega
          obtain ⟨j, hj⟩ : ∃ j, j = i + 1 + d := ⟨_, rfl⟩
          rw [← hj] at NX hjp ⊢
          have HJ := Lib.hid hj
          have HD := Lib.hid hd
          have HDP := Lib.hid hdp
          clear hj hd hdp
          have ZW := hC.size
          have oS := Own.new W 120 [.int .i64 0, .int .i64 0, .int .i64 1]
          have hS := ba1 W (.cells #[.int .i64 0, .int .i64 0, .int .i64 1] 120)
          go_upto_region 15 with fail
          generalize W.alloc (.cells #[.int .i64 0, .int .i64 0, .int .i64 1] 120) = V0 at *
          go_wp2
          go_loopw [41] (fun kv wr => ∃ k : Nat, k ≤ l.length ∧ kv = .int .i64 k ∧ Own wr W.heap.size 120 [.int .i64 (vre p (l.take k) (i, j)), .int .i64 (vim p (l.take k) (i, j)), .int .i64 1] ∧ Below W.heap.size W wr) (fun kv _ => l.length - (intOf kv).toNat)
          case atStart => exact ⟨0, Nat.zero_le _, rfl, oS, hS⟩
          case round =>
            clear oS hS
            obtain ⟨k, hk, rfl, oS, hS⟩ := hrel
            rename World => V
            by_cases hkl : k < l.length
            · have hV := below_to hC hS
              have PV := Lib.hid (P0.out.below hV)
              obtain ⟨_, _, e, _, _, H⟩ := (S0.out.below hV).open
              cases e
              obtain ⟨b, off, rfl, c0, c1, c2⟩ := H.out k hkl
              clear H
              have XB := Lib.hid (LC.out l[k] (List.getElem_mem hkl))
              have V1 := vre_take p hkl (i, j)
              have V2 := vim_take p hkl (i, j)
              have B1 := vre_small (p := p) SM.out L16.out (k + 1) (i, j)
              have B2 := vim_small (p := p) SM.out L16.out (k + 1) (i, j)
              obtain ⟨x, hx⟩ : ∃ x, x = l[k] := ⟨_, rfl⟩
              rw [← hx] at c0 c1 c2 XB V1 V2
              clear hx
              obtain ⟨q, hq⟩ : ∃ q, q = Qq p i j x.x x.y := ⟨_, rfl⟩
              have HQ := Lib.hid hq.symm
              have T1 : ture x.f 0 q = x.f * tqc q := by unfold ture; omega
              have T2 : tuim x.f 0 q = x.f * tqs q := by unfold tuim; omega
              have E1 : wrap64 (vre p (l.take k) (i, j) + ture x.f 0 q) = vre p (l.take (k + 1)) (i, j) := by
                rw [T1, hq, ← V1]; exact Go.IntWalk.wrap64_in _ (by omega)
              have E2 : wrap64 (vim p (l.take k) (i, j) + tuim x.f 0 q) = vim p (l.take (k + 1)) (i, j) := by
                rw [T2, hq, ← V2]; exact Go.IntWalk.wrap64_in _ (by omega)
              clear V1 V2 B1 B2 T1 T2 hq
              generalize vre p (l.take k) (i, j) = a0 at *
              generalize vim p (l.take k) (i, j) = b0 at *
              have ZV := hS.size
              have oM := Own.new V 62 [.int .i64 x.x, .int .i64 x.y, .int .i64 x.f]
              have hM := ba1 V (.cells #[.int .i64 x.x, .int .i64 x.y, .int .i64 x.f] 62)
              go_upto_region 18 with fail
              clear c0 c1 c2
              obtain ⟨bM, hbM⟩ : ∃ B, B = V.heap.size := ⟨_, rfl⟩
              rw [← hbM] at oM ⊢
              have HBM := Lib.hid hbM
              clear hbM
              generalize V.alloc (.cells #[.int .i64 x.x, .int .i64 x.y, .int .i64 x.f] 62) = V1 at *
              replace oS := oS.below hM
              replace PV := Lib.hid (PV.out.below hM)
              replace hS := below_to hS hM
              clear hM
              obtain ⟨rM, fM⟩ := oM.rules
              have zM := oM.lt
              obtain ⟨rS, fS⟩ := oS.rules
              have zS := oS.lt
              go_wp2_with fail
              have gl := @grow_lt
              refine wp_region_fs [(12, ⟨120, [.int .i64 0, .int .i64 0, .int .i64 0], fun b => .pointer (some ⟨b, 0, none⟩)⟩)] [0, 1, 2, 3, 4, 5, 6, 7, 8, 9] [.op 10, .op 11, .fl 12, .op 13] [] (by kernel_rfl) (by kernel_rfl) ⟨fun ρ W => by kernel_rfl, trivial⟩ (fun _ _ _ _ _ h => h) (fun _ _ _ _ _ h => h) ?_
              try simp only [opsAt, List.getElem?_toArray, List.getElem?_cons_zero, List.getElem?_cons_succ, Option.getD_some]
              repeat (go_big_quiet_step (fail))
              refine wpQuiet_nil ?_
              clear gl
              refine wpFl_op rfl ?_
              intro w3 hb3 K' hK'
              go_simp
              refine (quarters_b p i j x.x x.y _ _ (PV.out.below hb3) NP.out hip hjp (by have := XB.out; omega) (by have := XB.out; omega) q HQ.out).mono ?_
              rintro e w5 ⟨rfl, hq⟩
              refine hK' _ _ (Mod.of_below hq) ?_
              clear hK' K'
              have hF := below_to hb3 hq
              clear hb3 hq
              refine wpFl_op rfl ?_
              intro w3 hb3 K' hK'
              go_simp
              refine (turn_any x.f 0 1 q _ (by have := XB.out; omega) (by omega)).mono ?_
              rintro e w5 ⟨rfl, hq⟩
              refine hK' _ _ (Mod.of_below hq) ?_
              clear hK' K'
              replace hF := below_to hF (below_to hb3 hq)
              clear hb3 hq
              skip
              refine wpFl_fl rfl ?_
              intro bT w6 hb6 oT zT0 _
              go_simp
              replace hF := below_to hF hb6
              refine wpFl_op rfl ?_
              intro w7 hb7 K' hK'
              replace oT := oT.below hb7
              replace hF := below_to hF hb7
              clear hb6 hb7
              obtain ⟨rT, fT⟩ := oT.rules
              have zT := oT.lt
              go_wp2_with fail
              refine hK' _ _ ((((Mod.refl _ _).set (by simp) _).set (by simp) _).set (by simp) _) ?_
              clear hK' K' rT fT zT
              replace oT := (((oT.set 0 (.int .i64 (ture x.f 0 q))).set 1 (.int .i64 (tuim x.f 0 q))).set 2 (.int .i64 1))
              replace hF := (((hF.setCell (p := ⟨bT, 0, none⟩) zT0 (.int .i64 (ture x.f 0 q))).setCell (p := ⟨bT, 1, none⟩) zT0 (.int .i64 (tuim x.f 0 q))).setCell (p := ⟨bT, 2, none⟩) zT0 (.int .i64 1))
              refine wpFl_nil (fun w8 hb8 => ?_)
              replace oT := oT.below hb8
              replace hF := below_to hF hb8
              clear hb8
              try simp only [opsAt, List.getElem?_toArray, List.getElem?_cons_zero, List.getElem?_cons_succ, Option.getD_some]
              have nTS : bT ≠ W.heap.size := by omega
              clear rM fM zM rS fS zS
              replace oS := oS.below hF
              replace hS := below_to hS hF
              clear hF oM PV
              rename World => V2
              obtain ⟨rS, fS⟩ := oS.rules
              have zS := oS.lt
              obtain ⟨rT, fT⟩ := oT.rules
              have zT := oT.lt
              go_wp2
              go_roundw
              case rel =>
                clear rS fS zS rT fT zT
                refine ⟨k + 1, by omega, by go_num, ?_, ?_⟩
                · exact own_eq ((oS.set 0 _).set 1 _) (by simp)
                · exact (hS.setCell (p := ⟨W.heap.size, 0, none⟩) (Nat.le_refl _) _).setCell (p := ⟨W.heap.size, 1, none⟩) (Nat.le_refl _) _
              case measure => simp [intOf]; try omega
            · obtain rfl : k = l.length := by omega
              rw [List.take_length] at oS
              have og2 := owns_at og hS
              have hC2 := below_to hC hS
              have ZV := hC2.size
              have ZS := hS.size
              clear og hC hS
              have VX : Hid (vcs [visOf p l (i, j)] = [.int .i64 i, .int .i64 j, .int .i64 (vre p l (i, j)), .int .i64 (vim p l (i, j)), .int .i64 1, .int .i64 1]) := rfl
              generalize vre p l (i, j) = a0 at *
              generalize vim p l (i, j) = b0 at *
              have LN' := LN.out
              obtain ⟨rS, fS⟩ := oS.rules
              have zS := oS.lt
              go_wp2_with (at_builtin; refine wpList_app _ rfl _ _ _ rfl y2.heap.size 122 6 48 (.agg #[.int .i64 0, .int .i64 0, .int .i64 0, .int .i64 0, .int .i64 0, .int .i64 0]) Try.underlying116 vis_info41 rfl (by omega) (by omega) _ _ _ rfl (og2.alloc _) (by omega) (by simp; omega) V.heap.size [.int .i64 i, .int .i64 j, .int .i64 a0, .int .i64 b0, .int .i64 1, .int .i64 1] (0, 0) rfl (heap_alloc_new V _) rfl (by simp [Value.oneCell']) ?_; intro g cap2 w2 hown hg hbw)
              go_roundw
              case rel =>
                refine ⟨d + 1, by have := HDP.out; omega, by have := HJ.out; go_num, ?_, ?_⟩
                · rw [NX.out, List.length_append, vcs_append, VX.out]; exact hown
                · exact (below_to hC2 (ba1 V _)).trans (hbw.mono (Nat.le_refl _))
              case measure => have := HJ.out; have := HDP.out; simp [intOf]; try omega
        · obtain rfl : d = p.length - 1 - i := by omega
          have NX := seeL_row p l i
          rw [NX] at og
          clear NX
          have jp : ((i + 1 + (p.length - 1 - i) : Nat) : Int) = (p.length : Int) := by omega
          rw [jp]
          go_wp2
          go_roundw
          case rel => exact ⟨i + 1, by omega, by go_num, og, hC⟩
          case measure => simp [intOf]; try omega
    · obtain rfl : i = p.length := by omega
      rw [seeL_end] at og
      have LN := seeL_len P8.out l (i := p.length) (d := 0) P8.out (by omega)
      rw [seeL_end] at LN
      have SR := Lib.hid (owns_SV41 og (by omega))
      obtain ⟨ad2, cap2, e2, _⟩ := SR.out.open
      subst e2
      clear og
      go_wp2
      refine bodyPost_ret (v := .tuple #[.slice ad2 ((prs p.length).map (visOf p l)).length cap2, .int .i64 0]) (by simp [results, Try.results79, go_sem]) rfl ⟨_, rfl, SR.out, below_to hy hC⟩
end Go.Proofs.Ythlcmlngmcoknaa

/- What is proved here: the contract of sky.Dirty. Condition: valid places and a valid sky that can be read, 1 to 8 cells. -/
namespace Go.Proofs.Ythlcmlngmcoknaa
open Go.RowKit

/-- An image and an error, as results. -/
def img_post (w : World) (n : Nat) (M : Nat → Nat → Int) (e : Ending) (w' : World) : Prop := ∃ u, e = .returned (.tuple #[u, .int .i64 0]) ∧ IM w' u n M ∧ Below w.heap.size w w'
def skpN (p : List (Int × Int)) (l : List T3) (x y : Int) (k : Nat) : Int := (((prs p.length).take k).map (dterm p l x y)).sum
theorem skp_0 (p : List (Int × Int)) (l : List T3) (x y : Int) : skpN p l x y 0 = 0 := rfl
theorem skp_succ (p : List (Int × Int)) (l : List T3) (x y : Int) {k : Nat} (hk : k < (prs p.length).length) : skpN p l x y (k + 1) = skpN p l x y k + dterm p l x y (prs p.length)[k] := sum_snoc _ hk
theorem skp_end (p : List (Int × Int)) (l : List T3) (x y : Int) : skpN p l x y (prs p.length).length = dcell p l x y := by unfold skpN; rw [List.take_length]; rfl
theorem skp_bd {p : List (Int × Int)} {l : List T3} (h : Small l 1000) (hl : l.length ≤ 16) (h8 : p.length ≤ 8) (x y : Int) (k : Nat) : -896000 ≤ skpN p l x y k ∧ skpN p l x y k ≤ 896000 := by
  have h1 := part_bd (p := p) h (by omega) x y (L := (prs p.length).take k) (by have := prs_len h8; rw [List.length_take]; omega)
  unfold skpN
  omega
theorem fld_cx (x y z : Int) (w : World) : (Instr.field 120 (.agg #[.int .i64 x, .int .i64 y, .int .i64 z]) 0).run Try.prog w = .ok (.int .i64 x) w := by kernel_rfl
set_option maxRecDepth 100000 in
set_option maxHeartbeats 16000000 in
theorem dirty_any (p : List (Int × Int)) (l : List T3) (n : Nat) (vp vl : Value) (w : World) (hp : SF w vp p) (hl : ST w vl l) (h0 : bothN p l = 0) (n1 : 1 ≤ n) (n8 : n ≤ 8) :
    Calls Try.prog 33 #[vp, vl, .int .i64 n] w (img_post w n (fun y x => dcell p l x y)) := by
  obtain ⟨g1, g2⟩ := bothN_of h0
  have NP := Lib.hid (near_of g1)
  have SM := Lib.hid (small_of g2)
  have L16 := Lib.hid (skyN_of g2).1
  have P8 : Hid (p.length ≤ 8) := (plcN_of g1).2.1
  have P0 := Lib.hid hp
  have PL := Lib.hid (prs_len P8.out)
  obtain ⟨ad, cap, rfl, h1, h2, _⟩ := hp.open
  have b1 : decide ((n : Int) < 1) = false := by simp; omega
  have b2 : decide (8 < (n : Int)) = false := by simp; omega
  go_enter Try.func33, Try.ntmps33
  go_wp2_with fail
  refine (see_any p l _ _ _ hp hl h0).mono ?_
  rintro e Y0 ⟨u, rfl, sv, hy⟩
  replace P0 := Lib.hid (P0.out.below hy)
  clear hp hl h0 g1 g2
  have SV0 := Lib.hid sv
  obtain ⟨adv, capv, e, hv1, hv2, _⟩ := sv.open
  subst e
  clear sv
  rw [List.length_map] at hv1 hv2 ⊢
  have MK := mk_rowz n (by omega)
  have oG := Own.new Y0 23 (List.replicate n (Value.slice none 0 0))
  have hG := ba1 Y0 (.cells (List.replicate n (Value.slice none 0 0)).toArray 23)
  have eA : (List.replicate n (Value.slice none 0 0)).toArray = Array.replicate n (.slice none 0 0) := by simp
  rw [eA] at oG hG
  clear eA
  go_upto_region 7 with fail
  obtain ⟨g, hg⟩ : ∃ g, g = Y0.heap.size := ⟨_, rfl⟩
  rw [← hg] at oG ⊢
  have HG := Lib.hid hg
  have hGle : Y0.heap.size ≤ g := by omega
  clear hg
  generalize Y0.alloc (.cells (Array.replicate n (Value.slice none 0 0)) 23) = Y at *
  have hGY := hG.size
  go_wp2
  clear MK
  have MR := mk_ints n (by omega)
  go_loopw [35] (fun iv wr => ∃ y : Nat, y ≤ n ∧ iv = .int .i64 y ∧ (∃ bb cp ex, MatO wr Y0.heap.size wr.heap.size g 23 3 (List.replicate (n - y) (Value.slice none 0 0)) bb cp ex y n (fillM (fun y x => dcell p l x y) y 0)) ∧ Below Y0.heap.size Y0 wr) (fun iv _ => n - (intOf iv).toNat)
  case atStart => exact ⟨0, Nat.zero_le _, rfl, ⟨fun _ => 0, fun _ => 0, fun _ => [], MatO.zero oG hGle oG.lt _ _ _ _ _⟩, hG⟩
  case round =>
    clear oG hG hGY
    obtain ⟨y, hyn, rfl, ⟨bb, cp, ex, MX⟩, hC⟩ := hrel
    rename World => V
    by_cases hlt : y < n
    · rw [show n - y = (n - y - 1) + 1 by omega, List.replicate_succ] at MX
      have CO : V.cell? ⟨g, y, none⟩ = some (.slice none 0 0) := by
        have := MX.out.cell y (by rw [List.length_append, mout_len]; simp)
        rw [this]; congr 1; rw [List.getElem_append_right (by rw [mout_len]; exact Nat.le_refl _)]; simp [mout_len]
      have FO := MX.out.free y
      have ZG := MX.out.lt
      have MV := MX.below (ba1 V (.cells (ics (List.replicate n 0)).toArray 3))
      have MP := MV.push (b := V.heap.size) (c := n) (e := []) (by rw [List.append_nil, ← ics_zero n _ y (fun j _ => fillM_zero _ y j)]; exact Own.new V 3 _) (Nat.le_refl _) hC.size (Nat.le_refl _)
      have hC2 := MV.outB (hC.trans ((ba1 V (.cells (ics (List.replicate n 0)).toArray 3)).mono hC.size)) y (.slice (some ⟨V.heap.size, 0, none⟩) n n)
      rw [World.setCell_alloc_past _ _ _ _ ZG] at MP hC2
      have ZV1 : V.heap.size + 1 ≤ ((V.setCell ⟨g, y, none⟩ (.slice (some ⟨V.heap.size, 0, none⟩) n n)).alloc (.cells (ics (List.replicate n 0)).toArray 3)).heap.size := by simp
      go_upto_region 11 with fail
      clear CO FO MX MV hC ZG MR
      generalize (V.setCell ⟨g, y, none⟩ (.slice (some ⟨V.heap.size, 0, none⟩) n n)).alloc (.cells (ics (List.replicate n 0)).toArray 3) = V1 at *
      generalize updN bb y V.heap.size = bb1 at *
      generalize updN cp y n = cp1 at *
      generalize updN ex y [] = ex1 at *
      obtain ⟨L, hL⟩ : ∃ L, L = V.heap.size + 1 := ⟨_, rfl⟩
      rw [← hL] at MP ZV1
      clear hL
      have CO1 := MP.cell_out (i := y) (by omega)
      go_wp2
      go_loopw [48] (fun iv wr => ∃ x : Nat, x ≤ n ∧ iv = .int .i64 x ∧ MatO wr Y0.heap.size L g 23 3 (List.replicate (n - y - 1) (Value.slice none 0 0)) bb1 cp1 ex1 (y + 1) n (fillM (fun y x => dcell p l x y) y x) ∧ L ≤ wr.heap.size ∧ Below Y0.heap.size Y0 wr) (fun iv _ => n - (intOf iv).toNat)
      case atStart => exact ⟨0, Nat.zero_le _, rfl, MP, ZV1, hC2⟩
      case round =>
        clear MP ZV1 hC2 CO1
        obtain ⟨x, hxn, rfl, MX, hL, hC⟩ := hrel
        rename World => V
        by_cases hxl : x < n
        · go_wp2
          go_loopw [13, 53] (fun sv kv wr => ∃ k : Nat, k ≤ (prs p.length).length ∧ kv = .int .i64 k ∧ sv = .int .i64 (skpN p l x y k) ∧ Below V.heap.size V wr) (fun _ kv _ => (prs p.length).length - (intOf kv).toNat)
          case atStart => exact ⟨0, Nat.zero_le _, rfl, rfl, Below.refl _ _⟩
          case round =>
            obtain ⟨k, hk, rfl, rfl, hS⟩ := hrel
            rename World => U
            by_cases hkl : k < (prs p.length).length
            · have hU := below_to hC hS
              have PV := Lib.hid (P0.out.below hU)
              obtain ⟨_, _, e, _, _, H⟩ := (SV0.out.below hU).open
              simp only [Value.slice.injEq] at e
              obtain ⟨rfl, _, rfl⟩ := e
              obtain ⟨b, off, rfl, c0, c1, c2, c3, c4, c5⟩ := H.out k (by rw [List.length_map]; exact hkl)
              clear H
              simp only [List.getElem_map] at c0 c1 c2 c3 c4 c5
              have DS := skp_succ p l x y hkl
              have DB := skp_bd SM.out L16.out P8.out (x : Int) (y : Int) (k + 1)
              have PM := prs_mem (List.getElem_mem hkl)
              obtain ⟨ij, hij⟩ : ∃ ij, ij = (prs p.length)[k] := ⟨_, rfl⟩
              rw [← hij] at c0 c1 c2 c3 c4 c5 DS PM
              clear hij
              obtain ⟨i, j⟩ := ij
              simp only [visOf] at c0 c1 c2 c3 c4 c5 PM
              have R1 := vre_small (p := p) SM.out L16.out l.length (i, j)
              have R2 := vim_small (p := p) SM.out L16.out l.length (i, j)
              rw [List.take_length] at R1 R2
              obtain ⟨q, hq⟩ : ∃ q, q = Qq p i j x y := ⟨_, rfl⟩
              have HQ := Lib.hid hq.symm
              have QB := Qq_bd NP.out (i := i) (j := j) (by omega) PM.2 (x := x) (y := y) (by omega) (by omega)
              rw [← hq] at QB
              have WQ : wrap64 (-q) = -q := Go.IntWalk.wrap64_in _ (by omega)
              have E1 : wrap64 (skpN p l x y k + ture (vre p l (i, j)) (vim p l (i, j)) (-q)) = skpN p l x y (k + 1) := by
                rw [hq, DS]
                have : dterm p l x y (i, j) = ture (vre p l (i, j)) (vim p l (i, j)) (-Qq p i j x y) := rfl
                rw [this] at DS ⊢
                exact Go.IntWalk.wrap64_in _ (by omega)
              clear DS DB hq QB
              generalize vre p l (i, j) = a0 at *
              generalize vim p l (i, j) = b0 at *
              generalize skpN p l x y k = d0 at *
              have HI := Lib.hid PM
              have RR := Lib.hid (And.intro R1 R2)
              clear PM R1 R2
              have ZV := hS.size
              have oM := Own.new U 122 [.int .i64 i, .int .i64 j, .int .i64 a0, .int .i64 b0, .int .i64 1, .int .i64 1]
              have hM := ba1 U (.cells #[.int .i64 i, .int .i64 j, .int .i64 a0, .int .i64 b0, .int .i64 1, .int .i64 1] 122)
              go_upto_region 18 with fail
              clear c0 c1 c2 c3 c4 c5
              obtain ⟨bM, hbM⟩ : ∃ B, B = U.heap.size := ⟨_, rfl⟩
              rw [← hbM] at oM ⊢
              clear hbM
              generalize U.alloc (.cells #[.int .i64 i, .int .i64 j, .int .i64 a0, .int .i64 b0, .int .i64 1, .int .i64 1] 122) = U1 at *
              replace PV := Lib.hid (PV.out.below hM)
              replace hS := below_to hS hM
              clear hM
              obtain ⟨rM, fM⟩ := oM.rules
              have zM := oM.lt
              have gl := @grow_lt
              have FC := @fld_cx
              go_wp2_with fail
              refine wp_region_st [.t [0, 1, 2, 3, 4, 5, 6, 7, 8, 9], .f 10, .t [11], .f 12, .t [13, 14]] [15] (by kernel_rfl) (by kernel_rfl) (fun _ _ _ _ _ h => h) ?_
              refine wpX_t ?_
              try simp only [opsAt, List.getElem?_toArray, List.getElem?_cons_zero, List.getElem?_cons_succ, Option.getD_some]
              repeat (go_big_quiet_step (fail))
              refine wpQuiet_nil ?_
              have hD := (Below.refl U1.heap.size U1).drew
              refine wpX_f rfl rfl (fun K' hK' => ?_)
              go_simp
              refine (quarters_b p i j x y _ _ (PV.out.below hD) NP.out (by have := HI.out; omega) HI.out.2 (by omega) (by omega) q HQ.out).mono ?_
              rintro e z1 ⟨rfl, hq1⟩
              refine hK' _ _ (grow_of (below_to hD hq1)) ?_
              clear hK' K'
              refine wpX_t ?_
              try simp only [opsAt, List.getElem?_toArray, List.getElem?_cons_zero, List.getElem?_cons_succ, Option.getD_some]
              repeat (go_big_quiet_step (fail))
              refine wpQuiet_nil ?_
              refine wpX_f rfl rfl (fun K' hK' => ?_)
              go_simp
              refine (turn_any a0 b0 1 (-q) _ (by have := RR.out; omega) (by have := RR.out; omega)).mono ?_
              rintro e z2 ⟨rfl, hq2⟩
              refine hK' _ _ (grow_of (below_to (below_to hD hq1) hq2)) ?_
              clear hK' K'
              refine wpX_t ?_
              try simp only [opsAt, List.getElem?_toArray, List.getElem?_cons_zero, List.getElem?_cons_succ, Option.getD_some]
              repeat (go_big_quiet_step (fail))
              refine wpQuiet_nil ?_
              refine wpX_nil ?_
              try simp only [opsAt, List.getElem?_toArray, List.getElem?_cons_zero, List.getElem?_cons_succ, Option.getD_some]
              clear rM fM zM oM gl PV
              replace hS := below_to hS (below_to (below_to hD hq1) hq2)
              clear hD hq1 hq2
              rename World => U2
              go_wp2
              go_roundw
              case rel => exact ⟨k + 1, by omega, by go_num, by first | rfl | rw [E1], hS⟩
              case measure => simp [intOf]; try omega
            · obtain rfl : k = (prs p.length).length := by omega
              rw [skp_end]
              have MY := MX.below hS
              have CO := MY.cell_out (i := y) (by omega)
              have CA := MY.cell_at (i := y) (j := x) (by omega) hxl
              have FA := MY.free_at (i := y) (by omega) x
              have zS := hS.size
              go_wp2
              go_roundw
              case rel => exact ⟨x + 1, by omega, by go_num, (MY.put (by omega) hxl _).congr (fun r c _ _ => fillM_put _ y x r c), by simp; omega, MY.putB (below_to hC hS) (by omega) x _⟩
              case measure => simp [intOf]; try omega
        · obtain rfl : x = n := by omega
          go_wp2
          go_roundw
          case rel => exact ⟨y + 1, by omega, by go_num, ⟨_, _, _, ((MX.mono hL).congr (fun r c _ hc => fillM_row _ y x r c hc))⟩, hC⟩
          case measure => simp [intOf]; try omega
    · obtain rfl : y = n := by omega
      rw [Nat.sub_self, List.replicate_zero] at MX
      have IX := (MX.congr (fun r c hr _ => fillM_end _ y r c hr)).im (cap := y) (Nat.le_refl _) (by omega)
      go_wp2
      refine bodyPost_ret (v := .tuple #[.slice (some ⟨g, 0, none⟩) y y, .int .i64 0]) (by simp [results, Try.results33, go_sem]) rfl ⟨_, rfl, IX, below_to hy hC⟩
end Go.Proofs.Ythlcmlngmcoknaa
