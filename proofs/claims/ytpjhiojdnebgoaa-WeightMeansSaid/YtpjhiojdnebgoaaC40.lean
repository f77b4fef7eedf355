/- What is proved here: contracts of functions and plain facts, several texts in one; each one says ahead what it proves, and its conditions. -/
import Derived.Test.YtpjhiojdnebgoaaC34
import Derived.Test.YtpjhiojdnebgoaaC20
import Derived.Test.YtpjhiojdnebgoaaC21
import Derived.Test.YtpjhiojdnebgoaaC35
import Derived.Test.YtpjhiojdnebgoaaC39
import Derived.Test.YtpjhiojdnebgoaaC25
import Derived.Test.YtpjhiojdnebgoaaC02
import Derived.Test.YtpjhiojdnebgoaaC01
import Derived.BigQuiet
/- What is proved here: the contract of the reference's Mean. Condition: a slice of visibilities. -/
namespace Go.Proofs.Ytpjhiojdnebgoaa
open Go.RowKit

theorem frac_info : (Try.prog.info? 24).map (fun i => (i.zero, i.size, i.bytes)) = some (some (.agg #[.int .i64 0, .int .i64 0]), 2, 16) := by kernel_rfl
theorem int_info : (Try.prog.info? 3).map (fun i => (i.zero, i.size, i.bytes)) = some (some (.int .i64 0), 1, 8) := by kernel_rfl
theorem grown_to {w w1 w2 : World} (h : ∃ e, w1 = grow w e) (hb : Below w1.heap.size w1 w2) : ∃ e, w2 = grow w e := by
  obtain ⟨e, rfl⟩ := h
  exact grow_of (below_to (below_grow w e) hb)
theorem own_obs {W w2 : World} {v v' : Value} {b B size n : Nat} {T T' : TypeId} {cs ds : List Value} (h : Own W b T' ds) (k : Kept W w2 v v') (hr : W.ownsRow B T size v n cs) (hb : b < B) : Own w2 b T' ds :=
  (mod_grown (bs := obs v) k.grown fun _ h => h).own h fun hm => by have := (obs_lt hr b hm).1; omega
/-- Parts of the first visibilities. -/
def pfs (p : Vs → Int) (l : List Vs) (k : Nat) : List (Int × Int) := (l.take k).map (pfr p)
def nfs (l : List Vs) (k : Nat) : List Int := (l.take k).map Vs.n
theorem pfs_succ {p : Vs → Int} {l : List Vs} {k : Nat} (h : k < l.length) : pfs p l (k + 1) = pfs p l k ++ [pfr p l[k]] := by unfold pfs; rw [List.take_succ_eq_append_getElem h, List.map_append]; rfl
theorem nfs_succ {l : List Vs} {k : Nat} (h : k < l.length) : nfs l (k + 1) = nfs l k ++ [l[k].n] := by unfold nfs; rw [List.take_succ_eq_append_getElem h, List.map_append]; rfl
theorem pfs_end (p : Vs → Int) (l : List Vs) : pfs p l l.length = l.map (pfr p) := by unfold pfs; rw [List.take_length]
theorem nfs_end (l : List Vs) : nfs l l.length = l.map Vs.n := by unfold nfs; rw [List.take_length]
theorem row_SF {W : World} {B : Nat} {T : TypeId} {v : Value} {l : List Vs} {f : Vs → Int × Int} (h : W.ownsRow B T 2 v l.length (fcs (l.map f))) (hn : l.length ≤ 200) : SF W v (l.map f) := by
  unfold SF; rw [List.length_map]; exact owns_sl h (by omega)
theorem row_SI {W : World} {B : Nat} {T : TypeId} {v : Value} {l : List Vs} {f : Vs → Int} (h : W.ownsRow B T 1 v l.length (ics (l.map f))) (hn : l.length ≤ 200) : SI W v (l.map f) := by
  unfold SI; rw [List.length_map]; exact owns_sl h (by omega)
theorem ics_add (xs ys : List Int) : ics (xs ++ ys) = ics xs ++ ics ys := by simp [ics]
set_option maxRecDepth 100000 in
set_option maxHeartbeats 32000000 in
theorem rvMean_any (l : List Vs) (v : Value) (w : World) (hs : SV w v l) :
    Calls Try.prog 37 #[v] w fun e w' => e = .returned (vMean l).res ∧ Below w.heap.size w w' := by
  have S0 := Lib.hid hs
  obtain ⟨ad, cap, rfl, h1, h2, _⟩ := hs.open
  clear hs
  have oR := Own.new w 60 [.int .i64 0, .int .i64 0, .int .i64 0, .int .i64 0, .int .i64 0, .int .i64 0]
  have hB := ba1 w (.cells #[.int .i64 0, .int .i64 0, .int .i64 0, .int .i64 0, .int .i64 0, .int .i64 0] 60)
  have hB1 := hB.size
  go_enter Try.func37, Try.ntmps37
  go_upto_region 1 with fail
  have zR1 : w.heap.size + 1 ≤ (w.alloc (.cells #[.int .i64 0, .int .i64 0, .int .i64 0, .int .i64 0, .int .i64 0, .int .i64 0] 60)).heap.size := by simp
  clear hB1
  generalize w.alloc (.cells #[.int .i64 0, .int .i64 0, .int .i64 0, .int .i64 0, .int .i64 0, .int .i64 0] 60) = y0 at *
  go_wp2_with fail
  refine (rvlist_any l _ _ (S0.out.below hB)).mono ?_
  rintro e y1 ⟨rfl, hq⟩
  replace oR := oR.below hq
  replace hB := below_to hB hq
  have zR2 := hq.size
  clear hq
  by_cases hl : vlist l = 0
  case neg =>
    have b1 : (vlist l != 0) = true := by simpa using hl
    have HF := Lib.hid (vMean_l hl)
    clear hl
    go_wp2_with fail
    refine (rvlist_any l _ _ (S0.out.below hB)).mono ?_
    rintro e y2 ⟨rfl, hq⟩
    replace oR := oR.below hq
    replace hB := below_to hB hq
    clear hq
    generalize vlist l = u at *
    obtain ⟨rR, fR⟩ := oR.rules
    have zR := oR.lt
    go_wp2
    clear rR fR zR
    replace oR := ((((((oR.set 0 (.int .i64 0)).set 1 (.int .i64 0)).set 2 (.int .i64 0)).set 3 (.int .i64 0)).set 4 (.int .i64 0)).set 5 (.int .i64 0))
    replace hB := ((((((hB.setCell (p := ⟨w.heap.size, 0, none⟩) (by simp) (.int .i64 0)).setCell (p := ⟨w.heap.size, 1, none⟩) (by simp) (.int .i64 0)).setCell (p := ⟨w.heap.size, 2, none⟩) (by simp) (.int .i64 0)).setCell (p := ⟨w.heap.size, 3, none⟩) (by simp) (.int .i64 0)).setCell (p := ⟨w.heap.size, 4, none⟩) (by simp) (.int .i64 0)).setCell (p := ⟨w.heap.size, 5, none⟩) (by simp) (.int .i64 0))
    refine bp_gen' (fun W => Own W _ _ _ ∧ Below w.heap.size w W) ⟨oR, hB⟩ ?_
    rintro wz ⟨oz, bz⟩
    obtain ⟨rz, fz⟩ := oz.rules
    clear oz
    refine bodyPost_ret (v := .tuple #[.agg #[.int .i64 0, .int .i64 0, .int .i64 0, .int .i64 0, .int .i64 0, .int .i64 0], .int .i64 u]) (by simp [results, Try.results37, go_sem, rz]) rfl ⟨by rw [HF.out]; rfl, ?_⟩
    exact bz
  have b1 : (vlist l != 0) = false := by simpa using hl
  have HM := Lib.hid (vlist_0 hl)
  have ME := Lib.hid (fun h => vMean_e hl h)
  have M2 := Lib.hid (fun h0 h => vMean_2 hl h0 h)
  have M0 := Lib.hid (fun h0 h => vMean_0 hl h0 h)
  clear hl
  generalize vlist l = u at *
  by_cases h0 : l.length = 0
  · have b2 : ((l.length : Int) == 0) = true := by simpa using h0
    have HF := Lib.hid (ME.out h0)
    clear h0
    obtain ⟨rR, fR⟩ := oR.rules
    have zR := oR.lt
    go_wp2
    clear rR fR zR
    replace oR := ((((((oR.set 0 (.int .i64 0)).set 1 (.int .i64 0)).set 2 (.int .i64 0)).set 3 (.int .i64 0)).set 4 (.int .i64 0)).set 5 (.int .i64 0))
    replace hB := ((((((hB.setCell (p := ⟨w.heap.size, 0, none⟩) (by simp) (.int .i64 0)).setCell (p := ⟨w.heap.size, 1, none⟩) (by simp) (.int .i64 0)).setCell (p := ⟨w.heap.size, 2, none⟩) (by simp) (.int .i64 0)).setCell (p := ⟨w.heap.size, 3, none⟩) (by simp) (.int .i64 0)).setCell (p := ⟨w.heap.size, 4, none⟩) (by simp) (.int .i64 0)).setCell (p := ⟨w.heap.size, 5, none⟩) (by simp) (.int .i64 0))
    refine bp_gen' (fun W => Own W _ _ _ ∧ Below w.heap.size w W) ⟨oR, hB⟩ ?_
    rintro wz ⟨oz, bz⟩
    obtain ⟨rz, fz⟩ := oz.rules
    clear oz
    refine bodyPost_ret (v := .tuple #[.agg #[.int .i64 0, .int .i64 0, .int .i64 0, .int .i64 0, .int .i64 0, .int .i64 0], .int .i64 2]) (by simp [results, Try.results37, go_sem, rz]) rfl ⟨by rw [HF.out]; rfl, ?_⟩
    exact bz
  have b2 : ((l.length : Int) == 0) = false := by simpa using h0
  replace h0 : 0 < l.length := by omega
  have hz0 : (0 : Int) < (l.length : Int) := by omega
  have zB : w.heap.size + 1 ≤ y1.heap.size := by omega
  clear zR1 zR2
  go_upto_region 8 with fail
  go_loopw [4, 5, 6, 7] (fun vr vi vn i wr => ∃ k : Nat, k ≤ l.length ∧ i = .int .i64 k ∧ Hid (vsame (l.take k) l[0].i l[0].j = true) ∧ wr.ownsRow (w.heap.size + 1) 24 2 vr k (fcs (pfs Vs.re l k)) ∧ wr.ownsRow (w.heap.size + 1) 24 2 vi k (fcs (pfs Vs.im l k)) ∧ wr.ownsRow (w.heap.size + 1) 3 1 vn k (ics (nfs l k)) ∧ Hid (Apart vr vi ∧ Apart vr vn ∧ Apart vi vn) ∧ Own wr w.heap.size 60 [.int .i64 0, .int .i64 0, .int .i64 0, .int .i64 0, .int .i64 0, .int .i64 0] ∧ Below w.heap.size w wr ∧ w.heap.size + 1 ≤ wr.heap.size) (fun _ _ _ i _ => l.length + 1 - (intOf i).toNat)
  case atStart => exact ⟨0, Nat.zero_le _, rfl, rfl, World.ownsRow_nil _ _ _ _, World.ownsRow_nil _ _ _ _, World.ownsRow_nil _ _ _ _, ⟨apart_nil _, apart_nil _, apart_nil _⟩, oR, hB, zB⟩
  case round =>
    clear oR hB zB
    obtain ⟨k, hk, rfl, hv, or, oi, on, hap, oR, hB, zB⟩ := hrel
    rename World => Wr
    by_cases hlt : k < l.length
    · have KK := Lib.hid (pfs_succ (p := Vs.re) hlt)
      have KI := Lib.hid (pfs_succ (p := Vs.im) hlt)
      have KN := Lib.hid (nfs_succ hlt)
      have HT := Lib.hid (fun h1 h2 => vsame_take hlt hv.out h1 h2)
      have HN := Lib.hid (fun h1 => M2.out h0 (vsame_not hlt h1))
      have PR := Lib.hid (part_re (vall_get HM.out.2 hlt))
      have PI := Lib.hid (part_im (vall_get HM.out.2 hlt))
      obtain ⟨_, _, e, _, _, H⟩ := S0.out.open
      cases e
      obtain ⟨b, off, rfl, c0, c1, c2, c3, c4, c5⟩ := H.out k hlt
      obtain ⟨_, _, e, d0, d1, _, _, _, _⟩ := H.out 0 h0
      cases e
      clear H
      simp only [Nat.zero_mul, Nat.add_zero] at d0 d1
      have hbw := World.block_lt_of_cell? _ _ d0
      simp only at hbw
      have e0 := below_cell hB c0
      have e1 := below_cell hB c1
      have f0 := below_cell hB d0
      have f1 := below_cell hB d1
      generalize l[k] = x at *
      generalize l[0].i = i0 at *
      generalize l[0].j = j0 at *
      have zb : b < Wr.heap.size := by have := hB.size; omega
      clear hv c0 c1 d0 d1
      by_cases g1 : x.i = i0
      case neg =>
        have q1 : (x.i != i0) = true := by simpa using g1
        have HF := Lib.hid (HN.out (fun h => g1 h.1))
        clear g1 HT HN or oi on hap c2 c3 c4 c5
        go_wp2_with fail
        go_quiet (fail)
        replace oR := oR.drewN nq
        replace hB := bd hB nq
        generalize Wr.drewN nq = y3 at *
        obtain ⟨rR, fR⟩ := oR.rules
        have zR := oR.lt
        go_wp2
        clear rR fR zR
        replace oR := ((((((oR.set 0 (.int .i64 0)).set 1 (.int .i64 0)).set 2 (.int .i64 0)).set 3 (.int .i64 0)).set 4 (.int .i64 0)).set 5 (.int .i64 0))
        replace hB := ((((((hB.setCell (p := ⟨w.heap.size, 0, none⟩) (by simp) (.int .i64 0)).setCell (p := ⟨w.heap.size, 1, none⟩) (by simp) (.int .i64 0)).setCell (p := ⟨w.heap.size, 2, none⟩) (by simp) (.int .i64 0)).setCell (p := ⟨w.heap.size, 3, none⟩) (by simp) (.int .i64 0)).setCell (p := ⟨w.heap.size, 4, none⟩) (by simp) (.int .i64 0)).setCell (p := ⟨w.heap.size, 5, none⟩) (by simp) (.int .i64 0))
        refine bp_gen' (fun W => Own W _ _ _ ∧ Below w.heap.size w W) ⟨oR, hB⟩ ?_
        rintro wz ⟨oz, bz⟩
        obtain ⟨rz, fz⟩ := oz.rules
        clear oz
        refine bodyPost_ret (v := .tuple #[.agg #[.int .i64 0, .int .i64 0, .int .i64 0, .int .i64 0, .int .i64 0, .int .i64 0], .int .i64 2]) (by simp [results, Try.results37, go_sem, rz]) rfl ⟨by rw [HF.out]; rfl, ?_⟩
        exact bz
      have q1 : (x.i != i0) = false := by simpa using g1
      by_cases g2 : x.j = j0
      case neg =>
        have q2 : (x.j != j0) = true := by simpa using g2
        have HF := Lib.hid (HN.out (fun h => g2 h.2))
        clear g1 g2 HT HN or oi on hap c2 c3 c4 c5
        go_wp2_with fail
        go_quiet (fail)
        replace oR := oR.drewN nq
        replace hB := bd hB nq
        generalize Wr.drewN nq = y3 at *
        obtain ⟨rR, fR⟩ := oR.rules
        have zR := oR.lt
        go_wp2
        clear rR fR zR
        replace oR := ((((((oR.set 0 (.int .i64 0)).set 1 (.int .i64 0)).set 2 (.int .i64 0)).set 3 (.int .i64 0)).set 4 (.int .i64 0)).set 5 (.int .i64 0))
        replace hB := ((((((hB.setCell (p := ⟨w.heap.size, 0, none⟩) (by simp) (.int .i64 0)).setCell (p := ⟨w.heap.size, 1, none⟩) (by simp) (.int .i64 0)).setCell (p := ⟨w.heap.size, 2, none⟩) (by simp) (.int .i64 0)).setCell (p := ⟨w.heap.size, 3, none⟩) (by simp) (.int .i64 0)).setCell (p := ⟨w.heap.size, 4, none⟩) (by simp) (.int .i64 0)).setCell (p := ⟨w.heap.size, 5, none⟩) (by simp) (.int .i64 0))
        refine bp_gen' (fun W => Own W _ _ _ ∧ Below w.heap.size w W) ⟨oR, hB⟩ ?_
        rintro wz ⟨oz, bz⟩
        obtain ⟨rz, fz⟩ := oz.rules
        clear oz
        refine bodyPost_ret (v := .tuple #[.agg #[.int .i64 0, .int .i64 0, .int .i64 0, .int .i64 0, .int .i64 0, .int .i64 0], .int .i64 2]) (by simp [results, Try.results37, go_sem, rz]) rfl ⟨by rw [HF.out]; rfl, ?_⟩
        exact bz
      have q2 : (x.j != j0) = false := by simpa using g2
      replace HT := Lib.hid (HT.out g1 g2)
      clear g1 g2 HN
      go_wp2_with fail
      go_quiet (fail)
      replace oR := oR.drewN nq
      replace hB := bd hB nq
      replace or := owns_at or (below_drewN Wr nq)
      replace oi := owns_at oi (below_drewN Wr nq)
      replace on := owns_at on (below_drewN Wr nq)
      have zB' : w.heap.size + 1 ≤ (Wr.drewN nq).heap.size := zB
      clear zB zb e0 e1 f0 f1
      generalize Wr.drewN nq = y3 at *
      go_upto_region 12 with fail
      have gl := @grow_lt
      have hlr := obs_lt or
      have hli := obs_lt oi
      have hln := obs_lt on
      obtain ⟨hap1, hap2, hap3⟩ := hap.out
      have zb2 : b < w.heap.size := hbw
      refine wp_region_ft (fun w' => ∃ e, w' = grow w e) [(74, .int .i64 x.n)] (obs u4 ++ obs u5 ++ obs u6) [(24, ⟨3, [.int .i64 x.n], fun b => .slice (some ⟨b, 0, none⟩) 1 1⟩)] [0, 1, 2, 3, 4, 5, 9, 10, 11, 12, 13, 14, 18, 19, 20, 21, 22, 23] [.op 6, .op 7, .op 8, .op 15, .op 16, .op 17, .fl 24] [25, 26, 27, 28] (by kernel_rfl) (by kernel_rfl)
        ⟨fun a W hA => exec_build rfl (hA (74, .int .i64 x.n) (by simp)) (bs_int x.n W), trivial⟩ (by kernel_rfl) (fun _ _ _ _ _ h => h) (fun _ _ _ _ _ h => h) (fun _ _ h hb => grown_to h hb) (grow_of hB.drew) ?_ ?_
      · intro b hb
        simp only [List.mem_append] at hb
        rcases hb with (hb | hb) | hb
        · exact (hlr b hb).2
        · exact (hli b hb).2
        · exact (hln b hb).2
      try simp only [opsAt, List.getElem?_toArray, List.getElem?_cons_zero, List.getElem?_cons_succ, Option.getD_some]
      repeat (go_big_quiet_step (fail))
      refine wpQuiet_nil ?_
      clear gl
      refine ⟨(by intro p hp; simp only [List.mem_cons, List.mem_nil_iff, or_false] at hp; subst hp; rfl), ?_⟩
      refine wpFt_op rfl ?_
      intro w3 hb3 K' hK'
      go_simp
      refine (real_any x.re x.im x.den _ PR.out.p PR.out.d).mono ?_
      rintro e w5 ⟨rfl, hq⟩
      have hF := below_to hb3 hq
      refine hK' _ _ (Mod.of_below hq) (grow_of (below_to hB hF)) (by intro p hp; simp only [List.mem_cons, List.mem_nil_iff, or_false] at hp; subst hp; rfl) ?_
      clear hK' K' hb3 hq
      refine wpFt_op rfl ?_
      intro w6 hb6 K' hK'
      go_simp
      replace hF := below_to hF hb6
      have oX := Own.new w6 24 [.int .i64 (fmk x.re x.den).n, .int .i64 (fmk x.re x.den).d]
      have hq := ba1 w6 (.cells #[.int .i64 (fmk x.re x.den).n, .int .i64 (fmk x.re x.den).d] 24)
      replace hF := below_to hF hq
      refine hK' _ _ (Mod.of_below hq) (grow_of (below_to hB hF)) (by intro p hp; simp only [List.mem_cons, List.mem_nil_iff, or_false] at hp; subst hp; rfl) ?_
      clear hK' K' hb6 hq
      have L200 : l.length ≤ 200 := HM.out.1
      refine wpFt_op rfl ?_
      intro w7 hb7 K' hK'
      replace oX := oX.below hb7
      replace hF := below_to hF hb7
      have r1 := owns_at or hF
      have i1 := owns_at oi hF
      have n1 := owns_at on hF
      have R1 := oR.below hF
      have hB7 := below_to hB hF
      have z7 := hF.size
      have sx := sf_of_own [((fmk x.re x.den).n, (fmk x.re x.den).d)] 1 rfl (by decide) oX
      clear or oi on oR hlr hli hln hb7 oX hF
      refine wp_apps w7 _ _ rfl (w.heap.size + 1) 24 2 16 (.agg #[.int .i64 0, .int .i64 0]) Try.underlying26 frac_info rfl (by decide) (by decide) u4 k _ rfl r1 (by omega) _ 1 _ rfl sx rfl (by simp [fcs, Value.oneCell']) (by omega) ?_
      intro v8 w8 r2 kp
      have i2 := kp.row i1 hap1.symm
      have n2 := kp.row n1 hap2.symm
      have R2 := own_obs R1 kp r1 (by omega)
      have hB8 := hB7.trans (kp.below (B := w.heap.size) (by omega) (fun b hb => by have := (row_lt r1 hb).1; omega))
      have z8 := kp.grown.size
      have p1 := kp.apart i1 hap1.symm
      have p2 := kp.apart n1 hap2.symm
      refine hK' _ _ (mod_grown kp.grown (fun b hb => by simp [hb])) (grow_of hB8) (by intro p hp; simp only [List.mem_cons, List.mem_nil_iff, or_false] at hp; subst hp; rfl) ?_
      clear hK' K' sx r1 i1 n1 R1 hB7 kp
      refine wpFt_op rfl ?_
      intro w9 hb9 K' hK'
      go_simp
      refine (imag_any x.re x.im x.den _ PI.out.p PI.out.d).mono ?_
      rintro e w10 ⟨rfl, hq⟩
      have hF := below_to hb9 hq
      refine hK' _ _ (Mod.of_below hq) (grow_of (below_to hB8 hF)) (by intro p hp; simp only [List.mem_cons, List.mem_nil_iff, or_false] at hp; subst hp; rfl) ?_
      clear hK' K' hb9 hq
      refine wpFt_op rfl ?_
      intro w11 hb11 K' hK'
      go_simp
      replace hF := below_to hF hb11
      have oX := Own.new w11 24 [.int .i64 (fmk x.im x.den).n, .int .i64 (fmk x.im x.den).d]
      have hq := ba1 w11 (.cells #[.int .i64 (fmk x.im x.den).n, .int .i64 (fmk x.im x.den).d] 24)
      replace hF := below_to hF hq
      refine hK' _ _ (Mod.of_below hq) (grow_of (below_to hB8 hF)) (by intro p hp; simp only [List.mem_cons, List.mem_nil_iff, or_false] at hp; subst hp; rfl) ?_
      clear hK' K' hb11 hq
      refine wpFt_op rfl ?_
      intro w12 hb12 K' hK'
      replace oX := oX.below hb12
      replace hF := below_to hF hb12
      have r3 := owns_at r2 hF
      have i3 := owns_at i2 hF
      have n3 := owns_at n2 hF
      have R3 := R2.below hF
      have hB12 := below_to hB8 hF
      have z12 := hF.size
      have sx := sf_of_own [((fmk x.im x.den).n, (fmk x.im x.den).d)] 1 rfl (by decide) oX
      clear r2 i2 n2 R2 hb12 oX hF hB8
      refine wp_apps w12 _ _ rfl (w.heap.size + 1) 24 2 16 (.agg #[.int .i64 0, .int .i64 0]) Try.underlying26 frac_info rfl (by decide) (by decide) u5 k _ rfl i3 (by omega) _ 1 _ rfl sx rfl (by simp [fcs, Value.oneCell']) (by omega) ?_
      intro v13 w13 i4 kp
      have r4 := kp.row r3 p1.symm
      have n4 := kp.row n3 hap3.symm
      have R4 := own_obs R3 kp i3 (by omega)
      have hB13 := hB12.trans (kp.below (B := w.heap.size) (by omega) (fun b hb => by have := (row_lt i3 hb).1; omega))
      have z13 := kp.grown.size
      have p3 := kp.apart r3 p1.symm
      have p4 := kp.apart n3 hap3.symm
      refine hK' _ _ (mod_grown kp.grown (fun b hb => by simp [hb])) (grow_of hB13) (by intro p hp; simp only [List.mem_cons, List.mem_nil_iff, or_false] at hp; subst hp; rfl) ?_
      clear hK' K' sx r3 i3 n3 R3 hB12 kp
      refine wpFt_fl rfl ?_
      intro b24 w14 hb14 o24 hnb
      refine ⟨(by intro p hp; simp only [List.mem_cons, List.mem_nil_iff, or_false] at hp; subst hp; rfl), ?_⟩
      refine wpFt_nil (fun w15 hb15 => ?_)
      try simp only [opsAt, List.getElem?_toArray, List.getElem?_cons_zero, List.getElem?_cons_succ, Option.getD_some]
      have hF := below_to hb14 hb15
      have r5 := owns_at r4 hF
      have i5 := owns_at i4 hF
      have n5 := owns_at n4 hF
      have R5 := R4.below hF
      have hB15 := below_to hB13 hF
      have z15 := hF.size
      have sx := si_of_own [x.n] 1 rfl (by decide) (o24.below hb15)
      clear r4 i4 n4 R4 hB13 hF hb14 hb15 o24 hnb
      refine wpList_apps w15 rfl _ _ _ rfl (w.heap.size + 1) 3 1 8 (.int .i64 0) Try.underlying22 int_info rfl (by decide) (by decide) u6 k _ rfl n5 (by omega) _ 1 _ rfl sx rfl (by simp [Value.oneCell']) (by omega) ?_
      intro v16 w16 n6 kp
      have r6 := kp.row r5 p2.symm
      have i6 := kp.row i5 p4.symm
      have R6 := own_obs R5 kp n5 (by omega)
      have hB16 := hB15.trans (kp.below (B := w.heap.size) (by omega) (fun b hb => by have := (row_lt n5 hb).1; omega))
      have z16 := kp.grown.size
      have p5 := kp.apart r5 p2.symm
      have p6 := kp.apart i5 p4.symm
      clear kp r5 i5 n5 R5 hB15 sx
      go_wp2
      go_roundw
      case rel =>
        refine ⟨k + 1, by omega, by go_num, HT, ?_, ?_, ?_, ⟨p3, p5, p6⟩, R6, hB16, by omega⟩
        · rw [KK.out, fcs_append]; exact r6
        · rw [KI.out, fcs_append]; exact i6
        · rw [KN.out, ics_add]; exact n6
      case measure => simp [intOf]; try omega
    · obtain rfl : k = l.length := by omega
      have HF0 := Lib.hid (M0.out h0 (vsame_end hlt hv.out))
      rw [pfs_end] at or oi
      rw [nfs_end] at on
      have sr := row_SF or HM.out.1
      have si := row_SF oi HM.out.1
      have sn := row_SI on HM.out.1
      clear or oi on hap hv hlt hk zB ME M2 M0
      go_wp2_with fail
      refine (rweight_any l _ _ (S0.out.below hB) HM.out.2 HM.out.1).mono ?_
      rintro e y1 ⟨rfl, hq⟩
      replace oR := oR.below hq
      replace hB := below_to hB hq
      replace sr := sr.below hq
      replace si := si.below hq
      replace sn := sn.below hq
      clear hq
      by_cases hz : wsum l l.length = 0
      · have b3 : (wsum l l.length == 0) = true := by simpa using hz
        have HF := Lib.hid (HF0.out.trans (vmean_18 hz))
        clear hz sr si sn
        obtain ⟨rR, fR⟩ := oR.rules
        have zR := oR.lt
        go_wp2
        clear rR fR zR
        replace oR := ((((((oR.set 0 (.int .i64 0)).set 1 (.int .i64 0)).set 2 (.int .i64 0)).set 3 (.int .i64 0)).set 4 (.int .i64 0)).set 5 (.int .i64 0))
        replace hB := ((((((hB.setCell (p := ⟨w.heap.size, 0, none⟩) (by simp) (.int .i64 0)).setCell (p := ⟨w.heap.size, 1, none⟩) (by simp) (.int .i64 0)).setCell (p := ⟨w.heap.size, 2, none⟩) (by simp) (.int .i64 0)).setCell (p := ⟨w.heap.size, 3, none⟩) (by simp) (.int .i64 0)).setCell (p := ⟨w.heap.size, 4, none⟩) (by simp) (.int .i64 0)).setCell (p := ⟨w.heap.size, 5, none⟩) (by simp) (.int .i64 0))
        refine bp_gen' (fun W => Own W _ _ _ ∧ Below w.heap.size w W) ⟨oR, hB⟩ ?_
        rintro wz ⟨oz, bz⟩
        obtain ⟨rz, fz⟩ := oz.rules
        clear oz
        refine bodyPost_ret (v := .tuple #[.agg #[.int .i64 0, .int .i64 0, .int .i64 0, .int .i64 0, .int .i64 0, .int .i64 0], .int .i64 18]) (by simp [results, Try.results37, go_sem, rz]) rfl ⟨by rw [HF.out]; rfl, ?_⟩
        exact bz
      have b3 : (wsum l l.length == 0) = false := by simpa using hz
      have HZ := Lib.hid hz
      clear hz
      go_wp2_with fail
      refine (raver_any Vs.re l _ _ _ sr sn HM.out.2 HM.out.1).mono ?_
      rintro e y2 ⟨rfl, hq⟩
      replace oR := oR.below hq
      replace hB := below_to hB hq
      replace si := si.below hq
      replace sn := sn.below hq
      clear hq sr
      by_cases he1 : (fmean Vs.re l).e = 0
      case neg =>
        have b4 : ((fmean Vs.re l).e != 0) = true := by simpa using he1
        have HF := Lib.hid (HF0.out.trans (vmean_re HZ.out he1))
        clear he1 si sn
        generalize fmean Vs.re l = r at *
        replace oR := oR.alloc (.cells #[.int .i64 r.n, .int .i64 r.d] 24)
        replace hB := below_to hB (ba1 y2 (.cells #[.int .i64 r.n, .int .i64 r.d] 24))
        obtain ⟨rR, fR⟩ := oR.rules
        have zR := oR.lt
        go_wp2
        clear rR fR zR
        replace oR := ((((((oR.set 0 (.int .i64 0)).set 1 (.int .i64 0)).set 2 (.int .i64 0)).set 3 (.int .i64 0)).set 4 (.int .i64 0)).set 5 (.int .i64 0))
        replace hB := ((((((hB.setCell (p := ⟨w.heap.size, 0, none⟩) (by simp) (.int .i64 0)).setCell (p := ⟨w.heap.size, 1, none⟩) (by simp) (.int .i64 0)).setCell (p := ⟨w.heap.size, 2, none⟩) (by simp) (.int .i64 0)).setCell (p := ⟨w.heap.size, 3, none⟩) (by simp) (.int .i64 0)).setCell (p := ⟨w.heap.size, 4, none⟩) (by simp) (.int .i64 0)).setCell (p := ⟨w.heap.size, 5, none⟩) (by simp) (.int .i64 0))
        refine bp_gen' (fun W => Own W _ _ _ ∧ Below w.heap.size w W) ⟨oR, hB⟩ ?_
        rintro wz ⟨oz, bz⟩
        obtain ⟨rz, fz⟩ := oz.rules
        clear oz
        refine bodyPost_ret (v := .tuple #[.agg #[.int .i64 0, .int .i64 0, .int .i64 0, .int .i64 0, .int .i64 0, .int .i64 0], .int .i64 r.e]) (by simp [results, Try.results37, go_sem, rz]) rfl ⟨by rw [HF.out]; rfl, ?_⟩
        exact bz
      have b4 : ((fmean Vs.re l).e != 0) = false := by simpa using he1
      have E1 := Lib.hid he1
      have C1 := Lib.hid (fmean_chk he1)
      clear he1
      have F16 := Lib.hid (fun h2 h3 => HF0.out.trans (vmean_16 (l := l) HZ.out E1.out h2 h3))
      have FIM := Lib.hid (fun h2 => HF0.out.trans (vmean_im (l := l) HZ.out E1.out h2))
      have F0 := Lib.hid (fun h2 h3 h4 => HF0.out.trans (vmean_0 h0 HZ.out E1.out h2 h3 h4))
      clear HF0
      generalize fmean Vs.re l = r at *
      have oX := Own.new y2 24 [.int .i64 r.n, .int .i64 r.d]
      have hq := ba1 y2 (.cells #[.int .i64 r.n, .int .i64 r.d] 24)
      go_upto_region 18 with fail
      replace oR := oR.below hq
      replace hB := below_to hB hq
      replace si := si.below hq
      replace sn := sn.below hq
      clear hq
      obtain ⟨bX, hX⟩ : ∃ B, B = y2.heap.size := ⟨_, rfl⟩
      rw [← hX] at oX ⊢
      clear hX
      generalize y2.alloc (.cells #[.int .i64 r.n, .int .i64 r.d] 24) = y3 at *
      go_wp2_with fail
      refine (raver_any Vs.im l _ _ _ si sn HM.out.2 HM.out.1).mono ?_
      rintro e y4 ⟨rfl, hq⟩
      replace oR := oR.below hq
      replace oX := oX.below hq
      replace hB := below_to hB hq
      clear hq si sn
      by_cases he2 : (fmean Vs.im l).e = 0
      case neg =>
        have b5 : ((fmean Vs.im l).e != 0) = true := by simpa using he2
        have HF := Lib.hid (FIM.out he2)
        clear he2
        generalize fmean Vs.im l = m at *
        replace oR := oR.alloc (.cells #[.int .i64 m.n, .int .i64 m.d] 24)
        replace hB := below_to hB (ba1 y4 (.cells #[.int .i64 m.n, .int .i64 m.d] 24))
        obtain ⟨rR, fR⟩ := oR.rules
        have zR := oR.lt
        go_wp2
        clear rR fR zR
        replace oR := ((((((oR.set 0 (.int .i64 0)).set 1 (.int .i64 0)).set 2 (.int .i64 0)).set 3 (.int .i64 0)).set 4 (.int .i64 0)).set 5 (.int .i64 0))
        replace hB := ((((((hB.setCell (p := ⟨w.heap.size, 0, none⟩) (by simp) (.int .i64 0)).setCell (p := ⟨w.heap.size, 1, none⟩) (by simp) (.int .i64 0)).setCell (p := ⟨w.heap.size, 2, none⟩) (by simp) (.int .i64 0)).setCell (p := ⟨w.heap.size, 3, none⟩) (by simp) (.int .i64 0)).setCell (p := ⟨w.heap.size, 4, none⟩) (by simp) (.int .i64 0)).setCell (p := ⟨w.heap.size, 5, none⟩) (by simp) (.int .i64 0))
        refine bp_gen' (fun W => Own W _ _ _ ∧ Below w.heap.size w W) ⟨oR, hB⟩ ?_
        rintro wz ⟨oz, bz⟩
        obtain ⟨rz, fz⟩ := oz.rules
        clear oz
        refine bodyPost_ret (v := .tuple #[.agg #[.int .i64 0, .int .i64 0, .int .i64 0, .int .i64 0, .int .i64 0, .int .i64 0], .int .i64 m.e]) (by simp [results, Try.results37, go_sem, rz]) rfl ⟨by rw [HF.out]; rfl, ?_⟩
        exact bz
      have b5 : ((fmean Vs.im l).e != 0) = false := by simpa using he2
      replace F16 := Lib.hid (F16.out he2)
      replace F0 := Lib.hid (F0.out he2)
      have C2 := Lib.hid (fmean_chk he2)
      clear he2 FIM
      generalize fmean Vs.im l = m at *
      have oY := Own.new y4 24 [.int .i64 m.n, .int .i64 m.d]
      have hq := ba1 y4 (.cells #[.int .i64 m.n, .int .i64 m.d] 24)
      go_upto_region 21 with fail
      replace oR := oR.below hq
      replace oX := oX.below hq
      replace hB := below_to hB hq
      clear hq
      obtain ⟨bY, hY⟩ : ∃ B, B = y4.heap.size := ⟨_, rfl⟩
      rw [← hY] at oY ⊢
      clear hY
      generalize y4.alloc (.cells #[.int .i64 m.n, .int .i64 m.d] 24) = y5 at *
      obtain ⟨rX, fX⟩ := oX.rules
      have zX := oX.lt
      obtain ⟨rY, fY⟩ := oY.rules
      have zY := oY.lt
      go_wp2_with fail
      refine (rvalue_any r.n r.d m.n m.d _ C1.out C2.out).mono ?_
      rintro e y6 ⟨rfl, hq⟩
      clear rX fX zX rY fY zY oX oY
      replace oR := oR.below hq
      replace hB := below_to hB hq
      clear hq
      by_cases hw : wok r.n r.d m.n m.d = false
      · have HF := Lib.hid (F16.out (.inl hw))
        rw [wval_0 hw]
        clear hw
        replace oR := oR.alloc (.cells #[.int .i64 0, .int .i64 0, .int .i64 0] 58)
        replace hB := below_to hB (ba1 y6 (.cells #[.int .i64 0, .int .i64 0, .int .i64 0] 58))
        obtain ⟨rR, fR⟩ := oR.rules
        have zR := oR.lt
        go_wp2
        clear rR fR zR
        replace oR := ((((((oR.set 0 (.int .i64 0)).set 1 (.int .i64 0)).set 2 (.int .i64 0)).set 3 (.int .i64 0)).set 4 (.int .i64 0)).set 5 (.int .i64 0))
        replace hB := ((((((hB.setCell (p := ⟨w.heap.size, 0, none⟩) (by simp) (.int .i64 0)).setCell (p := ⟨w.heap.size, 1, none⟩) (by simp) (.int .i64 0)).setCell (p := ⟨w.heap.size, 2, none⟩) (by simp) (.int .i64 0)).setCell (p := ⟨w.heap.size, 3, none⟩) (by simp) (.int .i64 0)).setCell (p := ⟨w.heap.size, 4, none⟩) (by simp) (.int .i64 0)).setCell (p := ⟨w.heap.size, 5, none⟩) (by simp) (.int .i64 0))
        refine bp_gen' (fun W => Own W _ _ _ ∧ Below w.heap.size w W) ⟨oR, hB⟩ ?_
        rintro wz ⟨oz, bz⟩
        obtain ⟨rz, fz⟩ := oz.rules
        clear oz
        refine bodyPost_ret (v := .tuple #[.agg #[.int .i64 0, .int .i64 0, .int .i64 0, .int .i64 0, .int .i64 0, .int .i64 0], .int .i64 16]) (by simp [results, Try.results37, go_sem, rz]) rfl ⟨by rw [HF.out]; rfl, ?_⟩
        exact bz
      have HW : Hid (wok r.n r.d m.n m.d = true) := by show _ = _; simpa using hw
      clear hw
      have ce : (wval r.n r.d m.n m.d).e = 0 := by rw [wval_1 HW.out]
      replace F0 := Lib.hid (F0.out HW.out)
      generalize wval r.n r.d m.n m.d = c at *
      obtain ⟨_, _, e, _, _, H⟩ := (S0.out.below hB).open
      cases e
      obtain ⟨b, off, rfl, d0, d1, d2, d3, d4, d5⟩ := H.out 0 h0
      clear H d2 d3 d4 d5
      simp only [Nat.zero_mul, Nat.add_zero] at d0 d1
      generalize l[0].i = i0 at *
      generalize l[0].j = j0 at *
      have oC := Own.new y6 58 [.int .i64 c.re, .int .i64 c.im, .int .i64 c.den]
      have hq := ba1 y6 (.cells #[.int .i64 c.re, .int .i64 c.im, .int .i64 c.den] 58)
      go_upto_region 22 with fail
      replace oR := oR.below hq
      replace d0 := below_cell hq d0
      replace d1 := below_cell hq d1
      replace hB := below_to hB hq
      clear hq
      obtain ⟨bC, hC⟩ : ∃ B, B = y6.heap.size := ⟨_, rfl⟩
      rw [← hC] at oC ⊢
      clear hC
      generalize y6.alloc (.cells #[.int .i64 c.re, .int .i64 c.im, .int .i64 c.den] 58) = y7 at *
      go_wp2_with fail
      refine (rweight_any l _ _ (S0.out.below hB) HM.out.2 HM.out.1).mono ?_
      rintro e y8 ⟨rfl, hq⟩
      replace oR := oR.below hq
      replace oC := oC.below hq
      replace d0 := below_cell hq d0
      replace d1 := below_cell hq d1
      replace hB := below_to hB hq
      clear hq
      by_cases hn : wsum l l.length ≤ 1000000
      case neg =>
        have HF := Lib.hid (F16.out (.inr (by omega)))
        have b6 : decide (1000000 < wsum l l.length) = true := by simp; omega
        clear hn oC d0 d1
        obtain ⟨rR, fR⟩ := oR.rules
        have zR := oR.lt
        go_wp2
        clear rR fR zR
        replace oR := ((((((oR.set 0 (.int .i64 0)).set 1 (.int .i64 0)).set 2 (.int .i64 0)).set 3 (.int .i64 0)).set 4 (.int .i64 0)).set 5 (.int .i64 0))
        replace hB := ((((((hB.setCell (p := ⟨w.heap.size, 0, none⟩) (by simp) (.int .i64 0)).setCell (p := ⟨w.heap.size, 1, none⟩) (by simp) (.int .i64 0)).setCell (p := ⟨w.heap.size, 2, none⟩) (by simp) (.int .i64 0)).setCell (p := ⟨w.heap.size, 3, none⟩) (by simp) (.int .i64 0)).setCell (p := ⟨w.heap.size, 4, none⟩) (by simp) (.int .i64 0)).setCell (p := ⟨w.heap.size, 5, none⟩) (by simp) (.int .i64 0))
        refine bp_gen' (fun W => Own W _ _ _ ∧ Below w.heap.size w W) ⟨oR, hB⟩ ?_
        rintro wz ⟨oz, bz⟩
        obtain ⟨rz, fz⟩ := oz.rules
        clear oz
        refine bodyPost_ret (v := .tuple #[.agg #[.int .i64 0, .int .i64 0, .int .i64 0, .int .i64 0, .int .i64 0, .int .i64 0], .int .i64 16]) (by simp [results, Try.results37, go_sem, rz]) rfl ⟨by rw [HF.out]; rfl, ?_⟩
        exact bz
      have HF := Lib.hid (F0.out hn)
      have b6 : decide (1000000 < wsum l l.length) = false := by simp; omega
      clear hn F0 F16
      have zb := World.block_lt_of_cell? _ _ d0
      simp only at zb
      obtain ⟨rC, fC⟩ := oC.rules
      have zC := oC.lt
      go_wp2_with fail
      have gl := @grow_lt
      go_wp2_with fail
      refine wp_region_st [.t [0, 1, 2, 3, 4, 5, 6, 7, 8, 9], .f 10, .t [11]] [12, 13] (by kernel_rfl) (by kernel_rfl) (fun _ _ _ _ _ h => h) ?_
      refine wpX_t ?_
      try simp only [opsAt, List.getElem?_toArray, List.getElem?_cons_zero, List.getElem?_cons_succ, Option.getD_some]
      repeat (go_big_quiet_step (fail))
      refine wpQuiet_nil ?_
      refine wpX_f rfl rfl (fun K' hK' => ?_)
      go_simp
      refine (rweight_any l _ _ ((S0.out.below hB).below ((Below.refl _ _).drew)) HM.out.2 HM.out.1).mono ?_
      rintro e y9 ⟨rfl, hq⟩
      refine hK' _ _ (grow_of (below_to ((Below.refl _ _).drew) hq)) ?_
      clear hK' K'
      refine wpX_t ?_
      try simp only [opsAt, List.getElem?_toArray, List.getElem?_cons_zero, List.getElem?_cons_succ, Option.getD_some]
      repeat (go_big_quiet_step (fail))
      refine wpQuiet_nil ?_
      refine wpX_nil ?_
      try simp only [opsAt, List.getElem?_toArray, List.getElem?_cons_zero, List.getElem?_cons_succ, Option.getD_some]
      clear gl rC fC zC oC d0 d1 zb
      replace oR := (oR.drew).below hq
      replace hB := below_to (hB.drew) hq
      clear hq
      obtain ⟨rR, fR⟩ := oR.rules
      have zR := oR.lt
      go_wp2
      clear rR fR zR
      replace oR := ((((((oR.set 0 (.int .i64 i0)).set 1 (.int .i64 j0)).set 2 (.int .i64 c.re)).set 3 (.int .i64 c.im)).set 4 (.int .i64 c.den)).set 5 (.int .i64 (wsum l l.length)))
      replace hB := ((((((hB.setCell (p := ⟨w.heap.size, 0, none⟩) (by simp) (.int .i64 i0)).setCell (p := ⟨w.heap.size, 1, none⟩) (by simp) (.int .i64 j0)).setCell (p := ⟨w.heap.size, 2, none⟩) (by simp) (.int .i64 c.re)).setCell (p := ⟨w.heap.size, 3, none⟩) (by simp) (.int .i64 c.im)).setCell (p := ⟨w.heap.size, 4, none⟩) (by simp) (.int .i64 c.den)).setCell (p := ⟨w.heap.size, 5, none⟩) (by simp) (.int .i64 (wsum l l.length)))
      refine bp_gen' (fun W => Own W _ _ _ ∧ Below w.heap.size w W) ⟨oR, hB⟩ ?_
      rintro wz ⟨oz, bz⟩
      obtain ⟨rz, fz⟩ := oz.rules
      clear oz
      refine bodyPost_ret (v := .tuple #[.agg #[.int .i64 i0, .int .i64 j0, .int .i64 c.re, .int .i64 c.im, .int .i64 c.den, .int .i64 (wsum l l.length)], .int .i64 0]) (by simp [results, Try.results37, go_sem, rz]) rfl ⟨by rw [HF.out]; rfl, ?_⟩
      exact bz
end Go.Proofs.Ytpjhiojdnebgoaa
