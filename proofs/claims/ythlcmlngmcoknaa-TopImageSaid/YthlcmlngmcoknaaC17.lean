/- What is proved here: contracts of functions and plain facts, several texts in one; each one says ahead what it proves, and its conditions. -/
import Derived.Test.YthlcmlngmcoknaaC16
import Derived.Laws.CopyOwn
import Derived.Test.YthlcmlngmcoknaaC12
/- What is proved here: the contract of clean.copied for images. Condition: an image that can be read. -/
namespace Go.Proofs.Ythlcmlngmcoknaa
open Go.RowKit

/-- An image of the call's own, as result. -/
def own_post (w : World) (n : Nat) (M : Nat → Nat → Int) (e : Ending) (w' : World) : Prop :=
  ∃ g cap rest bb cp ex, e = .returned (.slice (some ⟨g, 0, none⟩) n cap) ∧ n ≤ cap ∧ MatO w' w.heap.size w'.heap.size g 23 3 rest bb cp ex n n M ∧ Below w.heap.size w w'
def cutM (M : Nat → Nat → Int) (y : Nat) (r c : Nat) : Int := if r < y then M r c else 0
theorem cutM_zero (M : Nat → Nat → Int) (y j : Nat) : cutM M y y j = 0 := if_neg (by omega)
theorem cutM_end (M : Nat → Nat → Int) (n r c : Nat) (h : r < n) : cutM M n r c = M r c := if_pos h
section
variable {w w' : World} {B Lm g : Nat} {Tr Ti : TypeId} {rest : List Value} {bb cp : Nat → Nat} {ex : Nat → List Value} {n W : Nat} {M : Nat → Nat → Int}
/-- A whole row is laid anew. -/
theorem MatO.rowset (h : MatO w B Lm g Tr Ti rest bb cp ex n W M) {i : Nat} (hi : i < n) (he : ex i = []) {M' : Nat → Nat → Int} (hM : ∀ r c, r < n → r ≠ i → M' r c = M r c) :
    MatO (w.setRow (bb i) (mrc M' W i).toArray) B Lm g Tr Ti rest bb cp ex n W M' := by
  have hrow := h.row i hi
  refine ⟨?_, h.base, fun r hr => ?_, h.blk, h.inj⟩
  · show (w.setRow _ _).heap[g]? = _
    rw [setRow_other w (bb i) g _ (Ne.symm (h.blk i hi).2.1)]
    exact h.out
  · by_cases hri : r = i
    · subst hri
      rw [he, List.append_nil]
      exact setRow_heap w (bb r) _ _ Ti _ hrow
    · have e : mrc M' W r = mrc M W r := List.map_congr_left fun c _ => by rw [hM r c hr hri]
      rw [e]
      show (w.setRow _ _).heap[bb r]? = _
      rw [setRow_other w (bb i) (bb r) _ (fun e' => hri (h.inj r i hr hi e'))]
      exact h.row r hr
theorem MatO.rowsetB (h : MatO w B Lm g Tr Ti rest bb cp ex n W M) {w0 : World} (hb : Below B w0 w) {i : Nat} (hi : i < n) (cs : Array Value) : Below B w0 (w.setRow (bb i) cs) := below_setRow hb (h.blk i hi).1 cs
end
theorem addr_plus (b o j : Nat) : (⟨b, o, none⟩ : Addr).add j = ⟨b, o + j, none⟩ := by unfold Addr.add; split <;> simp_all
theorem mrc_one (M : Nat → Nat → Int) (W i : Nat) : ∀ v ∈ mrc M W i, v.oneCell' = true := fun v hv => by
  obtain ⟨j, _, rfl⟩ := List.mem_map.1 hv
  simp [Value.oneCell']
theorem mrc_get (M : Nat → Nat → Int) (W i j : Nat) (v : Value) (h : (mrc M W i)[j]? = some v) : j < W ∧ v = .int .i64 (M i j) := by
  by_cases hj : j < W
  · refine ⟨hj, ?_⟩
    simp [mrc, hj] at h
    exact h.symm
  · simp [mrc, hj] at h
theorem int_size : (Try.prog.info? 3).map (·.size) = some 1 := by kernel_rfl
set_option maxRecDepth 100000 in
set_option maxHeartbeats 16000000 in
theorem copied_any (n : Nat) (M : Nat → Nat → Int) (v : Value) (w : World) (hA : IM w v n M) (n1 : 1 ≤ n) (n8 : n ≤ 8) :
    Calls Try.prog 87 #[v] w (own_post w n M) := by
  have A0 := Lib.hid hA
  obtain ⟨ada, capa, rfl, ha1, _, _⟩ := hA.open
  clear hA
  go_enter Try.func87, Try.ntmps87
  have MK := mk_rowz n (by omega)
  have oG := Own.new w 23 (List.replicate n (Value.slice none 0 0))
  have hG := ba1 w (.cells (List.replicate n (Value.slice none 0 0)).toArray 23)
  have eA : (List.replicate n (Value.slice none 0 0)).toArray = Array.replicate n (.slice none 0 0) := by simp
  rw [eA] at oG hG
  clear eA
  go_upto_region 2 with fail
  obtain ⟨g, hg⟩ : ∃ g, g = w.heap.size := ⟨_, rfl⟩
  rw [← hg] at oG ⊢
  have hGle : w.heap.size ≤ g := by omega
  clear hg
  generalize w.alloc (.cells (Array.replicate n (Value.slice none 0 0)) 23) = Y at *
  go_wp2
  clear MK
  have MR := mk_ints n (by omega)
  go_loopw [11] (fun iv wr => ∃ y : Nat, y ≤ n ∧ iv = .int .i64 y ∧ (∃ bb cp ex, MatO wr w.heap.size wr.heap.size g 23 3 (List.replicate (n - y) (Value.slice none 0 0)) bb cp ex y n (cutM M y)) ∧ Below w.heap.size w wr) (fun iv _ => n - (intOf iv).toNat)
  case atStart => exact ⟨0, Nat.zero_le _, rfl, ⟨fun _ => 0, fun _ => 0, fun _ => [], MatO.zero oG hGle oG.lt _ _ _ _ _⟩, hG⟩
  case round =>
    clear oG hG
    obtain ⟨y, hyn, rfl, ⟨bb, cp, ex, MX⟩, hC⟩ := hrel
    rename World => V
    by_cases hlt : y < n
    · rw [show n - y = (n - y - 1) + 1 by omega, List.replicate_succ] at MX
      obtain ⟨_, _, e, _, _, HA⟩ := A0.out.open
      cases e
      obtain ⟨b1, o1, b2, o2, c2, e, d1, d2, HD⟩ := HA.out y hlt
      cases e
      clear HA
      replace d1 := below_cell hC d1
      have zd := World.block_lt_of_cell? _ _ d1
      simp only at zd
      have CO : V.cell? ⟨g, y, none⟩ = some (.slice none 0 0) := by
        have := MX.out.cell y (by rw [List.length_append, mout_len]; simp)
        rw [this]; congr 1; rw [List.getElem_append_right (by rw [mout_len]; exact Nat.le_refl _)]; simp [mout_len]
      have FO := MX.out.free y
      have ZG := MX.out.lt
      have MV := MX.below (ba1 V (.cells (ics (List.replicate n 0)).toArray 3))
      have MP := MV.push (b := V.heap.size) (c := n) (e := []) (by rw [List.append_nil, ← ics_zero n _ y (fun j _ => cutM_zero M y j)]; exact Own.new V 3 _) (Nat.le_refl _) hC.size (Nat.le_refl _)
      have hC2 := MV.outB (hC.trans ((ba1 V (.cells (ics (List.replicate n 0)).toArray 3)).mono hC.size)) y (.slice (some ⟨V.heap.size, 0, none⟩) n n)
      rw [World.setCell_alloc_past _ _ _ _ ZG] at MP hC2
      have ZV1 : V.heap.size + 1 ≤ ((V.setCell ⟨g, y, none⟩ (.slice (some ⟨V.heap.size, 0, none⟩) n n)).alloc (.cells (ics (List.replicate n 0)).toArray 3)).heap.size := by simp
      go_upto_region 6 with fail
      clear CO FO MX MV hC ZG MR d1
      generalize (V.setCell ⟨g, y, none⟩ (.slice (some ⟨V.heap.size, 0, none⟩) n n)).alloc (.cells (ics (List.replicate n 0)).toArray 3) = V1 at *
      generalize updN bb y V.heap.size = bb1 at *
      generalize updN cp y n = cp1 at *
      have EX : updN ex y [] y = [] := updN_same _ _ _
      generalize updN ex y [] = ex1 at *
      obtain ⟨L, hL⟩ : ∃ L, L = V.heap.size + 1 := ⟨_, rfl⟩
      rw [← hL] at MP ZV1
      clear hL
      have CO1 := MP.cell_out (i := y) (by omega)
      have HR := MP.row y (by omega)
      rw [EX, List.append_nil] at HR
      have HS := Lib.hid (fun (j : Nat) (hj : j < n) => below_cell hC2 (HD.out j hj))
      have MF := MP.rowset (i := y) (by omega) EX (M' := cutM M (y + 1)) (fun r c hr hne => by unfold cutM; rw [if_pos (by omega), if_pos (by omega)])
      have hC3 := MP.rowsetB hC2 (i := y) (by omega) (mrc (cutM M (y + 1)) n y).toArray
      have EM : mrc (cutM M (y + 1)) n y = mrc M n y := List.map_congr_left fun c _ => by unfold cutM; rw [if_pos (by omega)]
      rw [EM] at MF hC3
      have EC : ((mrc (cutM M y) n y).toArray.toList.take 0 ++ (mrc M n y ++ (mrc (cutM M y) n y).toArray.toList.drop (0 + (mrc M n y).length))).toArray = (mrc M n y).toArray := by
        rw [List.take_zero, List.nil_append, mrc_len, Nat.zero_add, List.drop_of_length_le (by simp [mrc_len]), List.append_nil]
      have ZS : L ≤ (V1.setRow (bb1 y) (mrc M n y).toArray).heap.size := by simp [World.setRow]; omega
      go_wp2_with (refine wpList_copy_own rfl _ _ _ _ rfl 3 Try.underlying23 int_size (bb1 y) 0 n (cp1 y) ⟨b2, o2, none⟩ n c2 rfl rfl _ _ HR (mrc M n y) (by rw [mrc_len]; exact (Nat.min_self n).symm) (fun j v h => by obtain ⟨hj, rfl⟩ := mrc_get M n y j v h; rw [addr_plus]; exact HS.out j hj) (by simp [mrc_len]) (mrc_one M n y) ?_; rw [EC]; generalize V1.setRow (bb1 y) (mrc M n y).toArray = V2 at *)
      go_roundw
      case rel => exact ⟨y + 1, by omega, by go_num, ⟨_, _, _, MF.mono ZS⟩, hC3⟩
      case measure => simp [intOf]; try omega
    · obtain rfl : y = n := by omega
      rw [Nat.sub_self, List.replicate_zero] at MX
      have MZ := MX.congr (fun r c hr _ => cutM_end M y r c hr)
      go_wp2
      refine bodyPost_ret (v := .slice (some ⟨g, 0, none⟩) y y) (by simp [results, Try.results87, go_sem]) rfl ⟨g, y, _, _, _, _, rfl, Nat.le_refl _, MZ, hC⟩
end Go.Proofs.Ythlcmlngmcoknaa

/- What is proved here: the contract of clean.Replay for a log that never leaves the range. Condition: an image, a beam and a log that can be read. -/
namespace Go.Proofs.Ythlcmlngmcoknaa
open Go.RowKit

theorem subL_take (N : Nat → Nat → Int) (n : Nat) (M : Nat → Nat → Int) {l : List T3} {k : Nat} (hk : k < l.length) : subM N n (subL N n (l.take k) M) l[k] = subL N n (l.take (k + 1)) M := by
  rw [List.take_succ_eq_append_getElem hk, subL_snoc]
theorem inR_mono {a b : Int} {n : Nat} {M : Nat → Nat → Int} (h : inR a n M) (hab : a ≤ b) : inR b n M := fun v u hv hu => by have := h v u hv hu; omega
set_option maxRecDepth 100000 in
set_option maxHeartbeats 16000000 in
theorem replay_any (n m : Nat) (M N : Nat → Nat → Int) (l : List T3) (va vb vl : Value) (w : World) (hA : IM w va n M) (hB : IM w vb m N) (hb : BM n m N) (hr : inR 1000000 n M) (hl : ST w vl l) (hg : LogN n l) (hin : ∀ k, k ≤ l.length → inR 1000000000 n (subL N n (l.take k) M)) :
    Calls Try.prog 40 #[va, vb, vl] w (img_post w n (subL N n l M)) := by
  have HB := Lib.hid hb
  have HG := Lib.hid hg
  have HI := Lib.hid hin
  have n1 := hb.n1
  have n8 := hb.n8
  obtain ⟨ada, capa, rfl, ha1, _, _⟩ := hA.open
  obtain ⟨adb, capb, rfl, hb1, _, _⟩ := hB.open
  obtain ⟨adl, capl, rfl, hl1, hl2, _⟩ := hl.open
  clear hb hg hin
  go_enter Try.func40, Try.ntmps40
  go_wp2_with fail
  refine (isImage_any n 1000000 M _ _ hA n1 n8 (by omega) (by omega) hr).mono ?_
  rintro e y1 ⟨rfl, hy⟩
  replace hA := hA.below hy
  replace hB := hB.below hy
  replace hl := hl.below hy
  go_wp2_with fail
  refine (isBeam_any n m N _ _ hB HB.out).mono ?_
  rintro e y2 ⟨rfl, hq⟩
  replace hA := hA.below hq
  replace hB := hB.below hq
  replace hl := hl.below hq
  replace hy := below_to hy hq
  clear hq
  go_wp2_with fail
  refine (isLog_any n l _ _ hl HG.out).mono ?_
  rintro e y3 ⟨rfl, hq⟩
  replace hA := hA.below hq
  replace hB := hB.below hq
  replace hl := hl.below hq
  replace hy := below_to hy hq
  clear hq hr
  have B0 := Lib.hid hB
  have L0 := Lib.hid hl
  go_wp2_with fail
  refine (copied_any n M _ _ hA n1 n8).mono ?_
  rintro e y4 ⟨g, cap, rest, bb, cp, ex, rfl, hcap, MX, hq⟩
  obtain ⟨L, hL⟩ : ∃ L, L = y4.heap.size := ⟨_, rfl⟩
  rw [← hL] at MX
  clear hL hA hB hl
  go_wp2
  go_loopw [30] (fun iv wr => ∃ k : Nat, k ≤ l.length ∧ iv = .int .i64 k ∧ MatO wr y3.heap.size L g 23 3 rest bb cp ex n n (subL N n (l.take k) M) ∧ Below y3.heap.size y3 wr) (fun iv _ => l.length - (intOf iv).toNat)
  case atStart => exact ⟨0, Nat.zero_le _, rfl, MX, hq⟩
  case round =>
    clear MX hq
    obtain ⟨k, hk, rfl, MX, hC⟩ := hrel
    rename World => V
    by_cases hkl : k < l.length
    · obtain ⟨_, _, e, _, _, H⟩ := (L0.out.below hC).open
      cases e
      obtain ⟨b, off, rfl, c0, c1, c2⟩ := H.out k hkl
      clear H
      have I1 := Lib.hid (HG.out.2.1 l[k] (List.getElem_mem hkl))
      have I2 := Lib.hid (HG.out.2.2 l[k] (List.getElem_mem hkl))
      have R1 := Lib.hid (HI.out k hk)
      have R2 := Lib.hid (HI.out (k + 1) hkl)
      have ST1 := Lib.hid (subL_take N n M hkl)
      generalize l[k] = x at *
      have oM := Own.new V 132 [.int .i64 x.x, .int .i64 x.y, .int .i64 x.f]
      have hM := ba1 V (.cells #[.int .i64 x.x, .int .i64 x.y, .int .i64 x.f] 132)
      go_upto_region 9 with fail
      clear c0 c1 c2
      obtain ⟨bM, hbM⟩ : ∃ B, B = V.heap.size := ⟨_, rfl⟩
      rw [← hbM] at oM ⊢
      clear hbM
      generalize V.alloc (.cells #[.int .i64 x.x, .int .i64 x.y, .int .i64 x.f] 132) = V1 at *
      replace MX := MX.below hM
      replace hC := below_to hC hM
      clear hM
      obtain ⟨rM, fM⟩ := oM.rules
      have zM := oM.lt
      go_wp2_with fail
      refine (subtract_any n m _ N x y3 L g cap rest bb cp ex _ _ MX hC B0.out HB.out R1.out ⟨I1.out, I2.out⟩).mono ?_
      rintro e V2 ⟨r, rfl, hm, h1, h2⟩
      rw [ST1.out] at h1 h2
      obtain rfl : r = true := by
        cases r with
        | true => rfl
        | false => exact absurd R2.out (h2 rfl)
      obtain ⟨_, MZ⟩ := h1 rfl
      have hC2 := hm.below hC (fun b hb => (MX.blksB b hb).1)
      clear h1 h2 hm MX hC rM fM zM oM
      go_wp2
      go_roundw
      case rel => exact ⟨k + 1, by omega, by go_num, MZ, hC2⟩
      case measure => simp [intOf]; try omega
    · obtain rfl : k = l.length := by omega
      rw [List.take_length] at MX
      have IX := MX.im hcap (by omega)
      go_wp2
      refine bodyPost_ret (v := .tuple #[.slice (some ⟨g, 0, none⟩) n cap, .int .i64 0]) (by simp [results, Try.results40, go_sem]) rfl ⟨_, rfl, IX, below_to hy hC⟩
end Go.Proofs.Ythlcmlngmcoknaa
