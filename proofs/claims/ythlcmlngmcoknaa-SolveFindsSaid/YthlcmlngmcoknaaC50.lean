/- What is proved here: contracts of functions and plain facts, several texts in one; each one says ahead what it proves, and its conditions. -/
import Derived.Test.YthlcmlngmcoknaaC46
import Derived.Test.YthlcmlngmcoknaaC23
import Derived.Test.YthlcmlngmcoknaaC17
import Derived.Test.YthlcmlngmcoknaaC25
import Derived.Test.YthlcmlngmcoknaaC45
/- What is proved here: the contracts of the reference's solvable, plain and bound of layer 29. Condition: reduced rows in memory. -/
namespace Go.Proofs.Ythlcmlngmcoknaa
open Go.RowKit

theorem upz {x : Rat} : (up x).1 = 0 ↔ x = 0 := by
  show x.num = 0 ↔ _
  constructor
  · intro h; exact Rat.num_eq_zero.1 h
  · rintro rfl; rfl
/-- A reduced system in memory. -/
structure RdM (w : World) (B Lm g cap n m : Nat) (s : Rd) (ub : Value) (rest : List Value) (bb cp : Nat → Nat) (ex : Nat → List Value) : Prop where
  mat : MatQ w B Lm g 28 78 rest bb cp ex n (m + 1) s.R
  bnd : SI w ub (bints s.bnd)
  cap : n ≤ cap
  n1 : 1 ≤ n
  n7 : n ≤ 7
  m6 : m ≤ 6
theorem RdM.below {w w' : World} {B Lm g cap n m : Nat} {s : Rd} {ub : Value} {rest : List Value} {bb cp : Nat → Nat} {ex : Nat → List Value} (h : RdM w B Lm g cap n m s ub rest bb cp ex) (hb : Below w.heap.size w w') : RdM w' B Lm g cap n m s ub rest bb cp ex :=
  ⟨h.mat.below hb, h.bnd.below hb, h.cap, h.n1, h.n7, h.m6⟩
set_option maxRecDepth 100000 in
set_option maxHeartbeats 16000000 in
theorem rsolvable_any {w : World} {B Lm g cap n m : Nat} {s : Rd} {ub : Value} {rest : List Value} {bb cp : Nat → Nat} {ex : Nat → List Value} (h : RdM w B Lm g cap n m s ub rest bb cp ex) :
    Calls Try.prog 67 #[.agg #[.slice (some ⟨g, 0, none⟩) n cap, ub]] w fun e w' => e = .returned (.bool (solvB n m s)) ∧ Below w.heap.size w w' := by
  have KB : (bints s.bnd).length = s.bnd.length := bints_len _
  have SO : Hid (solvB n m s = true ↔ s.solv n m) := solvB_iff
  have n1 := h.n1
  have n7 := h.n7
  have m6 := h.m6
  have hcap := h.cap
  obtain ⟨adu, capu, e, hu1, hu2, _⟩ := h.bnd.open
  rw [KB] at e hu1 hu2
  subst e
  clear KB
  generalize hk : s.bnd.length = k at *
  have KL := Lib.hid hk
  clear hk
  go_enter Try.func67, Try.ntmps67
  have oS := Own.new w 100 [.slice (some ⟨g, 0, none⟩) n cap, .slice adu k capu]
  have hy := ba1 w (.cells #[.slice (some ⟨g, 0, none⟩) n cap, .slice adu k capu] 100)
  have HM := Lib.hid (h.mat.below hy)
  clear h
  go_upto_region 1 with fail
  obtain ⟨bS, hS⟩ : ∃ b, b = w.heap.size := ⟨_, rfl⟩
  rw [← hS] at oS ⊢
  clear hS
  generalize w.alloc (.cells #[.slice (some ⟨g, 0, none⟩) n cap, .slice adu k capu] 100) = y0 at *
  have OS := Lib.hid oS
  obtain ⟨rS, fS⟩ := oS.rules
  have zS := oS.lt
  go_wp2
  clear rS fS zS oS
  go_loopw [3] (fun i wr => ∃ q : Nat, k ≤ q ∧ i = .int .i64 q ∧ Below y0.heap.size y0 wr ∧ Hid (∀ i, k ≤ i → i < q → i < n → s.R i m = 0)) (fun i _ => n + 1 - (intOf i).toNat)
  case atStart => exact ⟨k, Nat.le_refl _, rfl, Below.refl _ _, fun i h1 h2 => by omega⟩
  case round =>
    obtain ⟨q, hq, rfl, hC, hz⟩ := hrel
    rename World => W
    have oS := OS.out.below hC
    have hM := HM.out.below hC
    by_cases hlt : q < n
    · have cR := hM.cell_out hlt
      obtain ⟨cV, cV2⟩ := hM.cell_at hlt (show m < m + 1 by omega)
      have zb1 := World.block_lt_of_cell? _ _ cR
      have zb2 := World.block_lt_of_cell? _ _ cV
      simp only at zb1 zb2
      have UZ := Lib.hid (upz (x := s.R q m))
      have m1 : wrap64 (((m : Int) + 1) - 1) = (m : Int) := by unfold wrap64; omega
      have m2 : ((m : Int) + 1) - 1 = (m : Int) := by omega
      obtain ⟨rS, fS⟩ := oS.rules
      have zS := oS.lt
      go_upto_region 4 with fail
      have gl := @grow_lt
      go_wp2_with fail
      refine wp_region_st [.t [0, 1, 2, 3, 4, 5, 6, 7, 8, 9, 10, 11, 12, 13, 14]] [15] (by kernel_rfl) (by kernel_rfl) (fun _ _ _ _ _ h => h) ?_
      refine wpX_t ?_
      try simp only [opsAt, List.getElem?_toArray, List.getElem?_cons_zero, List.getElem?_cons_succ, Option.getD_some]
      repeat (go_big_quiet_step (fail))
      refine wpQuiet_nil ?_
      clear gl
      refine wpX_nil ?_
      try simp only [opsAt, List.getElem?_toArray, List.getElem?_cons_zero, List.getElem?_cons_succ, Option.getD_some]
      clear cR cV cV2 zb1 zb2 rS fS zS oS hM
      by_cases hv : s.R q m = 0
      · have e0 : ((up (s.R q m)).1 != 0) = false := by rw [UZ.out.2 hv]; rfl
        have HZ : Hid (∀ i, k ≤ i → i < q + 1 → i < n → s.R i m = 0) := fun i h1 h2 h3 => by
          rcases Nat.lt_or_ge i q with h4 | h4
          · exact hz.out i h1 h4 h3
          · obtain rfl : i = q := by omega
            exact hv
        clear hv hz
        go_wp2
        go_roundw
        case rel => exact ⟨q + 1, by omega, by go_num, hC.drew, HZ⟩
        case measure => simp [intOf]; try omega
      · have e0 : ((up (s.R q m)).1 != 0) = true := by simp only [bne_iff_ne]; exact fun h => hv (UZ.out.1 h)
        have HS : Hid (solvB n m s = false) := by
          show _ = _
          rw [← Bool.not_eq_true]
          intro h'
          exact hv (SO.out.1 h' q (by rw [KL.out]; omega) hlt)
        clear hv hz
        go_wp2
        go_ret
        exact ⟨by rw [HS.out]; rfl, below_to hy hC.drew⟩
    · have HS : Hid (solvB n m s = true) := SO.out.2 fun i h1 h2 => hz.out i (by rw [KL.out] at h1; exact h1) (by omega) h2
      have dl : decide (q < n) = false := decide_eq_false hlt
      clear hz
      obtain ⟨rS, fS⟩ := oS.rules
      have zS := oS.lt
      go_wp2
      go_ret
      exact ⟨by rw [HS.out]; rfl, below_to hy hC⟩
set_option maxRecDepth 100000 in
set_option maxHeartbeats 16000000 in
theorem rbound_any {w : World} {g cap n : Nat} {s : Rd} {ub : Value} (hu : SI w ub (bints s.bnd)) (f : Nat) (hs : s.bnd.length ≤ 100) :
    Calls Try.prog 123 #[.agg #[.slice (some ⟨g, 0, none⟩) n cap, ub], .int .i64 f] w fun e w' => e = .returned (.bool (!(freeB s f))) ∧ Below w.heap.size w w' := by
  have KB : (bints s.bnd).length = s.bnd.length := bints_len _
  have FI : Hid (freeB s f = true ↔ s.free f) := freeB_iff
  obtain ⟨adu, capu, e, hu1, hu2, _⟩ := hu.open
  rw [KB] at e hu1 hu2
  subst e
  clear KB
  generalize hk : s.bnd.length = k at *
  have KL := Lib.hid hk
  clear hk
  go_enter Try.func123, Try.ntmps123
  have oS := Own.new w 100 [.slice (some ⟨g, 0, none⟩) n cap, .slice adu k capu]
  have hy := ba1 w (.cells #[.slice (some ⟨g, 0, none⟩) n cap, .slice adu k capu] 100)
  have HU := Lib.hid (hu.below hy)
  clear hu
  go_upto_region 1 with fail
  obtain ⟨bS, hS⟩ : ∃ b, b = w.heap.size := ⟨_, rfl⟩
  rw [← hS] at oS ⊢
  clear hS
  generalize w.alloc (.cells #[.slice (some ⟨g, 0, none⟩) n cap, .slice adu k capu] 100) = y0 at *
  obtain ⟨rS, fS⟩ := oS.rules
  have zS := oS.lt
  go_wp2
  go_loopw [5] (fun i wr => ∃ q : Nat, q ≤ k ∧ i = .int .i64 q ∧ wr = y0 ∧ Hid (∀ i, i < q → s.bnd.getD i 0 ≠ f)) (fun i _ => k + 1 - (intOf i).toNat)
  case atStart => exact ⟨0, Nat.zero_le _, rfl, rfl, fun i h1 => by omega⟩
  case round =>
    obtain ⟨q, hq, rfl, rfl, hz⟩ := hrel
    by_cases hlt : q < k
    · obtain ⟨hb1, hb2⟩ := bints_get (l := s.bnd) (i := q) (by rw [KL.out]; exact hlt)
      obtain ⟨_, _, e, _, _, H⟩ := HU.out.open
      cases e
      obtain ⟨b2, off2, e, c1⟩ := H.out q hb1
      subst e
      rw [hb2] at c1
      clear H hb1 hb2
      by_cases hv : s.bnd.getD q 0 = f
      · have e0 : (((s.bnd.getD q 0 : Nat) : Int) == (f : Int)) = true := by rw [hv]; simp
        have HS : Hid (freeB s f = false) := by
          show _ = _
          rw [← Bool.not_eq_true]
          intro h'
          exact FI.out.1 h' q (by rw [KL.out]; exact hlt) hv
        clear hv hz
        generalize s.bnd.getD q 0 = c at *
        go_wp2
        go_ret
        exact ⟨by rw [HS.out]; rfl, hy⟩
      · have e0 : (((s.bnd.getD q 0 : Nat) : Int) == (f : Int)) = false := by
          simp only [beq_eq_false_iff_ne]
          intro h
          exact hv (by exact_mod_cast h)
        have HZ : Hid (∀ i, i < q + 1 → s.bnd.getD i 0 ≠ f) := fun i h1 => by
          rcases Nat.lt_or_ge i q with h4 | h4
          · exact hz.out i h4
          · obtain rfl : i = q := by omega
            exact hv
        clear hv hz
        generalize s.bnd.getD q 0 = c at *
        go_wp2
        go_roundw
        case rel => exact ⟨q + 1, by omega, by go_num, by first | rfl | trivial, HZ⟩
        case measure => simp [intOf]; try omega
    · obtain rfl : k = q := by omega
      have HS : Hid (freeB s f = true) := FI.out.2 fun i h1 => hz.out i (by rw [KL.out] at h1; exact h1)
      clear hz
      go_wp2
      go_ret
      exact ⟨by rw [HS.out]; rfl, hy⟩
set_option maxRecDepth 100000 in
set_option maxHeartbeats 16000000 in
theorem rplain_any {w : World} {B Lm g cap n m : Nat} {s : Rd} {ub : Value} {rest : List Value} {bb cp : Nat → Nat} {ex : Nat → List Value} {A0 : Nat → Nat → Rat} (h : RdM w B Lm g cap n m s ub rest bb cp ex) (hi : RInv n A0 m s) :
    Calls Try.prog 68 #[.agg #[.slice (some ⟨g, 0, none⟩) n cap, ub]] w fun e w' => ∃ u, e = .returned u ∧ SF w' u (plist m s) ∧ Below w.heap.size w w' := by
  have KB : (bints s.bnd).length = s.bnd.length := bints_len _
  have kn := hi.le
  have PS := Lib.hid (fun i (h : i < s.bnd.length) => pls_succ hi h)
  have BLT := Lib.hid (fun i (h : i < s.bnd.length) => hi.blt i h)
  have n1 := h.n1
  have n7 := h.n7
  have m6 := h.m6
  have hcap := h.cap
  obtain ⟨adu, capu, e, hu1, hu2, _⟩ := h.bnd.open
  rw [KB] at e hu1 hu2
  subst e
  clear hi
  have KBH := Lib.hid KB
  clear KB
  generalize hk : s.bnd.length = k at *
  have KL := Lib.hid hk
  clear hk
  go_enter Try.func68, Try.ntmps68
  have oS := Own.new w 100 [.slice (some ⟨g, 0, none⟩) n cap, .slice adu k capu]
  have hy := ba1 w (.cells #[.slice (some ⟨g, 0, none⟩) n cap, .slice adu k capu] 100)
  have HM := Lib.hid (h.mat.below hy)
  have HU := Lib.hid (h.bnd.below hy)
  clear h
  go_upto_region 1 with fail
  obtain ⟨bS, hS⟩ : ∃ b, b = w.heap.size := ⟨_, rfl⟩
  rw [← hS] at oS ⊢
  clear hS
  generalize w.alloc (.cells #[.slice (some ⟨g, 0, none⟩) n cap, .slice adu k capu] 100) = y0 at *
  have OS := Lib.hid oS
  have cZ := HM.out.cell_out (show 0 < n by omega)
  have zZ := World.block_lt_of_cell? _ _ cZ
  simp only at zZ
  have m2 : ((m : Int) + 1) - 1 = (m : Int) := by omega
  have m1 : wrap64 (((m : Int) + 1) - 1) = (m : Int) := by unfold wrap64; omega
  have MK := mk_fracs m (m : Int) rfl (by omega)
  obtain ⟨rS, fS⟩ := oS.rules
  have zS := oS.lt
  go_wp2
  clear MK rS fS zS oS cZ zZ m1 m2
  have oX := Own.new y0 78 (fcs (List.replicate m (0, 0)))
  have hW := ba1 y0 (.cells (fcs (List.replicate m (0, 0))).toArray 78)
  obtain ⟨GX, hG⟩ : ∃ G, G = y0.heap.size := ⟨_, rfl⟩
  have zX1 : y0.heap.size ≤ GX := by rw [hG]; exact Nat.le_refl _
  rw [← hG] at oX ⊢
  clear hG
  go_loopw [5] (fun i wr => ∃ q : Nat, q ≤ m ∧ i = .int .i64 q ∧ Own wr GX 78 (fcs (List.replicate q (0, 1) ++ List.replicate (m - q) (0, 0))) ∧ Below y0.heap.size y0 wr) (fun i _ => m + 1 - (intOf i).toNat)
  case atStart => exact ⟨0, Nat.zero_le _, rfl, by simpa using oX, hW⟩
  case round =>
    clear oX hW
    obtain ⟨q2, hq2, rfl, oX, hW⟩ := hrel
    rename World => W
    by_cases hql : q2 < m
    · go_wp2_with fail
      refine (rof_any 0 _).mono ?_
      rintro e W1 ⟨rfl, hq⟩
      replace oX := oX.below hq
      replace hW := below_to hW hq
      clear hq
      obtain ⟨v1, v2, g1, g2⟩ := fcs_some (List.replicate q2 ((0 : Int), (1 : Int)) ++ List.replicate (m - q2) (0, 0)) q2 (by simp; omega)
      have FF := Lib.hid (fill_fr q2 m hql)
      generalize List.replicate q2 ((0 : Int), (1 : Int)) ++ List.replicate (m - q2) (0, 0) = xs at *
      obtain ⟨rX, fX⟩ := oX.rules
      have zX := oX.lt
      go_wp2
      go_roundw
      case rel =>
        refine ⟨q2 + 1, by omega, by go_num, ?_, (hW.setCell (p := ⟨GX, q2 * 2, none⟩) zX1 _).setCell (p := ⟨GX, q2 * 2 + 1, none⟩) zX1 _⟩
        have o2 := (oX.set (q2 * 2) (.int .i64 0)).set (q2 * 2 + 1) (.int .i64 1)
        rw [fcs_set xs q2 (0, 1), FF.out] at o2
        exact o2
      case measure => simp [intOf]; try omega
    · obtain rfl : m = q2 := by omega
      have o0 : Own W GX 78 (fcs (pls m s 0)) := by rw [pls_0]; simpa using oX
      clear oX
      go_wp2
      go_loopw [6] (fun i wr => ∃ i' : Nat, i' ≤ k ∧ i = .int .i64 i' ∧ Own wr GX 78 (fcs (pls m s i')) ∧ Below y0.heap.size y0 wr) (fun i _ => k + 1 - (intOf i).toNat)
      case atStart => exact ⟨0, Nat.zero_le _, rfl, o0, hW⟩
      case round =>
        clear o0 hW
        obtain ⟨i, hi, rfl, oX, hW⟩ := hrel
        rename World => Y
        have oS := OS.out.below hW
        by_cases hik : i < k
        · have hin : i < n := by omega
          obtain ⟨hb1, hb2⟩ := bints_get (l := s.bnd) (i := i) (by rw [KL.out]; exact hik)
          obtain ⟨_, _, e, _, _, H⟩ := (HU.out.below hW).open
          rw [KBH.out] at e
          cases e
          obtain ⟨b2, off2, e, c1⟩ := H.out i hb1
          subst e
          rw [hb2] at c1
          clear H hb1 hb2
          have BC := BLT.out i hik
          have PSi := Lib.hid (PS.out i hik)
          have hM := HM.out.below hW
          have cR := hM.cell_out hin
          obtain ⟨cV, cV2⟩ := hM.cell_at hin (show m < m + 1 by omega)
          obtain ⟨v1, v2, g1, g2⟩ := fcs_some (pls m s i) (s.bnd.getD i 0) (by rw [pls_len]; exact BC)
          generalize s.bnd.getD i 0 = c at *
          obtain ⟨xn, hxn⟩ : ∃ z, z = (up (s.R i m)).1 := ⟨_, rfl⟩
          obtain ⟨xd, hxd⟩ : ∃ z, z = (up (s.R i m)).2 := ⟨_, rfl⟩
          have UU : Hid (up (s.R i m) = (xn, xd)) := by rw [hxn, hxd]; exact rfl
          rw [← hxn] at cV
          rw [← hxd] at cV2
          clear hxn hxd
          rw [UU.out] at PSi
          have zb1 := World.block_lt_of_cell? _ _ cR
          have zb2 := World.block_lt_of_cell? _ _ cV
          have zb3 := World.block_lt_of_cell? _ _ c1
          simp only at zb1 zb2 zb3
          obtain ⟨rS, fS⟩ := oS.rules
          have zS := oS.lt
          obtain ⟨rX, fX⟩ := oX.rules
          have zX := oX.lt
          have gl := @grow_lt
          go_upto_region 10 with fail
          go_wp2_with fail
          refine wp_region_st [.t [0, 1, 2, 3, 4, 5, 6, 7, 8, 9, 10, 11, 12, 13]] [14, 15] (by kernel_rfl) (by kernel_rfl) (fun _ _ _ _ _ h => h) ?_
          refine wpX_t ?_
          try simp only [opsAt, List.getElem?_toArray, List.getElem?_cons_zero, List.getElem?_cons_succ, Option.getD_some]
          repeat (go_big_quiet_step (fail))
          refine wpQuiet_nil ?_
          clear gl
          refine wpX_nil ?_
          try simp only [opsAt, List.getElem?_toArray, List.getElem?_cons_zero, List.getElem?_cons_succ, Option.getD_some]
          have hX2 := ((hW.setCell (p := ⟨GX, c * 2, none⟩) zX1 (.int .i64 xn)).setCell (p := ⟨GX, c * 2 + 1, none⟩) zX1 (.int .i64 xd)).drew
          have oX2 := ((oX.set (c * 2) (.int .i64 xn)).set (c * 2 + 1) (.int .i64 xd)).below (Below.refl _ _).drew
          rw [fcs_set (pls m s i) c (xn, xd), ← PSi.out] at oX2
          go_wp2
          go_roundw
          case rel => exact ⟨i + 1, by omega, by go_num, oX2, hX2⟩
          case measure => simp [intOf]; try omega
        · obtain rfl : k = i := by omega
          have SFX := Lib.hid (sf_of_own (pls m s k) m (pls_len _ _ _) (by omega) oX)
          have PE : Hid (pls m s k = plist m s) := by show _ = _; rw [← KL.out]; rfl
          obtain ⟨rS, fS⟩ := oS.rules
          have zS := oS.lt
          go_wp2
          go_ret
          exact ⟨_, rfl, by rw [← PE.out]; exact SFX.out, below_to hy hW⟩
end Go.Proofs.Ythlcmlngmcoknaa

/- What is proved here: the contract of the reference's Basis of layer 29. Condition: reduced rows in memory. -/
namespace Go.Proofs.Ythlcmlngmcoknaa
open Go.RowKit

theorem up_neg (x : Rat) : up (-x) = (-(up x).1, (up x).2) := by unfold up; simp
set_option maxRecDepth 100000 in
set_option maxHeartbeats 32000000 in
theorem rbasis_any {w : World} {B Lm g cap n m : Nat} {s : Rd} {ub : Value} {rest : List Value} {bb cp : Nat → Nat} {ex : Nat → List Value} {A0 : Nat → Nat → Rat} (h : RdM w B Lm g cap n m s ub rest bb cp ex) (hi : RInv n A0 m s) (hin : ∀ i j, i < n → j ≤ m → inr (s.R i j)) :
    Calls Try.prog 69 #[.agg #[.slice (some ⟨g, 0, none⟩) n cap, ub]] w (ba_post w m s) := by
  have KB : (bints s.bnd).length = s.bnd.length := bints_len _
  have kn := hi.le
  have PS := Lib.hid (fun f (hf : s.free f) i (h : i < s.bnd.length) => frs_succ hi hf h)
  have BLT := Lib.hid (fun i (h : i < s.bnd.length) => hi.blt i h)
  have INR := Lib.hid hin
  have BND := Lib.hid (fun (w' : World) (f : Nat) (hu : SI w' ub (bints s.bnd)) (hs : s.bnd.length ≤ 100) => rbound_any (g := g) (cap := cap) (n := n) hu f hs)
  have n1 := h.n1
  have n7 := h.n7
  have m6 := h.m6
  have hcap := h.cap
  obtain ⟨adu, capu, e, hu1, hu2, _⟩ := h.bnd.open
  rw [KB] at e hu1 hu2
  subst e
  clear hi hin
  have KBH := Lib.hid KB
  clear KB
  generalize hk : s.bnd.length = k at *
  have KL := Lib.hid hk
  clear hk
  go_enter Try.func69, Try.ntmps69
  have oS := Own.new w 100 [.slice (some ⟨g, 0, none⟩) n cap, .slice adu k capu]
  have hy := ba1 w (.cells #[.slice (some ⟨g, 0, none⟩) n cap, .slice adu k capu] 100)
  have HM := Lib.hid (h.mat.below hy)
  have HU := Lib.hid (h.bnd.below hy)
  clear h
  go_upto_region 1 with fail
  obtain ⟨bS, hS⟩ : ∃ b, b = w.heap.size := ⟨_, rfl⟩
  rw [← hS] at oS ⊢
  clear hS
  generalize w.alloc (.cells #[.slice (some ⟨g, 0, none⟩) n cap, .slice adu k capu] 100) = y0 at *
  have OS := Lib.hid oS
  have cZ := HM.out.cell_out (show 0 < n by omega)
  have zZ := World.block_lt_of_cell? _ _ cZ
  simp only at zZ
  have m2 : ((m : Int) + 1) - 1 = (m : Int) := by omega
  have m1 : wrap64 (((m : Int) + 1) - 1) = (m : Int) := by unfold wrap64; omega
  obtain ⟨rS, fS⟩ := oS.rules
  have zS := oS.lt
  go_upto_region 3 with fail
  clear rS fS zS oS cZ zZ m1 m2
  go_wp2
  go_loopw [4, 5] (fun ov fv wr => ∃ f : Nat, f ≤ m ∧ fv = .int .i64 f ∧ (∃ vs, RowsF wr y0.heap.size 78 28 ov (blist m s f) vs) ∧ Below y0.heap.size y0 wr) (fun _ fv _ => m + 1 - (intOf fv).toNat)
  case atStart => exact ⟨0, Nat.zero_le _, rfl, ⟨[], rowsF_nil _ _ _ _⟩, Below.refl _ _⟩
  case round =>
    obtain ⟨f, hf, rfl, ⟨vs, RF⟩, hC⟩ := hrel
    rename World => Y0
    obtain ⟨ad8, cap8, e8⟩ := oslice RF.1
    subst e8
    by_cases hfm : f < m
    · have oS := OS.out.below hC
      obtain ⟨rS, fS⟩ := oS.rules
      have zS := oS.lt
      go_wp2_with fail
      refine (BND.out _ f (HU.out.below hC) (by omega)).mono ?_
      rintro e Y ⟨rfl, hq⟩
      clear rS fS zS oS
      replace RF := RF.below hq
      replace hC := below_to hC hq
      clear hq
      cases hfr : freeB s f with
      | false =>
        have BB := Lib.hid (blist_bound (w := m) hfr)
        clear hfr
        go_wp2
        go_roundw
        case rel => exact ⟨f + 1, by omega, by go_num, ⟨vs, by rw [BB.out]; exact RF⟩, hC⟩
        case measure => simp [intOf]; try omega
      | true =>
        have BB := Lib.hid (blist_free (w := m) hfr)
        have FR := Lib.hid (freeB_iff.1 hfr)
        have PF := Lib.hid (PS.out f FR.out)
        have BLn := blist_short m s f
        clear hfr
        have MK := mk_fracs m (m : Int) rfl (by omega)
        go_wp2
        clear MK
        have oX := Own.new Y 78 (fcs (List.replicate m (0, 0)))
        have hW := ba1 Y (.cells (fcs (List.replicate m (0, 0))).toArray 78)
        obtain ⟨GX, hG⟩ : ∃ G, G = Y.heap.size := ⟨_, rfl⟩
        have zX1 : Y.heap.size ≤ GX := by rw [hG]; exact Nat.le_refl _
        rw [← hG] at oX ⊢
        clear hG
        go_loopw [7] (fun q wr => ∃ q' : Nat, q' ≤ m ∧ q = .int .i64 q' ∧ Own wr GX 78 (fcs (List.replicate q' (0, 1) ++ List.replicate (m - q') (0, 0))) ∧ Below Y.heap.size Y wr) (fun q _ => m + 1 - (intOf q).toNat)
        case atStart => exact ⟨0, Nat.zero_le _, rfl, by simpa using oX, hW⟩
        case round =>
          clear oX hW
          obtain ⟨q2, hq2, rfl, oX, hW⟩ := hrel
          rename World => Z
          by_cases hql : q2 < m
          · go_wp2_with fail
            refine (rof_any 0 _).mono ?_
            rintro e Z1 ⟨rfl, hq⟩
            replace oX := oX.below hq
            replace hW := below_to hW hq
            clear hq
            obtain ⟨v1, v2, g1, g2⟩ := fcs_some (List.replicate q2 ((0 : Int), (1 : Int)) ++ List.replicate (m - q2) (0, 0)) q2 (by simp; omega)
            have FF := Lib.hid (fill_fr q2 m hql)
            generalize List.replicate q2 ((0 : Int), (1 : Int)) ++ List.replicate (m - q2) (0, 0) = xs at *
            obtain ⟨rX, fX⟩ := oX.rules
            have zX := oX.lt
            go_wp2
            go_roundw
            case rel =>
              refine ⟨q2 + 1, by omega, by go_num, ?_, (hW.setCell (p := ⟨GX, q2 * 2, none⟩) zX1 _).setCell (p := ⟨GX, q2 * 2 + 1, none⟩) zX1 _⟩
              have o2 := (oX.set (q2 * 2) (.int .i64 0)).set (q2 * 2 + 1) (.int .i64 1)
              rw [fcs_set xs q2 (0, 1), FF.out] at o2
              exact o2
            case measure => simp [intOf]; try omega
          · obtain rfl : m = q2 := by omega
            have o0 : Own Z GX 78 (fcs (List.replicate m (0, 1))) := by simpa using oX
            clear oX
            go_wp2_with fail
            refine (rof_any 1 _).mono ?_
            rintro e Z1 ⟨rfl, hq⟩
            have oX := o0.below hq
            replace hW := below_to hW hq
            clear hq o0
            obtain ⟨v1, v2, g1, g2⟩ := fcs_some (List.replicate m ((0 : Int), (1 : Int))) f (by simp; exact hfm)
            have F0 := Lib.hid (frs_0 (s := s) hfm)
            have oF : Own ((Z1.setCell ⟨GX, f * 2, none⟩ (.int .i64 1)).setCell ⟨GX, f * 2 + 1, none⟩ (.int .i64 1)) GX 78 (fcs (frs m s f 0)) := by
              have o2 := (oX.set (f * 2) (.int .i64 1)).set (f * 2 + 1) (.int .i64 1)
              rw [fcs_set (List.replicate m ((0 : Int), (1 : Int))) f (1, 1), F0.out] at o2
              exact o2
            have hW2 := (hW.setCell (p := ⟨GX, f * 2, none⟩) zX1 (.int .i64 1)).setCell (p := ⟨GX, f * 2 + 1, none⟩) zX1 (.int .i64 1)
            generalize List.replicate m ((0 : Int), (1 : Int)) = xs at *
            obtain ⟨rX, fX⟩ := oX.rules
            have zX := oX.lt
            go_upto_region 13 with fail
            clear rX fX zX oX hW
            generalize (Z1.setCell ⟨GX, f * 2, none⟩ (.int .i64 1)).setCell ⟨GX, f * 2 + 1, none⟩ (.int .i64 1) = Z2 at *
            go_wp2
            go_loopw [8] (fun j wr => ∃ j' : Nat, j' ≤ k ∧ j = .int .i64 j' ∧ Own wr GX 78 (fcs (frs m s f j')) ∧ Below Y.heap.size Y wr) (fun j _ => k + 1 - (intOf j).toNat)
            case atStart => exact ⟨0, Nat.zero_le _, rfl, oF, hW2⟩
            case round =>
              clear oF hW2
              obtain ⟨j, hj, rfl, oX, hW⟩ := hrel
              rename World => V
              have hCW := below_to hC hW
              have oS := OS.out.below hCW
              by_cases hjk : j < k
              · have hjn : j < n := by omega
                obtain ⟨hb1, hb2⟩ := bints_get (l := s.bnd) (i := j) (by rw [KL.out]; exact hjk)
                obtain ⟨_, _, e, _, _, H⟩ := (HU.out.below hCW).open
                rw [KBH.out] at e
                cases e
                obtain ⟨b2, off2, e, c1⟩ := H.out j hb1
                subst e
                rw [hb2] at c1
                clear H hb1 hb2
                have BC := BLT.out j hjk
                have PSi := Lib.hid (PF.out j hjk)
                have hM := HM.out.below hCW
                have cR := hM.cell_out hjn
                obtain ⟨cV, cV2⟩ := hM.cell_at hjn (show f < m + 1 by omega)
                obtain ⟨v1, v2, g1, g2⟩ := fcs_some (frs m s f j) (s.bnd.getD j 0) (by rw [frs_len]; exact BC)
                generalize s.bnd.getD j 0 = c at *
                have IX := INR.out j f hjn (by omega)
                have UN : Hid (up (-(s.R j f)) = (-(up (s.R j f)).1, (up (s.R j f)).2)) := up_neg _
                rw [UN.out] at PSi
                clear UN
                have IXN : -1000000000000000000 ≤ (up (s.R j f)).1 ∧ (up (s.R j f)).1 ≤ 1000000000000000000 := by
                  obtain ⟨h1, h2⟩ := IX
                  exact ⟨by show -1000000000000000000 ≤ (s.R j f).num; omega, by show (s.R j f).num ≤ 1000000000000000000; omega⟩
                generalize (up (s.R j f)).1 = xn at *
                generalize (up (s.R j f)).2 = xd at *
                have zb1 := World.block_lt_of_cell? _ _ cR
                have zb2 := World.block_lt_of_cell? _ _ cV
                have zb3 := World.block_lt_of_cell? _ _ c1
                simp only at zb1 zb2 zb3
                obtain ⟨rS, fS⟩ := oS.rules
                have zS := oS.lt
                have gl := @grow_lt
                go_upto_region 16 with fail
                go_wp2_with fail
                refine wp_region_st [.t [0, 1, 2, 3, 4, 5, 6, 7, 8, 9, 10, 11, 12, 13], .f 14] [15, 16] (by kernel_rfl) (by kernel_rfl) (fun _ _ _ _ _ h => h) ?_
                refine wpX_t ?_
                try simp only [opsAt, List.getElem?_toArray, List.getElem?_cons_zero, List.getElem?_cons_succ, Option.getD_some]
                repeat (go_big_quiet_step (fail))
                refine wpQuiet_nil ?_
                refine wpX_f rfl rfl (fun K' hK' => ?_)
                go_simp
                refine (rneg_any xn xd _ (by omega) (by omega)).mono ?_
                rintro e z1 ⟨rfl, hq1⟩
                refine hK' _ _ (grow_of (below_to (Below.refl _ _).drew hq1)) ?_
                clear hK' K'
                clear gl rS fS zS oS cR cV cV2 c1 zb1 zb2 zb3
                have hz := below_to (Below.refl V.heap.size V).drew hq1
                replace oX := oX.below hz
                replace hW := below_to hW hz
                clear hz hq1
                obtain ⟨rX, fX⟩ := oX.rules
                have zX := oX.lt
                refine wpX_nil ?_
                try simp only [opsAt, List.getElem?_toArray, List.getElem?_cons_zero, List.getElem?_cons_succ, Option.getD_some]
                have oX2 := (oX.set (c * 2) (.int .i64 (-xn))).set (c * 2 + 1) (.int .i64 xd)
                rw [fcs_set (frs m s f j) c (-xn, xd), ← PSi.out] at oX2
                go_wp2
                go_roundw
                case rel => exact ⟨j + 1, by omega, by go_num, oX2, (hW.setCell (p := ⟨GX, c * 2, none⟩) zX1 _).setCell (p := ⟨GX, c * 2 + 1, none⟩) zX1 _⟩
                case measure => simp [intOf]; try omega
              · obtain rfl : k = j := by omega
                have PE : Hid (frs m s f k = frow m s f) := by show _ = _; rw [← KL.out]; rfl
                rw [PE.out] at oX
                have hW3 := below_to hW (ba1 V (.cells #[.slice (some ⟨GX, 0, none⟩) m m] 28))
                have zY := hC.size
                have RV : (V.alloc (.cells #[.slice (some ⟨GX, 0, none⟩) m m] 28)).ownsRow y0.heap.size 78 2 (.slice (some ⟨GX, 0, none⟩) m m) (frow m s f).length (fcs (frow m s f)) := by
                  rw [frow_len]; exact own_rowF (oX.alloc _) (frow_len _ _ _) (by omega) (by omega)
                have AP : Apart (.slice (some ⟨GX, 0, none⟩) m m) (.slice ad8 (blist m s f).length cap8) := fun b h1 h2 => by
                  have := (row_lt RF.1 h2).2
                  simp only [Value.ownBlock, Option.some.injEq] at h1
                  omega
                have RF3 := RF.below hW3
                have zW3 := hW3.size
                obtain ⟨rS, fS⟩ := oS.rules
                have zS := oS.lt
                go_wp2_with (at_builtin; refine wpList_app3 _ rfl _ _ _ rfl y0.heap.size 28 1 24 (.slice none 0 0) Try.underlying29 ofrow_info rfl (by omega) (by omega) _ (blist m s f).length vs rfl RF3.1 (by omega) (by omega) V.heap.size [.slice (some ⟨GX, 0, none⟩) m m] (0, 0) rfl (heap_alloc_new V _) rfl (by simp [Value.oneCell']) ?_; intro g3 cap3 w3 hown3 hg3 hbw3 hk3)
                have RF4 := RF3.push RV AP hown3 hk3
                have hE := (below_to hC hW3).trans (hbw3.mono (Nat.le_refl _))
                rw [← BB.out] at RF4
                clear RF RF3 RV AP hown3 hk3 hbw3 hW3 hW oX rS fS zS oS
                go_roundw
                case rel => exact ⟨f + 1, by omega, by go_num, ⟨_, RF4⟩, hE⟩
                case measure => simp [intOf]; try omega
    · obtain rfl : m = f := by omega
      have SR := RF.sff (by have := blist_short m s m; omega) (fun xs hx => by rw [blist_rows xs hx]; omega)
      go_wp2
      go_ret
      exact ⟨_, rfl, SR, below_to hy hC⟩
end Go.Proofs.Ythlcmlngmcoknaa
