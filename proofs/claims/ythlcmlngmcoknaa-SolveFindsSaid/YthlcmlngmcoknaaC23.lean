/- What is proved here: contracts of functions and plain facts, several texts in one; each one says ahead what it proves, and its conditions. -/
import Derived.Test.YthlcmlngmcoknaaC22
import Derived.Test.YthlcmlngmcoknaaC20
import Derived.Test.YthlcmlngmcoknaaC17
import Derived.Test.YthlcmlngmcoknaaC02
/- What is proved here: the contract of the method plain of solve.reduced. Condition: reduced rows in memory. -/
namespace Go.Proofs.Ythlcmlngmcoknaa
open Go.RowKit

section
variable {n m : Nat} {A0 : Nat → Nat → Rat} {s : Rd} {M : Nat → Nat → Int} {L : Int} {ρ : Nat} {γ : Rat}
theorem bar_inr (_b : BarI n m s M L) (h : RInv n A0 m s) (t : Tame n m A0 ρ γ) (hw : Whl n m A0) {i j : Nat} (hi : i < n) (hj : j ≤ m) : inr (s.R i j) := by
  obtain ⟨D, d1, d2, d3⟩ := h.den t hw
  exact quo_inr d1 d2 (d3 _ (h.quoR t hw hi hj))
theorem bar_fmk (b : BarI n m s M L) (h : RInv n A0 m s) (t : Tame n m A0 ρ γ) (hw : Whl n m A0) {i j : Nat} (hi : i < n) (hj : j ≤ m) : fmk (M i j) L = uf (s.R i j) := by
  obtain ⟨_, l0, _, _⟩ := b.small h t (Nat.le_refl _)
  rw [fmk_pack l0]
  have e : Rat.divInt (M i j) L = s.R i j := by
    rw [Rat.divInt_eq_div, b.el i j hi hj, b.lead]
    have := h.lead
    grind
  rw [e]
  exact pack_ok (bar_inr b h t hw hi hj)
theorem bar_fmk_neg (b : BarI n m s M L) (h : RInv n A0 m s) (t : Tame n m A0 ρ γ) (hw : Whl n m A0) {i j : Nat} (hi : i < n) (hj : j ≤ m) : fmk (-(M i j)) L = uf (-(s.R i j)) := by
  obtain ⟨_, l0, _, _⟩ := b.small h t (Nat.le_refl _)
  rw [fmk_pack l0]
  have e : Rat.divInt (-(M i j)) L = -(s.R i j) := by
    rw [Rat.divInt_eq_div, Rat.intCast_neg, b.el i j hi hj, b.lead]
    have := h.lead
    grind
  rw [e]
  refine pack_ok ?_
  obtain ⟨D, d1, d2, d3⟩ := h.den t hw
  exact quo_inr d1 d2 (d3 _ (quo_neg (h.quoR t hw hi hj)))
end
/-- The plain solution while it is made. -/
def pls (m : Nat) (s : Rd) (i : Nat) : List (Int × Int) := (List.range m).map fun c => up (sm (fun t => if s.bnd.getD t 0 = c then s.R t m else 0) i)
theorem pls_len (m : Nat) (s : Rd) (i : Nat) : (pls m s i).length = m := by simp [pls]
theorem pls_0 (m : Nat) (s : Rd) : pls m s 0 = List.replicate m (0, 1) := by
  unfold pls
  refine List.ext_getElem? fun c => ?_
  rcases Nat.lt_or_ge c m with h | h
  · simp [h, sm_zero, up]
  · simp [h]
theorem pls_end (m : Nat) (s : Rd) : pls m s s.bnd.length = plist m s := rfl
theorem pls_succ {n m : Nat} {A0 : Nat → Nat → Rat} {s : Rd} (h : RInv n A0 m s) {i : Nat} (hi : i < s.bnd.length) : pls m s (i + 1) = (pls m s i).set (s.bnd.getD i 0) (up (s.R i m)) := by
  refine List.ext_getElem? fun c => ?_
  rw [List.getElem?_set, pls_len]
  rcases Nat.lt_or_ge c m with hc | hc
  · have e0 : ∀ i, (pls m s i)[c]? = some (up (sm (fun t => if s.bnd.getD t 0 = c then s.R t m else 0) i)) := fun i => by simp [pls, hc]
    rw [e0, e0]
    by_cases hb : s.bnd.getD i 0 = c
    · rw [if_pos hb, if_pos (by omega), sm_succ, if_pos hb, sm_0 i fun t ht => if_neg fun e => by have := h.inj (i := t) (j := i) (by omega) hi (by rw [e, hb]); omega]
      congr 2; grind
    · rw [if_neg hb, sm_succ, if_neg hb]
      congr 2; grind
  · have : ¬ s.bnd.getD i 0 = c := by have := h.blt i hi; omega
    rw [if_neg this]
    simp [pls, hc]
theorem bints_get {l : List Nat} {i : Nat} (hi : i < l.length) : ∃ h : i < (bints l).length, (bints l)[i] = (l.getD i 0 : Nat) := by
  refine ⟨by simpa [bints] using hi, ?_⟩
  simp [bints, List.getD, hi]
theorem bints_len (l : List Nat) : (bints l).length = l.length := by simp [bints]
def pl_post (w : World) (n m : Nat) (s : Rd) (e : Ending) (w' : World) : Prop :=
  ∃ u, e = .returned (.tuple #[u, .bool (solvB n m s)]) ∧ SF w' u (if solvB n m s then plist m s else []) ∧ Below w.heap.size w w'
theorem fill_fr (k m : Nat) (hk : k < m) : (List.replicate k ((0 : Int), (1 : Int)) ++ List.replicate (m - k) (0, 0)).set k (0, 1) = List.replicate (k + 1) (0, 1) ++ List.replicate (m - (k + 1)) (0, 0) := by
  rw [List.set_append_right _ _ (by simp), List.length_replicate, Nat.sub_self]
  obtain ⟨r, hr⟩ : ∃ r, m - k = r + 1 := ⟨m - k - 1, by omega⟩
  rw [hr, show m - (k + 1) = r by omega, List.replicate_succ, List.set_cons_zero, List.replicate_succ']
  simp
set_option maxRecDepth 100000 in
set_option maxHeartbeats 32000000 in
theorem oplain_any (n m mw : Nat) (A0 : Nat → Nat → Rat) (s : Rd) (M : Nat → Nat → Int) (L : Int) (ρ : Nat) (γ : Rat) (ub : Value) (w : World) (B Lm g cap : Nat) (rest : List Value) (bb cp : Nat → Nat) (ex : Nat → List Value)
    (hM : MatO w B Lm g 157 2 rest bb cp ex n mw M) (hu : SI w ub (bints s.bnd)) (hb : BarI n m s M L) (hi : RInv n A0 m s) (t : Tame n m A0 ρ γ) (hwh : Whl n m A0) (hcap : n ≤ cap) (hm : m < mw) :
    Calls Try.prog 63 #[.agg #[.slice (some ⟨g, 0, none⟩) n cap, ub, .int .i64 L], .int .i64 m] w (pl_post w n m s) := by
  have RI := Lib.hid hi
  have kn := hi.le
  have N7 := t.n7
  have M6 := t.w6
  have KB : (bints s.bnd).length = s.bnd.length := bints_len _
  have FK := Lib.hid (fun i (h : i < n) => bar_fmk hb hi t hwh h (Nat.le_refl m))
  have BZ := Lib.hid (fun i (h : i < n) => hb.zero hi h (Nat.le_refl m))
  have LI : Hid (i64 L) := by obtain ⟨⟨a, b⟩, _⟩ := hb.small hi t (Nat.le_refl _); exact ⟨by omega, by omega⟩
  have MI : Hid (∀ i, i < n → i64 (M i m)) := fun i h => by obtain ⟨_, _, _, h4⟩ := hb.small hi t (Nat.le_refl _); have := h4 i m h (Nat.le_refl _); exact ⟨by omega, by omega⟩
  have PS := Lib.hid (fun i (h : i < s.bnd.length) => pls_succ hi h)
  have SO : Hid (solvB n m s = true ↔ s.solv n m) := solvB_iff
  have BLT := Lib.hid (fun i (h : i < s.bnd.length) => hi.blt i h)
  obtain ⟨adu, capu, e, hu1, hu2, _⟩ := hu.open
  rw [KB] at e hu1 hu2
  subst e
  clear hb hi t hwh
  generalize hk : s.bnd.length = k at *
  have KL := Lib.hid hk
  clear hk KB
  go_enter Try.func63, Try.ntmps63
  have OS := Lib.hid (Own.new w 93 [.slice (some ⟨g, 0, none⟩) n cap, .slice adu k capu, .int .i64 L])
  have hy := ba1 w (.cells #[.slice (some ⟨g, 0, none⟩) n cap, .slice adu k capu, .int .i64 L] 93)
  have HM := Lib.hid (hM.below hy)
  have HU := Lib.hid (hu.below hy)
  clear hM hu
  go_upto_region 1 with fail
  obtain ⟨bS, hS⟩ : ∃ b, b = w.heap.size := ⟨_, rfl⟩
  rw [← hS] at OS ⊢
  clear hS
  generalize w.alloc (.cells #[.slice (some ⟨g, 0, none⟩) n cap, .slice adu k capu, .int .i64 L] 93) = y0 at *
  have oS := OS.out
  have hgo : (k < n ∧ ¬ cap = k) ∨ (n - k = 0 ∧ cap = k) ∨ (n - k = 0 ∧ ¬ cap = k) := by omega
  rcases hgo with ⟨hkn, hck⟩ | ⟨hkn, hck⟩ | ⟨hkn, hck⟩
  all_goals
    obtain ⟨rS, fS⟩ := oS.rules
    have zS := oS.lt
    go_wp2
    clear rS fS zS
    go_loop [21] (fun i => ∃ q : Nat, q ≤ n - k ∧ i = .int .i64 q ∧ Hid (∀ i, k ≤ i → i < k + q → s.R i m = 0)) (fun i => n - k + 1 - (intOf i).toNat)
    case atStart => exact ⟨0, Nat.zero_le _, rfl, fun i h1 h2 => by omega⟩
    case round =>
      obtain ⟨q, hq, rfl, hz⟩ := hrel
      by_cases hlt : q < n - k
      · first
        | exact absurd hlt (by omega)
        | (
            have hkq : k + q < n := by omega
            have cR := HM.out.cell_out hkq
            have cV := HM.out.cell_at hkq hm
            have BZq := Lib.hid (BZ.out (k + q) hkq)
            by_cases hv : M (k + q) m = 0
            · have e0 : (M (k + q) m != 0) = false := by simp [hv]
              have HZ : Hid (∀ i, k ≤ i → i < k + (q + 1) → s.R i m = 0) := fun i h1 h2 => by
                rcases Nat.lt_or_ge i (k + q) with h3 | h3
                · exact hz.out i h1 h3
                · obtain rfl : i = k + q := by omega
                  exact BZq.out.1 hv
              clear hv hz
              go_wp2
              go_round
              case rel => exact ⟨q + 1, by omega, by go_num, HZ⟩
              case measure => simp [intOf]; try omega
            · have e0 : (M (k + q) m != 0) = true := by simpa using hv
              have HS : Hid (solvB n m s = false) := by
                show _ = _
                rw [← Bool.not_eq_true]
                intro h'
                exact hv (BZq.out.2 (SO.out.1 h' (k + q) (by rw [KL.out]; omega) hkq))
              clear hv hz
              go_wp2
              go_ret2
              exact ⟨_, by rw [HS.out]; rfl, by rw [HS.out]; exact sf_nil _, hy⟩)
      · have HS : Hid (solvB n m s = true) := SO.out.2 fun i h1 h2 => hz.out i (by rw [KL.out] at h1; exact h1) (by omega)
        have MK := mk_fracs m (m : Int) rfl (by omega)
        clear hz
        go_wp2
        clear MK
        have oX := Own.new y0 78 (fcs (List.replicate m (0, 0)))
        have hW := ba1 y0 (.cells (fcs (List.replicate m (0, 0))).toArray 78)
        obtain ⟨GX, hG⟩ : ∃ G, G = y0.heap.size := ⟨_, rfl⟩
        have zX1 : y0.heap.size ≤ GX := by rw [hG]; exact Nat.le_refl _
        rw [← hG] at oX ⊢
        clear hG
        go_loopw [35] (fun i wr => ∃ q : Nat, q ≤ m ∧ i = .int .i64 q ∧ Own wr GX 78 (fcs (List.replicate q (0, 1) ++ List.replicate (m - q) (0, 0))) ∧ Below y0.heap.size y0 wr) (fun i _ => m + 1 - (intOf i).toNat)
        case atStart => exact ⟨0, Nat.zero_le _, rfl, by simpa using oX, hW⟩
        case round =>
          clear oX hW
          obtain ⟨q2, hq2, rfl, oX, hW⟩ := hrel
          rename World => W
          by_cases hql : q2 < m
          · obtain ⟨v1, v2, g1, g2⟩ := fcs_some (List.replicate q2 ((0 : Int), (1 : Int)) ++ List.replicate (m - q2) (0, 0)) q2 (by simp; omega)
            have FF := Lib.hid (fill_fr q2 m hql)
            generalize List.replicate q2 ((0 : Int), (1 : Int)) ++ List.replicate (m - q2) (0, 0) = xs at *
            obtain ⟨rX, fX⟩ := oX.rules
            have zX := oX.lt
            go_wp2
            go_roundw
            case rel =>
              refine ⟨q2 + 1, by omega, by go_num, ?_, (hW.setCell (p := ⟨GX, q2 * 2, none⟩) zX1 _).setCell (p := ⟨GX, q2 * 2 + 1, none⟩) zX1 _⟩
              have o2 := (oX.set (q2 * 2) (.int .i64 0)).set (q2 * 2 + 1) (.int .i64 1)
              rw [fcs_set xs q2 (0, 1), FF.out] at o2
              exact o2
            case measure => simp [intOf]; try omega
          · obtain rfl : q2 = m := by omega
            have o0 : Own W GX 78 (fcs (pls q2 s 0)) := by rw [pls_0]; simpa using oX
            have oS := OS.out.below hW
            obtain ⟨rS, fS⟩ := oS.rules
            have zS := oS.lt
            go_wp2
            clear rS fS zS oS oX
            go_loopw [46] (fun i wr => ∃ i' : Nat, i' ≤ k ∧ i = .int .i64 i' ∧ Own wr GX 78 (fcs (pls q2 s i')) ∧ Below y0.heap.size y0 wr) (fun i _ => k + 1 - (intOf i).toNat)
            case atStart => exact ⟨0, Nat.zero_le _, rfl, o0, hW⟩
            case round =>
              clear o0 hW
              obtain ⟨i, hi, rfl, oX, hW⟩ := hrel
              rename World => Y
              by_cases hik : i < k
              · have hin : i < n := by omega
                obtain ⟨hb1, hb2⟩ := bints_get (l := s.bnd) (i := i) (by rw [KL.out]; exact hik)
                obtain ⟨_, _, e, _, _, H⟩ := (HU.out.below hW).open
                cases e
                obtain ⟨b2, off2, e, c1⟩ := H.out i hb1
                subst e
                rw [hb2] at c1
                clear H hb1 hb2
                have BC := BLT.out i hik
                have PSi := Lib.hid (PS.out i hik)
                have FKi := Lib.hid (FK.out i hin)
                have cR := (HM.out.below hW).cell_out hin
                have cV := (HM.out.below hW).cell_at hin hm
                obtain ⟨v1, v2, g1, g2⟩ := fcs_some (pls q2 s i) (s.bnd.getD i 0) (by rw [pls_len]; exact BC)
                generalize s.bnd.getD i 0 = c at *
                have oS := OS.out.below hW
                have XN : Hid ((fmk (M i q2) L).e = 0 ∧ up (s.R i q2) = ((fmk (M i q2) L).n, (fmk (M i q2) L).d)) := by show _ ∧ _; rw [FKi.out]; exact ⟨rfl, rfl⟩
                rw [XN.out.2] at PSi
                have XE := XN.out.1
                clear XN FKi
                generalize hX : fmk (M i q2) L = X at *
                have HX := Lib.hid hX
                clear hX
                have MIi := Lib.hid (MI.out i hin)
                have zb1 := World.block_lt_of_cell? _ _ cR
                have zb2 := World.block_lt_of_cell? _ _ cV
                simp only at zb1 zb2
                obtain ⟨rS, fS⟩ := oS.rules
                have zS := oS.lt
                go_upto_region 16 with fail
                go_wp2_with fail
                have gl := @grow_lt
                refine wp_region_fs [(14, ⟨78, [.int .i64 0, .int .i64 0], fun b => .pointer (some ⟨b, 0, none⟩)⟩)] [0, 1, 2, 3, 4, 5, 6, 7, 8, 9] [.op 10, .tk 11, .tk 12, .tk 13, .fl 14, .op 15] [16] (by kernel_rfl) (by kernel_rfl) ⟨fun ρ W => by kernel_rfl, trivial⟩ (fun _ _ _ _ _ h => h) (fun _ _ _ _ _ h => h) ?_
                try simp only [opsAt, List.getElem?_toArray, List.getElem?_cons_zero, List.getElem?_cons_succ, Option.getD_some]
                repeat (go_big_quiet_step (fail))
                refine wpQuiet_nil ?_
                clear gl
                refine wpFl_op rfl ?_
                intro w3 hb3 K' hK'
                go_simp
                refine (make_any (M i q2) L _ MIi.out LI.out).mono ?_
                rintro e w5 ⟨rfl, hq⟩
                refine hK' _ _ (Mod.of_below hq) ?_
                clear hK' K'
                have hF := below_to hb3 hq
                clear hb3 hq
                rw [HX.out]
                refine wpFl_tk ?_
                try simp only [opsAt, List.getElem?_toArray, List.getElem?_cons_zero, List.getElem?_cons_succ, Option.getD_some]
                repeat (go_big_quiet_step (fail))
                refine wpQuiet_nil ?_
                refine wpFl_tk ?_
                try simp only [opsAt, List.getElem?_toArray, List.getElem?_cons_zero, List.getElem?_cons_succ, Option.getD_some]
                repeat (go_big_quiet_step (fail))
                refine wpQuiet_nil ?_
                refine wpFl_tk ?_
                try simp only [opsAt, List.getElem?_toArray, List.getElem?_cons_zero, List.getElem?_cons_succ, Option.getD_some]
                repeat (go_big_quiet_step (fail))
                refine wpQuiet_nil ?_
                refine wpFl_fl rfl ?_
                intro bD w6 hb6 oD zD0 _
                go_simp
                replace hF := below_to hF hb6
                refine wpFl_op rfl ?_
                intro w7 hb7 K' hK'
                replace oD := oD.below hb7
                replace hF := below_to hF hb7
                clear hb6 hb7
                obtain ⟨rD, fD⟩ := oD.rules
                have zD := oD.lt
                go_wp2_with fail
                refine hK' _ _ (((Mod.refl _ _).set (by simp) _).set (by simp) _) ?_
                clear hK' K' rD fD zD
                replace oD := (oD.set 0 (.int .i64 X.n)).set 1 (.int .i64 X.d)
                replace hF := (hF.setCell (p := ⟨bD, 0, none⟩) zD0 (.int .i64 X.n)).setCell (p := ⟨bD, 1, none⟩) zD0 (.int .i64 X.d)
                refine wpFl_nil (fun w8 hb8 => ?_)
                replace oD := oD.below hb8
                replace hF := below_to hF hb8
                clear hb8
                try simp only [opsAt, List.getElem?_toArray, List.getElem?_cons_zero, List.getElem?_cons_succ, Option.getD_some]
                clear rS fS zS oS c1 cR cV zb1 zb2
                replace oX := oX.below hF
                replace hW := below_to hW hF
                clear hF
                have b1 : (X.e != 0) = false := by rw [XE]; rfl
                clear XE
                obtain ⟨rD, fD⟩ := oD.rules
                have zD := oD.lt
                obtain ⟨rX, fX⟩ := oX.rules
                have zX := oX.lt
                go_wp2
                go_roundw
                case rel =>
                  refine ⟨i + 1, by omega, by go_num, ?_, (hW.setCell (p := ⟨GX, c * 2, none⟩) zX1 _).setCell (p := ⟨GX, c * 2 + 1, none⟩) zX1 _⟩
                  have o2 := (oX.set (c * 2) (.int .i64 X.n)).set (c * 2 + 1) (.int .i64 X.d)
                  rw [fcs_set (pls q2 s i) c (X.n, X.d), ← PSi.out] at o2
                  exact o2
                case measure => simp [intOf]; try omega
              · obtain rfl : i = k := by omega
                have SFX := Lib.hid (sf_of_own (pls q2 s i) q2 (pls_len _ _ _) (by omega) oX)
                have PE : Hid (pls q2 s i = plist q2 s) := by show _ = _; rw [← KL.out]; rfl
                go_wp2
                go_ret2
                exact ⟨_, by rw [HS.out]; rfl, by rw [HS.out, if_pos rfl, ← PE.out]; exact SFX.out, below_to hy hW⟩
end Go.Proofs.Ythlcmlngmcoknaa
