/- What is proved here: contracts of functions and plain facts, several texts in one; each one says ahead what it proves, and its conditions. -/
import Derived.Test.YthlcmlngmcoknaaC23
import Derived.Test.YthlcmlngmcoknaaC24
import Derived.Test.YthlcmlngmcoknaaC20
import Derived.Test.YthlcmlngmcoknaaC17
import Derived.Test.YthlcmlngmcoknaaC09
/- What is proved here: the contract of the method basis of solve.reduced. Condition: reduced rows in memory. -/
namespace Go.Proofs.Ythlcmlngmcoknaa
open Go.RowKit

theorem obool_info : (Try.prog.info? 4).map (fun i => (i.zero, i.size, i.bytes)) = some (some (.bool false), 1, 1) := by kernel_rfl
theorem ofrow_info : (Try.prog.info? 28).map (fun i => (i.zero, i.size, i.bytes)) = some (some (.slice none 0 0), 1, 24) := by kernel_rfl
def bcs (xs : List Bool) : List Value := xs.map Value.bool
theorem bcs_len (xs : List Bool) : (bcs xs).length = xs.length := by simp [bcs]
theorem omade_bools (n : Nat) : madeCells (Value.bool false).cells (n * 1) = (bcs (List.replicate n false)).toArray := by
  apply Array.ext
  · simp [size_madeCells, bcs]
  · intro i h1 h2
    simp [madeCells, Value.cells, Nat.mod_one, bcs]
theorem omk_bools (n : Nat) (hn : n ≤ 100000) (w : World) : (Instr.makeSlice 171 (.int .i64 (n : Int)) (.int .i64 (n : Int))).run Try.prog w = .ok (.slice (some ⟨w.heap.size, 0, none⟩) n n) (w.alloc (.cells (bcs (List.replicate n false)).toArray 4)) := by
  obtain ⟨i0, hi, hz0, hz1, hz2⟩ := info_parts obool_info
  have h := run_make w 171 4 i0 (.bool false) Try.underlying171 hi hz0 .i64 .i64 (n : Int) (n : Int) (by omega) (by omega) (by rw [hz2]; omega) (by omega)
  rw [Int.toNat_natCast, hz1, omade_bools] at h
  exact h
/-- Which columns are bound, after so many of them. -/
def bnds (m : Nat) (s : Rd) (i : Nat) : List Bool := (List.range m).map fun c => !((List.range i).all fun t => decide (s.bnd.getD t 0 ≠ c))
theorem bnds_len (m : Nat) (s : Rd) (i : Nat) : (bnds m s i).length = m := by simp [bnds]
theorem bnds_0 (m : Nat) (s : Rd) : bnds m s 0 = List.replicate m false := by
  unfold bnds
  refine List.ext_getElem? fun c => ?_
  rcases Nat.lt_or_ge c m with h | h <;> simp [h]
theorem bnds_end {m : Nat} {s : Rd} {f : Nat} (hf : f < m) : (bnds m s s.bnd.length)[f]? = some (!(freeB s f)) := by
  unfold bnds freeB; simp [hf]
theorem bnds_succ {m : Nat} {s : Rd} {i : Nat} : bnds m s (i + 1) = (bnds m s i).set (s.bnd.getD i 0) true := by
  refine List.ext_getElem? fun c => ?_
  rw [List.getElem?_set, bnds_len]
  rcases Nat.lt_or_ge c m with hc | hc
  · have e0 : ∀ i, (bnds m s i)[c]? = some (!((List.range i).all fun t => decide (s.bnd.getD t 0 ≠ c))) := fun i => by simp [bnds, hc]
    rw [e0, e0, List.range_succ, List.all_append]
    by_cases hb : s.bnd.getD i 0 = c
    · rw [if_pos hb, if_pos (by omega)]
      congr 1
      simp only [List.all_cons, List.all_nil, hb]
      simp
    · rw [if_neg hb]
      congr 1
      simp only [List.all_cons, List.all_nil]
      rw [decide_eq_true (show s.bnd.getD i 0 ≠ c from hb), Bool.and_true, Bool.and_true]
  · rw [List.getElem?_eq_none (by rw [bnds_len]; exact hc)]
    split
    · rw [if_neg (by omega)]
    · rw [List.getElem?_eq_none (by rw [bnds_len]; exact hc)]
theorem bcs_set (xs : List Bool) (c : Nat) (v : Bool) : (bcs xs).set c (.bool v) = bcs (xs.set c v) := by simp [bcs, List.map_set]
/-- A free solution while it is made. -/
def frs (m : Nat) (s : Rd) (f i : Nat) : List (Int × Int) := (List.range m).map fun c => up (if c = f then 1 else - sm (fun t => if s.bnd.getD t 0 = c then s.R t f else 0) i)
theorem frs_len (m : Nat) (s : Rd) (f i : Nat) : (frs m s f i).length = m := by simp [frs]
theorem frs_0 {m : Nat} {s : Rd} {f : Nat} (hf : f < m) : (List.replicate m ((0 : Int), (1 : Int))).set f (1, 1) = frs m s f 0 := by
  refine List.ext_getElem? fun c => ?_
  rw [List.getElem?_set, List.length_replicate]
  rcases Nat.lt_or_ge c m with hc | hc
  · have e0 : (frs m s f 0)[c]? = some (up (if c = f then 1 else - sm (fun t => if s.bnd.getD t 0 = c then s.R t f else 0) 0)) := by simp [frs, hc]
    rw [e0]
    by_cases h : f = c
    · rw [if_pos h, if_pos hf, if_pos h.symm]; rfl
    · rw [if_neg h, if_neg (fun e => h e.symm), sm_zero]
      have : (-0 : Rat) = 0 := by grind
      rw [this]; simp [hc, up]
  · rw [if_neg (by omega)]
    simp [frs, hc]
theorem frs_end (m : Nat) (s : Rd) (f : Nat) : frs m s f s.bnd.length = frow m s f := rfl
theorem frs_succ {n m : Nat} {A0 : Nat → Nat → Rat} {s : Rd} (h : RInv n A0 m s) {f : Nat} (hf : s.free f) {i : Nat} (hi : i < s.bnd.length) : frs m s f (i + 1) = (frs m s f i).set (s.bnd.getD i 0) (up (-(s.R i f))) := by
  refine List.ext_getElem? fun c => ?_
  rw [List.getElem?_set, frs_len]
  rcases Nat.lt_or_ge c m with hc | hc
  · have e0 : ∀ i, (frs m s f i)[c]? = some (up (if c = f then 1 else - sm (fun t => if s.bnd.getD t 0 = c then s.R t f else 0) i)) := fun i => by simp [frs, hc]
    rw [e0, e0]
    by_cases hb : s.bnd.getD i 0 = c
    · have hcf : ¬ c = f := fun e => hf i hi (by rw [hb, e])
      rw [if_pos hb, if_neg hcf, if_pos (show s.bnd.getD i 0 < m by omega), sm_succ, if_pos hb, sm_0 i fun t ht => if_neg fun e => by have := h.inj (i := t) (j := i) (by omega) hi (by rw [e, hb]); omega]
      congr 3; grind
    · rw [if_neg hb, sm_succ, if_neg hb]
      congr 2
      split <;> grind
  · have : ¬ s.bnd.getD i 0 = c := by have := h.blt i hi; omega
    rw [if_neg this]
    simp [frs, hc]
def ba_post (w : World) (m : Nat) (s : Rd) (e : Ending) (w' : World) : Prop := ∃ u, e = .returned u ∧ SFF w' u (blist m s m) ∧ Below w.heap.size w w'
theorem blist_short (m : Nat) (s : Rd) (f : Nat) : (blist m s f).length ≤ f := by
  unfold blist; rw [List.length_map]
  exact Nat.le_trans (List.length_filter_le _ _) (by simp)
theorem blist_rows {m : Nat} {s : Rd} {f : Nat} : ∀ xs ∈ blist m s f, xs.length = m := fun xs hx => by
  unfold blist at hx
  obtain ⟨k, _, rfl⟩ := List.mem_map.1 hx
  exact frow_len m s k
set_option maxRecDepth 100000 in
set_option maxHeartbeats 32000000 in
theorem obasis_any (n m mw : Nat) (A0 : Nat → Nat → Rat) (s : Rd) (M : Nat → Nat → Int) (L : Int) (ρ : Nat) (γ : Rat) (ub : Value) (w : World) (B Lm g cap : Nat) (rest : List Value) (bb cp : Nat → Nat) (ex : Nat → List Value)
    (hM : MatO w B Lm g 157 2 rest bb cp ex n mw M) (hu : SI w ub (bints s.bnd)) (hb : BarI n m s M L) (hi : RInv n A0 m s) (t : Tame n m A0 ρ γ) (hwh : Whl n m A0) (hcap : n ≤ cap) (hm : m < mw) :
    Calls Try.prog 64 #[.agg #[.slice (some ⟨g, 0, none⟩) n cap, ub, .int .i64 L], .int .i64 m] w (ba_post w m s) := by
  have RI := Lib.hid hi
  have kn := hi.le
  have N7 := t.n7
  have M6 := t.w6
  have KB : (bints s.bnd).length = s.bnd.length := bints_len _
  have FK := Lib.hid (fun i f (h : i < n) (hf : f ≤ m) => bar_fmk_neg hb hi t hwh h hf)
  have LI : Hid (i64 L) := by obtain ⟨⟨a, b⟩, _⟩ := hb.small hi t (Nat.le_refl _); exact ⟨by omega, by omega⟩
  have MI : Hid (∀ i f, i < n → f ≤ m → i64 (-(M i f)) ∧ wrap64 (-(M i f)) = -(M i f)) := fun i f h hf => by
    obtain ⟨_, _, _, h4⟩ := hb.small hi t (Nat.le_refl _)
    have := h4 i f h hf
    exact ⟨⟨by omega, by omega⟩, by unfold wrap64; omega⟩
  have PS := Lib.hid (fun f (hf : s.free f) i (h : i < s.bnd.length) => frs_succ hi hf h)
  have BLT := Lib.hid (fun i (h : i < s.bnd.length) => hi.blt i h)
  have BE := Lib.hid (fun f (hf : f < m) => bnds_end (s := s) hf)
  obtain ⟨adu, capu, e, hu1, hu2, _⟩ := hu.open
  rw [KB] at e hu1 hu2
  subst e
  clear hb hi t hwh
  generalize hk : s.bnd.length = k at *
  have KL := Lib.hid hk
  clear hk KB
  go_enter Try.func64, Try.ntmps64
  have OS := Lib.hid (Own.new w 93 [.slice (some ⟨g, 0, none⟩) n cap, .slice adu k capu, .int .i64 L])
  have hy := ba1 w (.cells #[.slice (some ⟨g, 0, none⟩) n cap, .slice adu k capu, .int .i64 L] 93)
  have HM := Lib.hid (hM.below hy)
  have HU := Lib.hid (hu.below hy)
  clear hM hu
  go_upto_region 1 with fail
  obtain ⟨bS, hS⟩ : ∃ b, b = w.heap.size := ⟨_, rfl⟩
  rw [← hS] at OS ⊢
  clear hS
  generalize w.alloc (.cells #[.slice (some ⟨g, 0, none⟩) n cap, .slice adu k capu, .int .i64 L] 93) = y0 at *
  have oS := OS.out
  have MK := omk_bools m (by omega)
  obtain ⟨rS, fS⟩ := oS.rules
  have zS := oS.lt
  go_wp2
  clear MK rS fS zS oS
  have oG := Own.new y0 4 (bcs (List.replicate m false))
  have hW := ba1 y0 (.cells (bcs (List.replicate m false)).toArray 4)
  obtain ⟨GB, hG⟩ : ∃ G, G = y0.heap.size := ⟨_, rfl⟩
  have zG1 : y0.heap.size ≤ GB := by rw [hG]; exact Nat.le_refl _
  rw [← hG] at oG ⊢
  clear hG
  go_loopw [21] (fun i wr => ∃ i' : Nat, i' ≤ k ∧ i = .int .i64 i' ∧ Own wr GB 4 (bcs (bnds m s i')) ∧ Below y0.heap.size y0 wr) (fun i _ => k + 1 - (intOf i).toNat)
  case atStart => exact ⟨0, Nat.zero_le _, rfl, by rw [bnds_0]; exact oG, hW⟩
  case round =>
    clear oG hW
    obtain ⟨i, hi, rfl, oG, hW⟩ := hrel
    rename World => W
    by_cases hik : i < k
    · obtain ⟨hb1, hb2⟩ := bints_get (l := s.bnd) (i := i) (by rw [KL.out]; exact hik)
      obtain ⟨_, _, e, _, _, H⟩ := (HU.out.below hW).open
      cases e
      obtain ⟨b2, off2, e, c1⟩ := H.out i hb1
      subst e
      rw [hb2] at c1
      clear H hb1 hb2
      have BC := BLT.out i hik
      have SU := Lib.hid (bnds_succ (m := m) (s := s) (i := i))
      obtain ⟨v1, g1⟩ : ∃ v, (bcs (bnds m s i))[s.bnd.getD i 0]? = some v := ⟨_, List.getElem?_eq_getElem (by rw [bcs_len, bnds_len]; exact BC)⟩
      generalize s.bnd.getD i 0 = c at *
      obtain ⟨rG, fG⟩ := oG.rules
      have zG := oG.lt
      go_wp2
      go_roundw
      case rel =>
        refine ⟨i + 1, by omega, by go_num, ?_, hW.setCell (p := ⟨GB, c, none⟩) zG1 _⟩
        have o2 := oG.set c (.bool true)
        rw [bcs_set, ← SU.out] at o2
        exact o2
      case measure => simp [intOf]; try omega
    · obtain rfl : i = k := by omega
      have OG := Lib.hid oG
      have HU2 := Lib.hid (HU.out.below hW)
      have HM2 := Lib.hid (HM.out.below hW)
      have OS2 := Lib.hid (OS.out.below hW)
      have hyW := below_to hy hW
      have hyS := hyW.size
      have KE : Hid (i = s.bnd.length) := KL.out.symm
      clear oG hW hik hi
      go_wp2
      go_loopw [8, 30] (fun ov fv wr => ∃ f : Nat, f ≤ m ∧ fv = .int .i64 f ∧ (∃ vs, RowsF wr W.heap.size 78 28 ov (blist m s f) vs) ∧ Below W.heap.size W wr) (fun _ fv _ => m + 1 - (intOf fv).toNat)
      case atStart => exact ⟨0, Nat.zero_le _, rfl, ⟨[], rowsF_nil _ _ _ _⟩, Below.refl _ _⟩
      case round =>
        obtain ⟨f, hf, rfl, ⟨vs, RF⟩, hC⟩ := hrel
        rename World => Y
        obtain ⟨ad8, cap8, e8⟩ := oslice RF.1
        subst e8
        by_cases hfm : f < m
        · have oG := OG.out.below hC
          have cG : Y.cell? ⟨GB, f, none⟩ = some (.bool (!(freeB s f))) := by
            have hl : f < (bcs (bnds m s i)).length := by rw [bcs_len, bnds_len]; exact hfm
            rw [oG.cell f hl]
            have := BE.out f hfm
            simp only [bcs, List.getElem_map]
            rw [List.getElem?_eq_getElem (by rw [bnds_len]; exact hfm)] at this
            rw [Option.some.inj this]
          have zb := World.block_lt_of_cell? _ _ cG
          simp only at zb
          cases hfr : freeB s f with
          | false =>
            rw [hfr] at cG
            have BB := Lib.hid (blist_bound (w := m) hfr)
            clear hfr
            go_wp2
            go_roundw
            case rel => exact ⟨f + 1, by omega, by go_num, ⟨vs, by rw [BB.out]; exact RF⟩, hC⟩
            case measure => simp [intOf]; try omega
          | true =>
            rw [hfr] at cG
            have BB := Lib.hid (blist_free (w := m) hfr)
            have FR := Lib.hid (freeB_iff.1 hfr)
            have PF := Lib.hid (PS.out f FR.out)
            have BLn := blist_short m s f
            clear hfr
            have MK := mk_fracs m (m : Int) rfl (by omega)
            go_wp2
            clear MK cG
            have oX := Own.new Y 78 (fcs (List.replicate m (0, 0)))
            have hW := ba1 Y (.cells (fcs (List.replicate m (0, 0))).toArray 78)
            obtain ⟨GX, hG⟩ : ∃ G, G = Y.heap.size := ⟨_, rfl⟩
            have zX1 : Y.heap.size ≤ GX := by rw [hG]; exact Nat.le_refl _
            rw [← hG] at oX ⊢
            clear hG
            go_loopw [41] (fun q wr => ∃ q' : Nat, q' ≤ m ∧ q = .int .i64 q' ∧ Own wr GX 78 (fcs (List.replicate q' (0, 1) ++ List.replicate (m - q') (0, 0))) ∧ Below Y.heap.size Y wr) (fun q _ => m + 1 - (intOf q).toNat)
            case atStart => exact ⟨0, Nat.zero_le _, rfl, by simpa using oX, hW⟩
            case round =>
              clear oX hW
              obtain ⟨q2, hq2, rfl, oX, hW⟩ := hrel
              rename World => Z
              by_cases hql : q2 < m
              · obtain ⟨v1, v2, g1, g2⟩ := fcs_some (List.replicate q2 ((0 : Int), (1 : Int)) ++ List.replicate (m - q2) (0, 0)) q2 (by simp; omega)
                have FF := Lib.hid (fill_fr q2 m hql)
                generalize List.replicate q2 ((0 : Int), (1 : Int)) ++ List.replicate (m - q2) (0, 0) = xs at *
                obtain ⟨rX, fX⟩ := oX.rules
                have zX := oX.lt
                go_wp2
                go_roundw
                case rel =>
                  refine ⟨q2 + 1, by omega, by go_num, ?_, (hW.setCell (p := ⟨GX, q2 * 2, none⟩) zX1 _).setCell (p := ⟨GX, q2 * 2 + 1, none⟩) zX1 _⟩
                  have o2 := (oX.set (q2 * 2) (.int .i64 0)).set (q2 * 2 + 1) (.int .i64 1)
                  rw [fcs_set xs q2 (0, 1), FF.out] at o2
                  exact o2
                case measure => simp [intOf]; try omega
              · obtain rfl : q2 = m := by omega
                have o0 : Own Z GX 78 (fcs (List.replicate q2 (0, 1))) := by simpa using oX
                clear oX
                have oX := o0
                obtain ⟨v1, v2, g1, g2⟩ := fcs_some (List.replicate q2 ((0 : Int), (1 : Int))) f (by simp; exact hfm)
                have F0 := Lib.hid (frs_0 (s := s) hfm)
                have oF : Own ((Z.setCell ⟨GX, f * 2, none⟩ (.int .i64 1)).setCell ⟨GX, f * 2 + 1, none⟩ (.int .i64 1)) GX 78 (fcs (frs q2 s f 0)) := by
                  have o2 := (oX.set (f * 2) (.int .i64 1)).set (f * 2 + 1) (.int .i64 1)
                  rw [fcs_set (List.replicate q2 ((0 : Int), (1 : Int))) f (1, 1), F0.out] at o2
                  exact o2
                have hW2 := (hW.setCell (p := ⟨GX, f * 2, none⟩) zX1 (.int .i64 1)).setCell (p := ⟨GX, f * 2 + 1, none⟩) zX1 (.int .i64 1)
                generalize List.replicate q2 ((0 : Int), (1 : Int)) = xs at *
                obtain ⟨rX, fX⟩ := oX.rules
                have zX := oX.lt
                go_upto_region 19 with fail
                clear rX fX zX oX o0 hW
                generalize (Z.setCell ⟨GX, f * 2, none⟩ (.int .i64 1)).setCell ⟨GX, f * 2 + 1, none⟩ (.int .i64 1) = Z2 at *
                have oS := OS2.out.below (below_to hC hW2)
                obtain ⟨rS, fS⟩ := oS.rules
                have zS := oS.lt
                go_wp2
                clear rS fS zS oS
                go_loopw [56] (fun j wr => ∃ j' : Nat, j' ≤ i ∧ j = .int .i64 j' ∧ Own wr GX 78 (fcs (frs q2 s f j')) ∧ Below Y.heap.size Y wr) (fun j _ => i + 1 - (intOf j).toNat)
                case atStart => exact ⟨0, Nat.zero_le _, rfl, oF, hW2⟩
                case round =>
                  clear oF hW2
                  obtain ⟨j, hj, rfl, oX, hW⟩ := hrel
                  rename World => V
                  by_cases hjk : j < i
                  · have hjn : j < n := by omega
                    obtain ⟨hb1, hb2⟩ := bints_get (l := s.bnd) (i := j) (by rw [KL.out]; exact hjk)
                    obtain ⟨_, _, e, _, _, H⟩ := (HU2.out.below (below_to hC hW)).open
                    cases e
                    obtain ⟨b2, off2, e, c1⟩ := H.out j hb1
                    subst e
                    rw [hb2] at c1
                    clear H hb1 hb2
                    have BC := BLT.out j hjk
                    have PSi := Lib.hid (PF.out j hjk)
                    have FKi := Lib.hid (FK.out j f hjn (by omega))
                    have cR := (HM2.out.below (below_to hC hW)).cell_out hjn
                    have cV := (HM2.out.below (below_to hC hW)).cell_at hjn (show f < mw by omega)
                    obtain ⟨v1, v2, g1, g2⟩ := fcs_some (frs q2 s f j) (s.bnd.getD j 0) (by rw [frs_len]; exact BC)
                    generalize s.bnd.getD j 0 = c at *
                    have oS := OS2.out.below (below_to hC hW)
                    have XN : Hid ((fmk (-(M j f)) L).e = 0 ∧ up (-(s.R j f)) = ((fmk (-(M j f)) L).n, (fmk (-(M j f)) L).d)) := by show _ ∧ _; rw [FKi.out]; exact ⟨rfl, rfl⟩
                    rw [XN.out.2] at PSi
                    have XE := XN.out.1
                    clear XN FKi
                    have MIi := Lib.hid (MI.out j f hjn (by omega)).1
                    obtain ⟨nm, hnm⟩ : ∃ z, z = -(M j f) := ⟨_, rfl⟩
                    have WN : wrap64 (-(M j f)) = nm := by rw [hnm]; exact (MI.out j f hjn (by omega)).2
                    rw [← hnm] at PSi XE MIi
                    clear hnm
                    generalize hX : fmk nm L = X at *
                    have HX := Lib.hid hX
                    clear hX
                    have zb1 := World.block_lt_of_cell? _ _ cR
                    have zb2 := World.block_lt_of_cell? _ _ cV
                    simp only at zb1 zb2
                    obtain ⟨rS, fS⟩ := oS.rules
                    have zS := oS.lt
                    go_upto_region 22 with fail
                    go_wp2_with fail
                    have gl := @grow_lt
                    refine wp_region_fs [(15, ⟨78, [.int .i64 0, .int .i64 0], fun b => .pointer (some ⟨b, 0, none⟩)⟩)] [0, 1, 2, 3, 4, 5, 6, 7, 8, 9, 10] [.op 11, .tk 12, .tk 13, .tk 14, .fl 15, .op 16] [17] (by kernel_rfl) (by kernel_rfl) ⟨fun ρ W => by kernel_rfl, trivial⟩ (fun _ _ _ _ _ h => h) (fun _ _ _ _ _ h => h) ?_
                    try simp only [opsAt, List.getElem?_toArray, List.getElem?_cons_zero, List.getElem?_cons_succ, Option.getD_some]
                    repeat (go_big_quiet_step (fail))
                    refine wpQuiet_nil ?_
                    clear gl
                    refine wpFl_op rfl ?_
                    intro w3 hb3 K' hK'
                    go_simp
                    refine (make_any nm L _ MIi.out LI.out).mono ?_
                    rintro e w5 ⟨rfl, hq⟩
                    refine hK' _ _ (Mod.of_below hq) ?_
                    clear hK' K'
                    have hF := below_to hb3 hq
                    clear hb3 hq
                    rw [HX.out]
                    refine wpFl_tk ?_
                    try simp only [opsAt, List.getElem?_toArray, List.getElem?_cons_zero, List.getElem?_cons_succ, Option.getD_some]
                    repeat (go_big_quiet_step (fail))
                    refine wpQuiet_nil ?_
                    refine wpFl_tk ?_
                    try simp only [opsAt, List.getElem?_toArray, List.getElem?_cons_zero, List.getElem?_cons_succ, Option.getD_some]
                    repeat (go_big_quiet_step (fail))
                    refine wpQuiet_nil ?_
                    refine wpFl_tk ?_
                    try simp only [opsAt, List.getElem?_toArray, List.getElem?_cons_zero, List.getElem?_cons_succ, Option.getD_some]
                    repeat (go_big_quiet_step (fail))
                    refine wpQuiet_nil ?_
                    refine wpFl_fl rfl ?_
                    intro bD w6 hb6 oD zD0 _
                    go_simp
                    replace hF := below_to hF hb6
                    refine wpFl_op rfl ?_
                    intro w7 hb7 K' hK'
                    replace oD := oD.below hb7
                    replace hF := below_to hF hb7
                    clear hb6 hb7
                    obtain ⟨rD, fD⟩ := oD.rules
                    have zD := oD.lt
                    go_wp2_with fail
                    refine hK' _ _ (((Mod.refl _ _).set (by simp) _).set (by simp) _) ?_
                    clear hK' K' rD fD zD
                    replace oD := (oD.set 0 (.int .i64 X.n)).set 1 (.int .i64 X.d)
                    replace hF := (hF.setCell (p := ⟨bD, 0, none⟩) zD0 (.int .i64 X.n)).setCell (p := ⟨bD, 1, none⟩) zD0 (.int .i64 X.d)
                    refine wpFl_nil (fun w8 hb8 => ?_)
                    replace oD := oD.below hb8
                    replace hF := below_to hF hb8
                    clear hb8
                    try simp only [opsAt, List.getElem?_toArray, List.getElem?_cons_zero, List.getElem?_cons_succ, Option.getD_some]
                    clear rS fS zS oS c1 cR cV zb1 zb2
                    replace oX := oX.below hF
                    replace hW := below_to hW hF
                    clear hF
                    have b1 : (X.e == 0) = true := by rw [XE]; rfl
                    clear XE
                    obtain ⟨rD, fD⟩ := oD.rules
                    have zD := oD.lt
                    obtain ⟨rX, fX⟩ := oX.rules
                    have zX := oX.lt
                    go_wp2
                    go_roundw
                    case rel =>
                      refine ⟨j + 1, by omega, by go_num, ?_, (hW.setCell (p := ⟨GX, c * 2, none⟩) zX1 _).setCell (p := ⟨GX, c * 2 + 1, none⟩) zX1 _⟩
                      have o2 := (oX.set (c * 2) (.int .i64 X.n)).set (c * 2 + 1) (.int .i64 X.d)
                      rw [fcs_set (frs q2 s f j) c (X.n, X.d), ← PSi.out] at o2
                      exact o2
                    case measure => simp [intOf]; try omega
                  · obtain rfl : j = i := by omega
                    have PE : Hid (frs q2 s f j = frow q2 s f) := by show _ = _; rw [KE.out]; rfl
                    rw [PE.out] at oX
                    have zY := hC.size
                    have hW3 := below_to hW (ba1 V (.cells #[.slice (some ⟨GX, 0, none⟩) q2 q2] 28))
                    have RV : (V.alloc (.cells #[.slice (some ⟨GX, 0, none⟩) q2 q2] 28)).ownsRow W.heap.size 78 2 (.slice (some ⟨GX, 0, none⟩) q2 q2) (frow q2 s f).length (fcs (frow q2 s f)) := by
                      rw [frow_len]; exact own_rowF (oX.alloc _) (frow_len _ _ _) (by omega) (by omega)
                    have AP : Apart (.slice (some ⟨GX, 0, none⟩) q2 q2) (.slice ad8 (blist q2 s f).length cap8) := fun b h1 h2 => by
                      have := (row_lt RF.1 h2).2
                      simp only [Value.ownBlock, Option.some.injEq] at h1
                      omega
                    have RF3 := RF.below hW3
                    have zW3 := hW3.size
                    go_wp2_with (at_builtin; refine wpList_app3 _ rfl _ _ _ rfl W.heap.size 28 1 24 (.slice none 0 0) Try.underlying29 ofrow_info rfl (by omega) (by omega) _ (blist q2 s f).length vs rfl RF3.1 (by omega) (by omega) V.heap.size [.slice (some ⟨GX, 0, none⟩) q2 q2] (0, 0) rfl (heap_alloc_new V _) rfl (by simp [Value.oneCell']) ?_; intro g3 cap3 w3 hown3 hg3 hbw3 hk3)
                    have RF4 := RF3.push RV AP hown3 hk3
                    have hE := (below_to hC hW3).trans (hbw3.mono (Nat.le_refl _))
                    rw [← BB.out] at RF4
                    clear RF RF3 RV AP hown3 hk3 hbw3 hW3 hW oX
                    go_roundw
                    case rel => exact ⟨f + 1, by omega, by go_num, ⟨_, RF4⟩, hE⟩
                    case measure => simp [intOf]; try omega
        · obtain rfl : f = m := by omega
          have SR := RF.sff (by have := blist_short f s f; omega) (fun xs hx => by rw [blist_rows xs hx]; omega)
          go_wp2
          go_ret
          exact ⟨_, rfl, SR, below_to hyW hC⟩
end Go.Proofs.Ythlcmlngmcoknaa

/- What is proved here: the contracts of solve.Rank, solve.Solve and solve.Refute. Condition: a system that can be read. -/
namespace Go.Proofs.Ythlcmlngmcoknaa
open Go.RowKit

section
variable {A : List (List Int)} {B : List Int}
theorem dR_len (h : Sys A B (A.getD 0 []).length) {i : Nat} (hi : i < A.length) : (dR A B i).length = (A.getD 0 []).length + 1 := by
  unfold dR; rw [List.length_append, getD_get hi, h.wide i hi]; rfl
theorem dR_get (h : Sys A B (A.getD 0 []).length) {i j : Nat} (hi : i < A.length) (hj : j ≤ (A.getD 0 []).length) : (dR A B i).getD j 0 = oM A B i j := by
  have hw : (A.getD i []).length = (A.getD 0 []).length := by rw [getD_get hi]; exact h.wide i hi
  unfold dR
  rcases Nat.lt_or_ge j (A.getD 0 []).length with h1 | h1
  · rw [← sys_row h hi h1, List.getD_eq_getElem?_getD, List.getElem?_append_left (by omega), ← List.getD_eq_getElem?_getD]
  · have e : j = (A.getD 0 []).length := by omega
    rw [e, (oM_hi h hi).1, List.getD_eq_getElem?_getD, List.getElem?_append_right (by omega), show (A.getD 0 []).length - (A.getD i []).length = 0 by omega]; rfl
theorem tR_len (h : Sys A B (A.getD 0 []).length) (i : Nat) : (tR A B i).length = A.length + 1 := by
  unfold tR
  split
  · rw [List.length_append, ocol_len]; rfl
  · rw [List.length_append, h.right]; rfl
theorem tR_get (h : Sys A B (A.getD 0 []).length) {t r : Nat} (ht : t ≤ (A.getD 0 []).length) (hr : r ≤ A.length) : (tR A B t).getD r 0 = tM A B t r := by
  unfold tR tM
  rcases Nat.lt_or_ge t (A.getD 0 []).length with h1 | h1
  · rw [if_pos h1]
    rcases Nat.lt_or_ge r A.length with h2 | h2
    · rw [if_neg (by omega), ← sys_row h h2 h1, getD_get h2, List.getD_eq_getElem?_getD, List.getElem?_append_left (by rw [ocol_len]; exact h2)]
      unfold ocol; rw [List.getElem?_map, List.getElem?_eq_getElem h2]; rfl
    · obtain rfl : r = A.length := by omega
      rw [if_pos rfl, if_neg (by omega), List.getD_eq_getElem?_getD, List.getElem?_append_right (by rw [ocol_len]; exact Nat.le_refl _), ocol_len, Nat.sub_self]; rfl
  · have e : t = (A.getD 0 []).length := by omega
    rw [if_neg (by omega)]
    rcases Nat.lt_or_ge r A.length with h2 | h2
    · rw [if_neg (by omega), e, (oM_hi h h2).1, List.getD_eq_getElem?_getD, List.getElem?_append_left (by rw [h.right]; exact h2), List.getD_eq_getElem?_getD]
    · obtain rfl : r = A.length := by omega
      rw [if_pos rfl, if_pos e, List.getD_eq_getElem?_getD, List.getElem?_append_right (by rw [h.right]; exact Nat.le_refl _), h.right, Nat.sub_self]; rfl
theorem dir_mat {w : World} {Bs : Nat} {Ti Tr : TypeId} {u : Value} {vs : List Value} (h : Sys A B (A.getD 0 []).length) (hr : RowsB w Bs Ti Tr u A.length (dR A B) vs) :
    ∃ g cap rest bb cp ex, u = .slice (some ⟨g, 0, none⟩) A.length cap ∧ A.length ≤ cap ∧ MatO w Bs w.heap.size g Tr Ti rest bb cp ex A.length ((A.getD 0 []).length + 1) (oM A B) := by
  obtain ⟨g, cap, rest, bb, cp, ex, e, hc, hm⟩ := rows_mat hr h.rows.1 (by omega) fun i hi => dR_len h hi
  exact ⟨g, cap, rest, bb, cp, ex, e, hc, hm.congr fun i j hi hj => dR_get h hi (by omega)⟩
theorem trn_mat {w : World} {Bs : Nat} {Ti Tr : TypeId} {u : Value} {vs : List Value} (h : Sys A B (A.getD 0 []).length) (hr : RowsB w Bs Ti Tr u ((A.getD 0 []).length + 1) (tR A B) vs) :
    ∃ g cap rest bb cp ex, u = .slice (some ⟨g, 0, none⟩) ((A.getD 0 []).length + 1) cap ∧ (A.getD 0 []).length + 1 ≤ cap ∧ MatO w Bs w.heap.size g Tr Ti rest bb cp ex ((A.getD 0 []).length + 1) (A.length + 1) (tM A B) := by
  obtain ⟨g, cap, rest, bb, cp, ex, e, hc, hm⟩ := rows_mat hr (by omega) (by omega) fun i _ => tR_len h i
  exact ⟨g, cap, rest, bb, cp, ex, e, hc, hm.congr fun i j hi hj => tR_get h (by omega) (by omega)⟩
end
set_option maxRecDepth 100000 in
theorem fld_run (x : Value) (a : Option Addr) (n c : Nat) (z : Value) (w : World) : (Instr.field 93 (.agg #[x, .slice a n c, z]) 1).run Try.prog w = .ok (.slice a n c) w := by
  first | rfl | kernel_rfl
def orank_post (w : World) (A : List (List Int)) (B : List Int) (e : Ending) (w' : World) : Prop := e = .returned (.tuple #[.int .i64 (oRank A B).1, .int .i64 (oRank A B).2]) ∧ Below w.heap.size w w'
set_option maxRecDepth 100000 in
set_option maxHeartbeats 16000000 in
theorem orank_any (A : List (List Int)) (B : List Int) (va vb : Value) (w : World) (hA : SS w va A) (hB : SI w vb B) :
    Calls Try.prog 18 #[.agg #[va, vb]] w (orank_post w A B) := by
  go_enter Try.func18, Try.ntmps18
  have oS := Own.new w 25 [va, vb]
  have hy := ba1 w (.cells #[va, vb] 25)
  replace hA := hA.below hy
  replace hB := hB.below hy
  obtain ⟨rS, fS⟩ := oS.rules
  have zS := oS.lt
  go_wp2_with fail
  refine (ocheck_any A B _ _ _ hA hB).mono ?_
  rintro e y1 ⟨rfl, hq⟩
  clear rS fS zS
  replace oS := oS.below hq
  replace hA := hA.below hq
  replace hB := hB.below hq
  replace hy := below_to hy hq
  clear hq
  obtain ⟨rS, fS⟩ := oS.rules
  have zS := oS.lt
  by_cases h0 : ocheck A B = 0
  case neg =>
    have HV := Lib.hid (oRank_c h0)
    have b1 : (ocheck A B != 0) = true := by simpa using h0
    clear h0 hA hB
    go_wp2
    go_ret2
    exact ⟨by rw [HV.out]; try rfl, hy⟩
  have SY := Lib.hid (sys_of h0)
  have H0 := Lib.hid h0
  have HV := Lib.hid (oRank_0 h0)
  rw [h0]
  clear h0
  have r1 := SY.out.rows.1
  have W0 := Lib.hid (SY.out.wide 0 r1)
  obtain ⟨ada, capa, e, ha1, ha2, H⟩ := hA.open
  subst e
  obtain ⟨b, off, ad0, cap0, e, d1, d2, d3, _⟩ := H.out 0 r1
  subst e
  rw [W0.out] at d1 d2 d3
  rw [Nat.add_zero] at d1
  clear H
  have rows1 : (0 : Int) < A.length := by omega
  have OI : Hid (RInv A.length (oA A B) (A.getD 0 []).length (ored A B)) := o_inv A B
  have OR : Hid (red A.length (oA A B) (A.getD 0 []).length = ored A B) := rfl
  have DM := Lib.hid (fun (w' : World) (u : Value) (vs : List Value) h => dir_mat (w := w') (Bs := y1.heap.size) (Ti := 2) (Tr := 157) (u := u) (vs := vs) SY.out h)
  have RD := Lib.hid (fun (w' : World) (g cap : Nat) rest bb cp ex hM hc => reduce_any A.length (A.getD 0 []).length ((A.getD 0 []).length + 1) (oM A B) (oA A B) 7 11 w' y1.heap.size g cap rest bb cp ex (fun _ _ _ _ => rfl) (tame_o SY.out) (whl_o A B _ _) hM rfl hc r1)
  generalize hn : (A.getD 0 []).length = n at *
  clear hn
  have zb := World.block_lt_of_cell? _ _ d1
  simp only at zb
  have gl := @grow_lt
  go_wp2
  go_wp2_with fail
  refine wp_region_st [.t [0, 2, 3, 4, 5, 6], .f 1, .f 7] [8, 9, 10, 11] (by kernel_rfl) (by kernel_rfl) (fun _ _ _ _ _ h => h) ?_
  refine wpX_t ?_
  try simp only [opsAt, List.getElem?_toArray, List.getElem?_cons_zero, List.getElem?_cons_succ, Option.getD_some]
  repeat (go_big_quiet_step (fail))
  refine wpQuiet_nil ?_
  have hD := (Below.refl y1.heap.size y1).drew
  refine wpX_f rfl rfl (fun K' hK' => ?_)
  go_simp
  refine (direct_any A B _ _ _ (hA.below hD) (hB.below hD) H0.out).mono ?_
  rintro e z1 ⟨u, vs, rfl, RB, hq1⟩
  have hD1 := below_to hD hq1
  refine hK' _ _ (grow_of hD1) ?_
  clear hK' K'
  obtain ⟨g, cap, rest, bb, cp, ex, rfl, hc, hM⟩ := DM.out z1 u vs (RB.mono hD.size)
  refine wpX_f rfl rfl (fun K' hK' => ?_)
  go_simp
  refine (RD.out z1 g cap rest bb cp ex hM hc).mono ?_
  rintro e z2 ⟨ub, L, M, bb2, cp2, ex2, rest2, rfl, hM2, hU, hBar, hq2⟩
  have hD2 := hD1.trans hq2
  refine hK' _ _ (grow_of hD2) ?_
  clear hK' K'
  rw [OR.out] at hU hBar
  obtain ⟨adu, capu, rfl, _, _, _⟩ := hU.open
  have KB := bints_len (ored A B).bnd
  refine wpX_nil ?_
  try simp only [opsAt, List.getElem?_toArray, List.getElem?_cons_zero, List.getElem?_cons_succ, Option.getD_some]
  clear gl rS fS zS
  replace hy := below_to hy hD2
  have FL := @fld_run
  go_wp2
  go_ret2
  exact ⟨by rw [HV.out]; simp [KB], hy⟩
def osolve_post (w : World) (r : List (Int × Int) × List (List (Int × Int)) × Int) (e : Ending) (w' : World) : Prop := ∃ u1 u2, e = .returned (.tuple #[u1, u2, .int .i64 r.2.2]) ∧ SF w' u1 r.1 ∧ SFF w' u2 r.2.1 ∧ Below w.heap.size w w'
set_option maxRecDepth 100000 in
set_option maxHeartbeats 16000000 in
theorem osolve_any (A : List (List Int)) (B : List Int) (va vb : Value) (w : World) (hA : SS w va A) (hB : SI w vb B) :
    Calls Try.prog 14 #[.agg #[va, vb]] w (osolve_post w (oSolve A B)) := by
  go_enter Try.func14, Try.ntmps14
  have oS := Own.new w 25 [va, vb]
  have hy := ba1 w (.cells #[va, vb] 25)
  replace hA := hA.below hy
  replace hB := hB.below hy
  obtain ⟨rS, fS⟩ := oS.rules
  have zS := oS.lt
  go_wp2_with fail
  refine (ocheck_any A B _ _ _ hA hB).mono ?_
  rintro e y1 ⟨rfl, hq⟩
  clear rS fS zS
  replace oS := oS.below hq
  replace hA := hA.below hq
  replace hB := hB.below hq
  replace hy := below_to hy hq
  clear hq
  obtain ⟨rS, fS⟩ := oS.rules
  have zS := oS.lt
  by_cases h0 : ocheck A B = 0
  case neg =>
    have HV := Lib.hid (oSolve_c h0)
    have b1 : (ocheck A B != 0) = true := by simpa using h0
    clear h0 hA hB
    go_wp2
    refine bodyPost_ret (v := .tuple #[.slice none 0 0, .slice none 0 0, .int .i64 (ocheck A B)]) (by simp [results, Try.results14, go_sem]) rfl ⟨_, _, by rw [HV.out], by rw [HV.out]; exact sf_nil _, by rw [HV.out]; exact sff_nil _, hy⟩
  have SY := Lib.hid (sys_of h0)
  have H0 := Lib.hid h0
  have HV6 := Lib.hid (fun h => oSolve_6 h0 h)
  have HV0 := Lib.hid (fun h => oSolve_0 h0 h)
  rw [h0]
  clear h0
  have r1 := SY.out.rows.1
  have W0 := Lib.hid (SY.out.wide 0 r1)
  obtain ⟨ada, capa, e, ha1, ha2, H⟩ := hA.open
  subst e
  obtain ⟨b, off, ad0, cap0, e, d1, d2, d3, _⟩ := H.out 0 r1
  subst e
  rw [W0.out] at d1 d2 d3
  rw [Nat.add_zero] at d1
  clear H
  have rows1 : (0 : Int) < A.length := by omega
  have OR : Hid (red A.length (oA A B) (A.getD 0 []).length = ored A B) := rfl
  have DM := Lib.hid (fun (w' : World) (u : Value) (vs : List Value) h => dir_mat (w := w') (Bs := y1.heap.size) (Ti := 2) (Tr := 157) (u := u) (vs := vs) SY.out h)
  have RD := Lib.hid (fun (w' : World) (g cap : Nat) rest bb cp ex hM hc => reduce_any A.length (A.getD 0 []).length ((A.getD 0 []).length + 1) (oM A B) (oA A B) 7 11 w' y1.heap.size g cap rest bb cp ex (fun _ _ _ _ => rfl) (tame_o SY.out) (whl_o A B _ _) hM rfl hc r1)
  have PL := Lib.hid (fun (w' : World) (Lm g cap : Nat) rest bb cp ex M L ub hM hu hb hc => oplain_any A.length (A.getD 0 []).length ((A.getD 0 []).length + 1) (oA A B) (ored A B) M L 7 11 ub w' y1.heap.size Lm g cap rest bb cp ex hM hu hb (o_inv A B) (tame_o SY.out) (whl_o A B _ _) hc (Nat.lt_succ_self _))
  have BA := Lib.hid (fun (w' : World) (Lm g cap : Nat) rest bb cp ex M L ub hM hu hb hc => obasis_any A.length (A.getD 0 []).length ((A.getD 0 []).length + 1) (oA A B) (ored A B) M L 7 11 ub w' y1.heap.size Lm g cap rest bb cp ex hM hu hb (o_inv A B) (tame_o SY.out) (whl_o A B _ _) hc (Nat.lt_succ_self _))
  generalize hn : (A.getD 0 []).length = n at *
  clear hn
  go_wp2_with fail
  refine (direct_any A B _ _ _ hA hB H0.out).mono ?_
  rintro e z1 ⟨u, vs, rfl, RB, hq⟩
  obtain ⟨g, cap, rest, bb, cp, ex, rfl, hc, hM⟩ := DM.out z1 u vs RB
  have hD := hq
  replace oS := oS.below hq
  clear hq rS fS zS oS d1
  go_wp2_with fail
  refine (RD.out z1 g cap rest bb cp ex hM hc).mono ?_
  rintro e z2 ⟨ub, L, M, bb2, cp2, ex2, rest2, rfl, hM2, hU, hBar, hq⟩
  replace hD := hD.trans hq
  clear hq hM
  rw [OR.out] at hU hBar
  obtain ⟨adu, capu, rfl, _, _, _⟩ := hU.open
  have oT := Own.new z2 93 [.slice (some ⟨g, 0, none⟩) A.length cap, .slice adu (bints (ored A B).bnd).length capu, .int .i64 L]
  have hq := ba1 z2 (.cells #[.slice (some ⟨g, 0, none⟩) A.length cap, .slice adu (bints (ored A B).bnd).length capu, .int .i64 L] 93)
  go_upto_region 6 with fail
  replace hM2 := hM2.below hq
  replace hU := hU.below hq
  replace hD := below_to hD hq
  clear hq
  obtain ⟨bT, hT⟩ : ∃ b, b = z2.heap.size := ⟨_, rfl⟩
  rw [← hT] at oT ⊢
  clear hT
  generalize z2.alloc (.cells #[.slice (some ⟨g, 0, none⟩) A.length cap, .slice adu (bints (ored A B).bnd).length capu, .int .i64 L] 93) = z3 at *
  obtain ⟨rT, fT⟩ := oT.rules
  have zT := oT.lt
  go_wp2_with fail
  refine (PL.out z3 _ g cap rest2 bb2 cp2 ex2 M L _ hM2 hU hBar hc).mono ?_
  rintro e z4 ⟨u1, rfl, s1, hq⟩
  clear rT fT zT
  replace oT := oT.below hq
  replace hM2 := hM2.below hq
  replace hU := hU.below hq
  replace hD := below_to hD hq
  clear hq
  cases hs : solvB A.length n (ored A B) with
  | false =>
    have HV := Lib.hid (HV6.out hs)
    clear hs s1 hM2 hU oT
    go_wp2
    refine bodyPost_ret (v := .tuple #[.slice none 0 0, .slice none 0 0, .int .i64 6]) (by simp [results, Try.results14, go_sem]) rfl ⟨_, _, by rw [HV.out], by rw [HV.out]; exact sf_nil _, by rw [HV.out]; exact sff_nil _, below_to hy hD⟩
  | true =>
    have HV := Lib.hid (HV0.out hs)
    rw [hs, if_pos rfl] at s1
    clear hs
    obtain ⟨rT, fT⟩ := oT.rules
    have zT := oT.lt
    go_wp2_with fail
    refine (BA.out z4 _ g cap rest2 bb2 cp2 ex2 M L _ hM2 hU hBar hc).mono ?_
    rintro e z5 ⟨u2, rfl, s2, hq⟩
    clear rT fT zT hM2 hU oT
    replace s1 := s1.below hq
    replace hD := below_to hD hq
    clear hq
    go_wp2
    refine bodyPost_ret (v := .tuple #[u1, u2, .int .i64 0]) (by simp [results, Try.results14, go_sem]) rfl ⟨_, _, by rw [HV.out], by rw [HV.out]; exact s1, by rw [HV.out]; exact s2, below_to hy hD⟩
def orefute_post (w : World) (r : List (Int × Int) × Int) (e : Ending) (w' : World) : Prop := ∃ u1, e = .returned (.tuple #[u1, .int .i64 r.2]) ∧ SF w' u1 r.1 ∧ Below w.heap.size w w'
set_option maxRecDepth 100000 in
set_option maxHeartbeats 16000000 in
theorem orefute_any (A : List (List Int)) (B : List Int) (va vb : Value) (w : World) (hA : SS w va A) (hB : SI w vb B) :
    Calls Try.prog 21 #[.agg #[va, vb]] w (orefute_post w (oRefute A B)) := by
  go_enter Try.func21, Try.ntmps21
  have oS := Own.new w 25 [va, vb]
  have hy := ba1 w (.cells #[va, vb] 25)
  replace hA := hA.below hy
  replace hB := hB.below hy
  obtain ⟨rS, fS⟩ := oS.rules
  have zS := oS.lt
  go_wp2_with fail
  refine (ocheck_any A B _ _ _ hA hB).mono ?_
  rintro e y1 ⟨rfl, hq⟩
  clear rS fS zS
  replace oS := oS.below hq
  replace hA := hA.below hq
  replace hB := hB.below hq
  replace hy := below_to hy hq
  clear hq
  obtain ⟨rS, fS⟩ := oS.rules
  have zS := oS.lt
  by_cases h0 : ocheck A B = 0
  case neg =>
    have HV := Lib.hid (oRefute_c h0)
    have b1 : (ocheck A B != 0) = true := by simpa using h0
    clear h0 hA hB
    go_wp2
    go_ret2
    exact ⟨_, by rw [HV.out]; try rfl, by rw [HV.out]; exact sf_nil _, hy⟩
  have SY := Lib.hid (sys_of h0)
  have H0 := Lib.hid h0
  have HV6 := Lib.hid (fun h => oRefute_6 h0 h)
  have HV0 := Lib.hid (fun h => oRefute_0 h0 h)
  rw [h0]
  clear h0
  have r1 := SY.out.rows.1
  obtain ⟨ada, capa, e, ha1, ha2, _⟩ := hA.open
  subst e
  have OR : Hid (red ((A.getD 0 []).length + 1) (trn A.length (A.getD 0 []).length (oA A B)) A.length = tred A B) := rfl
  have DM := Lib.hid (fun (w' : World) (u : Value) (vs : List Value) h => trn_mat (w := w') (Bs := y1.heap.size) (Ti := 2) (Tr := 157) (u := u) (vs := vs) SY.out h)
  have RD := Lib.hid (fun (w' : World) (g cap : Nat) rest bb cp ex hM hc => reduce_any ((A.getD 0 []).length + 1) A.length (A.length + 1) (tM A B) (trn A.length (A.getD 0 []).length (oA A B)) (A.getD 0 []).length (1 / 99) w' y1.heap.size g cap rest bb cp ex (fun t r _ _ => (tM_trn A B t r).symm) (tame_t SY.out) (whl_t A B _ _) hM rfl hc (by omega))
  have PL := Lib.hid (fun (w' : World) (Lm g cap : Nat) rest bb cp ex M L ub hM hu hb hc => oplain_any ((A.getD 0 []).length + 1) A.length (A.length + 1) (trn A.length (A.getD 0 []).length (oA A B)) (tred A B) M L (A.getD 0 []).length (1 / 99) ub w' y1.heap.size Lm g cap rest bb cp ex hM hu hb (t_inv A B) (tame_t SY.out) (whl_t A B _ _) hc (Nat.lt_succ_self _))
  have TU := Lib.hid (turned_any A B (.slice ada A.length capa) vb)
  generalize (A.getD 0 []).length + 1 = n1 at *
  have gl := @grow_lt
  go_wp2
  go_wp2_with fail
  refine wp_region_stt [.t [0, 2, 3, 4, 6, 7, 8], .f 1, .f 5, .f 9] [10, 11, 12] [13, 14] (by kernel_rfl) (by kernel_rfl) (fun _ _ _ _ _ h => h) ?_
  refine wpX_t ?_
  try simp only [opsAt, List.getElem?_toArray, List.getElem?_cons_zero, List.getElem?_cons_succ, Option.getD_some]
  repeat (go_big_quiet_step (fail))
  refine wpQuiet_nil ?_
  have hD := (Below.refl y1.heap.size y1).drew
  refine wpX_f rfl rfl (fun K' hK' => ?_)
  go_simp
  refine (TU.out _ (hA.below hD) (hB.below hD) H0.out).mono ?_
  rintro e z1 ⟨u, vs, rfl, RB, hq1⟩
  have hD1 := below_to hD hq1
  refine hK' _ _ (grow_of hD1) ?_
  clear hK' K'
  obtain ⟨g, cap, rest, bb, cp, ex, rfl, hc, hM⟩ := DM.out z1 u vs (RB.mono hD.size)
  refine wpX_f rfl rfl (fun K' hK' => ?_)
  go_simp
  refine (RD.out z1 g cap rest bb cp ex hM hc).mono ?_
  rintro e z2 ⟨ub, L, M, bb2, cp2, ex2, rest2, rfl, hM2, hU, hBar, hq2⟩
  have hD2 := hD1.trans hq2
  refine hK' _ _ (grow_of hD2) ?_
  clear hK' K'
  rw [OR.out] at hU hBar
  refine wpX_f rfl rfl (fun K' hK' => ?_)
  go_simp
  refine (PL.out z2 _ g cap rest2 bb2 cp2 ex2 M L _ hM2 hU hBar hc).mono ?_
  rintro e z3 ⟨u1, rfl, s1, hq3⟩
  have hD3 := below_to hD2 hq3
  refine hK' _ _ (grow_of hD3) ?_
  clear hK' K'
  refine wpX_nil ?_
  try simp only [opsAt, List.getElem?_toArray, List.getElem?_cons_zero, List.getElem?_cons_succ, Option.getD_some]
  repeat (go_big_quiet_step (fail))
  refine wpQuiet_nil ?_
  try simp only [opsAt, List.getElem?_toArray, List.getElem?_cons_zero, List.getElem?_cons_succ, Option.getD_some]
  clear gl rS fS zS hM2 hU
  replace hy := below_to hy hD3
  cases hs : solvB n1 A.length (tred A B) with
  | false =>
    have HV := Lib.hid (HV6.out hs)
    clear hs s1
    go_wp2
    go_ret2
    exact ⟨_, by rw [HV.out]; try rfl, by rw [HV.out]; exact sf_nil _, hy⟩
  | true =>
    have HV := Lib.hid (HV0.out hs)
    rw [hs, if_pos rfl] at s1
    clear hs
    go_wp2
    go_ret2
    exact ⟨_, by rw [HV.out]; try rfl, by rw [HV.out]; exact s1, hy⟩
end Go.Proofs.Ythlcmlngmcoknaa

/- What is proved here: fringelaw29's systems and whole numbers as fractions; the reference's Same and SameAll of equal lists. Condition: as each theorem says. -/
namespace Go.Proofs.Ythlcmlngmcoknaa
open Go.RowKit

set_option maxRecDepth 100000 in
set_option maxHeartbeats 4000000 in
theorem example29_any (w : World) : Calls Try.prog 59 #[] w fun e w' => ∃ u v, e = .returned (.agg #[u, v]) ∧ SS w' u [[1, 1, 1], [0, 1, -1]] ∧ SI w' v [6, 1] ∧ Below w.heap.size w w' := by
  have oR := Own.new w 25 [.slice none 0 0, .slice none 0 0]
  have hy := ba1 w (.cells #[.slice none 0 0, .slice none 0 0] 25)
  go_enter Try.func59, Try.ntmps59
  go_upto_region 1 with fail
  have zR0 : w.heap.size < w.heap.size + 1 := by omega
  obtain ⟨bR, hR⟩ : ∃ b, b = w.heap.size := ⟨_, rfl⟩
  have zR1 : w.heap.size ≤ bR := by omega
  rw [← hR] at oR ⊢
  clear hR zR0
  generalize w.alloc (.cells #[.slice none 0 0, .slice none 0 0] 25) = y0 at *
  have zR := oR.lt
  have zy := hy.size
  have o1 := ((own_first y0 3 [.int .i64 1, .int .i64 1, .int .i64 1] (.cells #[.int .i64 0, .int .i64 1, .int .i64 (-1)] 3)).alloc (.cells #[.slice (some ⟨y0.heap.size, 0, none⟩) 3 3, .slice (some ⟨y0.heap.size + 1, 0, none⟩) 3 3] 23)).alloc (.cells #[.int .i64 6, .int .i64 1] 3)
  have o2 := ((own_second y0 3 [.int .i64 0, .int .i64 1, .int .i64 (-1)] (.cells #[.int .i64 1, .int .i64 1, .int .i64 1] 3)).alloc (.cells #[.slice (some ⟨y0.heap.size, 0, none⟩) 3 3, .slice (some ⟨y0.heap.size + 1, 0, none⟩) 3 3] 23)).alloc (.cells #[.int .i64 6, .int .i64 1] 3)
  have o3 := (own_third y0 23 [.slice (some ⟨y0.heap.size, 0, none⟩) 3 3, .slice (some ⟨y0.heap.size + 1, 0, none⟩) 3 3] (.cells #[.int .i64 1, .int .i64 1, .int .i64 1] 3) (.cells #[.int .i64 0, .int .i64 1, .int .i64 (-1)] 3)).alloc (.cells #[.int .i64 6, .int .i64 1] 3)
  have o4 := own_fourth y0 3 [.int .i64 6, .int .i64 1] (.cells #[.int .i64 1, .int .i64 1, .int .i64 1] 3) (.cells #[.int .i64 0, .int .i64 1, .int .i64 (-1)] 3) (.cells #[.slice (some ⟨y0.heap.size, 0, none⟩) 3 3, .slice (some ⟨y0.heap.size + 1, 0, none⟩) 3 3] 23)
  have o0 := oR.below (ba4 y0 (.cells #[.int .i64 1, .int .i64 1, .int .i64 1] 3) (.cells #[.int .i64 0, .int .i64 1, .int .i64 (-1)] 3) (.cells #[.slice (some ⟨y0.heap.size, 0, none⟩) 3 3, .slice (some ⟨y0.heap.size + 1, 0, none⟩) 3 3] 23) (.cells #[.int .i64 6, .int .i64 1] 3))
  have hB := (below_to hy (ba4 y0 (.cells #[.int .i64 1, .int .i64 1, .int .i64 1] 3) (.cells #[.int .i64 0, .int .i64 1, .int .i64 (-1)] 3) (.cells #[.slice (some ⟨y0.heap.size, 0, none⟩) 3 3, .slice (some ⟨y0.heap.size + 1, 0, none⟩) 3 3] 23) (.cells #[.int .i64 6, .int .i64 1] 3)))
  have c1 := ((o1).other (g' := bR) (by omega) 0 (.slice (some ⟨y0.heap.size + 1 + 1, 0, none⟩) 2 2)).other (g' := bR) (by omega) 1 (.slice (some ⟨y0.heap.size + 1 + 1 + 1, 0, none⟩) 2 2)
  have c2 := ((o2).other (g' := bR) (by omega) 0 (.slice (some ⟨y0.heap.size + 1 + 1, 0, none⟩) 2 2)).other (g' := bR) (by omega) 1 (.slice (some ⟨y0.heap.size + 1 + 1 + 1, 0, none⟩) 2 2)
  have c3 := ((o3).other (g' := bR) (by omega) 0 (.slice (some ⟨y0.heap.size + 1 + 1, 0, none⟩) 2 2)).other (g' := bR) (by omega) 1 (.slice (some ⟨y0.heap.size + 1 + 1 + 1, 0, none⟩) 2 2)
  have c4 := ((o4).other (g' := bR) (by omega) 0 (.slice (some ⟨y0.heap.size + 1 + 1, 0, none⟩) 2 2)).other (g' := bR) (by omega) 1 (.slice (some ⟨y0.heap.size + 1 + 1 + 1, 0, none⟩) 2 2)
  have c0 := (o0.set 0 (.slice (some ⟨y0.heap.size + 1 + 1, 0, none⟩) 2 2)).set 1 (.slice (some ⟨y0.heap.size + 1 + 1 + 1, 0, none⟩) 2 2)
  have hB2 := (hB.setCell (p := ⟨bR, 0, none⟩) zR1 (.slice (some ⟨y0.heap.size + 1 + 1, 0, none⟩) 2 2)).setCell (p := ⟨bR, 1, none⟩) zR1 (.slice (some ⟨y0.heap.size + 1 + 1 + 1, 0, none⟩) 2 2)
  have s1 := si_of_own [1, 1, 1] 3 rfl (by decide) c1
  have s2 := si_of_own [0, 1, -1] 3 rfl (by decide) c2
  have s3 := ss_of_own [[1, 1, 1], [0, 1, -1]] [.slice (some ⟨y0.heap.size, 0, none⟩) 3 3, .slice (some ⟨y0.heap.size + 1, 0, none⟩) 3 3] 2 rfl rfl (by decide) c3 (fun i h h' => by
    rcases (show i = 0 ∨ i = 1 by simp at h; omega) with rfl | rfl
    · exact s1
    · exact s2)
  have s4 := si_of_own [6, 1] 2 rfl (by decide) c4
  obtain ⟨r0, f0⟩ := o0.rules
  have z0 := o0.lt
  go_wp2
  refine bp_gen' (fun X => Own X bR 25 [.slice (some ⟨y0.heap.size + 1 + 1, 0, none⟩) 2 2, .slice (some ⟨y0.heap.size + 1 + 1 + 1, 0, none⟩) 2 2] ∧ SS X (.slice (some ⟨y0.heap.size + 1 + 1, 0, none⟩) 2 2) [[1, 1, 1], [0, 1, -1]] ∧ SI X (.slice (some ⟨y0.heap.size + 1 + 1 + 1, 0, none⟩) 2 2) [6, 1] ∧ Below w.heap.size w X) ⟨c0, s3, s4, hB2⟩ ?_
  rintro wz ⟨oz, sz1, sz2, bz⟩
  obtain ⟨rz, fz⟩ := oz.rules
  refine bodyPost_ret (v := .agg #[.slice (some ⟨y0.heap.size + 1 + 1, 0, none⟩) 2 2, .slice (some ⟨y0.heap.size + 1 + 1 + 1, 0, none⟩) 2 2]) (by simp [results, Try.results59, go_sem, rz]) rfl ⟨_, _, rfl, sz1, sz2, bz⟩
set_option maxRecDepth 100000 in
set_option maxHeartbeats 4000000 in
theorem against29_any (w : World) : Calls Try.prog 60 #[] w fun e w' => ∃ u v, e = .returned (.agg #[u, v]) ∧ SS w' u [[1, 1], [2, 2]] ∧ SI w' v [1, 3] ∧ Below w.heap.size w w' := by
  have oR := Own.new w 25 [.slice none 0 0, .slice none 0 0]
  have hy := ba1 w (.cells #[.slice none 0 0, .slice none 0 0] 25)
  go_enter Try.func60, Try.ntmps60
  go_upto_region 1 with fail
  have zR0 : w.heap.size < w.heap.size + 1 := by omega
  obtain ⟨bR, hR⟩ : ∃ b, b = w.heap.size := ⟨_, rfl⟩
  have zR1 : w.heap.size ≤ bR := by omega
  rw [← hR] at oR ⊢
  clear hR zR0
  generalize w.alloc (.cells #[.slice none 0 0, .slice none 0 0] 25) = y0 at *
  have zR := oR.lt
  have zy := hy.size
  have o1 := ((own_first y0 3 [.int .i64 1, .int .i64 1] (.cells #[.int .i64 2, .int .i64 2] 3)).alloc (.cells #[.slice (some ⟨y0.heap.size, 0, none⟩) 2 2, .slice (some ⟨y0.heap.size + 1, 0, none⟩) 2 2] 23)).alloc (.cells #[.int .i64 1, .int .i64 3] 3)
  have o2 := ((own_second y0 3 [.int .i64 2, .int .i64 2] (.cells #[.int .i64 1, .int .i64 1] 3)).alloc (.cells #[.slice (some ⟨y0.heap.size, 0, none⟩) 2 2, .slice (some ⟨y0.heap.size + 1, 0, none⟩) 2 2] 23)).alloc (.cells #[.int .i64 1, .int .i64 3] 3)
  have o3 := (own_third y0 23 [.slice (some ⟨y0.heap.size, 0, none⟩) 2 2, .slice (some ⟨y0.heap.size + 1, 0, none⟩) 2 2] (.cells #[.int .i64 1, .int .i64 1] 3) (.cells #[.int .i64 2, .int .i64 2] 3)).alloc (.cells #[.int .i64 1, .int .i64 3] 3)
  have o4 := own_fourth y0 3 [.int .i64 1, .int .i64 3] (.cells #[.int .i64 1, .int .i64 1] 3) (.cells #[.int .i64 2, .int .i64 2] 3) (.cells #[.slice (some ⟨y0.heap.size, 0, none⟩) 2 2, .slice (some ⟨y0.heap.size + 1, 0, none⟩) 2 2] 23)
  have o0 := oR.below (ba4 y0 (.cells #[.int .i64 1, .int .i64 1] 3) (.cells #[.int .i64 2, .int .i64 2] 3) (.cells #[.slice (some ⟨y0.heap.size, 0, none⟩) 2 2, .slice (some ⟨y0.heap.size + 1, 0, none⟩) 2 2] 23) (.cells #[.int .i64 1, .int .i64 3] 3))
  have hB := (below_to hy (ba4 y0 (.cells #[.int .i64 1, .int .i64 1] 3) (.cells #[.int .i64 2, .int .i64 2] 3) (.cells #[.slice (some ⟨y0.heap.size, 0, none⟩) 2 2, .slice (some ⟨y0.heap.size + 1, 0, none⟩) 2 2] 23) (.cells #[.int .i64 1, .int .i64 3] 3)))
  have c1 := ((o1).other (g' := bR) (by omega) 0 (.slice (some ⟨y0.heap.size + 1 + 1, 0, none⟩) 2 2)).other (g' := bR) (by omega) 1 (.slice (some ⟨y0.heap.size + 1 + 1 + 1, 0, none⟩) 2 2)
  have c2 := ((o2).other (g' := bR) (by omega) 0 (.slice (some ⟨y0.heap.size + 1 + 1, 0, none⟩) 2 2)).other (g' := bR) (by omega) 1 (.slice (some ⟨y0.heap.size + 1 + 1 + 1, 0, none⟩) 2 2)
  have c3 := ((o3).other (g' := bR) (by omega) 0 (.slice (some ⟨y0.heap.size + 1 + 1, 0, none⟩) 2 2)).other (g' := bR) (by omega) 1 (.slice (some ⟨y0.heap.size + 1 + 1 + 1, 0, none⟩) 2 2)
  have c4 := ((o4).other (g' := bR) (by omega) 0 (.slice (some ⟨y0.heap.size + 1 + 1, 0, none⟩) 2 2)).other (g' := bR) (by omega) 1 (.slice (some ⟨y0.heap.size + 1 + 1 + 1, 0, none⟩) 2 2)
  have c0 := (o0.set 0 (.slice (some ⟨y0.heap.size + 1 + 1, 0, none⟩) 2 2)).set 1 (.slice (some ⟨y0.heap.size + 1 + 1 + 1, 0, none⟩) 2 2)
  have hB2 := (hB.setCell (p := ⟨bR, 0, none⟩) zR1 (.slice (some ⟨y0.heap.size + 1 + 1, 0, none⟩) 2 2)).setCell (p := ⟨bR, 1, none⟩) zR1 (.slice (some ⟨y0.heap.size + 1 + 1 + 1, 0, none⟩) 2 2)
  have s1 := si_of_own [1, 1] 2 rfl (by decide) c1
  have s2 := si_of_own [2, 2] 2 rfl (by decide) c2
  have s3 := ss_of_own [[1, 1], [2, 2]] [.slice (some ⟨y0.heap.size, 0, none⟩) 2 2, .slice (some ⟨y0.heap.size + 1, 0, none⟩) 2 2] 2 rfl rfl (by decide) c3 (fun i h h' => by
    rcases (show i = 0 ∨ i = 1 by simp at h; omega) with rfl | rfl
    · exact s1
    · exact s2)
  have s4 := si_of_own [1, 3] 2 rfl (by decide) c4
  obtain ⟨r0, f0⟩ := o0.rules
  have z0 := o0.lt
  go_wp2
  refine bp_gen' (fun X => Own X bR 25 [.slice (some ⟨y0.heap.size + 1 + 1, 0, none⟩) 2 2, .slice (some ⟨y0.heap.size + 1 + 1 + 1, 0, none⟩) 2 2] ∧ SS X (.slice (some ⟨y0.heap.size + 1 + 1, 0, none⟩) 2 2) [[1, 1], [2, 2]] ∧ SI X (.slice (some ⟨y0.heap.size + 1 + 1 + 1, 0, none⟩) 2 2) [1, 3] ∧ Below w.heap.size w X) ⟨c0, s3, s4, hB2⟩ ?_
  rintro wz ⟨oz, sz1, sz2, bz⟩
  obtain ⟨rz, fz⟩ := oz.rules
  refine bodyPost_ret (v := .agg #[.slice (some ⟨y0.heap.size + 1 + 1, 0, none⟩) 2 2, .slice (some ⟨y0.heap.size + 1 + 1 + 1, 0, none⟩) 2 2]) (by simp [results, Try.results60, go_sem, rz]) rfl ⟨_, _, rfl, sz1, sz2, bz⟩
def whole (l : List Int) : List (Int × Int) := l.map fun x => (x, 1)
theorem whole_take {l : List Int} {k : Nat} (hk : k < l.length) : whole (l.take (k + 1)) = whole (l.take k) ++ [(l[k], 1)] := by
  unfold whole; rw [List.take_succ_eq_append_getElem hk, List.map_append]; rfl
theorem whole_len (l : List Int) : (whole l).length = l.length := by simp [whole]
set_option maxRecDepth 100000 in
set_option maxHeartbeats 4000000 in
theorem whole29_any (l : List Int) (v : Value) (w : World) (hs : SI w v l) (hl : l.length ≤ 100) : Calls Try.prog 49 #[v] w fun e w' => ∃ u, e = .returned u ∧ SF w' u (whole l) ∧ Below w.heap.size w w' := by
  have S0 := Lib.hid hs
  obtain ⟨ad, cap, rfl, h1, h2, _⟩ := hs.open
  clear hs
  go_enter Try.func49, Try.ntmps49
  go_wp2
  go_loopw [3, 4] (fun ov i wr => ∃ k : Nat, k ≤ l.length ∧ i = .int .i64 k ∧ wr.ownsRow w.heap.size 78 2 ov k (fcs (whole (l.take k))) ∧ Below w.heap.size w wr) (fun _ i _ => l.length + 1 - (intOf i).toNat)
  case atStart => exact ⟨0, Nat.zero_le _, rfl, World.ownsRow_nil _ _ _ _, Below.refl _ _⟩
  case round =>
    obtain ⟨k, hk, rfl, ow, hB⟩ := hrel
    rename World => W
    obtain ⟨ad4, cap4, e4⟩ := oslice ow
    subst e4
    by_cases hlt : k < l.length
    · obtain ⟨_, _, e, _, _, H⟩ := (S0.out.below hB).open
      cases e
      obtain ⟨b, off, e, c1⟩ := H.out k hlt
      subst e
      clear H
      have WT := Lib.hid (whole_take hlt)
      generalize l[k] = x at *
      go_wp2_with fail
      refine (rof_any x _).mono ?_
      rintro e y1 ⟨rfl, hq⟩
      have ow2 := owns_at ow hq
      have hB2 := below_to hB hq
      have zB := hB2.size
      clear ow hB hq c1
      go_wp2_with (at_builtin; refine wpList_app _ rfl _ _ _ rfl w.heap.size 78 2 16 (.agg #[.int .i64 0, .int .i64 0]) Try.underlying28 Try.infoFrac rfl (by omega) (by omega) _ k _ rfl (ow2.alloc _) (by omega) (by simp; omega) y1.heap.size [.int .i64 x, .int .i64 1] (0, 0) rfl (heap_alloc_new y1 _) rfl (by simp [Value.oneCell']) ?_; intro g cap2 w2 hown hg hbw)
      go_roundw
      case rel =>
        refine ⟨k + 1, by omega, by go_num, ?_, ?_⟩
        · rw [WT.out, fcs_append]; exact hown
        · exact (below_to hB2 (ba1 y1 _)).trans (hbw.mono (Nat.le_refl _))
      case measure => simp [intOf]; try omega
    · obtain rfl : k = l.length := by omega
      rw [List.take_of_length_le (Nat.le_refl _)] at ow
      have SW : SF W (.slice ad4 l.length cap4) (whole l) := by unfold SF; rw [whole_len]; exact owns_sl ow (by omega)
      go_wp2
      go_ret
      exact ⟨_, rfl, SW, hB⟩
theorem same29_true (xs : List (Int × Int)) (u v : Value) (w : World) (hs : SF w u xs) (ht : SF w v xs) :
    Calls Try.prog 15 #[u, v] w fun e w' => e = .returned (.bool true) ∧ Below w.heap.size w w' :=
  (rsame_any xs xs u v w hs ht).mono fun _ _ ⟨he, hb⟩ => ⟨by rw [he, decide_eq_true rfl], hb⟩
set_option maxRecDepth 100000 in
set_option maxHeartbeats 4000000 in
theorem sameall_true (xss : List (List (Int × Int))) (v1 v2 : Value) (w : World) (h1 : SFF w v1 xss) (h2 : SFF w v2 xss) :
    Calls Try.prog 16 #[v1, v2] w fun e w' => e = .returned (.bool true) ∧ Below w.heap.size w w' := by
  have S1 := Lib.hid h1
  have S2 := Lib.hid h2
  obtain ⟨ad1, cap1, rfl, l1, l2, _⟩ := h1.open
  obtain ⟨ad2, cap2, rfl, l3, l4, _⟩ := h2.open
  clear h1 h2
  go_enter Try.func16, Try.ntmps16
  go_wp2
  go_loopw [5] (fun i wr => ∃ k : Nat, k ≤ xss.length ∧ i = .int .i64 k ∧ Below w.heap.size w wr) (fun i _ => xss.length + 1 - (intOf i).toNat)
  case atStart => exact ⟨0, Nat.zero_le _, rfl, Below.refl _ _⟩
  case round =>
    obtain ⟨k, hk, rfl, hB⟩ := hrel
    rename World => W
    by_cases hlt : k < xss.length
    · obtain ⟨_, _, e, _, _, H⟩ := (S1.out.below hB).open
      cases e
      obtain ⟨b, off, ad', cap', e, c1, _, _, s1⟩ := H.out k hlt
      subst e
      obtain ⟨_, _, e, _, _, H'⟩ := (S2.out.below hB).open
      cases e
      obtain ⟨b', off', ad'', cap'', e, c2, _, _, s2⟩ := H'.out k hlt
      subst e
      clear H H'
      generalize xss.getD k [] = xs at *
      have zb := World.block_lt_of_cell? _ _ c1
      have zb2 := World.block_lt_of_cell? _ _ c2
      simp only at zb zb2
      have gl := @grow_lt
      have hD := (Below.refl W.heap.size W).drew
      go_wp2
      go_wp2_with fail
      refine wp_region_st [.t [0, 1, 2, 3, 4, 5, 6, 7], .f 8] [9] (by kernel_rfl) (by kernel_rfl) (fun _ _ _ _ _ h => h) ?_
      refine wpX_t ?_
      try simp only [opsAt, List.getElem?_toArray, List.getElem?_cons_zero, List.getElem?_cons_succ, Option.getD_some]
      repeat (go_big_quiet_step (fail))
      refine wpQuiet_nil ?_
      refine wpX_f rfl rfl (fun K' hK' => ?_)
      go_simp
      refine (same29_true xs _ _ _ (s1.below hD) (s2.below hD)).mono ?_
      rintro e z1 ⟨rfl, hq1⟩
      refine hK' _ _ (grow_of (below_to hD hq1)) ?_
      clear hK' K'
      refine wpX_nil ?_
      try simp only [opsAt, List.getElem?_toArray, List.getElem?_cons_zero, List.getElem?_cons_succ, Option.getD_some]
      clear gl c1 c2 zb zb2
      replace hB := below_to hB (below_to hD hq1)
      go_wp2
      go_roundw
      case rel => exact ⟨k + 1, by omega, by go_num, hB⟩
      case measure => simp [intOf]; try omega
    · obtain rfl : k = xss.length := by omega
      go_wp2
      go_ret
      exact ⟨rfl, hB⟩
end Go.Proofs.Ythlcmlngmcoknaa

/- What is proved here: fringelaw29.alive returns true. No condition. -/
namespace Go.Proofs.Ythlcmlngmcoknaa
open Go.RowKit

theorem sff_one {w : World} {g : Nat} {T : TypeId} {v : Value} {xs : List (Int × Int)} (h : Own w g T [v]) (hs : SF w v xs) : SFF w (.slice (some ⟨g, 0, none⟩) 1 1) [xs] :=
  ⟨[v], rfl, h.sl 1 (Nat.le_refl _) (by omega) _ ⟨[], by simp⟩, fun i hi hi' => by
    obtain rfl : i = 0 := by simp at hi; omega
    exact hs⟩
set_option maxRecDepth 100000 in
set_option maxHeartbeats 16000000 in
theorem alive29_any (w : World) : Calls Try.prog 12 #[] w fun e w' => e = .returned (.bool true) ∧ Below w.heap.size w w' := by
  go_enter Try.func12, Try.ntmps12
  have hy := Below.refl w.heap.size w
  go_wp2_with fail
  refine (example29_any _).mono ?_
  rintro e y1 ⟨va, vb, rfl, sA, sB, hq⟩
  replace hy := below_to hy hq
  clear hq
  go_wp2_with fail
  refine (osolve_any [[1, 1, 1], [0, 1, -1]] [6, 1] va vb _ sA sB).mono ?_
  rintro e y2 ⟨x, b, rfl, sx, sb, hq⟩
  clear sA sB
  replace hy := below_to hy hq
  clear hq
  rw [show oSolve [[1, 1, 1], [0, 1, -1]] [6, 1] = ([(5, 1), (1, 1), (0, 1)], [[(-2, 1), (1, 1), (1, 1)]], 0) from by decide +kernel] at sx sb ⊢
  go_wp2_with fail
  refine (against29_any _).mono ?_
  rintro e y3 ⟨va2, vb2, rfl, sA, sB, hq⟩
  replace sx := sx.below hq
  replace sb := sb.below hq
  replace hy := below_to hy hq
  clear hq
  go_wp2_with fail
  refine (orefute_any [[1, 1], [2, 2]] [1, 3] va2 vb2 _ sA sB).mono ?_
  rintro e y4 ⟨yv, rfl, sy, hq⟩
  clear sA sB
  replace sx := sx.below hq
  replace sb := sb.below hq
  replace hy := below_to hy hq
  clear hq
  rw [show oRefute [[1, 1], [2, 2]] [1, 3] = ([(-2, 1), (1, 1)], 0) from by decide +kernel] at sy ⊢
  go_wp2_with fail
  refine (against29_any _).mono ?_
  rintro e y5 ⟨va3, vb3, rfl, sA, sB, hq⟩
  replace sx := sx.below hq
  replace sb := sb.below hq
  replace sy := sy.below hq
  replace hy := below_to hy hq
  clear hq
  go_wp2_with fail
  refine (osolve_any [[1, 1], [2, 2]] [1, 3] va3 vb3 _ sA sB).mono ?_
  rintro e y6 ⟨x3, b3, rfl, sx3, sb3, hq⟩
  clear sA sB sx3 sb3
  replace sx := sx.below hq
  replace sb := sb.below hq
  replace sy := sy.below hq
  replace hy := below_to hy hq
  clear hq
  rw [show oSolve [[1, 1], [2, 2]] [1, 3] = ([], [], 6) from by decide +kernel]
  go_wp2_with fail
  have oL := Own.new y6 2 [.int .i64 5, .int .i64 1, .int .i64 0]
  have hq := ba1 y6 (.cells #[.int .i64 5, .int .i64 1, .int .i64 0] 2)
  have sL := si_of_own [5, 1, 0] 3 rfl (by decide) oL
  clear oL
  replace sx := sx.below hq
  replace sb := sb.below hq
  replace sy := sy.below hq
  replace hy := below_to hy hq
  clear hq
  refine (whole29_any [5, 1, 0] _ _ sL (by decide)).mono ?_
  rintro e y7 ⟨u1, rfl, su1, hq⟩
  clear sL
  replace sx := sx.below hq
  replace sb := sb.below hq
  replace sy := sy.below hq
  replace hy := below_to hy hq
  clear hq
  replace su1 : SF _ _ [(5, 1), (1, 1), (0, 1)] := su1
  go_wp2_with fail
  refine (same29_true [(5, 1), (1, 1), (0, 1)] _ _ _ sx su1).mono ?_
  rintro e y8 ⟨rfl, hq⟩
  clear sx su1
  replace sb := sb.below hq
  replace sy := sy.below hq
  replace hy := below_to hy hq
  clear hq
  go_wp2_with fail
  have oL := Own.new y8 2 [.int .i64 (-2), .int .i64 1, .int .i64 1]
  have hq := ba1 y8 (.cells #[.int .i64 (-2), .int .i64 1, .int .i64 1] 2)
  have sL := si_of_own [-2, 1, 1] 3 rfl (by decide) oL
  clear oL
  replace sb := sb.below hq
  replace sy := sy.below hq
  replace hy := below_to hy hq
  clear hq
  refine (whole29_any [-2, 1, 1] _ _ sL (by decide)).mono ?_
  rintro e y9 ⟨u2, rfl, su2, hq⟩
  clear sL
  replace sb := sb.below hq
  replace sy := sy.below hq
  replace hy := below_to hy hq
  clear hq
  replace su2 : SF _ _ [(-2, 1), (1, 1), (1, 1)] := su2
  obtain ⟨adu, capu, rfl, _, _, _⟩ := su2.open
  go_wp2_with fail
  have oL := Own.new y9 28 [.slice adu 3 capu]
  have hq := ba1 y9 (.cells #[.slice adu 3 capu] 28)
  have sL := sff_one oL (su2.below hq)
  clear oL su2
  replace sb := sb.below hq
  replace sy := sy.below hq
  replace hy := below_to hy hq
  clear hq
  refine (sameall_true [[(-2, 1), (1, 1), (1, 1)]] _ _ _ sb sL).mono ?_
  rintro e y10 ⟨rfl, hq⟩
  clear sb sL
  replace sy := sy.below hq
  replace hy := below_to hy hq
  clear hq
  go_wp2_with fail
  have oL := Own.new y10 2 [.int .i64 (-2), .int .i64 1]
  have hq := ba1 y10 (.cells #[.int .i64 (-2), .int .i64 1] 2)
  have sL := si_of_own [-2, 1] 2 rfl (by decide) oL
  clear oL
  replace sy := sy.below hq
  replace hy := below_to hy hq
  clear hq
  refine (whole29_any [-2, 1] _ _ sL (by decide)).mono ?_
  rintro e y11 ⟨u3, rfl, su3, hq⟩
  clear sL
  replace sy := sy.below hq
  replace hy := below_to hy hq
  clear hq
  replace su3 : SF _ _ [(-2, 1), (1, 1)] := su3
  go_wp2_with fail
  refine (same29_true [(-2, 1), (1, 1)] _ _ _ sy su3).mono ?_
  rintro e y12 ⟨rfl, hq⟩
  clear sy su3
  replace hy := below_to hy hq
  clear hq
  go_wp2
  go_ret
  exact ⟨by first | rfl | simp, hy⟩
end Go.Proofs.Ythlcmlngmcoknaa
