/- What is proved here: contracts of functions and plain facts, several texts in one; each one says ahead what it proves, and its conditions. -/
import Derived.Test.YtfoemacgmehpiaaM08
import Derived.Test.YtfoemacgmehpiaaM02
import Derived.Test.YtfoemacgmehpiaaM01
import Derived.RegionTactic
import Derived.ChangeAlike
import Derived.BigRegion
import Derived.IntWalk
import Derived.Deep.DeepCutAuto
import Derived.Test.YtfoemacgmehpiaaM05
/- What is proved here: the contract of nnls.normal. Condition: a valid fit that can be read. -/
namespace Go.Proofs.Ytfoemacgmehpiaa
open Go.RowKit

/-- A right side. -/
def nb (B : List Int) (r : Nat) : Int := B.getD r 0
theorem nb_get {B : List Int} {r : Nat} (h : r < B.length) : nb B r = B[r] := getD_get h
/-- The square matrix while a row is added: the first rows' sums, and one row more where the entry is done. -/
def gpart (A : List (List Int)) (r k l i j : Nat) : Int := if i < k ∨ (i = k ∧ j < l) then qg (cel A) (r + 1) i j else qg (cel A) r i j
def cpart (A : List (List Int)) (B : List Int) (r k i : Nat) : Int := if i < k then qc (cel A) (nb B) (r + 1) 0 i else qc (cel A) (nb B) r 0 i
theorem gpart_put {A : List (List Int)} {r k l : Nat} : mput (gpart A r k l) k l (qg (cel A) r k l + cel A r k * cel A r l) = gpart A r k (l + 1) := by
  funext i j
  unfold mput gpart
  by_cases h : i = k ∧ j = l
  · obtain ⟨rfl, rfl⟩ := h
    rw [if_pos ⟨rfl, rfl⟩, if_pos (.inr ⟨rfl, by omega⟩)]; rfl
  · rw [if_neg h]
    by_cases h2 : i < k ∨ (i = k ∧ j < l)
    · rw [if_pos h2, if_pos (by omega)]
    · rw [if_neg h2, if_neg (by omega)]
theorem cpart_put {A : List (List Int)} {B : List Int} {r k : Nat} : lput (cpart A B r k) k (qc (cel A) (nb B) r 0 k + cel A r k * nb B r) = cpart A B r (k + 1) := by
  funext i
  unfold lput cpart
  by_cases h : i = k
  · subst h
    rw [if_pos rfl, if_pos (by omega)]
    unfold qc; rw [si_succ]; omega
  · rw [if_neg h]
    by_cases h2 : i < k
    · rw [if_pos h2, if_pos (by omega)]
    · rw [if_neg h2, if_neg (by omega)]
theorem gpart_0 {A : List (List Int)} {r : Nat} : gpart A r 0 0 = qg (cel A) r := by
  funext i j; unfold gpart; rw [if_neg (by omega)]
theorem gpart_n {A : List (List Int)} {r k n : Nat} (hw : ∀ l, n ≤ l → cel A r l = 0) : mcs (gpart A r k n) = mcs (gpart A r (k + 1) 0) :=
  mcs_congr fun i _ j _ => by
    unfold gpart
    by_cases h : i < k ∨ (i = k ∧ j < n)
    · rw [if_pos h, if_pos (by omega)]
    · rw [if_neg h]
      by_cases h2 : i = k
      · subst h2
        rw [if_pos (by omega)]
        show _ = qg (cel A) r i j + cel A r i * cel A r j
        rw [hw j (by omega)]; omega
      · rw [if_neg (by omega)]
theorem gpart_end {A : List (List Int)} {r n : Nat} (hw : ∀ l, n ≤ l → cel A r l = 0) : mcs (gpart A r n 0) = mcs (qg (cel A) (r + 1)) :=
  mcs_congr fun i _ j _ => by
    unfold gpart
    by_cases h : i < n ∨ (i = n ∧ j < 0)
    · rw [if_pos h]
    · rw [if_neg h]
      show _ = qg (cel A) r i j + cel A r i * cel A r j
      rw [hw i (by omega)]; omega
theorem cpart_0 {A : List (List Int)} {B : List Int} {r : Nat} : cpart A B r 0 = qc (cel A) (nb B) r 0 := by
  funext i; unfold cpart; rw [if_neg (by omega)]
theorem cpart_end {A : List (List Int)} {B : List Int} {r n : Nat} (hw : ∀ l, n ≤ l → cel A r l = 0) : lcs (cpart A B r n) = lcs (qc (cel A) (nb B) (r + 1) 0) :=
  lcs_congr fun i _ => by
    unfold cpart
    by_cases h : i < n
    · rw [if_pos h]
    · rw [if_neg h]
      unfold qc
      rw [si_succ, hw i (by omega)]; simp
theorem Fit.out {A : List (List Int)} {B : List Int} {n : Nat} (h : Fit A B n) {r l : Nat} (hr : r < A.length) (hl : n ≤ l) : cel A r l = 0 := by
  have := h.wide r hr
  simp [cel, List.getD, hr, show A[r].length ≤ l by omega]
theorem si_wi {f : Nat → Int} {X : Int} : ∀ n, (∀ i, i < n → wi X (f i)) → wi (n * X) (si f n)
  | 0, _ => by simp [si, wi]
  | n + 1, h => by
    have h1 := si_wi n fun i hi => h i (by omega)
    have h2 := h n (by omega)
    have e : ((n + 1 : Nat) : Int) * X = n * X + X := by rw [Int.natCast_add, Int.add_mul]; simp
    rw [si_succ, e]
    unfold wi at *; omega
theorem Fit.cel5 {A : List (List Int)} {B : List Int} {n : Nat} (h : Fit A B n) {r l : Nat} (hr : r < A.length) : wi 5 (cel A r l) := by
  rcases Nat.lt_or_ge l n with h1 | h1
  · have h2 : l < A[r].length := by rw [h.wide r hr]; exact h1
    rw [cel_get hr h2]; exact h.coef r hr l h2
  · rw [h.out hr h1]; unfold wi; omega
theorem Fit.side50 {A : List (List Int)} {B : List Int} {n : Nat} (h : Fit A B n) {r : Nat} (hr : r < A.length) : wi 50 (nb B r) := by
  have h2 : r < B.length := by rw [h.right]; exact hr
  rw [nb_get h2]; exact h.side r h2
theorem Fit.qg125 {A : List (List Int)} {B : List Int} {n : Nat} (h : Fit A B n) {r : Nat} (hr : r ≤ A.length) (k l : Nat) : wi 125 (qg (cel A) r k l) := by
  have h1 := si_wi (f := fun r => cel A r k * cel A r l) (X := 25) r fun i hi => wr_mulbd' (X := 5) (Y := 5) (h.cel5 (by omega)) (h.cel5 (by omega)) (by decide)
  have := h.rows
  unfold wi at h1 ⊢
  unfold qg
  omega
theorem Fit.qc1250 {A : List (List Int)} {B : List Int} {n : Nat} (h : Fit A B n) {r : Nat} (hr : r ≤ A.length) (k : Nat) : wi 1250 (qc (cel A) (nb B) r 0 k) := by
  have h1 := si_wi (f := fun r => cel A r k * nb B r) (X := 250) r fun i hi => wr_mulbd' (X := 5) (Y := 50) (h.cel5 (by omega)) (h.side50 (by omega)) (by decide)
  have := h.rows
  show -1250 ≤ si (fun r => cel A r k * nb B r) r - 0 ∧ si (fun r => cel A r k * nb B r) r - 0 ≤ 1250
  unfold wi at h1
  omega
/-- One product more is not cut. -/
theorem wr_more {g x y X Y G : Int} (hg : wi G g) (hx : wi X x) (hy : wi Y y) (hX : X * Y ≤ 4611686018427387904) (hG : G ≤ 4611686018427387903) : wrap64 (g + wrap64 (x * y)) = g + x * y := by
  have := wr_mulbd hx hy
  rw [wr_add_r]
  refine Go.IntWalk.wrap64_in _ ?_
  unfold wi at hg
  omega
def norm_post (w : World) (A : List (List Int)) (B : List Int) (e : Ending) (w' : World) : Prop :=
  e = .returned (.tuple #[.agg (mcs (qg (cel A) A.length)).toArray, .agg (lcs (qc (cel A) (nb B) A.length 0)).toArray]) ∧ Below w.heap.size w w'
set_option maxRecDepth 100000 in
set_option maxHeartbeats 4000000 in
theorem nnorm_any (A : List (List Int)) (B : List Int) (n : Nat) (va vb : Value) (w : World) (hA : SS w va A) (hB : SI w vb B) (hF : Fit A B n) :
    Calls Try.prog 66 #[.agg #[va, vb]] w (norm_post w A B) := by
  have HF := Lib.hid hF
  have ml : A.length ≤ 5 := hF.rows.2
  have nl : n ≤ 3 := hF.cols.2
  have HR := Lib.hid hF.right
  clear hF
  obtain ⟨ada, capa, rfl, ha1, ha2, _⟩ := hA.open
  obtain ⟨adb, capb, rfl, hb1, hb2, _⟩ := hB.open
  go_enter Try.func66, Try.ntmps66
  have oS := Own.new w 25 [.slice ada A.length capa, .slice adb B.length capb]
  have hy := ba1 w (.cells #[.slice ada A.length capa, .slice adb B.length capb] 25)
  have SA := Lib.hid (hA.below hy)
  have SB' := Lib.hid (hB.below hy)
  clear hA hB
  have zy : w.heap.size + 1 = (w.alloc (.cells #[.slice ada A.length capa, .slice adb B.length capb] 25)).heap.size := by simp
  go_upto_region 1 with fail
  generalize hyy : w.alloc (.cells #[.slice ada A.length capa, .slice adb B.length capb] 25) = y at *
  obtain ⟨bS, hbS⟩ : ∃ b, b = w.heap.size := ⟨_, rfl⟩
  rw [← hbS] at oS zy ⊢
  clear hbS hyy
  have HY := Lib.hid hy
  clear hy
  have oG := own_first y 91 (mcs (qg (cel A) 0)) (.cells (lcs (qc (cel A) (nb B) 0 0)).toArray 89)
  have oC := own_second y 89 (lcs (qc (cel A) (nb B) 0 0)) (.cells (mcs (qg (cel A) 0)).toArray 91)
  have hW := ba2 y (.cells (mcs (qg (cel A) 0)).toArray 91) (.cells (lcs (qc (cel A) (nb B) 0 0)).toArray 89)
  obtain ⟨rS, fS⟩ := oS.rules
  have zS := oS.lt
  go_wp2
  have ZY := Lib.hid zy
  clear rS fS zS zy
  go_loopw [13] (fun i wr => ∃ r : Nat, r ≤ A.length ∧ i = .int .i64 r ∧ Own wr y.heap.size 91 (mcs (qg (cel A) r)) ∧ Own wr (y.heap.size + 1) 89 (lcs (qc (cel A) (nb B) r 0)) ∧ Below y.heap.size y wr) (fun i _ => A.length - (intOf i).toNat)
  case atStart => exact ⟨0, Nat.zero_le _, rfl, oG, oC, hW⟩
  case round =>
    clear oG oC hW
    obtain ⟨r, hr, rfl, oG, oC, hW⟩ := hrel
    rename World => W
    by_cases hlt : r < A.length
    · obtain ⟨_, _, e, _, _, H⟩ := SA.out.open
      cases e
      obtain ⟨b, off, ad', cap', rfl, c1, c2, c3, sR⟩ := H.out r hlt
      clear H
      replace c1 := below_cell hW c1
      have HO := Lib.hid (fun l hl => HF.out.out (r := r) (l := l) hlt hl)
      have hw := HF.out.wide r hlt
      have C5 := Lib.hid (fun l => HF.out.cel5 (l := l) hlt)
      have CG := Lib.hid (fun k l => HF.out.qg125 (r := r) (by omega) k l)
      have CC := Lib.hid (fun k => HF.out.qc1250 (r := r) (by omega) k)
      have CB := Lib.hid (HF.out.side50 hlt)
      have CE : Hid (∀ k, A[r].getD k 0 = cel A r k) := fun k => by simp [cel, List.getD, hlt]
      have SR := Lib.hid sR
      clear sR
      rw [hw] at c1 c2 c3
      generalize A[r] = row at *
      have SR' : Hid (SI y (.slice ad' n cap') row) := by show SI _ _ _; rw [← hw]; exact SR.out
      have HW := Lib.hid hw
      clear hw SR
      go_wp2
      go_loopw [20] (fun i wr => ∃ k : Nat, k ≤ n ∧ i = .int .i64 k ∧ Own wr y.heap.size 91 (mcs (gpart A r k 0)) ∧ Own wr (y.heap.size + 1) 89 (lcs (cpart A B r k)) ∧ Below y.heap.size y wr) (fun i _ => n - (intOf i).toNat)
      case atStart => exact ⟨0, Nat.zero_le _, rfl, by rw [gpart_0]; exact oG, by rw [cpart_0]; exact oC, hW⟩
      case round =>
        clear oG oC hW c1
        obtain ⟨k, hk, rfl, oG, oC, hW⟩ := hrel
        rename World => W1
        by_cases hkn : k < n
        · obtain ⟨_, _, e, _, _, H⟩ := (SR'.out.below hW).open
          cases e
          obtain ⟨b1, off1, rfl, d1⟩ := H.out k (by rw [HW.out]; exact hkn)
          clear H
          rw [← getD_get (d := 0) (by rw [HW.out]; exact hkn), CE.out] at d1
          go_wp2
          go_loopw [27] (fun i wr => ∃ l : Nat, l ≤ row.length ∧ i = .int .i64 l ∧ Own wr y.heap.size 91 (mcs (gpart A r k l)) ∧ Own wr (y.heap.size + 1) 89 (lcs (cpart A B r k)) ∧ Below y.heap.size y wr) (fun i _ => row.length - (intOf i).toNat)
          case atStart => exact ⟨0, Nat.zero_le _, rfl, oG, oC, hW⟩
          case round =>
            clear oG oC hW d1
            obtain ⟨l, hl, rfl, oG, oC, hW⟩ := hrel
            rename World => W2
            by_cases hln : l < row.length
            · obtain ⟨_, _, e, _, _, H⟩ := (SR'.out.below hW).open
              cases e
              obtain ⟨b1, off1, e, d1⟩ := H.out l hln
              cases e
              clear H
              rw [← getD_get (d := 0) hln, CE.out] at d1
              have g0 := mcs_get (gpart A r k l) (k := k) (l := l) (by omega) (by omega)
              have E : Hid (wrap64 (gpart A r k l k l + wrap64 (cel A r k * cel A r l)) = qg (cel A) r k l + cel A r k * cel A r l) := by
                have : gpart A r k l k l = qg (cel A) r k l := by unfold gpart; rw [if_neg (by omega)]
                rw [this]; exact wr_more (CG.out k l) (C5.out k) (C5.out l) (by decide) (by decide)
              obtain ⟨rG, fG⟩ := oG.rules
              have zG := oG.lt
              have g1 := (rG (k * 3 + l)).trans g0
              go_wp2_with fail
              have gl := @grow_lt
              refine wp_region_st [.t [0, 1, 2, 3, 4, 5, 6, 7, 8, 9, 10]] [11] (by kernel_rfl) (by kernel_rfl) (fun _ _ _ _ _ h => h) ?_
              refine wpX_t ?_
              try simp only [opsAt, List.getElem?_toArray, List.getElem?_cons_zero, List.getElem?_cons_succ, Option.getD_some]
              repeat (go_big_quiet_step (fail))
              refine wpQuiet_nil ?_
              refine wpX_nil ?_
              try simp only [opsAt, List.getElem?_toArray, List.getElem?_cons_zero, List.getElem?_cons_succ, Option.getD_some]
              clear gl
              go_wp2
              go_roundw
              case rel =>
                refine ⟨l + 1, by omega, by go_num, ?_, oC.drew.other (by omega) _ _, hW.drew.setCell (p := ⟨y.heap.size, k * 3 + l, none⟩) (by simp) _⟩
                have o2 := oG.drew.set (k * 3 + l) (.int .i64 (wrap64 (gpart A r k l k l + wrap64 (cel A r k * cel A r l))))
                rw [mcs_set _ (by omega) (by omega)] at o2
                have e : mput (gpart A r k l) k l (wrap64 (gpart A r k l k l + wrap64 (cel A r k * cel A r l))) = gpart A r k (l + 1) := by rw [E.out, gpart_put]
                rw [e] at o2
                exact o2
              case measure => simp [intOf]; try omega
            · obtain rfl : l = row.length := by omega
              rw [gpart_n HO.out] at oG
              replace oS := oS.below hW
              obtain ⟨_, _, e, _, _, H⟩ := (SB'.out.below hW).open
              cases e
              obtain ⟨b2, off2, rfl, d2⟩ := H.out r (by rw [HR.out]; exact hlt)
              clear H
              rw [← nb_get (by rw [HR.out]; exact hlt)] at d2
              have hrB : r < B.length := by rw [HR.out]; exact hlt
              have zb2 : b2 < W2.heap.size := World.block_lt_of_cell? W2 _ d2
              have E : Hid (wrap64 (cpart A B r k k + wrap64 (cel A r k * nb B r)) = qc (cel A) (nb B) r 0 k + cel A r k * nb B r) := by
                have : cpart A B r k k = qc (cel A) (nb B) r 0 k := by unfold cpart; rw [if_neg (by omega)]
                rw [this]; exact wr_more (CC.out k) (C5.out k) CB.out (by decide) (by decide)
              have g0 := lcs_get (cpart A B r k) (k := k) (by omega)
              have CP : Hid (lput (cpart A B r k) k (qc (cel A) (nb B) r 0 k + cel A r k * nb B r) = cpart A B r (k + 1)) := cpart_put
              generalize nb B r = br at *
              obtain ⟨rS, fS⟩ := oS.rules
              have zS := oS.lt
              obtain ⟨rC, fC⟩ := oC.rules
              have zC := oC.lt
              have g1 := (rC k).trans g0
              go_wp2_with fail
              have gl := @grow_lt
              refine wp_region_st [.t [0, 1, 2, 3, 4, 5, 6, 7, 8, 9, 10, 11]] [12] (by kernel_rfl) (by kernel_rfl) (fun _ _ _ _ _ h => h) ?_
              refine wpX_t ?_
              try simp only [opsAt, List.getElem?_toArray, List.getElem?_cons_zero, List.getElem?_cons_succ, Option.getD_some]
              repeat (go_big_quiet_step (fail))
              refine wpQuiet_nil ?_
              refine wpX_nil ?_
              try simp only [opsAt, List.getElem?_toArray, List.getElem?_cons_zero, List.getElem?_cons_succ, Option.getD_some]
              clear gl
              go_wp2
              go_roundw
              case rel =>
                refine ⟨k + 1, by omega, by go_num, oG.drew.other (by omega) _ _, ?_, hW.drew.setCell (p := ⟨y.heap.size + 1, k, none⟩) (by simp) _⟩
                have o2 := oC.drew.set k (.int .i64 (wrap64 (cpart A B r k k + wrap64 (cel A r k * br))))
                rw [lcs_set _ (by omega)] at o2
                have e : lput (cpart A B r k) k (wrap64 (cpart A B r k k + wrap64 (cel A r k * br))) = cpart A B r (k + 1) := by rw [E.out]; exact CP.out
                rw [e] at o2
                exact o2
              case measure => simp [intOf]; try omega
        · obtain rfl : k = n := by omega
          rw [gpart_end HO.out] at oG
          rw [cpart_end HO.out] at oC
          go_wp2
          go_roundw
          case rel => exact ⟨r + 1, by omega, by go_num, oG, oC, hW⟩
          case measure => simp [intOf]; try omega
    · obtain rfl : r = A.length := by omega
      rw [mcs_is] at oG
      rw [lcs_is] at oC
      obtain ⟨rG, fG⟩ := oG.rules
      have zG := oG.lt
      obtain ⟨rC, fC⟩ := oC.rules
      have zC := oC.lt
      go_wp2
      go_region
      go_wp2
      have hne : y.heap.size ≠ y.heap.size + 1 := by omega
      obtain ⟨p1, p2, p3⟩ := refill_own oG oC hne hW (Nat.le_refl _) (Nat.le_succ _)
      refine bp_gen' (fun X => Own X y.heap.size _ _ ∧ Own X (y.heap.size + 1) _ _ ∧ Below y.heap.size y X) ⟨p1.drew, p2.drew, p3.drew⟩ ?_
      rintro wz ⟨q1, q2, bz⟩
      obtain ⟨r1, f1⟩ := q1.rules
      obtain ⟨r2, f2⟩ := q2.rules
      clear q1 q2 p1 p2 p3
      refine bodyPost_ret (v := .tuple #[.agg (mcs (qg (cel A) A.length)).toArray, .agg (lcs (qc (cel A) (nb B) A.length 0)).toArray]) (by simp [results, Try.results66, go_sem, r1, r2, mcs_is, lcs_is]) rfl ⟨rfl, ?_⟩
      exact below_to HY.out bz
end Go.Proofs.Ytfoemacgmehpiaa

/- What is proved here: what the sums, residuals, gradients and values of a fit are as rational numbers. No program in sight. Condition: as each theorem says. -/
namespace Go.Proofs.Ytfoemacgmehpiaa
open Go.RowKit

/-- A fraction as a rational number. -/
def qq (p : Int × Int) : Rat := Rat.divInt p.1 p.2
/-- A rational number as a fraction. -/
def up (x : Rat) : Int × Int := (x.num, (x.den : Int))
def uf (x : Rat) : FR := ⟨x.num, (x.den : Int), 0⟩
theorem qq_up (x : Rat) : qq (up x) = x := Q_self x
theorem up_qq {p : Int × Int} (h : fchk p.1 p.2 = 0) : up (qq p) = p := by obtain ⟨h1, h2, _⟩ := Q_ok h; exact Prod.ext h1 h2
theorem up_chk {x : Rat} (h : inr x) : fchk (up x).1 (up x).2 = 0 := fchk_inr h
theorem qq_inr {p : Int × Int} (h : fchk p.1 p.2 = 0) : inr (qq p) := (Q_ok h).2.2
theorem qq_int (n : Int) : qq (n, 1) = (n : Rat) := by unfold qq; rw [Rat.divInt_eq_div]; grind
theorem qq_00 : qq (0, 0) = 0 := by unfold qq; simp
theorem pack_val {x : Rat} (h : (pack x).e = 0) : inr x ∧ pack x = uf x := ⟨pack_e.1 h, pack_ok (pack_e.1 h)⟩
theorem fmul_qq {a b : Int × Int} (h1 : fchk a.1 a.2 = 0) (h2 : fchk b.1 b.2 = 0) : fmul a.1 a.2 b.1 b.2 = pack (qq a * qq b) := by rw [fmul_0 (fboth_of h1 h2), fmulV_pack h1 h2]; rfl
theorem fadd_qq {a b : Int × Int} (h1 : fchk a.1 a.2 = 0) (h2 : fchk b.1 b.2 = 0) : fadd a.1 a.2 b.1 b.2 = pack (qq a + qq b) := by rw [fadd_0 (fboth_of h1 h2)]; rfl
theorem fsub_qq {a b : Int × Int} (h1 : fchk a.1 a.2 = 0) (h2 : fchk b.1 b.2 = 0) : fsub a.1 a.2 b.1 b.2 = pack (qq a - qq b) := by rw [fsub_0 (fboth_of h1 h2)]; rfl
theorem fplus_go {s : Rat} {a b : Int × Int} (hs : inr s) (h1 : fchk a.1 a.2 = 0) (h2 : fchk b.1 b.2 = 0) (hp : inr (qq a * qq b)) (ht : inr (s + qq a * qq b)) :
    fplus (uf s).n (uf s).d a.1 a.2 b.1 b.2 = uf (s + qq a * qq b) := by
  have hm := fmul_qq h1 h2
  rw [pack_ok hp] at hm
  rw [fplus_0 (by rw [hm]), hm]
  have := fadd_qq (a := up s) (b := up (qq a * qq b)) (up_chk hs) (up_chk hp)
  rw [qq_up, qq_up, pack_ok ht] at this
  exact this
theorem fplus_val {s : Rat} {a b : Int × Int} (hs : inr s) (h1 : fchk a.1 a.2 = 0) (h2 : fchk b.1 b.2 = 0) (he : (fplus (uf s).n (uf s).d a.1 a.2 b.1 b.2).e = 0) :
    inr (s + qq a * qq b) ∧ fplus (uf s).n (uf s).d a.1 a.2 b.1 b.2 = uf (s + qq a * qq b) := by
  have hm := fmul_qq h1 h2
  by_cases hp : inr (qq a * qq b)
  · by_cases ht : inr (s + qq a * qq b)
    · exact ⟨ht, fplus_go hs h1 h2 hp ht⟩
    · exfalso
      rw [pack_ok hp] at hm
      rw [fplus_0 (by rw [hm]), hm] at he
      have := fadd_qq (a := up s) (b := up (qq a * qq b)) (up_chk hs) (up_chk hp)
      rw [qq_up, qq_up, pack_no ht] at this
      have he' : (fadd (up s).1 (up s).2 (up (qq a * qq b)).1 (up (qq a * qq b)).2).e = 0 := he
      rw [this] at he'
      cases he'
  · exfalso
    rw [pack_no hp] at hm
    rw [fplus_1 (by rw [hm]; decide), hm] at he
    cases he
/-- What a sum of products adds up, as a rational number. -/
def tq (t : Nat → (Int × Int) × (Int × Int)) (j : Nat) : Rat := qq (t j).1 * qq (t j).2
/-- The fractions of a sum of products are valid. -/
def tval (t : Nat → (Int × Int) × (Int × Int)) (k : Nat) : Prop := ∀ j, j < k → fchk (t j).1.1 (t j).1.2 = 0 ∧ fchk (t j).2.1 (t j).2.2 = 0
theorem inr_0 : inr 0 := by decide
theorem gsum_go {t : Nat → (Int × Int) × (Int × Int)} : ∀ k, tval t k → (∀ j, j < k → inr (tq t j)) → (∀ j, j ≤ k → inr (sm (tq t) j)) → gsum t k = uf (sm (tq t) k)
  | 0, _, _, _ => rfl
  | k + 1, hv, hp, hs => by
    have ih := gsum_go k (fun j hj => hv j (by omega)) (fun j hj => hp j (by omega)) (fun j hj => hs j (by omega))
    obtain ⟨h1, h2⟩ := hv k (by omega)
    rw [gsum_succ (by rw [ih]; rfl), ih, sm_succ]
    exact fplus_go (hs k (by omega)) h1 h2 (hp k (by omega)) (by have := hs (k + 1) (by omega); rw [sm_succ] at this; exact this)
theorem gsum_val {t : Nat → (Int × Int) × (Int × Int)} : ∀ k, tval t k → (gsum t k).e = 0 → inr (sm (tq t) k) ∧ gsum t k = uf (sm (tq t) k)
  | 0, _, _ => ⟨inr_0, rfl⟩
  | k + 1, hv, he => by
    have he' : (gsum t k).e = 0 := by
      apply Classical.byContradiction
      intro h
      rw [gsum_stop h (k + 1) (by omega)] at he
      exact h he
    obtain ⟨i1, i2⟩ := gsum_val k (fun j hj => hv j (by omega)) he'
    obtain ⟨h1, h2⟩ := hv k (by omega)
    rw [gsum_succ he', i2] at he ⊢
    rw [sm_succ]
    exact fplus_val i1 h1 h2 he
theorem sm_more {f : Nat → Rat} {n : Nat} : ∀ N, n ≤ N → (∀ j, n ≤ j → f j = 0) → sm f N = sm f n
  | 0, h, _ => by obtain rfl : n = 0 := by omega
                  rfl
  | N + 1, h, hz => by
    rcases Nat.lt_or_ge n (N + 1) with h1 | h1
    · rw [sm_succ, sm_more N (by omega) hz, hz N (by omega)]; grind
    · obtain rfl : n = N + 1 := by omega
      rfl
/-- The numbers of a list of rows without an error. -/
theorem rows_each {f : Nat → FR} : ∀ m, (rowsOf f m).2 = 0 → ∀ i, i < m → (f i).e = 0 ∧ (rowsOf f m).1[i]? = some ((f i).n, (f i).d)
  | 0, _, i, hi => by omega
  | m + 1, h, i, hi => by
    by_cases h1 : (rowsOf f m).2 = 0
    · by_cases h2 : (f m).e = 0
      · rw [rows_succ h1 h2]
        have hl := rows_len m h1
        rcases Nat.lt_or_ge i m with h3 | h3
        · obtain ⟨h4, h5⟩ := rows_each m h1 i h3
          exact ⟨h4, by rw [List.getElem?_append_left (by omega)]; exact h5⟩
        · obtain rfl : i = m := by omega
          exact ⟨h2, by rw [List.getElem?_append_right (by omega), hl]; simp⟩
      · rw [rows_err h1 h2] at h; exact absurd h h2
    · rw [rows_stop h1 (m + 1) (by omega)] at h; exact absurd h h1
/-- A list of rows has no error where none of them has one. -/
theorem rows_go {f : Nat → FR} : ∀ m, (∀ i, i < m → (f i).e = 0) → (rowsOf f m).2 = 0
  | 0, _ => rfl
  | m + 1, h => by rw [rows_succ (rows_go m fun i hi => h i (by omega)) (h m (by omega))]
theorem rows_list {f : Nat → FR} {g : Nat → Rat} {m : Nat} (h : ∀ i, i < m → f i = uf (g i)) : rowsOf f m = ((List.range m).map fun i => up (g i), 0) := by
  have h0 : (rowsOf f m).2 = 0 := rows_go (f := f) m fun i hi => by rw [h i hi]; rfl
  have hl := rows_len m h0
  refine Prod.ext (List.ext_getElem? fun i => ?_) h0
  rcases Nat.lt_or_ge i m with hi | hi
  · rw [(rows_each m h0 i hi).2, h i hi, List.getElem?_map, List.getElem?_range hi]; rfl
  · rw [List.getElem?_eq_none (by omega), List.getElem?_eq_none (by simp; omega)]

section
variable (x : List (Int × Int))
/-- A point as rational numbers. -/
def nx (k : Nat) : Rat := qq (x.getD k (0, 0))
variable {A : List (List Int)} {B : List Int} {x}
theorem nx_out {k : Nat} (h : x.length ≤ k) : nx x k = 0 := by unfold nx; simp [List.getD, List.getElem?_eq_none h, qq_00]
theorem nx_get {k : Nat} (h : k < x.length) : nx x k = qq x[k] := by unfold nx; rw [getD_get h]
theorem tq_row (i k : Nat) : tq (rowT A x i) k = ra (cel A) i k * nx x k := by
  unfold tq rowT nx ra
  rw [qq_int]
theorem row_tval (h : FitX A B x) {i : Nat} (hi : i < A.length) : tval (rowT A x i) x.length := fun j hj => by
  have hw : j < A[i].length := by rw [h.wide i hi]; exact hj
  have h1 := h.coef i hi j hw
  unfold rowT
  rw [cel_get hi hw]
  refine ⟨fchk_small h1.1 h1.2, ?_⟩
  simp only [List.getD, List.getElem?_eq_getElem hj, Option.getD_some]
  exact h.val j hj
theorem row_sum (h3 : x.length ≤ 3) (i : Nat) : sm (tq (rowT A x i)) x.length = qax (ra (cel A)) (nx x) i := by
  unfold qax
  rw [← sm_more 3 h3 fun j hj => by rw [tq_row, nx_out hj]; grind]
  exact sm_congr 3 fun j _ => tq_row i j
theorem side_chk (h : FitX A B x) {i : Nat} (hi : i < A.length) : fchk (nb B i) 1 = 0 := by
  have hb : i < B.length := by rw [h.right]; exact hi
  rw [nb_get hb]
  exact fchk_small (h.side i hb).1 (h.side i hb).2
/-- A number of the residual. -/
theorem nres_val (h : FitX A B x) (h3 : x.length ≤ 3) {i : Nat} (hi : i < A.length) (he : (nres A B x i).e = 0) :
    inr (qres (ra (cel A)) (rb (nb B)) (nx x) i) ∧ nres A B x i = uf (qres (ra (cel A)) (rb (nb B)) (nx x) i) := by
  have h0 : (gsum (rowT A x i) x.length).e = 0 := by
    apply Classical.byContradiction
    intro h0
    rw [nres_1 h0] at he
    exact h0 he
  obtain ⟨s1, s2⟩ := gsum_val x.length (row_tval h hi) h0
  rw [row_sum h3] at s1 s2
  rw [nres_0 h0, s2] at he ⊢
  have := fsub_qq (a := up (qax (ra (cel A)) (nx x) i)) (b := (nb B i, 1)) (up_chk s1) (side_chk h hi)
  rw [qq_up, qq_int] at this
  have hs : fsub (uf (qax (ra (cel A)) (nx x) i)).n (uf (qax (ra (cel A)) (nx x) i)).d (B.getD i 0) 1 = pack (qres (ra (cel A)) (rb (nb B)) (nx x) i) := this
  rw [hs] at he ⊢
  exact pack_val he
/-- The residual without an error. -/
theorem nresid_val (h : FitX A B x) (h3 : x.length ≤ 3) (he : (nresidual A B x).2 = 0) :
    (∀ i, i < A.length → inr (qres (ra (cel A)) (rb (nb B)) (nx x) i)) ∧ (nresidual A B x).1 = (List.range A.length).map fun i => up (qres (ra (cel A)) (rb (nb B)) (nx x) i) := by
  have h1 := fun i (hi : i < A.length) => nres_val h h3 hi (rows_each A.length he i hi).1
  refine ⟨fun i hi => (h1 i hi).1, ?_⟩
  have := rows_list (f := nres A B x) (m := A.length) fun i hi => (h1 i hi).2
  unfold nresidual
  rw [this]
theorem res_getD {g : Nat → Rat} {n i : Nat} (hi : i < n) : ((List.range n).map fun i => up (g i)).getD i (0, 0) = up (g i) := by
  simp [List.getD, hi]
theorem tq_sq {g : Nat → Rat} {n i : Nat} (hi : i < n) : tq (sqT ((List.range n).map fun i => up (g i))) i = g i * g i := by
  unfold tq sqT; rw [res_getD hi, qq_up]
theorem tq_col {g : Nat → Rat} {n i k : Nat} (hi : i < n) : tq (colT A ((List.range n).map fun i => up (g i)) k) i = ra (cel A) i k * g i := by
  unfold tq colT ra; rw [res_getD hi, qq_up, qq_int]
theorem sq_tval {g : Nat → Rat} {n : Nat} (h : ∀ i, i < n → inr (g i)) : tval (sqT ((List.range n).map fun i => up (g i))) n := fun j hj => by
  unfold sqT; rw [res_getD hj]; exact ⟨up_chk (h j hj), up_chk (h j hj)⟩
theorem col_tval (hF : FitX A B x) {g : Nat → Rat} (h : ∀ i, i < A.length → inr (g i)) {k : Nat} (hk : k < x.length) : tval (colT A ((List.range A.length).map fun i => up (g i)) k) A.length := fun j hj => by
  have hw : k < A[j].length := by rw [hF.wide j hj]; exact hk
  have h1 := hF.coef j hj k hw
  unfold colT
  rw [res_getD hj, cel_get hj hw]
  exact ⟨fchk_small h1.1 h1.2, up_chk (h j hj)⟩
/-- The value without an error. -/
theorem nval_val (hp : npoint A B x = 0) (h3 : x.length ≤ 3) (he : (nValue A B x).e = 0) : inr (qval (ra (cel A)) (rb (nb B)) A.length (nx x)) ∧ nValue A B x = uf (qval (ra (cel A)) (rb (nb B)) A.length (nx x)) := by
  have hF := FitX.of hp
  have h0 : (nResidual A B x).2 = 0 := by
    apply Classical.byContradiction
    intro h0
    rw [nVal_1 h0] at he
    exact h0 he
  have e0 : nResidual A B x = nresidual A B x := if_pos hp
  rw [nVal_0 h0] at he ⊢
  rw [e0] at h0 he ⊢
  obtain ⟨r1, r2⟩ := nresid_val hF h3 h0
  rw [r2] at he ⊢
  rw [show ((List.range A.length).map fun i => up (qres (ra (cel A)) (rb (nb B)) (nx x) i)).length = A.length from by simp] at he ⊢
  have := gsum_val A.length (sq_tval r1) he
  have e1 : sm (tq (sqT ((List.range A.length).map fun i => up (qres (ra (cel A)) (rb (nb B)) (nx x) i)))) A.length = qval (ra (cel A)) (rb (nb B)) A.length (nx x) :=
    sm_congr A.length fun i hi => tq_sq hi
  rw [e1] at this
  exact this
/-- The gradient without an error. -/
theorem ngrad_val (hp : npoint A B x = 0) (h3 : x.length ≤ 3) (he : (nGradient A B x).2 = 0) : (nResidual A B x).2 = 0 ∧ (∀ k, k < x.length → inr (qgrd (ra (cel A)) (rb (nb B)) A.length (nx x) k)) ∧ (nGradient A B x).1 = (List.range x.length).map fun k => up (qgrd (ra (cel A)) (rb (nb B)) A.length (nx x) k) := by
  have hF := FitX.of hp
  have h0 : (nResidual A B x).2 = 0 := by
    apply Classical.byContradiction
    intro h0
    rw [nGrad_1 h0] at he
    exact h0 he
  have e0 : nResidual A B x = nresidual A B x := if_pos hp
  refine ⟨h0, ?_⟩
  rw [nGrad_0 h0] at he ⊢
  rw [e0] at h0 he ⊢
  obtain ⟨r1, r2⟩ := nresid_val hF h3 h0
  rw [r2] at he ⊢
  have h1 : ∀ k, k < x.length → inr (qgrd (ra (cel A)) (rb (nb B)) A.length (nx x) k) ∧ gsum (colT A ((List.range A.length).map fun i => up (qres (ra (cel A)) (rb (nb B)) (nx x) i)) k) A.length = uf (qgrd (ra (cel A)) (rb (nb B)) A.length (nx x) k) := fun k hk => by
    have := gsum_val A.length (col_tval hF r1 hk) (rows_each x.length he k hk).1
    have e1 : sm (tq (colT A ((List.range A.length).map fun i => up (qres (ra (cel A)) (rb (nb B)) (nx x) i)) k)) A.length = qgrd (ra (cel A)) (rb (nb B)) A.length (nx x) k :=
      sm_congr A.length fun i hi => tq_col hi
    rw [e1] at this
    exact this
  refine ⟨fun k hk => (h1 k hk).1, ?_⟩
  rw [rows_list (g := fun k => qgrd (ra (cel A)) (rb (nb B)) A.length (nx x) k) fun k hk => (h1 k hk).2]
end
end Go.Proofs.Ytfoemacgmehpiaa

/- What is proved here: the contract of nnls.best. Condition: numbers within 3000, numerators and denominator within 200,000,000,000. -/
namespace Go.Proofs.Ytfoemacgmehpiaa
open Go.RowKit

/-- The slope of an unknown times the denominator, over the first unknowns. -/
def bsum (g : Nat → Nat → Int) (d nu : Nat → Int) (den : Int) (k l : Nat) : Int := -den * d k + si (fun l => g k l * nu l) l
/-- An unknown whose number and slope are not negative. -/
def bOk (g : Nat → Nat → Int) (d nu : Nat → Int) (den : Int) (n k : Nat) : Bool := decide (0 ≤ nu k) && decide (0 ≤ bsum g d nu den k n)
def bestN (g : Nat → Nat → Int) (d nu : Nat → Int) (den : Int) (n : Nat) : Bool := (List.range n).all (bOk g d nu den n)
theorem range_all {p : Nat → Bool} {k : Nat} (h : (List.range k).all p = true) (hp : p k = true) : (List.range (k + 1)).all p = true := by
  rw [List.range_succ, List.all_append, h]; simp [hp]
theorem range_not {p : Nat → Bool} {k n : Nat} (hk : k < n) (hp : p k = false) : (List.range n).all p = false := by
  rw [List.all_eq_false]; exact ⟨k, List.mem_range.2 hk, by rw [hp]; decide⟩
theorem bsum_succ {g : Nat → Nat → Int} {d nu : Nat → Int} {den : Int} {k l : Nat} : bsum g d nu den k (l + 1) = bsum g d nu den k l + g k l * nu l := by
  unfold bsum; rw [si_succ]; omega
theorem si_wi' {f : Nat → Int} {X : Int} : ∀ n, (∀ i, i < n → wi X (f i)) → wi (n * X) (si f n)
  | 0, _ => by simp [si, wi]
  | n + 1, h => by
    have h1 := si_wi' n fun i hi => h i (by omega)
    have h2 := h n (by omega)
    have e : ((n + 1 : Nat) : Int) * X = n * X + X := by rw [Int.natCast_add, Int.add_mul]; simp
    rw [si_succ, e]
    unfold wi at *; omega
theorem bsum_wi {g : Nat → Nat → Int} {d nu : Nat → Int} {den : Int} {k : Nat} (hg : ∀ k l, wi 3000 (g k l)) (hd : ∀ k, wi 3000 (d k)) (hn : ∀ k, wi 200000000000 (nu k)) (hden : wi 200000000000 den) (l : Nat) (hl : l ≤ 3) : wi 2400000000000000 (bsum g d nu den k l) := by
  have h1 := si_wi' (f := fun l => g k l * nu l) (X := 600000000000000) l fun i hi => wr_mulbd' (X := 3000) (Y := 200000000000) (hg k i) (hn i) (by decide)
  have h2 := wr_mulbd' (X := 200000000000) (Y := 3000) (x := -den) (y := d k) (Z := 600000000000000) (by unfold wi at hden; omega) (hd k) (by decide)
  unfold bsum
  generalize si (fun l => g k l * nu l) l = s at *
  generalize -den * d k = p at *
  unfold wi at *
  omega
theorem wr_more' {g x y X Y G : Int} (hg : wi G g) (hx : wi X x) (hy : wi Y y) (hX : X * Y ≤ 4611686018427387904) (hG : G ≤ 4611686018427387903) : wrap64 (g + wrap64 (x * y)) = g + x * y := by
  have := wr_mulbd hx hy
  rw [wr_add_r]
  refine Go.IntWalk.wrap64_in _ ?_
  unfold wi at hg
  omega
set_option maxRecDepth 100000 in
set_option maxHeartbeats 4000000 in
theorem nbest_any (g : Nat → Nat → Int) (d nu : Nat → Int) (den : Int) (n : Nat) (w : World) (hn : n ≤ 3) (hg : ∀ k l, wi 3000 (g k l)) (hd : ∀ k, wi 3000 (d k)) (hu : ∀ k, wi 200000000000 (nu k)) (hden : wi 200000000000 den) :
    Calls Try.prog 68 #[.agg (mcs g).toArray, .agg (lcs d).toArray, .int .i64 n, .agg (lcs nu).toArray, .int .i64 den] w fun e w' => e = .returned (.bool (bestN g d nu den n)) ∧ Below w.heap.size w w' := by
  have HG := Lib.hid hg
  have HD := Lib.hid hd
  have HU := Lib.hid hu
  have HN := Lib.hid hden
  have e1 : wrap64 (-den) = -den := by refine Go.IntWalk.wrap64_in _ ?_; unfold wi at hden; omega
  have E1 := Lib.hid e1
  clear hg hd hu hden e1
  rw [mcs_is, lcs_is, lcs_is]
  have oG := ((Own.new w 91 [.int .i64 (g 0 0), .int .i64 (g 0 1), .int .i64 (g 0 2), .int .i64 (g 1 0), .int .i64 (g 1 1), .int .i64 (g 1 2), .int .i64 (g 2 0), .int .i64 (g 2 1), .int .i64 (g 2 2)]).alloc (.cells #[.int .i64 (d 0), .int .i64 (d 1), .int .i64 (d 2)] 89)).alloc (.cells #[.int .i64 (nu 0), .int .i64 (nu 1), .int .i64 (nu 2)] 89)
  have oD := (own_second w 89 [.int .i64 (d 0), .int .i64 (d 1), .int .i64 (d 2)] (.cells #[.int .i64 (g 0 0), .int .i64 (g 0 1), .int .i64 (g 0 2), .int .i64 (g 1 0), .int .i64 (g 1 1), .int .i64 (g 1 2), .int .i64 (g 2 0), .int .i64 (g 2 1), .int .i64 (g 2 2)] 91)).alloc (.cells #[.int .i64 (nu 0), .int .i64 (nu 1), .int .i64 (nu 2)] 89)
  have oU := own_third w 89 [.int .i64 (nu 0), .int .i64 (nu 1), .int .i64 (nu 2)] (.cells #[.int .i64 (g 0 0), .int .i64 (g 0 1), .int .i64 (g 0 2), .int .i64 (g 1 0), .int .i64 (g 1 1), .int .i64 (g 1 2), .int .i64 (g 2 0), .int .i64 (g 2 1), .int .i64 (g 2 2)] 91) (.cells #[.int .i64 (d 0), .int .i64 (d 1), .int .i64 (d 2)] 89)
  have hy := ba3 w (.cells #[.int .i64 (g 0 0), .int .i64 (g 0 1), .int .i64 (g 0 2), .int .i64 (g 1 0), .int .i64 (g 1 1), .int .i64 (g 1 2), .int .i64 (g 2 0), .int .i64 (g 2 1), .int .i64 (g 2 2)] 91) (.cells #[.int .i64 (d 0), .int .i64 (d 1), .int .i64 (d 2)] 89) (.cells #[.int .i64 (nu 0), .int .i64 (nu 1), .int .i64 (nu 2)] 89)
  have HY := Lib.hid hy
  clear hy
  go_enter Try.func68, Try.ntmps68
  go_wp2
  generalize ((w.alloc (.cells #[.int .i64 (g 0 0), .int .i64 (g 0 1), .int .i64 (g 0 2), .int .i64 (g 1 0), .int .i64 (g 1 1), .int .i64 (g 1 2), .int .i64 (g 2 0), .int .i64 (g 2 1), .int .i64 (g 2 2)] 91)).alloc (.cells #[.int .i64 (d 0), .int .i64 (d 1), .int .i64 (d 2)] 89)).alloc (.cells #[.int .i64 (nu 0), .int .i64 (nu 1), .int .i64 (nu 2)] 89) = y at *
  obtain ⟨z, hz⟩ : ∃ z, z = w.heap.size := ⟨_, rfl⟩
  rw [← hz] at oG oD oU ⊢
  clear hz
  rw [← mcs_is] at oG
  rw [← lcs_is] at oD oU
  have OG := Lib.hid oG
  have OD := Lib.hid oD
  have OU := Lib.hid oU
  clear oG oD oU
  go_loopw [11] (fun i wr => ∃ k : Nat, k ≤ n ∧ i = .int .i64 k ∧ Hid ((List.range k).all (bOk g d nu den n) = true) ∧ Below y.heap.size y wr) (fun i _ => n - (intOf i).toNat)
  case atStart => exact ⟨0, Nat.zero_le _, rfl, rfl, Below.refl _ _⟩
  case round =>
    obtain ⟨k, hk, rfl, hv, hW⟩ := hrel
    rename World => W
    by_cases hlt : k < n
    · have oG := OG.out.below hW
      have oD := OD.out.below hW
      have oU := OU.out.below hW
      obtain ⟨rG, fG⟩ := oG.rules
      have zG := oG.lt
      obtain ⟨rD, fD⟩ := oD.rules
      have zD := oD.lt
      obtain ⟨rU, fU⟩ := oU.rules
      have zU := oU.lt
      have u0 := lcs_get nu (k := k) (by omega)
      have d0 := lcs_get d (k := k) (by omega)
      by_cases hz : nu k < 0
      · have HV := Lib.hid (range_not (p := bOk g d nu den n) hlt (by unfold bOk; rw [decide_eq_false (by omega)]; rfl))
        go_wp2
        go_ret
        exact ⟨by unfold bestN; rw [HV.out]; try rfl, below_to HY.out hW⟩
      · have EB : Hid (wrap64 (-den * d k) = bsum g d nu den k 0) := by
          have h := bsum_wi HG.out HD.out HU.out HN.out (k := k) 0 (by omega)
          show wrap64 (-den * d k) = -den * d k + 0
          have e : bsum g d nu den k 0 = -den * d k + 0 := rfl
          rw [e] at h
          rw [Go.IntWalk.wrap64_in _ (by unfold wi at h; omega)]; omega
        have ZN := Lib.hid hz
        clear hz
        go_wp2
        rw [E1.out, EB.out]
        clear rG fG rD fD rU fU oG oD oU zG zD zU u0 d0 EB
        go_loopw [12, 13] (fun s i wr => ∃ l : Nat, l ≤ n ∧ i = .int .i64 l ∧ s = .int .i64 (bsum g d nu den k l) ∧ Below y.heap.size y wr) (fun _ i _ => n - (intOf i).toNat)
        case atStart => exact ⟨0, Nat.zero_le _, rfl, rfl, hW⟩
        case round =>
          clear hW
          obtain ⟨l, hl, rfl, rfl, hW⟩ := hrel
          rename World => W1
          by_cases hll : l < n
          · have oG := OG.out.below hW
            have oU := OU.out.below hW
            obtain ⟨rG, fG⟩ := oG.rules
            have zG := oG.lt
            obtain ⟨rU, fU⟩ := oU.rules
            have zU := oU.lt
            have u0 := lcs_get nu (k := l) (by omega)
            have g0 := mcs_get g (k := k) (l := l) (by omega) (by omega)
            have EB : Hid (wrap64 (bsum g d nu den k l + wrap64 (g k l * nu l)) = bsum g d nu den k (l + 1)) := by
              have h := bsum_wi HG.out HD.out HU.out HN.out (k := k) l (by omega)
              show _ = _
              rw [bsum_succ]
              exact wr_more' h (HG.out k l) (HU.out l) (by decide) (by decide)
            go_wp2_with fail
            have gl := @grow_lt
            refine wp_region_st [.t [0, 1, 2, 3, 4, 5, 6, 7, 8, 9, 10]] [11] (by kernel_rfl) (by kernel_rfl) (fun _ _ _ _ _ h => h) ?_
            refine wpX_t ?_
            try simp only [opsAt, List.getElem?_toArray, List.getElem?_cons_zero, List.getElem?_cons_succ, Option.getD_some]
            repeat (go_big_quiet_step (fail))
            refine wpQuiet_nil ?_
            refine wpX_nil ?_
            try simp only [opsAt, List.getElem?_toArray, List.getElem?_cons_zero, List.getElem?_cons_succ, Option.getD_some]
            clear gl
            go_wp2
            rw [EB.out]
            go_roundw
            case rel => exact ⟨l + 1, by omega, by go_num, rfl, hW.drew⟩
            case measure => simp [intOf]; try omega
          · obtain rfl : l = n := by omega
            by_cases hs : bsum g d nu den k l < 0
            · have HV := Lib.hid (range_not (p := bOk g d nu den l) hlt (by unfold bOk; rw [decide_eq_false (p := 0 ≤ bsum g d nu den k l) (by omega), Bool.and_false]))
              go_wp2
              go_ret
              exact ⟨by unfold bestN; rw [HV.out]; try rfl, below_to HY.out hW⟩
            · have HV := Lib.hid (range_all hv.out (show bOk g d nu den l k = true by unfold bOk; rw [decide_eq_true (p := 0 ≤ bsum g d nu den k l) (by omega), decide_eq_true ZN.out]; rfl))
              clear hv
              go_wp2
              go_roundw
              case rel => exact ⟨k + 1, by omega, by go_num, HV, hW⟩
              case measure => simp [intOf]; try omega
    · obtain rfl : k = n := by omega
      go_wp2
      go_ret
      exact ⟨by unfold bestN; rw [hv.out]; try rfl, below_to HY.out hW⟩
theorem nbest_ex (g : Nat → Nat → Int) (d nu : Nat → Int) (den : Int) (n : Nat) (b : Bool) (w : World) (hn : n ≤ 3) (hg : ∀ k l, wi 3000 (g k l)) (hd : ∀ k, wi 3000 (d k)) (hu : ∀ k, wi 200000000000 (nu k)) (hden : wi 200000000000 den) (hb : bestN g d nu den n = b) :
    Calls Try.prog 68 #[.agg #[.int .i64 (g 0 0), .int .i64 (g 0 1), .int .i64 (g 0 2), .int .i64 (g 1 0), .int .i64 (g 1 1), .int .i64 (g 1 2), .int .i64 (g 2 0), .int .i64 (g 2 1), .int .i64 (g 2 2)], .agg #[.int .i64 (d 0), .int .i64 (d 1), .int .i64 (d 2)], .int .i64 n, .agg #[.int .i64 (nu 0), .int .i64 (nu 1), .int .i64 (nu 2)], .int .i64 den] w fun e w' => e = .returned (.bool b) ∧ Below w.heap.size w w' := by
  subst hb; exact nbest_any g d nu den n w hn hg hd hu hden
end Go.Proofs.Ytfoemacgmehpiaa
