/- What is proved here: contracts of functions and plain facts, several texts in one; each one says ahead what it proves, and its conditions. -/
import Derived.Test.YthlcmlngmcoknaaC26
import Derived.Test.YthlcmlngmcoknaaC02
import Derived.Test.YthlcmlngmcoknaaC01
import Derived.RegionTactic
import Derived.ChangeAlike
import Derived.BigRegion
import Derived.IntWalk
import Derived.Deep.DeepCutAuto
import Derived.Test.YthlcmlngmcoknaaC05
import Derived.Test.YthlcmlngmcoknaaC11
/- What is proved here: the contract of nnls.normal. Condition: a valid fit that can be read. -/
namespace Go.Proofs.Ythlcmlngmcoknaa
open Go.RowKit

/-- A right side. -/
def nb (B : List Int) (r : Nat) : Int := B.getD r 0
theorem nb_get {B : List Int} {r : Nat} (h : r < B.length) : nb B r = B[r] := getD_get h
/-- The square matrix while a row is added: the first rows' sums, and one row more where the entry is done. -/
def gpart (A : List (List Int)) (r k l i j : Nat) : Int := if i < k ∨ (i = k ∧ j < l) then qg (cel A) (r + 1) i j else qg (cel A) r i j
def cpart (A : List (List Int)) (B : List Int) (r k i : Nat) : Int := if i < k then qc (cel A) (nb B) (r + 1) 0 i else qc (cel A) (nb B) r 0 i
theorem gpart_put {A : List (List Int)} {r k l : Nat} : mput (gpart A r k l) k l (qg (cel A) r k l + cel A r k * cel A r l) = gpart A r k (l + 1) := by
  funext i j
  unfold mput gpart
  by_cases h : i = k ∧ j = l
  · obtain ⟨rfl, rfl⟩ := h
    rw [if_pos ⟨rfl, rfl⟩, if_pos (.inr ⟨rfl, by omega⟩)]; rfl
  · rw [if_neg h]
    by_cases h2 : i < k ∨ (i = k ∧ j < l)
    · rw [if_pos h2, if_pos (by omega)]
    · rw [if_neg h2, if_neg (by omega)]
theorem cpart_put {A : List (List Int)} {B : List Int} {r k : Nat} : lput (cpart A B r k) k (qc (cel A) (nb B) r 0 k + cel A r k * nb B r) = cpart A B r (k + 1) := by
  funext i
  unfold lput cpart
  by_cases h : i = k
  · subst h
    rw [if_pos rfl, if_pos (by omega)]
    unfold qc; rw [si_succ]; omega
  · rw [if_neg h]
    by_cases h2 : i < k
    · rw [if_pos h2, if_pos (by omega)]
    · rw [if_neg h2, if_neg (by omega)]
theorem gpart_0 {A : List (List Int)} {r : Nat} : gpart A r 0 0 = qg (cel A) r := by
  funext i j; unfold gpart; rw [if_neg (by omega)]
theorem gpart_n {A : List (List Int)} {r k n : Nat} (hw : ∀ l, n ≤ l → cel A r l = 0) : mcs (gpart A r k n) = mcs (gpart A r (k + 1) 0) :=
  mcs_congr fun i _ j _ => by
    unfold gpart
    by_cases h : i < k ∨ (i = k ∧ j < n)
    · rw [if_pos h, if_pos (by omega)]
    · rw [if_neg h]
      by_cases h2 : i = k
      · subst h2
        rw [if_pos (by omega)]
        show _ = qg (cel A) r i j + cel A r i * cel A r j
        rw [hw j (by omega)]; omega
      · rw [if_neg (by omega)]
theorem gpart_end {A : List (List Int)} {r n : Nat} (hw : ∀ l, n ≤ l → cel A r l = 0) : mcs (gpart A r n 0) = mcs (qg (cel A) (r + 1)) :=
  mcs_congr fun i _ j _ => by
    unfold gpart
    by_cases h : i < n ∨ (i = n ∧ j < 0)
    · rw [if_pos h]
    · rw [if_neg h]
      show _ = qg (cel A) r i j + cel A r i * cel A r j
      rw [hw i (by omega)]; omega
theorem cpart_0 {A : List (List Int)} {B : List Int} {r : Nat} : cpart A B r 0 = qc (cel A) (nb B) r 0 := by
  funext i; unfold cpart; rw [if_neg (by omega)]
theorem cpart_end {A : List (List Int)} {B : List Int} {r n : Nat} (hw : ∀ l, n ≤ l → cel A r l = 0) : lcs (cpart A B r n) = lcs (qc (cel A) (nb B) (r + 1) 0) :=
  lcs_congr fun i _ => by
    unfold cpart
    by_cases h : i < n
    · rw [if_pos h]
    · rw [if_neg h]
      unfold qc
      rw [si_succ, hw i (by omega)]; simp
theorem Fit.out {A : List (List Int)} {B : List Int} {n : Nat} (h : Fit A B n) {r l : Nat} (hr : r < A.length) (hl : n ≤ l) : cel A r l = 0 := by
  have := h.wide r hr
  simp [cel, List.getD, hr, show A[r].length ≤ l by omega]
theorem si_wi {f : Nat → Int} {X : Int} : ∀ n, (∀ i, i < n → wi X (f i)) → wi (n * X) (si f n)
  | 0, _ => by simp [si, wi]
  | n + 1, h => by
    have h1 := si_wi n fun i hi => h i (by omega)
    have h2 := h n (by omega)
    have e : ((n + 1 : Nat) : Int) * X = n * X + X := by rw [Int.natCast_add, Int.add_mul]; simp
    rw [si_succ, e]
    unfold wi at *; omega
theorem Fit.cel5 {A : List (List Int)} {B : List Int} {n : Nat} (h : Fit A B n) {r l : Nat} (hr : r < A.length) : wi 5 (cel A r l) := by
  rcases Nat.lt_or_ge l n with h1 | h1
  · have h2 : l < A[r].length := by rw [h.wide r hr]; exact h1
    rw [cel_get hr h2]; exact h.coef r hr l h2
  · rw [h.out hr h1]; unfold wi; omega
theorem Fit.side50 {A : List (List Int)} {B : List Int} {n : Nat} (h : Fit A B n) {r : Nat} (hr : r < A.length) : wi 50 (nb B r) := by
  have h2 : r < B.length := by rw [h.right]; exact hr
  rw [nb_get h2]; exact h.side r h2
theorem Fit.qg125 {A : List (List Int)} {B : List Int} {n : Nat} (h : Fit A B n) {r : Nat} (hr : r ≤ A.length) (k l : Nat) : wi 125 (qg (cel A) r k l) := by
  have h1 := si_wi (f := fun r => cel A r k * cel A r l) (X := 25) r fun i hi => wr_mulbd' (X := 5) (Y := 5) (h.cel5 (by omega)) (h.cel5 (by omega)) (by decide)
  have := h.rows
  unfold wi at h1 ⊢
  unfold qg
  omega
theorem Fit.qc1250 {A : List (List Int)} {B : List Int} {n : Nat} (h : Fit A B n) {r : Nat} (hr : r ≤ A.length) (k : Nat) : wi 1250 (qc (cel A) (nb B) r 0 k) := by
  have h1 := si_wi (f := fun r => cel A r k * nb B r) (X := 250) r fun i hi => wr_mulbd' (X := 5) (Y := 50) (h.cel5 (by omega)) (h.side50 (by omega)) (by decide)
  have := h.rows
  show -1250 ≤ si (fun r => cel A r k * nb B r) r - 0 ∧ si (fun r => cel A r k * nb B r) r - 0 ≤ 1250
  unfold wi at h1
  omega
/-- One product more is not cut. -/
theorem wr_more {g x y X Y G : Int} (hg : wi G g) (hx : wi X x) (hy : wi Y y) (hX : X * Y ≤ 4611686018427387904) (hG : G ≤ 4611686018427387903) : wrap64 (g + wrap64 (x * y)) = g + x * y := by
  have := wr_mulbd hx hy
  rw [wr_add_r]
  refine Go.IntWalk.wrap64_in _ ?_
  unfold wi at hg
  omega
def norm_post (w : World) (A : List (List Int)) (B : List Int) (e : Ending) (w' : World) : Prop :=
  e = .returned (.tuple #[.agg (mcs (qg (cel A) A.length)).toArray, .agg (lcs (qc (cel A) (nb B) A.length 0)).toArray]) ∧ Below w.heap.size w w'
set_option maxRecDepth 100000 in
set_option maxHeartbeats 4000000 in
theorem nnorm_any (A : List (List Int)) (B : List Int) (n : Nat) (va vb : Value) (w : World) (hA : SS w va A) (hB : SI w vb B) (hF : Fit A B n) :
    Calls Try.prog 111 #[.agg #[va, vb]] w (norm_post w A B) := by
  have HF := Lib.hid hF
  have ml : A.length ≤ 5 := hF.rows.2
  have nl : n ≤ 3 := hF.cols.2
  have HR := Lib.hid hF.right
  clear hF
  obtain ⟨ada, capa, rfl, ha1, ha2, _⟩ := hA.open
  obtain ⟨adb, capb, rfl, hb1, hb2, _⟩ := hB.open
  go_enter Try.func111, Try.ntmps111
  have oS := Own.new w 25 [.slice ada A.length capa, .slice adb B.length capb]
  have hy := ba1 w (.cells #[.slice ada A.length capa, .slice adb B.length capb] 25)
  have SA := Lib.hid (hA.below hy)
  have SB' := Lib.hid (hB.below hy)
  clear hA hB
  have zy : w.heap.size + 1 = (w.alloc (.cells #[.slice ada A.length capa, .slice adb B.length capb] 25)).heap.size := by simp
  go_upto_region 1 with fail
  generalize hyy : w.alloc (.cells #[.slice ada A.length capa, .slice adb B.length capb] 25) = y at *
  obtain ⟨bS, hbS⟩ : ∃ b, b = w.heap.size := ⟨_, rfl⟩
  rw [← hbS] at oS zy ⊢
  clear hbS hyy
  have HY := Lib.hid hy
  clear hy
  have oG := own_first y 161 (mcs (qg (cel A) 0)) (.cells (lcs (qc (cel A) (nb B) 0 0)).toArray 159)
  have oC := own_second y 159 (lcs (qc (cel A) (nb B) 0 0)) (.cells (mcs (qg (cel A) 0)).toArray 161)
  have hW := ba2 y (.cells (mcs (qg (cel A) 0)).toArray 161) (.cells (lcs (qc (cel A) (nb B) 0 0)).toArray 159)
  obtain ⟨rS, fS⟩ := oS.rules
  have zS := oS.lt
  go_wp2
  have ZY := Lib.hid zy
  clear rS fS zS zy
  go_loopw [13] (fun i wr => ∃ r : Nat, r ≤ A.length ∧ i = .int .i64 r ∧ Own wr y.heap.size 161 (mcs (qg (cel A) r)) ∧ Own wr (y.heap.size + 1) 159 (lcs (qc (cel A) (nb B) r 0)) ∧ Below y.heap.size y wr) (fun i _ => A.length - (intOf i).toNat)
  case atStart => exact ⟨0, Nat.zero_le _, rfl, oG, oC, hW⟩
  case round =>
    clear oG oC hW
    obtain ⟨r, hr, rfl, oG, oC, hW⟩ := hrel
    rename World => W
    by_cases hlt : r < A.length
    · obtain ⟨_, _, e, _, _, H⟩ := SA.out.open
      cases e
      obtain ⟨b, off, ad', cap', rfl, c1, c2, c3, sR⟩ := H.out r hlt
      clear H
      replace c1 := below_cell hW c1
      have HO := Lib.hid (fun l hl => HF.out.out (r := r) (l := l) hlt hl)
      have hw := HF.out.wide r hlt
      have C5 := Lib.hid (fun l => HF.out.cel5 (l := l) hlt)
      have CG := Lib.hid (fun k l => HF.out.qg125 (r := r) (by omega) k l)
      have CC := Lib.hid (fun k => HF.out.qc1250 (r := r) (by omega) k)
      have CB := Lib.hid (HF.out.side50 hlt)
      have CE : Hid (∀ k, A[r].getD k 0 = cel A r k) := fun k => by simp [cel, List.getD, hlt]
      have SR := Lib.hid sR
      clear sR
      rw [hw] at c1 c2 c3
      generalize A[r] = row at *
      have SR' : Hid (SI y (.slice ad' n cap') row) := by show SI _ _ _; rw [← hw]; exact SR.out
      have HW := Lib.hid hw
      clear hw SR
      go_wp2
      go_loopw [20] (fun i wr => ∃ k : Nat, k ≤ n ∧ i = .int .i64 k ∧ Own wr y.heap.size 161 (mcs (gpart A r k 0)) ∧ Own wr (y.heap.size + 1) 159 (lcs (cpart A B r k)) ∧ Below y.heap.size y wr) (fun i _ => n - (intOf i).toNat)
      case atStart => exact ⟨0, Nat.zero_le _, rfl, by rw [gpart_0]; exact oG, by rw [cpart_0]; exact oC, hW⟩
      case round =>
        clear oG oC hW c1
        obtain ⟨k, hk, rfl, oG, oC, hW⟩ := hrel
        rename World => W1
        by_cases hkn : k < n
        · obtain ⟨_, _, e, _, _, H⟩ := (SR'.out.below hW).open
          cases e
          obtain ⟨b1, off1, rfl, d1⟩ := H.out k (by rw [HW.out]; exact hkn)
          clear H
          rw [← getD_get (d := 0) (by rw [HW.out]; exact hkn), CE.out] at d1
          go_wp2
          go_loopw [27] (fun i wr => ∃ l : Nat, l ≤ row.length ∧ i = .int .i64 l ∧ Own wr y.heap.size 161 (mcs (gpart A r k l)) ∧ Own wr (y.heap.size + 1) 159 (lcs (cpart A B r k)) ∧ Below y.heap.size y wr) (fun i _ => row.length - (intOf i).toNat)
          case atStart => exact ⟨0, Nat.zero_le _, rfl, oG, oC, hW⟩
          case round =>
            clear oG oC hW d1
            obtain ⟨l, hl, rfl, oG, oC, hW⟩ := hrel
            rename World => W2
            by_cases hln : l < row.length
            · obtain ⟨_, _, e, _, _, H⟩ := (SR'.out.below hW).open
              cases e
              obtain ⟨b1, off1, e, d1⟩ := H.out l hln
              cases e
              clear H
              rw [← getD_get (d := 0) hln, CE.out] at d1
              have g0 := mcs_get (gpart A r k l) (k := k) (l := l) (by omega) (by omega)
              have E : Hid (wrap64 (gpart A r k l k l + wrap64 (cel A r k * cel A r l)) = qg (cel A) r k l + cel A r k * cel A r l) := by
                have : gpart A r k l k l = qg (cel A) r k l := by unfold gpart; rw [if_neg (by omega)]
                rw [this]; exact wr_more (CG.out k l) (C5.out k) (C5.out l) (by decide) (by decide)
              obtain ⟨rG, fG⟩ := oG.rules
              have zG := oG.lt
              have g1 := (rG (k * 3 + l)).trans g0
              go_wp2_with fail
              have gl := @grow_lt
              refine wp_region_st [.t [0, 1, 2, 3, 4, 5, 6, 7, 8, 9, 10]] [11] (by kernel_rfl) (by kernel_rfl) (fun _ _ _ _ _ h => h) ?_
              refine wpX_t ?_
              try simp only [opsAt, List.getElem?_toArray, List.getElem?_cons_zero, List.getElem?_cons_succ, Option.getD_some]
              repeat (go_big_quiet_step (fail))
              refine wpQuiet_nil ?_
              refine wpX_nil ?_
              try simp only [opsAt, List.getElem?_toArray, List.getElem?_cons_zero, List.getElem?_cons_succ, Option.getD_some]
              clear gl
              go_wp2
              go_roundw
              case rel =>
                refine ⟨l + 1, by omega, by go_num, ?_, oC.drew.other (by omega) _ _, hW.drew.setCell (p := ⟨y.heap.size, k * 3 + l, none⟩) (by simp) _⟩
                have o2 := oG.drew.set (k * 3 + l) (.int .i64 (wrap64 (gpart A r k l k l + wrap64 (cel A r k * cel A r l))))
                rw [mcs_set _ (by omega) (by omega)] at o2
                have e : mput (gpart A r k l) k l (wrap64 (gpart A r k l k l + wrap64 (cel A r k * cel A r l))) = gpart A r k (l + 1) := by rw [E.out, gpart_put]
                rw [e] at o2
                exact o2
              case measure => simp [intOf]; try omega
            · obtain rfl : l = row.length := by omega
              rw [gpart_n HO.out] at oG
              replace oS := oS.below hW
              obtain ⟨_, _, e, _, _, H⟩ := (SB'.out.below hW).open
              cases e
              obtain ⟨b2, off2, rfl, d2⟩ := H.out r (by rw [HR.out]; exact hlt)
              clear H
              rw [← nb_get (by rw [HR.out]; exact hlt)] at d2
              have hrB : r < B.length := by rw [HR.out]; exact hlt
              have zb2 : b2 < W2.heap.size := World.block_lt_of_cell? W2 _ d2
              have E : Hid (wrap64 (cpart A B r k k + wrap64 (cel A r k * nb B r)) = qc (cel A) (nb B) r 0 k + cel A r k * nb B r) := by
                have : cpart A B r k k = qc (cel A) (nb B) r 0 k := by unfold cpart; rw [if_neg (by omega)]
                rw [this]; exact wr_more (CC.out k) (C5.out k) CB.out (by decide) (by decide)
              have g0 := lcs_get (cpart A B r k) (k := k) (by omega)
              have CP : Hid (lput (cpart A B r k) k (qc (cel A) (nb B) r 0 k + cel A r k * nb B r) = cpart A B r (k + 1)) := cpart_put
              generalize nb B r = br at *
              obtain ⟨rS, fS⟩ := oS.rules
              have zS := oS.lt
              obtain ⟨rC, fC⟩ := oC.rules
              have zC := oC.lt
              have g1 := (rC k).trans g0
              go_wp2_with fail
              have gl := @grow_lt
              refine wp_region_st [.t [0, 1, 2, 3, 4, 5, 6, 7, 8, 9, 10, 11]] [12] (by kernel_rfl) (by kernel_rfl) (fun _ _ _ _ _ h => h) ?_
              refine wpX_t ?_
              try simp only [opsAt, List.getElem?_toArray, List.getElem?_cons_zero, List.getElem?_cons_succ, Option.getD_some]
              repeat (go_big_quiet_step (fail))
              refine wpQuiet_nil ?_
              refine wpX_nil ?_
              try simp only [opsAt, List.getElem?_toArray, List.getElem?_cons_zero, List.getElem?_cons_succ, Option.getD_some]
              clear gl
              go_wp2
              go_roundw
              case rel =>
                refine ⟨k + 1, by omega, by go_num, oG.drew.other (by omega) _ _, ?_, hW.drew.setCell (p := ⟨y.heap.size + 1, k, none⟩) (by simp) _⟩
                have o2 := oC.drew.set k (.int .i64 (wrap64 (cpart A B r k k + wrap64 (cel A r k * br))))
                rw [lcs_set _ (by omega)] at o2
                have e : lput (cpart A B r k) k (wrap64 (cpart A B r k k + wrap64 (cel A r k * br))) = cpart A B r (k + 1) := by rw [E.out]; exact CP.out
                rw [e] at o2
                exact o2
              case measure => simp [intOf]; try omega
        · obtain rfl : k = n := by omega
          rw [gpart_end HO.out] at oG
          rw [cpart_end HO.out] at oC
          go_wp2
          go_roundw
          case rel => exact ⟨r + 1, by omega, by go_num, oG, oC, hW⟩
          case measure => simp [intOf]; try omega
    · obtain rfl : r = A.length := by omega
      rw [mcs_is] at oG
      rw [lcs_is] at oC
      obtain ⟨rG, fG⟩ := oG.rules
      have zG := oG.lt
      obtain ⟨rC, fC⟩ := oC.rules
      have zC := oC.lt
      go_wp2
      go_region
      go_wp2
      have hne : y.heap.size ≠ y.heap.size + 1 := by omega
      obtain ⟨p1, p2, p3⟩ := refill_own oG oC hne hW (Nat.le_refl _) (Nat.le_succ _)
      refine bp_gen' (fun X => Own X y.heap.size _ _ ∧ Own X (y.heap.size + 1) _ _ ∧ Below y.heap.size y X) ⟨p1.drew, p2.drew, p3.drew⟩ ?_
      rintro wz ⟨q1, q2, bz⟩
      obtain ⟨r1, f1⟩ := q1.rules
      obtain ⟨r2, f2⟩ := q2.rules
      clear q1 q2 p1 p2 p3
      refine bodyPost_ret (v := .tuple #[.agg (mcs (qg (cel A) A.length)).toArray, .agg (lcs (qc (cel A) (nb B) A.length 0)).toArray]) (by simp [results, Try.results111, go_sem, r1, r2, mcs_is, lcs_is]) rfl ⟨rfl, ?_⟩
      exact below_to HY.out bz
end Go.Proofs.Ythlcmlngmcoknaa

/- What is proved here: what the sums, residuals, gradients and values of a fit are as rational numbers. No program in sight. Condition: as each theorem says. -/
namespace Go.Proofs.Ythlcmlngmcoknaa
open Go.RowKit

section
variable (x : List (Int × Int))
/-- A point as rational numbers. -/
def nx (k : Nat) : Rat := qq (x.getD k (0, 0))
variable {A : List (List Int)} {B : List Int} {x}
theorem nx_out {k : Nat} (h : x.length ≤ k) : nx x k = 0 := by unfold nx; simp [List.getD, List.getElem?_eq_none h, qq_00]
theorem nx_get {k : Nat} (h : k < x.length) : nx x k = qq x[k] := by unfold nx; rw [getD_get h]
theorem tq_row (i k : Nat) : tq (rowT A x i) k = ra (cel A) i k * nx x k := by
  unfold tq rowT nx ra
  rw [qq_int]
theorem row_tval (h : FitX A B x) {i : Nat} (hi : i < A.length) : tval (rowT A x i) x.length := fun j hj => by
  have hw : j < A[i].length := by rw [h.wide i hi]; exact hj
  have h1 := h.coef i hi j hw
  unfold rowT
  rw [cel_get hi hw]
  refine ⟨fchk_small h1.1 h1.2, ?_⟩
  simp only [List.getD, List.getElem?_eq_getElem hj, Option.getD_some]
  exact h.val j hj
theorem row_sum (h3 : x.length ≤ 3) (i : Nat) : sm (tq (rowT A x i)) x.length = qax (ra (cel A)) (nx x) i := by
  unfold qax
  rw [← sm_more 3 h3 fun j hj => by rw [tq_row, nx_out hj]; grind]
  exact sm_congr 3 fun j _ => tq_row i j
theorem side_chk (h : FitX A B x) {i : Nat} (hi : i < A.length) : fchk (nb B i) 1 = 0 := by
  have hb : i < B.length := by rw [h.right]; exact hi
  rw [nb_get hb]
  exact fchk_small (h.side i hb).1 (h.side i hb).2
/-- A number of the residual. -/
theorem nres_val (h : FitX A B x) (h3 : x.length ≤ 3) {i : Nat} (hi : i < A.length) (he : (nres A B x i).e = 0) :
    inr (qres (ra (cel A)) (rb (nb B)) (nx x) i) ∧ nres A B x i = uf (qres (ra (cel A)) (rb (nb B)) (nx x) i) := by
  have h0 : (gsum (rowT A x i) x.length).e = 0 := by
    apply Classical.byContradiction
    intro h0
    rw [nres_1 h0] at he
    exact h0 he
  obtain ⟨s1, s2⟩ := gsum_val x.length (row_tval h hi) h0
  rw [row_sum h3] at s1 s2
  rw [nres_0 h0, s2] at he ⊢
  have := fsub_qq (a := up (qax (ra (cel A)) (nx x) i)) (b := (nb B i, 1)) (up_chk s1) (side_chk h hi)
  rw [qq_up, qq_int] at this
  have hs : fsub (uf (qax (ra (cel A)) (nx x) i)).n (uf (qax (ra (cel A)) (nx x) i)).d (B.getD i 0) 1 = pack (qres (ra (cel A)) (rb (nb B)) (nx x) i) := this
  rw [hs] at he ⊢
  exact pack_val he
/-- The residual without an error. -/
theorem nresid_val (h : FitX A B x) (h3 : x.length ≤ 3) (he : (nresidual A B x).2 = 0) :
    (∀ i, i < A.length → inr (qres (ra (cel A)) (rb (nb B)) (nx x) i)) ∧ (nresidual A B x).1 = (List.range A.length).map fun i => up (qres (ra (cel A)) (rb (nb B)) (nx x) i) := by
  have h1 := fun i (hi : i < A.length) => nres_val h h3 hi (rows_each A.length he i hi).1
  refine ⟨fun i hi => (h1 i hi).1, ?_⟩
  have := rows_list (f := nres A B x) (m := A.length) fun i hi => (h1 i hi).2
  unfold nresidual
  rw [this]
theorem res_getD {g : Nat → Rat} {n i : Nat} (hi : i < n) : ((List.range n).map fun i => up (g i)).getD i (0, 0) = up (g i) := by
  simp [List.getD, hi]
theorem tq_sq {g : Nat → Rat} {n i : Nat} (hi : i < n) : tq (sqT ((List.range n).map fun i => up (g i))) i = g i * g i := by
  unfold tq sqT; rw [res_getD hi, qq_up]
theorem tq_col {g : Nat → Rat} {n i k : Nat} (hi : i < n) : tq (colT A ((List.range n).map fun i => up (g i)) k) i = ra (cel A) i k * g i := by
  unfold tq colT ra; rw [res_getD hi, qq_up, qq_int]
theorem sq_tval {g : Nat → Rat} {n : Nat} (h : ∀ i, i < n → inr (g i)) : tval (sqT ((List.range n).map fun i => up (g i))) n := fun j hj => by
  unfold sqT; rw [res_getD hj]; exact ⟨up_chk (h j hj), up_chk (h j hj)⟩
theorem col_tval (hF : FitX A B x) {g : Nat → Rat} (h : ∀ i, i < A.length → inr (g i)) {k : Nat} (hk : k < x.length) : tval (colT A ((List.range A.length).map fun i => up (g i)) k) A.length := fun j hj => by
  have hw : k < A[j].length := by rw [hF.wide j hj]; exact hk
  have h1 := hF.coef j hj k hw
  unfold colT
  rw [res_getD hj, cel_get hj hw]
  exact ⟨fchk_small h1.1 h1.2, up_chk (h j hj)⟩
/-- The value without an error. -/
theorem nval_val (hp : npoint A B x = 0) (h3 : x.length ≤ 3) (he : (nValue A B x).e = 0) : inr (qval (ra (cel A)) (rb (nb B)) A.length (nx x)) ∧ nValue A B x = uf (qval (ra (cel A)) (rb (nb B)) A.length (nx x)) := by
  have hF := FitX.of hp
  have h0 : (nResidual A B x).2 = 0 := by
    apply Classical.byContradiction
    intro h0
    rw [nVal_1 h0] at he
    exact h0 he
  have e0 : nResidual A B x = nresidual A B x := if_pos hp
  rw [nVal_0 h0] at he ⊢
  rw [e0] at h0 he ⊢
  obtain ⟨r1, r2⟩ := nresid_val hF h3 h0
  rw [r2] at he ⊢
  rw [show ((List.range A.length).map fun i => up (qres (ra (cel A)) (rb (nb B)) (nx x) i)).length = A.length from by simp] at he ⊢
  have := gsum_val A.length (sq_tval r1) he
  have e1 : sm (tq (sqT ((List.range A.length).map fun i => up (qres (ra (cel A)) (rb (nb B)) (nx x) i)))) A.length = qval (ra (cel A)) (rb (nb B)) A.length (nx x) :=
    sm_congr A.length fun i hi => tq_sq hi
  rw [e1] at this
  exact this
/-- The gradient without an error. -/
theorem ngrad_val (hp : npoint A B x = 0) (h3 : x.length ≤ 3) (he : (nGradient A B x).2 = 0) : (nResidual A B x).2 = 0 ∧ (∀ k, k < x.length → inr (qgrd (ra (cel A)) (rb (nb B)) A.length (nx x) k)) ∧ (nGradient A B x).1 = (List.range x.length).map fun k => up (qgrd (ra (cel A)) (rb (nb B)) A.length (nx x) k) := by
  have hF := FitX.of hp
  have h0 : (nResidual A B x).2 = 0 := by
    apply Classical.byContradiction
    intro h0
    rw [nGrad_1 h0] at he
    exact h0 he
  have e0 : nResidual A B x = nresidual A B x := if_pos hp
  refine ⟨h0, ?_⟩
  rw [nGrad_0 h0] at he ⊢
  rw [e0] at h0 he ⊢
  obtain ⟨r1, r2⟩ := nresid_val hF h3 h0
  rw [r2] at he ⊢
  have h1 : ∀ k, k < x.length → inr (qgrd (ra (cel A)) (rb (nb B)) A.length (nx x) k) ∧ gsum (colT A ((List.range A.length).map fun i => up (qres (ra (cel A)) (rb (nb B)) (nx x) i)) k) A.length = uf (qgrd (ra (cel A)) (rb (nb B)) A.length (nx x) k) := fun k hk => by
    have := gsum_val A.length (col_tval hF r1 hk) (rows_each x.length he k hk).1
    have e1 : sm (tq (colT A ((List.range A.length).map fun i => up (qres (ra (cel A)) (rb (nb B)) (nx x) i)) k)) A.length = qgrd (ra (cel A)) (rb (nb B)) A.length (nx x) k :=
      sm_congr A.length fun i hi => tq_col hi
    rw [e1] at this
    exact this
  refine ⟨fun k hk => (h1 k hk).1, ?_⟩
  rw [rows_list (g := fun k => qgrd (ra (cel A)) (rb (nb B)) A.length (nx x) k) fun k hk => (h1 k hk).2]
end
end Go.Proofs.Ythlcmlngmcoknaa

/- What is proved here: the contract of nnls.best. Condition: numbers within 3000, numerators and denominator within 200,000,000,000. -/
namespace Go.Proofs.Ythlcmlngmcoknaa
open Go.RowKit

/-- The slope of an unknown times the denominator, over the first unknowns. -/
def bsum (g : Nat → Nat → Int) (d nu : Nat → Int) (den : Int) (k l : Nat) : Int := -den * d k + si (fun l => g k l * nu l) l
/-- An unknown whose number and slope are not negative. -/
def bOk (g : Nat → Nat → Int) (d nu : Nat → Int) (den : Int) (n k : Nat) : Bool := decide (0 ≤ nu k) && decide (0 ≤ bsum g d nu den k n)
def bestN (g : Nat → Nat → Int) (d nu : Nat → Int) (den : Int) (n : Nat) : Bool := (List.range n).all (bOk g d nu den n)
theorem range_all {p : Nat → Bool} {k : Nat} (h : (List.range k).all p = true) (hp : p k = true) : (List.range (k + 1)).all p = true := by
  rw [List.range_succ, List.all_append, h]; simp [hp]
theorem range_not {p : Nat → Bool} {k n : Nat} (hk : k < n) (hp : p k = false) : (List.range n).all p = false := by
  rw [List.all_eq_false]; exact ⟨k, List.mem_range.2 hk, by rw [hp]; decide⟩
theorem bsum_succ {g : Nat → Nat → Int} {d nu : Nat → Int} {den : Int} {k l : Nat} : bsum g d nu den k (l + 1) = bsum g d nu den k l + g k l * nu l := by
  unfold bsum; rw [si_succ]; omega
theorem si_wi' {f : Nat → Int} {X : Int} : ∀ n, (∀ i, i < n → wi X (f i)) → wi (n * X) (si f n)
  | 0, _ => by simp [si, wi]
  | n + 1, h => by
    have h1 := si_wi' n fun i hi => h i (by omega)
    have h2 := h n (by omega)
    have e : ((n + 1 : Nat) : Int) * X = n * X + X := by rw [Int.natCast_add, Int.add_mul]; simp
    rw [si_succ, e]
    unfold wi at *; omega
theorem bsum_wi {g : Nat → Nat → Int} {d nu : Nat → Int} {den : Int} {k : Nat} (hg : ∀ k l, wi 3000 (g k l)) (hd : ∀ k, wi 3000 (d k)) (hn : ∀ k, wi 200000000000 (nu k)) (hden : wi 200000000000 den) (l : Nat) (hl : l ≤ 3) : wi 2400000000000000 (bsum g d nu den k l) := by
  have h1 := si_wi' (f := fun l => g k l * nu l) (X := 600000000000000) l fun i hi => wr_mulbd' (X := 3000) (Y := 200000000000) (hg k i) (hn i) (by decide)
  have h2 := wr_mulbd' (X := 200000000000) (Y := 3000) (x := -den) (y := d k) (Z := 600000000000000) (by unfold wi at hden; omega) (hd k) (by decide)
  unfold bsum
  generalize si (fun l => g k l * nu l) l = s at *
  generalize -den * d k = p at *
  unfold wi at *
  omega
theorem wr_more' {g x y X Y G : Int} (hg : wi G g) (hx : wi X x) (hy : wi Y y) (hX : X * Y ≤ 4611686018427387904) (hG : G ≤ 4611686018427387903) : wrap64 (g + wrap64 (x * y)) = g + x * y := by
  have := wr_mulbd hx hy
  rw [wr_add_r]
  refine Go.IntWalk.wrap64_in _ ?_
  unfold wi at hg
  omega
set_option maxRecDepth 100000 in
set_option maxHeartbeats 4000000 in
theorem nbest_any (g : Nat → Nat → Int) (d nu : Nat → Int) (den : Int) (n : Nat) (w : World) (hn : n ≤ 3) (hg : ∀ k l, wi 3000 (g k l)) (hd : ∀ k, wi 3000 (d k)) (hu : ∀ k, wi 200000000000 (nu k)) (hden : wi 200000000000 den) :
    Calls Try.prog 113 #[.agg (mcs g).toArray, .agg (lcs d).toArray, .int .i64 n, .agg (lcs nu).toArray, .int .i64 den] w fun e w' => e = .returned (.bool (bestN g d nu den n)) ∧ Below w.heap.size w w' := by
  have HG := Lib.hid hg
  have HD := Lib.hid hd
  have HU := Lib.hid hu
  have HN := Lib.hid hden
  have e1 : wrap64 (-den) = -den := by refine Go.IntWalk.wrap64_in _ ?_; unfold wi at hden; omega
  have E1 := Lib.hid e1
  clear hg hd hu hden e1
  rw [mcs_is, lcs_is, lcs_is]
  have oG := ((Own.new w 161 [.int .i64 (g 0 0), .int .i64 (g 0 1), .int .i64 (g 0 2), .int .i64 (g 1 0), .int .i64 (g 1 1), .int .i64 (g 1 2), .int .i64 (g 2 0), .int .i64 (g 2 1), .int .i64 (g 2 2)]).alloc (.cells #[.int .i64 (d 0), .int .i64 (d 1), .int .i64 (d 2)] 159)).alloc (.cells #[.int .i64 (nu 0), .int .i64 (nu 1), .int .i64 (nu 2)] 159)
  have oD := (own_second w 159 [.int .i64 (d 0), .int .i64 (d 1), .int .i64 (d 2)] (.cells #[.int .i64 (g 0 0), .int .i64 (g 0 1), .int .i64 (g 0 2), .int .i64 (g 1 0), .int .i64 (g 1 1), .int .i64 (g 1 2), .int .i64 (g 2 0), .int .i64 (g 2 1), .int .i64 (g 2 2)] 161)).alloc (.cells #[.int .i64 (nu 0), .int .i64 (nu 1), .int .i64 (nu 2)] 159)
  have oU := own_third w 159 [.int .i64 (nu 0), .int .i64 (nu 1), .int .i64 (nu 2)] (.cells #[.int .i64 (g 0 0), .int .i64 (g 0 1), .int .i64 (g 0 2), .int .i64 (g 1 0), .int .i64 (g 1 1), .int .i64 (g 1 2), .int .i64 (g 2 0), .int .i64 (g 2 1), .int .i64 (g 2 2)] 161) (.cells #[.int .i64 (d 0), .int .i64 (d 1), .int .i64 (d 2)] 159)
  have hy := ba3 w (.cells #[.int .i64 (g 0 0), .int .i64 (g 0 1), .int .i64 (g 0 2), .int .i64 (g 1 0), .int .i64 (g 1 1), .int .i64 (g 1 2), .int .i64 (g 2 0), .int .i64 (g 2 1), .int .i64 (g 2 2)] 161) (.cells #[.int .i64 (d 0), .int .i64 (d 1), .int .i64 (d 2)] 159) (.cells #[.int .i64 (nu 0), .int .i64 (nu 1), .int .i64 (nu 2)] 159)
  have HY := Lib.hid hy
  clear hy
  go_enter Try.func113, Try.ntmps113
  go_wp2
  generalize ((w.alloc (.cells #[.int .i64 (g 0 0), .int .i64 (g 0 1), .int .i64 (g 0 2), .int .i64 (g 1 0), .int .i64 (g 1 1), .int .i64 (g 1 2), .int .i64 (g 2 0), .int .i64 (g 2 1), .int .i64 (g 2 2)] 161)).alloc (.cells #[.int .i64 (d 0), .int .i64 (d 1), .int .i64 (d 2)] 159)).alloc (.cells #[.int .i64 (nu 0), .int .i64 (nu 1), .int .i64 (nu 2)] 159) = y at *
  obtain ⟨z, hz⟩ : ∃ z, z = w.heap.size := ⟨_, rfl⟩
  rw [← hz] at oG oD oU ⊢
  clear hz
  rw [← mcs_is] at oG
  rw [← lcs_is] at oD oU
  have OG := Lib.hid oG
  have OD := Lib.hid oD
  have OU := Lib.hid oU
  clear oG oD oU
  go_loopw [11] (fun i wr => ∃ k : Nat, k ≤ n ∧ i = .int .i64 k ∧ Hid ((List.range k).all (bOk g d nu den n) = true) ∧ Below y.heap.size y wr) (fun i _ => n - (intOf i).toNat)
  case atStart => exact ⟨0, Nat.zero_le _, rfl, rfl, Below.refl _ _⟩
  case round =>
    obtain ⟨k, hk, rfl, hv, hW⟩ := hrel
    rename World => W
    by_cases hlt : k < n
    · have oG := OG.out.below hW
      have oD := OD.out.below hW
      have oU := OU.out.below hW
      obtain ⟨rG, fG⟩ := oG.rules
      have zG := oG.lt
      obtain ⟨rD, fD⟩ := oD.rules
      have zD := oD.lt
      obtain ⟨rU, fU⟩ := oU.rules
      have zU := oU.lt
      have u0 := lcs_get nu (k := k) (by omega)
      have d0 := lcs_get d (k := k) (by omega)
      by_cases hz : nu k < 0
      · have HV := Lib.hid (range_not (p := bOk g d nu den n) hlt (by unfold bOk; rw [decide_eq_false (by omega)]; rfl))
        go_wp2
        go_ret
        exact ⟨by unfold bestN; rw [HV.out]; try rfl, below_to HY.out hW⟩
      · have EB : Hid (wrap64 (-den * d k) = bsum g d nu den k 0) := by
          have h := bsum_wi HG.out HD.out HU.out HN.out (k := k) 0 (by omega)
          show wrap64 (-den * d k) = -den * d k + 0
          have e : bsum g d nu den k 0 = -den * d k + 0 := rfl
          rw [e] at h
          rw [Go.IntWalk.wrap64_in _ (by unfold wi at h; omega)]; omega
        have ZN := Lib.hid hz
        clear hz
        go_wp2
        rw [E1.out, EB.out]
        clear rG fG rD fD rU fU oG oD oU zG zD zU u0 d0 EB
        go_loopw [12, 13] (fun s i wr => ∃ l : Nat, l ≤ n ∧ i = .int .i64 l ∧ s = .int .i64 (bsum g d nu den k l) ∧ Below y.heap.size y wr) (fun _ i _ => n - (intOf i).toNat)
        case atStart => exact ⟨0, Nat.zero_le _, rfl, rfl, hW⟩
        case round =>
          clear hW
          obtain ⟨l, hl, rfl, rfl, hW⟩ := hrel
          rename World => W1
          by_cases hll : l < n
          · have oG := OG.out.below hW
            have oU := OU.out.below hW
            obtain ⟨rG, fG⟩ := oG.rules
            have zG := oG.lt
            obtain ⟨rU, fU⟩ := oU.rules
            have zU := oU.lt
            have u0 := lcs_get nu (k := l) (by omega)
            have g0 := mcs_get g (k := k) (l := l) (by omega) (by omega)
            have EB : Hid (wrap64 (bsum g d nu den k l + wrap64 (g k l * nu l)) = bsum g d nu den k (l + 1)) := by
              have h := bsum_wi HG.out HD.out HU.out HN.out (k := k) l (by omega)
              show _ = _
              rw [bsum_succ]
              exact wr_more' h (HG.out k l) (HU.out l) (by decide) (by decide)
            go_wp2_with fail
            have gl := @grow_lt
            refine wp_region_st [.t [0, 1, 2, 3, 4, 5, 6, 7, 8, 9, 10]] [11] (by kernel_rfl) (by kernel_rfl) (fun _ _ _ _ _ h => h) ?_
            refine wpX_t ?_
            try simp only [opsAt, List.getElem?_toArray, List.getElem?_cons_zero, List.getElem?_cons_succ, Option.getD_some]
            repeat (go_big_quiet_step (fail))
            refine wpQuiet_nil ?_
            refine wpX_nil ?_
            try simp only [opsAt, List.getElem?_toArray, List.getElem?_cons_zero, List.getElem?_cons_succ, Option.getD_some]
            clear gl
            go_wp2
            rw [EB.out]
            go_roundw
            case rel => exact ⟨l + 1, by omega, by go_num, rfl, hW.drew⟩
            case measure => simp [intOf]; try omega
          · obtain rfl : l = n := by omega
            by_cases hs : bsum g d nu den k l < 0
            · have HV := Lib.hid (range_not (p := bOk g d nu den l) hlt (by unfold bOk; rw [decide_eq_false (p := 0 ≤ bsum g d nu den k l) (by omega), Bool.and_false]))
              go_wp2
              go_ret
              exact ⟨by unfold bestN; rw [HV.out]; try rfl, below_to HY.out hW⟩
            · have HV := Lib.hid (range_all hv.out (show bOk g d nu den l k = true by unfold bOk; rw [decide_eq_true (p := 0 ≤ bsum g d nu den k l) (by omega), decide_eq_true ZN.out]; rfl))
              clear hv
              go_wp2
              go_roundw
              case rel => exact ⟨k + 1, by omega, by go_num, HV, hW⟩
              case measure => simp [intOf]; try omega
    · obtain rfl : k = n := by omega
      go_wp2
      go_ret
      exact ⟨by unfold bestN; rw [hv.out]; try rfl, below_to HY.out hW⟩
theorem nbest_ex (g : Nat → Nat → Int) (d nu : Nat → Int) (den : Int) (n : Nat) (b : Bool) (w : World) (hn : n ≤ 3) (hg : ∀ k l, wi 3000 (g k l)) (hd : ∀ k, wi 3000 (d k)) (hu : ∀ k, wi 200000000000 (nu k)) (hden : wi 200000000000 den) (hb : bestN g d nu den n = b) :
    Calls Try.prog 113 #[.agg #[.int .i64 (g 0 0), .int .i64 (g 0 1), .int .i64 (g 0 2), .int .i64 (g 1 0), .int .i64 (g 1 1), .int .i64 (g 1 2), .int .i64 (g 2 0), .int .i64 (g 2 1), .int .i64 (g 2 2)], .agg #[.int .i64 (d 0), .int .i64 (d 1), .int .i64 (d 2)], .int .i64 n, .agg #[.int .i64 (nu 0), .int .i64 (nu 1), .int .i64 (nu 2)], .int .i64 den] w fun e w' => e = .returned (.bool b) ∧ Below w.heap.size w w' := by
  subst hb; exact nbest_any g d nu den n w hn hg hd hu hden
end Go.Proofs.Ythlcmlngmcoknaa

/- What is proved here: the solution of a fit with a cost as a list of fractions: its set, its numbers, and that a program that looks for the first good set finds it. No program in sight, no condition. -/
namespace Go.Proofs.Ythlcmlngmcoknaa
open Go.RowKit

section
variable (A : List (List Int)) (B : List Int) (c : Int) (n : Nat)
/-- The square matrix, the right sides less the cost, the solution's set, and its numbers. -/
def nG : Nat → Nat → Int := qg (cel A) A.length
def nD : Nat → Int := qc (cel A) (nb B) A.length c
def nS : Nat := fst8 (nG A) (nD A B c)
def nsx (k : Nat) : Rat := xs8 (cel A) (nb B) A.length c (nS A B c) k
def nsol : List (Int × Int) := (List.range n).map fun k => up (nsx A B c k)
end
variable {A : List (List Int)} {B : List Int} {c : Int} {n : Nat}
theorem nD_wi (h : Fit A B n) (h0 : 0 ≤ c) (h1 : c ≤ 1000) (k : Nat) : wi 3000 (nD A B c k) := by
  have h2 := h.qc1250 (r := A.length) (by omega) k
  have e : nD A B c k = qc (cel A) (nb B) A.length 0 k - c := by unfold nD qc; omega
  rw [e]
  unfold wi at *; omega
theorem nG_wi (h : Fit A B n) (k l : Nat) : wi 3000 (nG A k l) := wi_mono (h.qg125 (by omega) k l) (by decide)
theorem nG_out (h : Fit A B n) {k l : Nat} (hk : n ≤ l) : nG A k l = 0 := si_0 A.length fun r hr => by rw [h.out hr hk]; simp
theorem nG_comm (k l : Nat) : nG A k l = nG A l k := qg_comm _ _ _ _
theorem si_more {f : Nat → Int} {n : Nat} : ∀ N, n ≤ N → (∀ j, n ≤ j → f j = 0) → si f N = si f n
  | 0, h, _ => by obtain rfl : n = 0 := by omega
                  rfl
  | N + 1, h, hz => by
    rcases Nat.lt_or_ge n (N + 1) with h1 | h1
    · rw [si_succ, si_more N (by omega) hz, hz N (by omega)]; omega
    · obtain rfl : n = N + 1 := by omega
      rfl
theorem bsum_slp (h : Fit A B n) {S k : Nat} : bsum (nG A) (nD A B c) (num8 (nG A) (nD A B c) S) (den8 (nG A) S) k n = slp8 (nG A) (nD A B c) S k := by
  unfold bsum slp8
  rw [← si_more (f := fun l => nG A k l * num8 (nG A) (nD A B c) S l) 3 h.cols.2 fun j hj => by rw [nG_out h hj]; simp]
  simp only [si]
  omega
theorem bit_out {n S k : Nat} (hS : S < 2 ^ n) (hk : n ≤ k) : S.testBit k = false := Nat.testBit_lt_two_pow (Nat.lt_of_lt_of_le hS (Nat.pow_le_pow_right (by decide) hk))
/-- What the program compares: a good set. -/
theorem good_is (h : Fit A B n) {S : Nat} (hS : S < 2 ^ n) (hd : den8 (nG A) S ≠ 0) (hc : 0 ≤ c) : bestN (nG A) (nD A B c) (num8 (nG A) (nD A B c) S) (den8 (nG A) S) n = good8 (nG A) (nD A B c) S := by
  have n3 := h.cols.2
  have hS8 := set8 n3 hS
  have hden : 0 ≤ den8 (nG A) S := den_nn (cel A) A.length hS8
  rw [Bool.eq_iff_iff, good8_iff]
  unfold bestN
  rw [List.all_eq_true]
  constructor
  · intro h1
    refine ⟨hd, fun k hk => ?_⟩
    rcases Nat.lt_or_ge k n with h2 | h2
    · have := h1 k (List.mem_range.2 h2)
      unfold bOk at this
      rw [bsum_slp h] at this
      simpa using this
    · have e1 : num8 (nG A) (nD A B c) S k = 0 := num8_out _ _ hS8 hk (bit_out hS h2)
      have e2 : nD A B c k = -c := by
        unfold nD qc
        rw [si_0 A.length fun r hr => by rw [h.out hr h2]; simp]; omega
      refine ⟨by omega, ?_⟩
      unfold slp8
      rw [e2, nG_comm k 0, nG_comm k 1, nG_comm k 2, nG_out h h2, nG_out h h2, nG_out h h2]
      have := Int.mul_nonneg hden hc
      have e3 : -den8 (nG A) S * -c = den8 (nG A) S * c := by grind
      rw [e3]; omega
  · intro ⟨_, h1⟩ k hk
    have hk' := List.mem_range.1 hk
    have := h1 k (by omega)
    unfold bOk
    rw [bsum_slp h]
    simpa using this
theorem num8_wi (h : Fit A B n) (h0 : 0 ≤ c) (h1 : c ≤ 1000) {S k : Nat} (hS : S < 2 ^ n) (hk : k < 3) : wi 200000000000 (num8 (nG A) (nD A B c) S k) := by
  rw [← still_num (nG A) (nD A B c) h.cols.2 hS hk]
  exact npart_wi (nG_wi h) (nD_wi h h0 h1) _ _
theorem den8_wi (h : Fit A B n) {S : Nat} (hS : S < 2 ^ n) : wi 200000000000 (den8 (nG A) S) := by
  rw [← still_den (nG A) h.cols.2 hS]
  exact detM_wi fun i j => mpart_wi (nG_wi h) _ _ _ _
theorem num8_big (g : Nat → Nat → Int) (d : Nat → Int) {S : Nat} (hS : S < 8) (j : Nat) : num8 g d S (j + 3) = 0 := by
  rcases cases8 hS with rfl | rfl | rfl | rfl | rfl | rfl | rfl | rfl <;> rfl
theorem num8_wi' (h : Fit A B n) (h0 : 0 ≤ c) (h1 : c ≤ 1000) {S : Nat} (hS : S < 2 ^ n) (k : Nat) : wi 200000000000 (num8 (nG A) (nD A B c) S k) := by
  rcases Nat.lt_or_ge k 3 with hk | hk
  · exact num8_wi h h0 h1 hS hk
  · obtain ⟨j, rfl⟩ : ∃ j, k = j + 3 := ⟨k - 3, by omega⟩
    rw [num8_big _ _ (set8 h.cols.2 hS)]; unfold wi; omega
/-- The solution's set. -/
theorem nS_spec (h : Fit A B n) (h0 : 0 ≤ c) : nS A B c < 2 ^ n ∧ good8 (nG A) (nD A B c) (nS A B c) = true := by
  obtain ⟨h1, h2⟩ := fst8_good (a := cel A) (b := nb B) (m := A.length) h0
  refine ⟨?_, h2⟩
  have hd := (good8_iff.1 h2).1
  have hz : ∀ r k, n ≤ k → (fun r k => if r < A.length then cel A r k else 0) r k = 0 := fun r k hk => by
    simp only; split
    · rename_i hr; exact h.out hr hk
    · rfl
  have hq : qg (fun r k => if r < A.length then cel A r k else 0) A.length = qg (cel A) A.length := by
    funext i j
    exact si_congr A.length fun r hr => by simp only [if_pos hr]
  exact free_small h1 h.cols.2 hz (by rw [hq]; exact hd)
theorem nS_is (h : Fit A B n) {S : Nat} (hS : S < 2 ^ n) (hg : good8 (nG A) (nD A B c) S = true) (hl : ∀ T, T < S → good8 (nG A) (nD A B c) T = false) : nS A B c = S := fst8_is (set8 h.cols.2 hS) hg hl
/-- A number of the solution, as frac.Make gives it. -/
theorem nsx_make (h : Fit A B n) (h0 : 0 ≤ c) (h1 : c ≤ 1000) {k : Nat} (hk : k < 3) : inr (nsx A B c k) ∧ fmk (num8 (nG A) (nD A B c) (nS A B c) k) (den8 (nG A) (nS A B c)) = uf (nsx A B c k) := by
  obtain ⟨h2, h3⟩ := nS_spec h h0
  have hd := (good8_iff.1 h3).1
  have hden : 0 ≤ den8 (nG A) (nS A B c) := den_nn (cel A) A.length (set8 h.cols.2 h2)
  have w1 := num8_wi h h0 h1 h2 hk
  have w2 := den8_wi h h2
  unfold wi at w1 w2
  have hi : inr ((num8 (nG A) (nD A B c) (nS A B c) k : Rat) / (den8 (nG A) (nS A B c) : Rat)) := inr_frac (by omega) (by omega) (by omega) (by omega)
  exact ⟨hi, fmk_uf (by omega) (by omega) (by omega) (by omega)⟩
/-- What Solve returns: the solution, its set, and an error. -/
def nSolve (A : List (List Int)) (B : List Int) (c : Int) : List (Int × Int) × Nat × Int := if ncheck A B = 0 then (nsol A B c (A.getD 0 []).length, nS A B c, 0) else ([], 0, ncheck A B)
def solve_post (w : World) (r : List (Int × Int) × Nat × Int) (e : Ending) (w' : World) : Prop := ∃ u, e = .returned (.tuple #[u, .int .i64 r.2.1, .int .i64 r.2.2]) ∧ SF w' u r.1 ∧ Below w.heap.size w w'
theorem pow_wrap {n : Nat} (hn : n ≤ 3) : wrap64 ((2 : Int) ^ n) = ((2 ^ n : Nat) : Int) := by
  rcases (by omega : n = 0 ∨ n = 1 ∨ n = 2 ∨ n = 3) with rfl | rfl | rfl | rfl <;> (rw [Go.IntWalk.wrap64_in _ (by decide)]; rfl)
theorem nsol_len : (nsol A B c n).length = n := by simp [nsol]
theorem nsol_get {k : Nat} (hk : k < n) : (nsol A B c n)[k]? = some (up (nsx A B c k)) := by simp [nsol, hk]
theorem take_fill (xs : List (Int × Int)) (k n : Nat) (p : Int × Int) (hl : xs.length = n) (hk : k < n) (hp : xs[k]? = some p) : (xs.take k ++ List.replicate (n - k) (0, 0)).set k p = xs.take (k + 1) ++ List.replicate (n - (k + 1)) (0, 0) := by
  rw [fill_rows _ _ _ _ (by simp; omega) hk, List.take_add_one, hp]; rfl
end Go.Proofs.Ythlcmlngmcoknaa

/- What is proved here: the residual, the gradient and the value of the solution of a fit have no error, and what they are. No program in sight. Condition: a valid fit, a cost from 0 to 1000. -/
namespace Go.Proofs.Ythlcmlngmcoknaa
open Go.RowKit

section
variable {A : Nat → Nat → Rat} {b : Nat → Rat} {m : Nat} {c : Rat} {x y : Nat → Rat}
theorem qax_congr (h : ∀ k, k < 3 → x k = y k) (r : Nat) : qax A x r = qax A y r := sm_congr 3 fun k hk => by rw [h k hk]
theorem qres_congr (h : ∀ k, k < 3 → x k = y k) (r : Nat) : qres A b x r = qres A b y r := by unfold qres; rw [qax_congr h]
theorem qgrd_congr (h : ∀ k, k < 3 → x k = y k) (k : Nat) : qgrd A b m x k = qgrd A b m y k := sm_congr m fun r _ => by rw [qres_congr h]
theorem qslope_congr (h : ∀ k, k < 3 → x k = y k) (k : Nat) : qslope A b m c x k = qslope A b m c y k := by unfold qslope; rw [qgrd_congr h]
theorem qval_congr (h : ∀ k, k < 3 → x k = y k) : qval A b m x = qval A b m y := sm_congr m fun r _ => by rw [qres_congr h]
theorem qprice_congr (h : ∀ k, k < 3 → x k = y k) : qprice A b m c x = qprice A b m c y := by unfold qprice; rw [qval_congr h, sm_congr 3 h]
theorem qkkt_congr (h : ∀ k, k < 3 → x k = y k) (hk : qkkt A b m c x) : qkkt A b m c y := by
  refine ⟨fun k h3 => by rw [← h k h3]; exact hk.1 k h3, fun k h3 => ?_⟩
  rw [← qslope_congr h, ← h k h3]
  exact hk.2 k h3
end
section
variable {A : List (List Int)} {B : List Int} {c : Int} {n : Nat} {x : List (Int × Int)}
/-- A fit as rational numbers. -/
def fA (A : List (List Int)) : Nat → Nat → Rat := ra (cel A)
def fB (B : List Int) : Nat → Rat := rb (nb B)
theorem den_small (h : Fit A B n) {S : Nat} (hS : S < 8) : den8 (nG A) S ≤ 5859375 := by
  have g := fun k l => h.qg125 (r := A.length) (Nat.le_refl _) k l
  have d := fun k => diag_nn (cel A) A.length k
  have s10 := qg_comm (cel A) A.length 1 0
  have s20 := qg_comm (cel A) A.length 2 0
  have s21 := qg_comm (cel A) A.length 2 1
  unfold nG
  generalize qg (cel A) A.length = q at *
  have sq : ∀ z : Int, 0 ≤ z * z := fun z => by
    rcases Int.le_total 0 z with h | h
    · exact Int.mul_nonneg h h
    · exact Int.mul_nonneg_of_nonpos_of_nonpos h h
  have p := fun i j k l => wr_mulbd' (Z := 15625) (g i j) (g k l) (by decide)
  have sw : ∀ z : Int, wi 125 z → z ≤ 5859375 := fun z hz => by unfold wi at hz; omega
  have two : ∀ i j, q j i = q i j → det2 (q i i) (q i j) (q j i) (q j j) ≤ 5859375 := fun i j hs => by
    have h1 := p i i j j
    have h2 := sq (q i j)
    unfold det2; rw [hs]; omega
  rcases cases8 hS with rfl | rfl | rfl | rfl | rfl | rfl | rfl | rfl
  · show (1 : Int) ≤ _; omega
  · exact sw _ (g 0 0)
  · exact sw _ (g 1 1)
  · exact two 0 1 s10
  · exact sw _ (g 2 2)
  · exact two 0 2 s20
  · exact two 1 2 s21
  · show det3 _ _ _ _ _ _ _ _ _ ≤ _
    unfold det3
    rw [s10, s20, s21]
    have u1 := wr_mulbd' (Z := 1953125) (p 0 0 1 1) (g 2 2) (by decide)
    have u2 := wr_mulbd' (Z := 1953125) (p 0 1 1 2) (g 0 2) (by decide)
    have u3 := Int.mul_nonneg (d 0) (sq (q 1 2))
    have u4 := Int.mul_nonneg (d 1) (sq (q 0 2))
    have u5 := Int.mul_nonneg (d 2) (sq (q 0 1))
    have e : q 0 0 * (q 1 1 * q 2 2 - q 1 2 * q 1 2) - q 0 1 * (q 0 1 * q 2 2 - q 1 2 * q 0 2) + q 0 2 * (q 0 1 * q 1 2 - q 1 1 * q 0 2) =
        q 0 0 * q 1 1 * q 2 2 + 2 * (q 0 1 * q 1 2 * q 0 2) - q 0 0 * (q 1 2 * q 1 2) - q 1 1 * (q 0 2 * q 0 2) - q 2 2 * (q 0 1 * q 0 1) := by grind
    rw [e]; omega
/-- The solution as a point. -/
theorem nx_sol (h : Fit A B n) (h0 : 0 ≤ c) : ∀ k, k < 3 → nsx A B c k = nx (nsol A B c n) k := fun k hk => by
  rcases Nat.lt_or_ge k n with h1 | h1
  · unfold nx
    simp [List.getD, nsol_get h1, qq_up]
  · rw [nx_out (by rw [nsol_len]; exact h1)]
    exact xs8_sup (set8 h.cols.2 (nS_spec h h0).1) k hk (bit_out (nS_spec h h0).1 h1)
/-- The solution meets the conditions of an optimum. -/
theorem sol_kkt (h : Fit A B n) (h0 : 0 ≤ c) : qkkt (fA A) (fB B) A.length (c : Rat) (nx (nsol A B c n)) :=
  qkkt_congr (nx_sol h h0) (good_kkt (set8 h.cols.2 (nS_spec h h0).1) (nS_spec h h0).2)
theorem num_nn {x : Rat} (h : 0 ≤ x) : 0 ≤ x.num := Rat.num_nonneg.2 h
theorem sol_chk (h : Fit A B n) (h0 : 0 ≤ c) (h1 : c ≤ 1000) : ∀ p ∈ nsol A B c n, fchk p.1 p.2 = 0 ∧ 0 ≤ p.1 := fun p hp => by
  unfold nsol at hp
  obtain ⟨k, hk, rfl⟩ := List.mem_map.1 hp
  have hk' := List.mem_range.1 hk
  have k3 : k < 3 := by have := h.cols.2; omega
  refine ⟨up_chk (nsx_make h h0 h1 k3).1, num_nn ?_⟩
  rw [nx_sol h h0 k k3]
  exact (sol_kkt h h0).1 k k3
theorem Fit.check {A : List (List Int)} {B : List Int} (h : ncheck A B = 0) (x : List (Int × Int)) (hl : x.length = (A.getD 0 []).length) (hx : ∀ p ∈ x, fchk p.1 p.2 = 0 ∧ 0 ≤ p.1) : npoint A B x = 0 := by
  unfold npoint
  rw [if_pos h, if_pos]
  unfold pointB
  simp only [Bool.and_eq_true, decide_eq_true_eq]
  refine ⟨List.all_eq_true.2 fun p hp => ?_, hl⟩
  have := hx p hp
  simp [ptB, this.1, this.2]
theorem sol_point (hc : ncheck A B = 0) (h0 : 0 ≤ c) (h1 : c ≤ 1000) : npoint A B (nsol A B c (A.getD 0 []).length) = 0 :=
  Fit.check hc _ nsol_len (sol_chk (fit_of hc) h0 h1)

/-- Where all the numbers on the way have fractions, the residual has no error. -/
theorem nres_go (h : FitX A B x) (h3 : x.length ≤ 3) {i : Nat} (hi : i < A.length) (h1 : ∀ j, j < x.length → inr (fA A i j * nx x j)) (h2 : ∀ j, j ≤ x.length → inr (sm (fun j => fA A i j * nx x j) j))
    (h4 : inr (qres (fA A) (fB B) (nx x) i)) : nres A B x i = uf (qres (fA A) (fB B) (nx x) i) := by
  have e : ∀ j, tq (rowT A x i) j = fA A i j * nx x j := fun j => tq_row i j
  have ef : tq (rowT A x i) = fun j => fA A i j * nx x j := funext e
  have hs := gsum_go x.length (row_tval h hi) (fun j hj => by rw [e]; exact h1 j hj) (fun j hj => by rw [ef]; exact h2 j hj)
  have i1 := h2 x.length (Nat.le_refl _)
  rw [← ef] at i1
  rw [row_sum h3] at hs i1
  have he : (gsum (rowT A x i) x.length).e = 0 := by rw [hs]; rfl
  rw [nres_0 he, hs]
  have := fsub_qq (a := up (qax (ra (cel A)) (nx x) i)) (b := (nb B i, 1)) (up_chk i1) (side_chk h hi)
  rw [qq_up, qq_int] at this
  have hs : fsub (uf (qax (ra (cel A)) (nx x) i)).n (uf (qax (ra (cel A)) (nx x) i)).d (B.getD i 0) 1 = pack (qres (fA A) (fB B) (nx x) i) := this
  rw [hs]; exact pack_ok h4
theorem nresid_go (hp : npoint A B x = 0) {g : Nat → Rat} (h : ∀ i, i < A.length → nres A B x i = uf (g i)) : nResidual A B x = ((List.range A.length).map fun i => up (g i), 0) := by
  have e0 : nResidual A B x = nresidual A B x := if_pos hp
  rw [e0]; exact rows_list h
theorem nval_go {g : Nat → Rat} (hr : nResidual A B x = ((List.range A.length).map fun i => up (g i), 0)) (hg : ∀ i, i < A.length → inr (g i)) (h1 : ∀ i, i < A.length → inr (g i * g i)) (h2 : ∀ i, i ≤ A.length → inr (sm (fun i => g i * g i) i)) :
    nValue A B x = uf (sm (fun i => g i * g i) A.length) := by
  rw [nVal_0 (by rw [hr]), hr]
  show gsum (sqT ((List.range A.length).map fun i => up (g i))) ((List.range A.length).map fun i => up (g i)).length = _
  rw [show ((List.range A.length).map fun i => up (g i)).length = A.length from by simp]
  have e : ∀ k, k ≤ A.length → sm (tq (sqT ((List.range A.length).map fun i => up (g i)))) k = sm (fun i => g i * g i) k := fun k hk => sm_congr k fun i hi => tq_sq (by omega)
  have := gsum_go A.length (sq_tval hg) (fun j hj => by rw [tq_sq hj]; exact h1 j hj) (fun j hj => by rw [e j hj]; exact h2 j hj)
  rw [e _ (Nat.le_refl _)] at this
  exact this
theorem ngrad_go (hF : FitX A B x) {g : Nat → Rat} (hr : nResidual A B x = ((List.range A.length).map fun i => up (g i), 0)) (hg : ∀ i, i < A.length → inr (g i)) (h1 : ∀ k, k < x.length → ∀ i, i < A.length → inr (fA A i k * g i)) (h2 : ∀ k, k < x.length → ∀ i, i ≤ A.length → inr (sm (fun i => fA A i k * g i) i)) :
    nGradient A B x = ((List.range x.length).map fun k => up (sm (fun i => fA A i k * g i) A.length), 0) := by
  rw [nGrad_0 (by rw [hr]), hr]
  refine rows_list fun k hk => ?_
  show gsum (colT A ((List.range A.length).map fun i => up (g i)) k) A.length = _
  have e : ∀ j, j ≤ A.length → sm (tq (colT A ((List.range A.length).map fun i => up (g i)) k)) j = sm (fun i => fA A i k * g i) j := fun j hj => sm_congr j fun i hi => tq_col (by omega)
  have := gsum_go A.length (col_tval hF hg hk) (fun j hj => by rw [tq_col hj]; exact h1 k hk j hj) (fun j hj => by rw [e j hj]; exact h2 k hk j hj)
  rw [e _ (Nat.le_refl _)] at this
  exact this
end
end Go.Proofs.Ythlcmlngmcoknaa

/- What is proved here: the numbers on the way to the residual, the gradient and the value of a solution have fractions. No program in sight. Condition: a valid fit, a cost from 0 to 1000. -/
namespace Go.Proofs.Ythlcmlngmcoknaa
open Go.RowKit

section
variable (A : List (List Int)) (B : List Int) (c : Int)
/-- The denominator, the numerators, and the residual's numerators of a solution. -/
def sD : Int := den8 (nG A) (nS A B c)
def sN (k : Nat) : Int := num8 (nG A) (nD A B c) (nS A B c) k
def sR (r : Nat) : Int := si (fun l => cel A r l * sN A B c l) 3 - nb B r * sD A B c
variable {A B c} {n : Nat}
theorem nsx_is (k : Nat) : nsx A B c k = (sN A B c k : Rat) / (sD A B c : Rat) := rfl
theorem sD_bd (h : Fit A B n) (h0 : 0 ≤ c) : 1 ≤ sD A B c ∧ sD A B c ≤ 5859375 := by
  obtain ⟨h1, h2⟩ := nS_spec h h0
  have h3 := (good8_iff.1 h2).1
  have h4 : 0 ≤ den8 (nG A) (nS A B c) := den_nn (cel A) A.length (set8 h.cols.2 h1)
  have h5 := den_small h (set8 h.cols.2 h1)
  unfold sD; omega
theorem sN_bd (h : Fit A B n) (h0 : 0 ≤ c) (h1 : c ≤ 1000) (k : Nat) : wi 200000000000 (sN A B c k) := num8_wi' h h0 h1 (nS_spec h h0).1 k
theorem rowpart (i k : Nat) : sm (fun j => fA A i j * nsx A B c j) k = (si (fun l => cel A i l * sN A B c l) k : Rat) / (sD A B c : Rat) := by
  rw [← sm_div]
  exact sm_congr k fun j _ => by rw [nsx_is]; exact mul_div' _ _ _
theorem rowpart_bd (h : Fit A B n) (h0 : 0 ≤ c) (h1 : c ≤ 1000) {i : Nat} (hi : i < A.length) {k : Nat} (hk : k ≤ 3) : wi 3000000000000 (si (fun l => cel A i l * sN A B c l) k) := by
  have := si_wi (f := fun l => cel A i l * sN A B c l) (X := 1000000000000) k fun j _ => wr_mulbd' (X := 5) (Y := 200000000000) (h.cel5 hi) (sN_bd h h0 h1 j) (by decide)
  unfold wi at *; omega
theorem sR_bd (h : Fit A B n) (h0 : 0 ≤ c) (h1 : c ≤ 1000) {i : Nat} (hi : i < A.length) : wi 4000000000000 (sR A B c i) := by
  have h2 := rowpart_bd h h0 h1 hi (k := 3) (Nat.le_refl _)
  have h3 := sD_bd h h0
  have h4 := wr_mulbd' (X := 50) (Y := 5859375) (Z := 292968750) (h.side50 hi) (y := sD A B c) (by omega) (by decide)
  unfold sR
  unfold wi at *
  omega
theorem res_is (h : Fit A B n) (h0 : 0 ≤ c) (i : Nat) : qres (fA A) (fB B) (nsx A B c) i = (sR A B c i : Rat) / (sD A B c : Rat) := by
  have hD : ((sD A B c : Int) : Rat) ≠ 0 := by have := sD_bd h h0; simp; omega
  unfold qres qax sR fB rb
  rw [rowpart, Rat.intCast_sub, Rat.intCast_mul, Rat.div_def, Rat.div_def]
  have := Rat.mul_inv_cancel _ hD
  grind
theorem colpart (h : Fit A B n) (h0 : 0 ≤ c) (k i : Nat) : sm (fun r => fA A r k * qres (fA A) (fB B) (nsx A B c) r) i = (si (fun r => cel A r k * sR A B c r) i : Rat) / (sD A B c : Rat) := by
  rw [← sm_div]
  exact sm_congr i fun j _ => by rw [res_is h h0]; exact mul_div' _ _ _
theorem colpart_bd (h : Fit A B n) (h0 : 0 ≤ c) (h1 : c ≤ 1000) (k : Nat) {i : Nat} (hi : i ≤ A.length) : wi 100000000000000 (si (fun r => cel A r k * sR A B c r) i) := by
  have := si_wi (f := fun r => cel A r k * sR A B c r) (X := 20000000000000) i fun j hj => wr_mulbd' (X := 5) (Y := 4000000000000) (h.cel5 (by omega)) (sR_bd h h0 h1 (by omega)) (by decide)
  have := h.rows
  unfold wi at *; omega
theorem sqpart (h : Fit A B n) (h0 : 0 ≤ c) (i : Nat) : sm (fun r => qres (fA A) (fB B) (nsx A B c) r * qres (fA A) (fB B) (nsx A B c) r) i = (si (fun r => sR A B c r * sR A B c r) i : Rat) / ((sD A B c * sD A B c : Int) : Rat) := by
  rw [← sm_div]
  refine sm_congr i fun j _ => ?_
  have hD : ((sD A B c : Int) : Rat) ≠ 0 := by have := sD_bd h h0; simp; omega
  rw [res_is h h0, Rat.intCast_mul, Rat.intCast_mul, Rat.div_def, Rat.div_def, Rat.inv_mul_rev]; grind
/-- The price at 0. -/
theorem val_0 (h : Fit A B n) : qval (fA A) (fB B) A.length (fun _ => 0) ≤ 12500 := by
  have h1 : qval (fA A) (fB B) A.length (fun _ => 0) = ((si (fun r => nb B r * nb B r) A.length : Int) : Rat) := by
    rw [si_cast]
    refine sm_congr A.length fun r _ => ?_
    have : qres (fA A) (fB B) (fun _ => 0) r = - ((nb B r : Int) : Rat) := by unfold qres qax fB rb; rw [sm_3]; grind
    rw [this, Rat.intCast_mul]; grind
  have h2 := si_wi (f := fun r => nb B r * nb B r) (X := 2500) A.length fun r hr => wr_mulbd' (X := 50) (Y := 50) (h.side50 hr) (h.side50 hr) (by decide)
  have h3 := h.rows
  rw [h1]
  have h4 : si (fun r => nb B r * nb B r) A.length ≤ 12500 := by unfold wi at h2; omega
  have h5 := Rat.intCast_le_intCast.2 h4
  have e : ((12500 : Int) : Rat) = 12500 := rfl
  rw [e] at h5
  exact h5
theorem sol_kkt' (h : Fit A B n) (h0 : 0 ≤ c) : qkkt (fA A) (fB B) A.length (c : Rat) (nsx A B c) := good_kkt (set8 h.cols.2 (nS_spec h h0).1) (nS_spec h h0).2
theorem cost_nn (h0 : 0 ≤ c) : (0 : Rat) ≤ (c : Rat) := by exact_mod_cast h0
/-- The solution's price is at most that of 0. -/
theorem sol_price (h : Fit A B n) (h0 : 0 ≤ c) : qprice (fA A) (fB B) A.length (c : Rat) (nsx A B c) ≤ 6250 := by
  have h1 := kkt_least (fA A) (fB B) A.length (c : Rat) (sol_kkt' h h0) (y := fun _ => 0) (fun k _ => by show (0 : Rat) ≤ 0; grind)
  have h2 := val_0 h
  have h3 : qprice (fA A) (fB B) A.length (c : Rat) (fun _ => 0) = qval (fA A) (fB B) A.length (fun _ => 0) / 2 := by
    unfold qprice; rw [sm_3]; grind
  rw [h3] at h1
  grind
theorem bright_nn (h : Fit A B n) (h0 : 0 ≤ c) : 0 ≤ sm (nsx A B c) 3 := sm_nn 3 (sol_kkt' h h0).1
theorem sol_val (h : Fit A B n) (h0 : 0 ≤ c) : qval (fA A) (fB B) A.length (nsx A B c) ≤ 12500 ∧ (c : Rat) * sm (nsx A B c) 3 ≤ 6250 := by
  have h1 := sol_price h h0
  have h2 := Rat.mul_nonneg (cost_nn h0) (bright_nn h h0)
  have h3 : 0 ≤ qval (fA A) (fB B) A.length (nsx A B c) := sm_nn A.length fun _ _ => sq_nn _
  unfold qprice at h1
  constructor <;> grind
/-- A quotient's numerator is at most so many times the denominator. -/
theorem le_of_div {M E b : Int} (hE : 0 < E) (h : (M : Rat) / (E : Rat) ≤ (b : Rat)) : M ≤ b * E := by
  have hE' : (0 : Rat) < (E : Rat) := by exact_mod_cast hE
  have h1 := Rat.mul_le_mul_of_nonneg_right h (Rat.le_of_lt hE')
  rw [Rat.div_mul_cancel (by grind)] at h1
  have h2 : (M : Rat) ≤ ((b * E : Int) : Rat) := by rw [Rat.intCast_mul]; exact h1
  exact_mod_cast h2
theorem si_sq_mono (f : Nat → Int) {i : Nat} : ∀ m, i ≤ m → si (fun r => f r * f r) i ≤ si (fun r => f r * f r) m
  | 0, h => by obtain rfl : i = 0 := by omega
               exact Int.le_refl _
  | m + 1, h => by
    rcases Nat.lt_or_ge i (m + 1) with h1 | h1
    · have h2 := si_sq_mono (i := i) f m (by omega)
      have h3 : 0 ≤ f m * f m := by
        rcases Int.le_total 0 (f m) with h | h
        · exact Int.mul_nonneg h h
        · exact Int.mul_nonneg_of_nonpos_of_nonpos h h
      rw [si_succ]; omega
    · obtain rfl : i = m + 1 := by omega
      exact Int.le_refl _
theorem sq_bd (h : Fit A B n) (h0 : 0 ≤ c) {i : Nat} (hi : i ≤ A.length) : 0 ≤ si (fun r => sR A B c r * sR A B c r) i ∧ si (fun r => sR A B c r * sR A B c r) i ≤ 429153442382812500 ∧ 1 ≤ sD A B c * sD A B c ∧ sD A B c * sD A B c ≤ 34332275390625 := by
  have h1 := (sol_val h h0).1
  have hq : qval (fA A) (fB B) A.length (nsx A B c) = (si (fun r => sR A B c r * sR A B c r) A.length : Rat) / ((sD A B c * sD A B c : Int) : Rat) := sqpart h h0 A.length
  rw [hq] at h1
  have hD := sD_bd h h0
  have hp : 0 < sD A B c * sD A B c := Int.mul_pos (by omega) (by omega)
  have h2 := wr_mulbd' (X := 5859375) (Y := 5859375) (x := sD A B c) (y := sD A B c) (Z := 34332275390625) (by omega) (by omega) (by decide)
  have h3 := le_of_div (b := 12500) hp h1
  have h4 := si_sq_mono (sR A B c) A.length hi
  exact ⟨si_sq_nn _ _, by omega, by omega, h2.2⟩
/-- What the functions return at a solution. -/
structure SolOk (A : List (List Int)) (B : List Int) (c : Int) (n : Nat) : Prop where
  point : npoint A B (nsol A B c n) = 0
  res : nResidual A B (nsol A B c n) = ((List.range A.length).map fun i => up (qres (fA A) (fB B) (nsx A B c) i), 0)
  rin : ∀ i, i < A.length → inr (qres (fA A) (fB B) (nsx A B c) i)
  val : nValue A B (nsol A B c n) = uf (qval (fA A) (fB B) A.length (nsx A B c))
  vin : inr (qval (fA A) (fB B) A.length (nsx A B c))
  grad : nGradient A B (nsol A B c n) = ((List.range n).map fun k => up (qgrd (fA A) (fB B) A.length (nsx A B c) k), 0)
  gin : ∀ k, inr (qgrd (fA A) (fB B) A.length (nsx A B c) k)
theorem sol_ok (hc : ncheck A B = 0) (h0 : 0 ≤ c) (h1 : c ≤ 1000) : SolOk A B c (A.getD 0 []).length := by
  have h := fit_of hc
  have hp := sol_point hc h0 h1
  have hF := FitX.of hp
  have hx := nx_sol h h0
  have hl : (nsol A B c (A.getD 0 []).length).length = (A.getD 0 []).length := nsol_len
  have n3 := h.cols.2
  generalize (A.getD 0 []).length = n at *
  have hD := sD_bd h h0
  have rin : ∀ i, i < A.length → inr (qres (fA A) (fB B) (nsx A B c) i) := fun i hi => by
    have := sR_bd h h0 h1 hi
    rw [res_is h h0]; unfold wi at this
    exact inr_frac (by omega) (by omega) (by omega) (by omega)
  have part : ∀ i, i < A.length → ∀ k, k ≤ 3 → inr (sm (fun j => fA A i j * nsx A B c j) k) := fun i hi k hk => by
    have := rowpart_bd h h0 h1 hi hk
    rw [rowpart]; unfold wi at this
    exact inr_frac (by omega) (by omega) (by omega) (by omega)
  have res : nResidual A B (nsol A B c n) = ((List.range A.length).map fun i => up (qres (fA A) (fB B) (nsx A B c) i), 0) := by
    refine nresid_go hp fun i hi => ?_
    rw [qres_congr hx]
    refine nres_go hF (by omega) hi (fun j hj => ?_) (fun j hj => ?_) ?_
    · rw [← hx j (by omega), nsx_is]
      have := wr_mulbd' (Z := 1000000000000) (h.cel5 hi (l := j)) (sN_bd h h0 h1 j) (by decide)
      show inr ((cel A i j : Rat) * _)
      rw [mul_div']
      exact inr_frac (by omega) (by omega) (by omega) (by omega)
    · rw [sm_congr (g := fun j => fA A i j * nsx A B c j) j fun k hk => by rw [hx k (by omega)]]
      exact part i hi j (by omega)
    · rw [← qres_congr hx]; exact rin i hi
  have gpart : ∀ k i, i ≤ A.length → inr (sm (fun r => fA A r k * qres (fA A) (fB B) (nsx A B c) r) i) := fun k i hi => by
    have := colpart_bd h h0 h1 k hi
    rw [colpart h h0]; unfold wi at this
    exact inr_frac (by omega) (by omega) (by omega) (by omega)
  have spart : ∀ i, i ≤ A.length → inr (sm (fun r => qres (fA A) (fB B) (nsx A B c) r * qres (fA A) (fB B) (nsx A B c) r) i) := fun i hi => by
    obtain ⟨b1, b2, b3, b4⟩ := sq_bd h h0 hi
    rw [sqpart h h0]
    exact inr_frac (by omega) (by omega) (by omega) (by omega)
  refine ⟨hp, res, rin, ?_, spart A.length (Nat.le_refl _), ?_, fun k => gpart k A.length (Nat.le_refl _)⟩
  · refine nval_go res rin (fun i hi => ?_) spart
    have b1 := sR_bd h h0 h1 hi
    obtain ⟨b2, b3, b4, b5⟩ := sq_bd h h0 (i := i + 1) (by omega)
    obtain ⟨b6, _⟩ := sq_bd h h0 (i := i) (by omega)
    rw [si_succ] at b3
    have b7 : 0 ≤ sR A B c i * sR A B c i := by
      rcases Int.le_total 0 (sR A B c i) with h | h
      · exact Int.mul_nonneg h h
      · exact Int.mul_nonneg_of_nonpos_of_nonpos h h
    have e : qres (fA A) (fB B) (nsx A B c) i * qres (fA A) (fB B) (nsx A B c) i = ((sR A B c i * sR A B c i : Int) : Rat) / ((sD A B c * sD A B c : Int) : Rat) := by
      rw [res_is h h0, Rat.intCast_mul, Rat.intCast_mul, Rat.div_def, Rat.div_def, Rat.inv_mul_rev]; grind
    rw [e]
    exact inr_frac (by omega) (by omega) (by omega) (by omega)
  · have := ngrad_go hF res rin (fun k hk i hi => ?_) (fun k hk i hi => gpart k i hi)
    · rw [hl] at this; exact this
    · have b1 := wr_mulbd' (X := 5) (Y := 4000000000000) (Z := 20000000000000) (h.cel5 hi (l := k)) (sR_bd h h0 h1 hi) (by decide)
      rw [res_is h h0]
      show inr ((cel A i k : Rat) * _)
      rw [mul_div']
      exact inr_frac (by omega) (by omega) (by omega) (by omega)
end
end Go.Proofs.Ythlcmlngmcoknaa
