/- What is proved here: contracts of functions and plain facts, several texts in one; each one says ahead what it proves, and its conditions. -/
import Derived.Test.YthlcmlngmcoknaaC09
import Derived.Test.YthlcmlngmcoknaaC02
import Derived.Test.YthlcmlngmcoknaaC01
import Derived.RegionTactic
import Derived.ChangeAlike
import Derived.BigRegion
import Derived.IntWalk
import Derived.Deep.DeepCutAuto
/- What is proved here: the contract of nnls.normal. Condition: a valid fit that can be read. -/
namespace Go.Proofs.Ythlcmlngmcoknaa
open Go.RowKit

/-- A right side. -/
def nb (B : List Int) (r : Nat) : Int := B.getD r 0
theorem nb_get {B : List Int} {r : Nat} (h : r < B.length) : nb B r = B[r] := getD_get h
/-- The square matrix while a row is added: the first rows' sums, and one row more where the entry is done. -/
def gpart (A : List (List Int)) (r k l i j : Nat) : Int := if i < k ∨ (i = k ∧ j < l) then qg (cel A) (r + 1) i j else qg (cel A) r i j
def cpart (A : List (List Int)) (B : List Int) (r k i : Nat) : Int := if i < k then qc (cel A) (nb B) (r + 1) 0 i else qc (cel A) (nb B) r 0 i
theorem gpart_put {A : List (List Int)} {r k l : Nat} : mput (gpart A r k l) k l (qg (cel A) r k l + cel A r k * cel A r l) = gpart A r k (l + 1) := by
  funext i j
  unfold mput gpart
  by_cases h : i = k ∧ j = l
  · obtain ⟨rfl, rfl⟩ := h
    rw [if_pos ⟨rfl, rfl⟩, if_pos (.inr ⟨rfl, by omega⟩)]; rfl
  · rw [if_neg h]
    by_cases h2 : i < k ∨ (i = k ∧ j < l)
    · rw [if_pos h2, if_pos (by omega)]
    · rw [if_neg h2, if_neg (by omega)]
theorem cpart_put {A : List (List Int)} {B : List Int} {r k : Nat} : lput (cpart A B r k) k (qc (cel A) (nb B) r 0 k + cel A r k * nb B r) = cpart A B r (k + 1) := by
  funext i
  unfold lput cpart
  by_cases h : i = k
  · subst h
    rw [if_pos rfl, if_pos (by omega)]
    unfold qc; rw [si_succ]; omega
  · rw [if_neg h]
    by_cases h2 : i < k
    · rw [if_pos h2, if_pos (by omega)]
    · rw [if_neg h2, if_neg (by omega)]
theorem gpart_0 {A : List (List Int)} {r : Nat} : gpart A r 0 0 = qg (cel A) r := by
  funext i j; unfold gpart; rw [if_neg (by omega)]
theorem gpart_n {A : List (List Int)} {r k n : Nat} (hw : ∀ l, n ≤ l → cel A r l = 0) : mcs (gpart A r k n) = mcs (gpart A r (k + 1) 0) :=
  mcs_congr fun i _ j _ => by
    unfold gpart
    by_cases h : i < k ∨ (i = k ∧ j < n)
    · rw [if_pos h, if_pos (by omega)]
    · rw [if_neg h]
      by_cases h2 : i = k
      · subst h2
        rw [if_pos (by omega)]
        show _ = qg (cel A) r i j + cel A r i * cel A r j
        rw [hw j (by omega)]; omega
      · rw [if_neg (by omega)]
theorem gpart_end {A : List (List Int)} {r n : Nat} (hw : ∀ l, n ≤ l → cel A r l = 0) : mcs (gpart A r n 0) = mcs (qg (cel A) (r + 1)) :=
  mcs_congr fun i _ j _ => by
    unfold gpart
    by_cases h : i < n ∨ (i = n ∧ j < 0)
    · rw [if_pos h]
    · rw [if_neg h]
      show _ = qg (cel A) r i j + cel A r i * cel A r j
      rw [hw i (by omega)]; omega
theorem cpart_0 {A : List (List Int)} {B : List Int} {r : Nat} : cpart A B r 0 = qc (cel A) (nb B) r 0 := by
  funext i; unfold cpart; rw [if_neg (by omega)]
theorem cpart_end {A : List (List Int)} {B : List Int} {r n : Nat} (hw : ∀ l, n ≤ l → cel A r l = 0) : lcs (cpart A B r n) = lcs (qc (cel A) (nb B) (r + 1) 0) :=
  lcs_congr fun i _ => by
    unfold cpart
    by_cases h : i < n
    · rw [if_pos h]
    · rw [if_neg h]
      unfold qc
      rw [si_succ, hw i (by omega)]; simp
theorem Fit.out {A : List (List Int)} {B : List Int} {n : Nat} (h : Fit A B n) {r l : Nat} (hr : r < A.length) (hl : n ≤ l) : cel A r l = 0 := by
  have := h.wide r hr
  simp [cel, List.getD, hr, show A[r].length ≤ l by omega]
theorem si_wi {f : Nat → Int} {X : Int} : ∀ n, (∀ i, i < n → wi X (f i)) → wi (n * X) (si f n)
  | 0, _ => by simp [si, wi]
  | n + 1, h => by
    have h1 := si_wi n fun i hi => h i (by omega)
    have h2 := h n (by omega)
    have e : ((n + 1 : Nat) : Int) * X = n * X + X := by rw [Int.natCast_add, Int.add_mul]; simp
    rw [si_succ, e]
    unfold wi at *; omega
theorem Fit.cel5 {A : List (List Int)} {B : List Int} {n : Nat} (h : Fit A B n) {r l : Nat} (hr : r < A.length) : wi 5 (cel A r l) := by
  rcases Nat.lt_or_ge l n with h1 | h1
  · have h2 : l < A[r].length := by rw [h.wide r hr]; exact h1
    rw [cel_get hr h2]; exact h.coef r hr l h2
  · rw [h.out hr h1]; unfold wi; omega
theorem Fit.side50 {A : List (List Int)} {B : List Int} {n : Nat} (h : Fit A B n) {r : Nat} (hr : r < A.length) : wi 50 (nb B r) := by
  have h2 : r < B.length := by rw [h.right]; exact hr
  rw [nb_get h2]; exact h.side r h2
theorem Fit.qg125 {A : List (List Int)} {B : List Int} {n : Nat} (h : Fit A B n) {r : Nat} (hr : r ≤ A.length) (k l : Nat) : wi 125 (qg (cel A) r k l) := by
  have h1 := si_wi (f := fun r => cel A r k * cel A r l) (X := 25) r fun i hi => wr_mulbd' (X := 5) (Y := 5) (h.cel5 (by omega)) (h.cel5 (by omega)) (by decide)
  have := h.rows
  unfold wi at h1 ⊢
  unfold qg
  omega
theorem Fit.qc1250 {A : List (List Int)} {B : List Int} {n : Nat} (h : Fit A B n) {r : Nat} (hr : r ≤ A.length) (k : Nat) : wi 1250 (qc (cel A) (nb B) r 0 k) := by
  have h1 := si_wi (f := fun r => cel A r k * nb B r) (X := 250) r fun i hi => wr_mulbd' (X := 5) (Y := 50) (h.cel5 (by omega)) (h.side50 (by omega)) (by decide)
  have := h.rows
  show -1250 ≤ si (fun r => cel A r k * nb B r) r - 0 ∧ si (fun r => cel A r k * nb B r) r - 0 ≤ 1250
  unfold wi at h1
  omega
/-- One product more is not cut. -/
theorem wr_more {g x y X Y G : Int} (hg : wi G g) (hx : wi X x) (hy : wi Y y) (hX : X * Y ≤ 4611686018427387904) (hG : G ≤ 4611686018427387903) : wrap64 (g + wrap64 (x * y)) = g + x * y := by
  have := wr_mulbd hx hy
  rw [wr_add_r]
  refine Go.IntWalk.wrap64_in _ ?_
  unfold wi at hg
  omega
def norm_post (w : World) (A : List (List Int)) (B : List Int) (e : Ending) (w' : World) : Prop :=
  e = .returned (.tuple #[.agg (mcs (qg (cel A) A.length)).toArray, .agg (lcs (qc (cel A) (nb B) A.length 0)).toArray]) ∧ Below w.heap.size w w'
set_option maxRecDepth 100000 in
set_option maxHeartbeats 4000000 in
theorem nnorm_any (A : List (List Int)) (B : List Int) (n : Nat) (va vb : Value) (w : World) (hA : SS w va A) (hB : SI w vb B) (hF : Fit A B n) :
    Calls Try.prog 111 #[.agg #[va, vb]] w (norm_post w A B) := by
  have HF := Lib.hid hF
  have ml : A.length ≤ 5 := hF.rows.2
  have nl : n ≤ 3 := hF.cols.2
  have HR := Lib.hid hF.right
  clear hF
  obtain ⟨ada, capa, rfl, ha1, ha2, _⟩ := hA.open
  obtain ⟨adb, capb, rfl, hb1, hb2, _⟩ := hB.open
  go_enter Try.func111, Try.ntmps111
  have oS := Own.new w 25 [.slice ada A.length capa, .slice adb B.length capb]
  have hy := ba1 w (.cells #[.slice ada A.length capa, .slice adb B.length capb] 25)
  have SA := Lib.hid (hA.below hy)
  have SB' := Lib.hid (hB.below hy)
  clear hA hB
  have zy : w.heap.size + 1 = (w.alloc (.cells #[.slice ada A.length capa, .slice adb B.length capb] 25)).heap.size := by simp
  go_upto_region 1 with fail
  generalize hyy : w.alloc (.cells #[.slice ada A.length capa, .slice adb B.length capb] 25) = y at *
  obtain ⟨bS, hbS⟩ : ∃ b, b = w.heap.size := ⟨_, rfl⟩
  rw [← hbS] at oS zy ⊢
  clear hbS hyy
  have HY := Lib.hid hy
  clear hy
  have oG := own_first y 161 (mcs (qg (cel A) 0)) (.cells (lcs (qc (cel A) (nb B) 0 0)).toArray 159)
  have oC := own_second y 159 (lcs (qc (cel A) (nb B) 0 0)) (.cells (mcs (qg (cel A) 0)).toArray 161)
  have hW := ba2 y (.cells (mcs (qg (cel A) 0)).toArray 161) (.cells (lcs (qc (cel A) (nb B) 0 0)).toArray 159)
  obtain ⟨rS, fS⟩ := oS.rules
  have zS := oS.lt
  go_wp2
  have ZY := Lib.hid zy
  clear rS fS zS zy
  go_loopw [13] (fun i wr => ∃ r : Nat, r ≤ A.length ∧ i = .int .i64 r ∧ Own wr y.heap.size 161 (mcs (qg (cel A) r)) ∧ Own wr (y.heap.size + 1) 159 (lcs (qc (cel A) (nb B) r 0)) ∧ Below y.heap.size y wr) (fun i _ => A.length - (intOf i).toNat)
  case atStart => exact ⟨0, Nat.zero_le _, rfl, oG, oC, hW⟩
  case round =>
    clear oG oC hW
    obtain ⟨r, hr, rfl, oG, oC, hW⟩ := hrel
    rename World => W
    by_cases hlt : r < A.length
    · obtain ⟨_, _, e, _, _, H⟩ := SA.out.open
      cases e
      obtain ⟨b, off, ad', cap', rfl, c1, c2, c3, sR⟩ := H.out r hlt
      clear H
      replace c1 := below_cell hW c1
      have HO := Lib.hid (fun l hl => HF.out.out (r := r) (l := l) hlt hl)
      have hw := HF.out.wide r hlt
      have C5 := Lib.hid (fun l => HF.out.cel5 (l := l) hlt)
      have CG := Lib.hid (fun k l => HF.out.qg125 (r := r) (by omega) k l)
      have CC := Lib.hid (fun k => HF.out.qc1250 (r := r) (by omega) k)
      have CB := Lib.hid (HF.out.side50 hlt)
      have CE : Hid (∀ k, A[r].getD k 0 = cel A r k) := fun k => by simp [cel, List.getD, hlt]
      have SR := Lib.hid sR
      clear sR
      rw [hw] at c1 c2 c3
      generalize A[r] = row at *
      have SR' : Hid (SI y (.slice ad' n cap') row) := by show SI _ _ _; rw [← hw]; exact SR.out
      have HW := Lib.hid hw
      clear hw SR
      go_wp2
      go_loopw [20] (fun i wr => ∃ k : Nat, k ≤ n ∧ i = .int .i64 k ∧ Own wr y.heap.size 161 (mcs (gpart A r k 0)) ∧ Own wr (y.heap.size + 1) 159 (lcs (cpart A B r k)) ∧ Below y.heap.size y wr) (fun i _ => n - (intOf i).toNat)
      case atStart => exact ⟨0, Nat.zero_le _, rfl, by rw [gpart_0]; exact oG, by rw [cpart_0]; exact oC, hW⟩
      case round =>
        clear oG oC hW c1
        obtain ⟨k, hk, rfl, oG, oC, hW⟩ := hrel
        rename World => W1
        by_cases hkn : k < n
        · obtain ⟨_, _, e, _, _, H⟩ := (SR'.out.below hW).open
          cases e
          obtain ⟨b1, off1, rfl, d1⟩ := H.out k (by rw [HW.out]; exact hkn)
          clear H
          rw [← getD_get (d := 0) (by rw [HW.out]; exact hkn), CE.out] at d1
          go_wp2
          go_loopw [27] (fun i wr => ∃ l : Nat, l ≤ row.length ∧ i = .int .i64 l ∧ Own wr y.heap.size 161 (mcs (gpart A r k l)) ∧ Own wr (y.heap.size + 1) 159 (lcs (cpart A B r k)) ∧ Below y.heap.size y wr) (fun i _ => row.length - (intOf i).toNat)
          case atStart => exact ⟨0, Nat.zero_le _, rfl, oG, oC, hW⟩
          case round =>
            clear oG oC hW d1
            obtain ⟨l, hl, rfl, oG, oC, hW⟩ := hrel
            rename World => W2
            by_cases hln : l < row.length
            · obtain ⟨_, _, e, _, _, H⟩ := (SR'.out.below hW).open
              cases e
              obtain ⟨b1, off1, e, d1⟩ := H.out l hln
              cases e
              clear H
              rw [← getD_get (d := 0) hln, CE.out] at d1
              have g0 := mcs_get (gpart A r k l) (k := k) (l := l) (by omega) (by omega)
              have E : Hid (wrap64 (gpart A r k l k l + wrap64 (cel A r k * cel A r l)) = qg (cel A) r k l + cel A r k * cel A r l) := by
                have : gpart A r k l k l = qg (cel A) r k l := by unfold gpart; rw [if_neg (by omega)]
                rw [this]; exact wr_more (CG.out k l) (C5.out k) (C5.out l) (by decide) (by decide)
              obtain ⟨rG, fG⟩ := oG.rules
              have zG := oG.lt
              have g1 := (rG (k * 3 + l)).trans g0
              go_wp2_with fail
              have gl := @grow_lt
              refine wp_region_st [.t [0, 1, 2, 3, 4, 5, 6, 7, 8, 9, 10]] [11] (by kernel_rfl) (by kernel_rfl) (fun _ _ _ _ _ h => h) ?_
              refine wpX_t ?_
              try simp only [opsAt, List.getElem?_toArray, List.getElem?_cons_zero, List.getElem?_cons_succ, Option.getD_some]
              repeat (go_big_quiet_step (fail))
              refine wpQuiet_nil ?_
              refine wpX_nil ?_
              try simp only [opsAt, List.getElem?_toArray, List.getElem?_cons_zero, List.getElem?_cons_succ, Option.getD_some]
              clear gl
              go_wp2
              go_roundw
              case rel =>
                refine ⟨l + 1, by omega, by go_num, ?_, oC.drew.other (by omega) _ _, hW.drew.setCell (p := ⟨y.heap.size, k * 3 + l, none⟩) (by simp) _⟩
                have o2 := oG.drew.set (k * 3 + l) (.int .i64 (wrap64 (gpart A r k l k l + wrap64 (cel A r k * cel A r l))))
                rw [mcs_set _ (by omega) (by omega)] at o2
                have e : mput (gpart A r k l) k l (wrap64 (gpart A r k l k l + wrap64 (cel A r k * cel A r l))) = gpart A r k (l + 1) := by rw [E.out, gpart_put]
                rw [e] at o2
                exact o2
              case measure => simp [intOf]; try omega
            · obtain rfl : l = row.length := by omega
              rw [gpart_n HO.out] at oG
              replace oS := oS.below hW
              obtain ⟨_, _, e, _, _, H⟩ := (SB'.out.below hW).open
              cases e
              obtain ⟨b2, off2, rfl, d2⟩ := H.out r (by rw [HR.out]; exact hlt)
              clear H
              rw [← nb_get (by rw [HR.out]; exact hlt)] at d2
              have hrB : r < B.length := by rw [HR.out]; exact hlt
              have zb2 : b2 < W2.heap.size := World.block_lt_of_cell? W2 _ d2
              have E : Hid (wrap64 (cpart A B r k k + wrap64 (cel A r k * nb B r)) = qc (cel A) (nb B) r 0 k + cel A r k * nb B r) := by
                have : cpart A B r k k = qc (cel A) (nb B) r 0 k := by unfold cpart; rw [if_neg (by omega)]
                rw [this]; exact wr_more (CC.out k) (C5.out k) CB.out (by decide) (by decide)
              have g0 := lcs_get (cpart A B r k) (k := k) (by omega)
              have CP : Hid (lput (cpart A B r k) k (qc (cel A) (nb B) r 0 k + cel A r k * nb B r) = cpart A B r (k + 1)) := cpart_put
              generalize nb B r = br at *
              obtain ⟨rS, fS⟩ := oS.rules
              have zS := oS.lt
              obtain ⟨rC, fC⟩ := oC.rules
              have zC := oC.lt
              have g1 := (rC k).trans g0
              go_wp2_with fail
              have gl := @grow_lt
              refine wp_region_st [.t [0, 1, 2, 3, 4, 5, 6, 7, 8, 9, 10, 11]] [12] (by kernel_rfl) (by kernel_rfl) (fun _ _ _ _ _ h => h) ?_
              refine wpX_t ?_
              try simp only [opsAt, List.getElem?_toArray, List.getElem?_cons_zero, List.getElem?_cons_succ, Option.getD_some]
              repeat (go_big_quiet_step (fail))
              refine wpQuiet_nil ?_
              refine wpX_nil ?_
              try simp only [opsAt, List.getElem?_toArray, List.getElem?_cons_zero, List.getElem?_cons_succ, Option.getD_some]
              clear gl
              go_wp2
              go_roundw
              case rel =>
                refine ⟨k + 1, by omega, by go_num, oG.drew.other (by omega) _ _, ?_, hW.drew.setCell (p := ⟨y.heap.size + 1, k, none⟩) (by simp) _⟩
                have o2 := oC.drew.set k (.int .i64 (wrap64 (cpart A B r k k + wrap64 (cel A r k * br))))
                rw [lcs_set _ (by omega)] at o2
                have e : lput (cpart A B r k) k (wrap64 (cpart A B r k k + wrap64 (cel A r k * br))) = cpart A B r (k + 1) := by rw [E.out]; exact CP.out
                rw [e] at o2
                exact o2
              case measure => simp [intOf]; try omega
        · obtain rfl : k = n := by omega
          rw [gpart_end HO.out] at oG
          rw [cpart_end HO.out] at oC
          go_wp2
          go_roundw
          case rel => exact ⟨r + 1, by omega, by go_num, oG, oC, hW⟩
          case measure => simp [intOf]; try omega
    · obtain rfl : r = A.length := by omega
      rw [mcs_is] at oG
      rw [lcs_is] at oC
      obtain ⟨rG, fG⟩ := oG.rules
      have zG := oG.lt
      obtain ⟨rC, fC⟩ := oC.rules
      have zC := oC.lt
      go_wp2
      go_region
      go_wp2
      have hne : y.heap.size ≠ y.heap.size + 1 := by omega
      obtain ⟨p1, p2, p3⟩ := refill_own oG oC hne hW (Nat.le_refl _) (Nat.le_succ _)
      refine bp_gen' (fun X => Own X y.heap.size _ _ ∧ Own X (y.heap.size + 1) _ _ ∧ Below y.heap.size y X) ⟨p1.drew, p2.drew, p3.drew⟩ ?_
      rintro wz ⟨q1, q2, bz⟩
      obtain ⟨r1, f1⟩ := q1.rules
      obtain ⟨r2, f2⟩ := q2.rules
      clear q1 q2 p1 p2 p3
      refine bodyPost_ret (v := .tuple #[.agg (mcs (qg (cel A) A.length)).toArray, .agg (lcs (qc (cel A) (nb B) A.length 0)).toArray]) (by simp [results, Try.results111, go_sem, r1, r2, mcs_is, lcs_is]) rfl ⟨rfl, ?_⟩
      exact below_to HY.out bz
end Go.Proofs.Ythlcmlngmcoknaa
