/- What is proved here: contracts of functions and plain facts, several texts in one; each one says ahead what it proves, and its conditions. -/
import Derived.Test.YthlcmlngmcoknaaC05
import Derived.Test.YthlcmlngmcoknaaC10
import Derived.Test.YthlcmlngmcoknaaC11
import Derived.Test.YthlcmlngmcoknaaC09
import Derived.Test.YthlcmlngmcoknaaC02
import Derived.RegionTactic
import Derived.ChangeAlike
import Derived.BigRegion
import Derived.IntWalk
import Derived.Deep.DeepCutAuto
import Derived.Test.YthlcmlngmcoknaaC06
/- What is proved here: what the sums, residuals, gradients and values of a fit are as rational numbers. No program in sight. Condition: as each theorem says. -/
namespace Go.Proofs.Ythlcmlngmcoknaa
open Go.RowKit

section
variable (x : List (Int × Int))
/-- A point as rational numbers. -/
def nx (k : Nat) : Rat := qq (x.getD k (0, 0))
variable {A : List (List Int)} {B : List Int} {x}
theorem nx_out {k : Nat} (h : x.length ≤ k) : nx x k = 0 := by unfold nx; simp [List.getD, List.getElem?_eq_none h, qq_00]
theorem nx_get {k : Nat} (h : k < x.length) : nx x k = qq x[k] := by unfold nx; rw [getD_get h]
theorem tq_row (i k : Nat) : tq (rowT A x i) k = ra (cel A) i k * nx x k := by
  unfold tq rowT nx ra
  rw [qq_int]
theorem row_tval (h : FitX A B x) {i : Nat} (hi : i < A.length) : tval (rowT A x i) x.length := fun j hj => by
  have hw : j < A[i].length := by rw [h.wide i hi]; exact hj
  have h1 := h.coef i hi j hw
  unfold rowT
  rw [cel_get hi hw]
  refine ⟨fchk_small h1.1 h1.2, ?_⟩
  simp only [List.getD, List.getElem?_eq_getElem hj, Option.getD_some]
  exact h.val j hj
theorem row_sum (h3 : x.length ≤ 3) (i : Nat) : sm (tq (rowT A x i)) x.length = qax (ra (cel A)) (nx x) i := by
  unfold qax
  rw [← sm_more 3 h3 fun j hj => by rw [tq_row, nx_out hj]; grind]
  exact sm_congr 3 fun j _ => tq_row i j
theorem side_chk (h : FitX A B x) {i : Nat} (hi : i < A.length) : fchk (nb B i) 1 = 0 := by
  have hb : i < B.length := by rw [h.right]; exact hi
  rw [nb_get hb]
  exact fchk_small (h.side i hb).1 (h.side i hb).2
/-- A number of the residual. -/
theorem nres_val (h : FitX A B x) (h3 : x.length ≤ 3) {i : Nat} (hi : i < A.length) (he : (nres A B x i).e = 0) :
    inr (qres (ra (cel A)) (rb (nb B)) (nx x) i) ∧ nres A B x i = uf (qres (ra (cel A)) (rb (nb B)) (nx x) i) := by
  have h0 : (gsum (rowT A x i) x.length).e = 0 := by
    apply Classical.byContradiction
    intro h0
    rw [nres_1 h0] at he
    exact h0 he
  obtain ⟨s1, s2⟩ := gsum_val x.length (row_tval h hi) h0
  rw [row_sum h3] at s1 s2
  rw [nres_0 h0, s2] at he ⊢
  have := fsub_qq (a := up (qax (ra (cel A)) (nx x) i)) (b := (nb B i, 1)) (up_chk s1) (side_chk h hi)
  rw [qq_up, qq_int] at this
  have hs : fsub (uf (qax (ra (cel A)) (nx x) i)).n (uf (qax (ra (cel A)) (nx x) i)).d (B.getD i 0) 1 = pack (qres (ra (cel A)) (rb (nb B)) (nx x) i) := this
  rw [hs] at he ⊢
  exact pack_val he
/-- The residual without an error. -/
theorem nresid_val (h : FitX A B x) (h3 : x.length ≤ 3) (he : (nresidual A B x).2 = 0) :
    (∀ i, i < A.length → inr (qres (ra (cel A)) (rb (nb B)) (nx x) i)) ∧ (nresidual A B x).1 = (List.range A.length).map fun i => up (qres (ra (cel A)) (rb (nb B)) (nx x) i) := by
  have h1 := fun i (hi : i < A.length) => nres_val h h3 hi (rows_each A.length he i hi).1
  refine ⟨fun i hi => (h1 i hi).1, ?_⟩
  have := rows_list (f := nres A B x) (m := A.length) fun i hi => (h1 i hi).2
  unfold nresidual
  rw [this]
theorem res_getD {g : Nat → Rat} {n i : Nat} (hi : i < n) : ((List.range n).map fun i => up (g i)).getD i (0, 0) = up (g i) := by
  simp [List.getD, hi]
theorem tq_sq {g : Nat → Rat} {n i : Nat} (hi : i < n) : tq (sqT ((List.range n).map fun i => up (g i))) i = g i * g i := by
  unfold tq sqT; rw [res_getD hi, qq_up]
theorem tq_col {g : Nat → Rat} {n i k : Nat} (hi : i < n) : tq (colT A ((List.range n).map fun i => up (g i)) k) i = ra (cel A) i k * g i := by
  unfold tq colT ra; rw [res_getD hi, qq_up, qq_int]
theorem sq_tval {g : Nat → Rat} {n : Nat} (h : ∀ i, i < n → inr (g i)) : tval (sqT ((List.range n).map fun i => up (g i))) n := fun j hj => by
  unfold sqT; rw [res_getD hj]; exact ⟨up_chk (h j hj), up_chk (h j hj)⟩
theorem col_tval (hF : FitX A B x) {g : Nat → Rat} (h : ∀ i, i < A.length → inr (g i)) {k : Nat} (hk : k < x.length) : tval (colT A ((List.range A.length).map fun i => up (g i)) k) A.length := fun j hj => by
  have hw : k < A[j].length := by rw [hF.wide j hj]; exact hk
  have h1 := hF.coef j hj k hw
  unfold colT
  rw [res_getD hj, cel_get hj hw]
  exact ⟨fchk_small h1.1 h1.2, up_chk (h j hj)⟩
/-- The value without an error. -/
theorem nval_val (hp : npoint A B x = 0) (h3 : x.length ≤ 3) (he : (nValue A B x).e = 0) : inr (qval (ra (cel A)) (rb (nb B)) A.length (nx x)) ∧ nValue A B x = uf (qval (ra (cel A)) (rb (nb B)) A.length (nx x)) := by
  have hF := FitX.of hp
  have h0 : (nResidual A B x).2 = 0 := by
    apply Classical.byContradiction
    intro h0
    rw [nVal_1 h0] at he
    exact h0 he
  have e0 : nResidual A B x = nresidual A B x := if_pos hp
  rw [nVal_0 h0] at he ⊢
  rw [e0] at h0 he ⊢
  obtain ⟨r1, r2⟩ := nresid_val hF h3 h0
  rw [r2] at he ⊢
  rw [show ((List.range A.length).map fun i => up (qres (ra (cel A)) (rb (nb B)) (nx x) i)).length = A.length from by simp] at he ⊢
  have := gsum_val A.length (sq_tval r1) he
  have e1 : sm (tq (sqT ((List.range A.length).map fun i => up (qres (ra (cel A)) (rb (nb B)) (nx x) i)))) A.length = qval (ra (cel A)) (rb (nb B)) A.length (nx x) :=
    sm_congr A.length fun i hi => tq_sq hi
  rw [e1] at this
  exact this
/-- The gradient without an error. -/
theorem ngrad_val (hp : npoint A B x = 0) (h3 : x.length ≤ 3) (he : (nGradient A B x).2 = 0) : (nResidual A B x).2 = 0 ∧ (∀ k, k < x.length → inr (qgrd (ra (cel A)) (rb (nb B)) A.length (nx x) k)) ∧ (nGradient A B x).1 = (List.range x.length).map fun k => up (qgrd (ra (cel A)) (rb (nb B)) A.length (nx x) k) := by
  have hF := FitX.of hp
  have h0 : (nResidual A B x).2 = 0 := by
    apply Classical.byContradiction
    intro h0
    rw [nGrad_1 h0] at he
    exact h0 he
  have e0 : nResidual A B x = nresidual A B x := if_pos hp
  refine ⟨h0, ?_⟩
  rw [nGrad_0 h0] at he ⊢
  rw [e0] at h0 he ⊢
  obtain ⟨r1, r2⟩ := nresid_val hF h3 h0
  rw [r2] at he ⊢
  have h1 : ∀ k, k < x.length → inr (qgrd (ra (cel A)) (rb (nb B)) A.length (nx x) k) ∧ gsum (colT A ((List.range A.length).map fun i => up (qres (ra (cel A)) (rb (nb B)) (nx x) i)) k) A.length = uf (qgrd (ra (cel A)) (rb (nb B)) A.length (nx x) k) := fun k hk => by
    have := gsum_val A.length (col_tval hF r1 hk) (rows_each x.length he k hk).1
    have e1 : sm (tq (colT A ((List.range A.length).map fun i => up (qres (ra (cel A)) (rb (nb B)) (nx x) i)) k)) A.length = qgrd (ra (cel A)) (rb (nb B)) A.length (nx x) k :=
      sm_congr A.length fun i hi => tq_col hi
    rw [e1] at this
    exact this
  refine ⟨fun k hk => (h1 k hk).1, ?_⟩
  rw [rows_list (g := fun k => qgrd (ra (cel A)) (rb (nb B)) A.length (nx x) k) fun k hk => (h1 k hk).2]
end
end Go.Proofs.Ythlcmlngmcoknaa

/- What is proved here: the contract of nnls.best. Condition: numbers within 3000, numerators and denominator within 200,000,000,000. -/
namespace Go.Proofs.Ythlcmlngmcoknaa
open Go.RowKit

/-- The slope of an unknown times the denominator, over the first unknowns. -/
def bsum (g : Nat → Nat → Int) (d nu : Nat → Int) (den : Int) (k l : Nat) : Int := -den * d k + si (fun l => g k l * nu l) l
/-- An unknown whose number and slope are not negative. -/
def bOk (g : Nat → Nat → Int) (d nu : Nat → Int) (den : Int) (n k : Nat) : Bool := decide (0 ≤ nu k) && decide (0 ≤ bsum g d nu den k n)
def bestN (g : Nat → Nat → Int) (d nu : Nat → Int) (den : Int) (n : Nat) : Bool := (List.range n).all (bOk g d nu den n)
theorem range_all {p : Nat → Bool} {k : Nat} (h : (List.range k).all p = true) (hp : p k = true) : (List.range (k + 1)).all p = true := by
  rw [List.range_succ, List.all_append, h]; simp [hp]
theorem range_not {p : Nat → Bool} {k n : Nat} (hk : k < n) (hp : p k = false) : (List.range n).all p = false := by
  rw [List.all_eq_false]; exact ⟨k, List.mem_range.2 hk, by rw [hp]; decide⟩
theorem bsum_succ {g : Nat → Nat → Int} {d nu : Nat → Int} {den : Int} {k l : Nat} : bsum g d nu den k (l + 1) = bsum g d nu den k l + g k l * nu l := by
  unfold bsum; rw [si_succ]; omega
theorem si_wi' {f : Nat → Int} {X : Int} : ∀ n, (∀ i, i < n → wi X (f i)) → wi (n * X) (si f n)
  | 0, _ => by simp [si, wi]
  | n + 1, h => by
    have h1 := si_wi' n fun i hi => h i (by omega)
    have h2 := h n (by omega)
    have e : ((n + 1 : Nat) : Int) * X = n * X + X := by rw [Int.natCast_add, Int.add_mul]; simp
    rw [si_succ, e]
    unfold wi at *; omega
theorem bsum_wi {g : Nat → Nat → Int} {d nu : Nat → Int} {den : Int} {k : Nat} (hg : ∀ k l, wi 3000 (g k l)) (hd : ∀ k, wi 3000 (d k)) (hn : ∀ k, wi 200000000000 (nu k)) (hden : wi 200000000000 den) (l : Nat) (hl : l ≤ 3) : wi 2400000000000000 (bsum g d nu den k l) := by
  have h1 := si_wi' (f := fun l => g k l * nu l) (X := 600000000000000) l fun i hi => wr_mulbd' (X := 3000) (Y := 200000000000) (hg k i) (hn i) (by decide)
  have h2 := wr_mulbd' (X := 200000000000) (Y := 3000) (x := -den) (y := d k) (Z := 600000000000000) (by unfold wi at hden; omega) (hd k) (by decide)
  unfold bsum
  generalize si (fun l => g k l * nu l) l = s at *
  generalize -den * d k = p at *
  unfold wi at *
  omega
theorem wr_more' {g x y X Y G : Int} (hg : wi G g) (hx : wi X x) (hy : wi Y y) (hX : X * Y ≤ 4611686018427387904) (hG : G ≤ 4611686018427387903) : wrap64 (g + wrap64 (x * y)) = g + x * y := by
  have := wr_mulbd hx hy
  rw [wr_add_r]
  refine Go.IntWalk.wrap64_in _ ?_
  unfold wi at hg
  omega
set_option maxRecDepth 100000 in
set_option maxHeartbeats 4000000 in
theorem nbest_any (g : Nat → Nat → Int) (d nu : Nat → Int) (den : Int) (n : Nat) (w : World) (hn : n ≤ 3) (hg : ∀ k l, wi 3000 (g k l)) (hd : ∀ k, wi 3000 (d k)) (hu : ∀ k, wi 200000000000 (nu k)) (hden : wi 200000000000 den) :
    Calls Try.prog 113 #[.agg (mcs g).toArray, .agg (lcs d).toArray, .int .i64 n, .agg (lcs nu).toArray, .int .i64 den] w fun e w' => e = .returned (.bool (bestN g d nu den n)) ∧ Below w.heap.size w w' := by
  have HG := Lib.hid hg
  have HD := Lib.hid hd
  have HU := Lib.hid hu
  have HN := Lib.hid hden
  have e1 : wrap64 (-den) = -den := by refine Go.IntWalk.wrap64_in _ ?_; unfold wi at hden; omega
  have E1 := Lib.hid e1
  clear hg hd hu hden e1
  rw [mcs_is, lcs_is, lcs_is]
  have oG := ((Own.new w 161 [.int .i64 (g 0 0), .int .i64 (g 0 1), .int .i64 (g 0 2), .int .i64 (g 1 0), .int .i64 (g 1 1), .int .i64 (g 1 2), .int .i64 (g 2 0), .int .i64 (g 2 1), .int .i64 (g 2 2)]).alloc (.cells #[.int .i64 (d 0), .int .i64 (d 1), .int .i64 (d 2)] 159)).alloc (.cells #[.int .i64 (nu 0), .int .i64 (nu 1), .int .i64 (nu 2)] 159)
  have oD := (own_second w 159 [.int .i64 (d 0), .int .i64 (d 1), .int .i64 (d 2)] (.cells #[.int .i64 (g 0 0), .int .i64 (g 0 1), .int .i64 (g 0 2), .int .i64 (g 1 0), .int .i64 (g 1 1), .int .i64 (g 1 2), .int .i64 (g 2 0), .int .i64 (g 2 1), .int .i64 (g 2 2)] 161)).alloc (.cells #[.int .i64 (nu 0), .int .i64 (nu 1), .int .i64 (nu 2)] 159)
  have oU := own_third w 159 [.int .i64 (nu 0), .int .i64 (nu 1), .int .i64 (nu 2)] (.cells #[.int .i64 (g 0 0), .int .i64 (g 0 1), .int .i64 (g 0 2), .int .i64 (g 1 0), .int .i64 (g 1 1), .int .i64 (g 1 2), .int .i64 (g 2 0), .int .i64 (g 2 1), .int .i64 (g 2 2)] 161) (.cells #[.int .i64 (d 0), .int .i64 (d 1), .int .i64 (d 2)] 159)
  have hy := ba3 w (.cells #[.int .i64 (g 0 0), .int .i64 (g 0 1), .int .i64 (g 0 2), .int .i64 (g 1 0), .int .i64 (g 1 1), .int .i64 (g 1 2), .int .i64 (g 2 0), .int .i64 (g 2 1), .int .i64 (g 2 2)] 161) (.cells #[.int .i64 (d 0), .int .i64 (d 1), .int .i64 (d 2)] 159) (.cells #[.int .i64 (nu 0), .int .i64 (nu 1), .int .i64 (nu 2)] 159)
  have HY := Lib.hid hy
  clear hy
  go_enter Try.func113, Try.ntmps113
  go_wp2
  generalize ((w.alloc (.cells #[.int .i64 (g 0 0), .int .i64 (g 0 1), .int .i64 (g 0 2), .int .i64 (g 1 0), .int .i64 (g 1 1), .int .i64 (g 1 2), .int .i64 (g 2 0), .int .i64 (g 2 1), .int .i64 (g 2 2)] 161)).alloc (.cells #[.int .i64 (d 0), .int .i64 (d 1), .int .i64 (d 2)] 159)).alloc (.cells #[.int .i64 (nu 0), .int .i64 (nu 1), .int .i64 (nu 2)] 159) = y at *
  obtain ⟨z, hz⟩ : ∃ z, z = w.heap.size := ⟨_, rfl⟩
  rw [← hz] at oG oD oU ⊢
  clear hz
  rw [← mcs_is] at oG
  rw [← lcs_is] at oD oU
  have OG := Lib.hid oG
  have OD := Lib.hid oD
  have OU := Lib.hid oU
  clear oG oD oU
  go_loopw [11] (fun i wr => ∃ k : Nat, k ≤ n ∧ i = .int .i64 k ∧ Hid ((List.range k).all (bOk g d nu den n) = true) ∧ Below y.heap.size y wr) (fun i _ => n - (intOf i).toNat)
  case atStart => exact ⟨0, Nat.zero_le _, rfl, rfl, Below.refl _ _⟩
  case round =>
    obtain ⟨k, hk, rfl, hv, hW⟩ := hrel
    rename World => W
    by_cases hlt : k < n
    · have oG := OG.out.below hW
      have oD := OD.out.below hW
      have oU := OU.out.below hW
      obtain ⟨rG, fG⟩ := oG.rules
      have zG := oG.lt
      obtain ⟨rD, fD⟩ := oD.rules
      have zD := oD.lt
      obtain ⟨rU, fU⟩ := oU.rules
      have zU := oU.lt
      have u0 := lcs_get nu (k := k) (by omega)
      have d0 := lcs_get d (k := k) (by omega)
      by_cases hz : nu k < 0
      · have HV := Lib.hid (range_not (p := bOk g d nu den n) hlt (by unfold bOk; rw [decide_eq_false (by omega)]; rfl))
        go_wp2
        go_ret
        exact ⟨by unfold bestN; rw [HV.out]; try rfl, below_to HY.out hW⟩
      · have EB : Hid (wrap64 (-den * d k) = bsum g d nu den k 0) := by
          have h := bsum_wi HG.out HD.out HU.out HN.out (k := k) 0 (by omega)
          show wrap64 (-den * d k) = -den * d k + 0
          have e : bsum g d nu den k 0 = -den * d k + 0 := rfl
          rw [e] at h
          rw [Go.IntWalk.wrap64_in _ (by unfold wi at h; omega)]; omega
        have ZN := Lib.hid hz
        clear hz
        go_wp2
        rw [E1.out, EB.out]
        clear rG fG rD fD rU fU oG oD oU zG zD zU u0 d0 EB
        go_loopw [12, 13] (fun s i wr => ∃ l : Nat, l ≤ n ∧ i = .int .i64 l ∧ s = .int .i64 (bsum g d nu den k l) ∧ Below y.heap.size y wr) (fun _ i _ => n - (intOf i).toNat)
        case atStart => exact ⟨0, Nat.zero_le _, rfl, rfl, hW⟩
        case round =>
          clear hW
          obtain ⟨l, hl, rfl, rfl, hW⟩ := hrel
          rename World => W1
          by_cases hll : l < n
          · have oG := OG.out.below hW
            have oU := OU.out.below hW
            obtain ⟨rG, fG⟩ := oG.rules
            have zG := oG.lt
            obtain ⟨rU, fU⟩ := oU.rules
            have zU := oU.lt
            have u0 := lcs_get nu (k := l) (by omega)
            have g0 := mcs_get g (k := k) (l := l) (by omega) (by omega)
            have EB : Hid (wrap64 (bsum g d nu den k l + wrap64 (g k l * nu l)) = bsum g d nu den k (l + 1)) := by
              have h := bsum_wi HG.out HD.out HU.out HN.out (k := k) l (by omega)
              show _ = _
              rw [bsum_succ]
              exact wr_more' h (HG.out k l) (HU.out l) (by decide) (by decide)
            go_wp2_with fail
            have gl := @grow_lt
            refine wp_region_st [.t [0, 1, 2, 3, 4, 5, 6, 7, 8, 9, 10]] [11] (by kernel_rfl) (by kernel_rfl) (fun _ _ _ _ _ h => h) ?_
            refine wpX_t ?_
            try simp only [opsAt, List.getElem?_toArray, List.getElem?_cons_zero, List.getElem?_cons_succ, Option.getD_some]
            repeat (go_big_quiet_step (fail))
            refine wpQuiet_nil ?_
            refine wpX_nil ?_
            try simp only [opsAt, List.getElem?_toArray, List.getElem?_cons_zero, List.getElem?_cons_succ, Option.getD_some]
            clear gl
            go_wp2
            rw [EB.out]
            go_roundw
            case rel => exact ⟨l + 1, by omega, by go_num, rfl, hW.drew⟩
            case measure => simp [intOf]; try omega
          · obtain rfl : l = n := by omega
            by_cases hs : bsum g d nu den k l < 0
            · have HV := Lib.hid (range_not (p := bOk g d nu den l) hlt (by unfold bOk; rw [decide_eq_false (p := 0 ≤ bsum g d nu den k l) (by omega), Bool.and_false]))
              go_wp2
              go_ret
              exact ⟨by unfold bestN; rw [HV.out]; try rfl, below_to HY.out hW⟩
            · have HV := Lib.hid (range_all hv.out (show bOk g d nu den l k = true by unfold bOk; rw [decide_eq_true (p := 0 ≤ bsum g d nu den k l) (by omega), decide_eq_true ZN.out]; rfl))
              clear hv
              go_wp2
              go_roundw
              case rel => exact ⟨k + 1, by omega, by go_num, HV, hW⟩
              case measure => simp [intOf]; try omega
    · obtain rfl : k = n := by omega
      go_wp2
      go_ret
      exact ⟨by unfold bestN; rw [hv.out]; try rfl, below_to HY.out hW⟩
theorem nbest_ex (g : Nat → Nat → Int) (d nu : Nat → Int) (den : Int) (n : Nat) (b : Bool) (w : World) (hn : n ≤ 3) (hg : ∀ k l, wi 3000 (g k l)) (hd : ∀ k, wi 3000 (d k)) (hu : ∀ k, wi 200000000000 (nu k)) (hden : wi 200000000000 den) (hb : bestN g d nu den n = b) :
    Calls Try.prog 113 #[.agg #[.int .i64 (g 0 0), .int .i64 (g 0 1), .int .i64 (g 0 2), .int .i64 (g 1 0), .int .i64 (g 1 1), .int .i64 (g 1 2), .int .i64 (g 2 0), .int .i64 (g 2 1), .int .i64 (g 2 2)], .agg #[.int .i64 (d 0), .int .i64 (d 1), .int .i64 (d 2)], .int .i64 n, .agg #[.int .i64 (nu 0), .int .i64 (nu 1), .int .i64 (nu 2)], .int .i64 den] w fun e w' => e = .returned (.bool b) ∧ Below w.heap.size w w' := by
  subst hb; exact nbest_any g d nu den n w hn hg hd hu hden
end Go.Proofs.Ythlcmlngmcoknaa

/- What is proved here: the solution of a fit with a cost as a list of fractions: its set, its numbers, and that a program that looks for the first good set finds it. No program in sight, no condition. -/
namespace Go.Proofs.Ythlcmlngmcoknaa
open Go.RowKit

section
variable (A : List (List Int)) (B : List Int) (c : Int) (n : Nat)
/-- The square matrix, the right sides less the cost, the solution's set, and its numbers. -/
def nG : Nat → Nat → Int := qg (cel A) A.length
def nD : Nat → Int := qc (cel A) (nb B) A.length c
def nS : Nat := fst8 (nG A) (nD A B c)
def nsx (k : Nat) : Rat := xs8 (cel A) (nb B) A.length c (nS A B c) k
def nsol : List (Int × Int) := (List.range n).map fun k => up (nsx A B c k)
end
variable {A : List (List Int)} {B : List Int} {c : Int} {n : Nat}
theorem nD_wi (h : Fit A B n) (h0 : 0 ≤ c) (h1 : c ≤ 1000) (k : Nat) : wi 3000 (nD A B c k) := by
  have h2 := h.qc1250 (r := A.length) (by omega) k
  have e : nD A B c k = qc (cel A) (nb B) A.length 0 k - c := by unfold nD qc; omega
  rw [e]
  unfold wi at *; omega
theorem nG_wi (h : Fit A B n) (k l : Nat) : wi 3000 (nG A k l) := wi_mono (h.qg125 (by omega) k l) (by decide)
theorem nG_out (h : Fit A B n) {k l : Nat} (hk : n ≤ l) : nG A k l = 0 := si_0 A.length fun r hr => by rw [h.out hr hk]; simp
theorem nG_comm (k l : Nat) : nG A k l = nG A l k := qg_comm _ _ _ _
theorem si_more {f : Nat → Int} {n : Nat} : ∀ N, n ≤ N → (∀ j, n ≤ j → f j = 0) → si f N = si f n
  | 0, h, _ => by obtain rfl : n = 0 := by omega
                  rfl
  | N + 1, h, hz => by
    rcases Nat.lt_or_ge n (N + 1) with h1 | h1
    · rw [si_succ, si_more N (by omega) hz, hz N (by omega)]; omega
    · obtain rfl : n = N + 1 := by omega
      rfl
theorem bsum_slp (h : Fit A B n) {S k : Nat} : bsum (nG A) (nD A B c) (num8 (nG A) (nD A B c) S) (den8 (nG A) S) k n = slp8 (nG A) (nD A B c) S k := by
  unfold bsum slp8
  rw [← si_more (f := fun l => nG A k l * num8 (nG A) (nD A B c) S l) 3 h.cols.2 fun j hj => by rw [nG_out h hj]; simp]
  simp only [si]
  omega
theorem bit_out {n S k : Nat} (hS : S < 2 ^ n) (hk : n ≤ k) : S.testBit k = false := Nat.testBit_lt_two_pow (Nat.lt_of_lt_of_le hS (Nat.pow_le_pow_right (by decide) hk))
/-- What the program compares: a good set. -/
theorem good_is (h : Fit A B n) {S : Nat} (hS : S < 2 ^ n) (hd : den8 (nG A) S ≠ 0) (hc : 0 ≤ c) : bestN (nG A) (nD A B c) (num8 (nG A) (nD A B c) S) (den8 (nG A) S) n = good8 (nG A) (nD A B c) S := by
  have n3 := h.cols.2
  have hS8 := set8 n3 hS
  have hden : 0 ≤ den8 (nG A) S := den_nn (cel A) A.length hS8
  rw [Bool.eq_iff_iff, good8_iff]
  unfold bestN
  rw [List.all_eq_true]
  constructor
  · intro h1
    refine ⟨hd, fun k hk => ?_⟩
    rcases Nat.lt_or_ge k n with h2 | h2
    · have := h1 k (List.mem_range.2 h2)
      unfold bOk at this
      rw [bsum_slp h] at this
      simpa using this
    · have e1 : num8 (nG A) (nD A B c) S k = 0 := num8_out _ _ hS8 hk (bit_out hS h2)
      have e2 : nD A B c k = -c := by
        unfold nD qc
        rw [si_0 A.length fun r hr => by rw [h.out hr h2]; simp]; omega
      refine ⟨by omega, ?_⟩
      unfold slp8
      rw [e2, nG_comm k 0, nG_comm k 1, nG_comm k 2, nG_out h h2, nG_out h h2, nG_out h h2]
      have := Int.mul_nonneg hden hc
      have e3 : -den8 (nG A) S * -c = den8 (nG A) S * c := by grind
      rw [e3]; omega
  · intro ⟨_, h1⟩ k hk
    have hk' := List.mem_range.1 hk
    have := h1 k (by omega)
    unfold bOk
    rw [bsum_slp h]
    simpa using this
theorem num8_wi (h : Fit A B n) (h0 : 0 ≤ c) (h1 : c ≤ 1000) {S k : Nat} (hS : S < 2 ^ n) (hk : k < 3) : wi 200000000000 (num8 (nG A) (nD A B c) S k) := by
  rw [← still_num (nG A) (nD A B c) h.cols.2 hS hk]
  exact npart_wi (nG_wi h) (nD_wi h h0 h1) _ _
theorem den8_wi (h : Fit A B n) {S : Nat} (hS : S < 2 ^ n) : wi 200000000000 (den8 (nG A) S) := by
  rw [← still_den (nG A) h.cols.2 hS]
  exact detM_wi fun i j => mpart_wi (nG_wi h) _ _ _ _
theorem num8_big (g : Nat → Nat → Int) (d : Nat → Int) {S : Nat} (hS : S < 8) (j : Nat) : num8 g d S (j + 3) = 0 := by
  rcases cases8 hS with rfl | rfl | rfl | rfl | rfl | rfl | rfl | rfl <;> rfl
theorem num8_wi' (h : Fit A B n) (h0 : 0 ≤ c) (h1 : c ≤ 1000) {S : Nat} (hS : S < 2 ^ n) (k : Nat) : wi 200000000000 (num8 (nG A) (nD A B c) S k) := by
  rcases Nat.lt_or_ge k 3 with hk | hk
  · exact num8_wi h h0 h1 hS hk
  · obtain ⟨j, rfl⟩ : ∃ j, k = j + 3 := ⟨k - 3, by omega⟩
    rw [num8_big _ _ (set8 h.cols.2 hS)]; unfold wi; omega
/-- The solution's set. -/
theorem nS_spec (h : Fit A B n) (h0 : 0 ≤ c) : nS A B c < 2 ^ n ∧ good8 (nG A) (nD A B c) (nS A B c) = true := by
  obtain ⟨h1, h2⟩ := fst8_good (a := cel A) (b := nb B) (m := A.length) h0
  refine ⟨?_, h2⟩
  have hd := (good8_iff.1 h2).1
  have hz : ∀ r k, n ≤ k → (fun r k => if r < A.length then cel A r k else 0) r k = 0 := fun r k hk => by
    simp only; split
    · rename_i hr; exact h.out hr hk
    · rfl
  have hq : qg (fun r k => if r < A.length then cel A r k else 0) A.length = qg (cel A) A.length := by
    funext i j
    exact si_congr A.length fun r hr => by simp only [if_pos hr]
  exact free_small h1 h.cols.2 hz (by rw [hq]; exact hd)
theorem nS_is (h : Fit A B n) {S : Nat} (hS : S < 2 ^ n) (hg : good8 (nG A) (nD A B c) S = true) (hl : ∀ T, T < S → good8 (nG A) (nD A B c) T = false) : nS A B c = S := fst8_is (set8 h.cols.2 hS) hg hl
/-- A number of the solution, as frac.Make gives it. -/
theorem nsx_make (h : Fit A B n) (h0 : 0 ≤ c) (h1 : c ≤ 1000) {k : Nat} (hk : k < 3) : inr (nsx A B c k) ∧ fmk (num8 (nG A) (nD A B c) (nS A B c) k) (den8 (nG A) (nS A B c)) = uf (nsx A B c k) := by
  obtain ⟨h2, h3⟩ := nS_spec h h0
  have hd := (good8_iff.1 h3).1
  have hden : 0 ≤ den8 (nG A) (nS A B c) := den_nn (cel A) A.length (set8 h.cols.2 h2)
  have w1 := num8_wi h h0 h1 h2 hk
  have w2 := den8_wi h h2
  unfold wi at w1 w2
  have hi : inr ((num8 (nG A) (nD A B c) (nS A B c) k : Rat) / (den8 (nG A) (nS A B c) : Rat)) := inr_frac (by omega) (by omega) (by omega) (by omega)
  exact ⟨hi, fmk_uf (by omega) (by omega) (by omega) (by omega)⟩
/-- What Solve returns: the solution, its set, and an error. -/
def nSolve (A : List (List Int)) (B : List Int) (c : Int) : List (Int × Int) × Nat × Int := if ncheck A B = 0 then (nsol A B c (A.getD 0 []).length, nS A B c, 0) else ([], 0, ncheck A B)
def solve_post (w : World) (r : List (Int × Int) × Nat × Int) (e : Ending) (w' : World) : Prop := ∃ u, e = .returned (.tuple #[u, .int .i64 r.2.1, .int .i64 r.2.2]) ∧ SF w' u r.1 ∧ Below w.heap.size w w'
theorem pow_wrap {n : Nat} (hn : n ≤ 3) : wrap64 ((2 : Int) ^ n) = ((2 ^ n : Nat) : Int) := by
  rcases (by omega : n = 0 ∨ n = 1 ∨ n = 2 ∨ n = 3) with rfl | rfl | rfl | rfl <;> (rw [Go.IntWalk.wrap64_in _ (by decide)]; rfl)
theorem nsol_len : (nsol A B c n).length = n := by simp [nsol]
theorem nsol_get {k : Nat} (hk : k < n) : (nsol A B c n)[k]? = some (up (nsx A B c k)) := by simp [nsol, hk]
theorem take_fill (xs : List (Int × Int)) (k n : Nat) (p : Int × Int) (hl : xs.length = n) (hk : k < n) (hp : xs[k]? = some p) : (xs.take k ++ List.replicate (n - k) (0, 0)).set k p = xs.take (k + 1) ++ List.replicate (n - (k + 1)) (0, 0) := by
  rw [fill_rows _ _ _ _ (by simp; omega) hk, List.take_add_one, hp]; rfl
end Go.Proofs.Ythlcmlngmcoknaa

/- What is proved here: the contract of nnls.still. Condition: numbers within 3000, at most three unknowns, a set of them. -/
namespace Go.Proofs.Ythlcmlngmcoknaa
open Go.RowKit

/-- What a set's point is: numerators and denominator, all 0 where the set is not free. -/
def stN (g : Nat → Nat → Int) (d : Nat → Int) (S k : Nat) : Int := if den8 g S = 0 then 0 else num8 g d S k
def still_post (w : World) (g : Nat → Nat → Int) (d : Nat → Int) (S : Nat) (e : Ending) (w' : World) : Prop :=
  e = .returned (.tuple #[.agg (lcs (stN g d S)).toArray, .int .i64 (den8 g S)]) ∧ Below w.heap.size w w'
set_option maxRecDepth 100000 in
set_option maxHeartbeats 4000000 in
theorem nstill_any (g : Nat → Nat → Int) (d : Nat → Int) (n S : Nat) (w : World) (hn : n ≤ 3) (hS : S < 2 ^ n) (hg : ∀ k l, wi 3000 (g k l)) (hd : ∀ k, wi 3000 (d k)) :
    Calls Try.prog 112 #[.agg (mcs g).toArray, .agg (lcs d).toArray, .int .i64 n, .int .i64 S] w (still_post w g d S) := by
  have HG := Lib.hid hg
  have HD := Lib.hid hd
  have HS := Lib.hid hS
  clear hg hd hS
  rw [mcs_is, lcs_is]
  have oG := ((Own.new w 161 [.int .i64 (g 0 0), .int .i64 (g 0 1), .int .i64 (g 0 2), .int .i64 (g 1 0), .int .i64 (g 1 1), .int .i64 (g 1 2), .int .i64 (g 2 0), .int .i64 (g 2 1), .int .i64 (g 2 2)]).alloc (.cells #[.int .i64 (d 0), .int .i64 (d 1), .int .i64 (d 2)] 159)).alloc (.cells #[.int .i64 0, .int .i64 0, .int .i64 0] 159)
  have oD := (own_second w 159 [.int .i64 (d 0), .int .i64 (d 1), .int .i64 (d 2)] (.cells #[.int .i64 (g 0 0), .int .i64 (g 0 1), .int .i64 (g 0 2), .int .i64 (g 1 0), .int .i64 (g 1 1), .int .i64 (g 1 2), .int .i64 (g 2 0), .int .i64 (g 2 1), .int .i64 (g 2 2)] 161)).alloc (.cells #[.int .i64 0, .int .i64 0, .int .i64 0] 159)
  have oU := own_third w 159 [.int .i64 0, .int .i64 0, .int .i64 0] (.cells #[.int .i64 (g 0 0), .int .i64 (g 0 1), .int .i64 (g 0 2), .int .i64 (g 1 0), .int .i64 (g 1 1), .int .i64 (g 1 2), .int .i64 (g 2 0), .int .i64 (g 2 1), .int .i64 (g 2 2)] 161) (.cells #[.int .i64 (d 0), .int .i64 (d 1), .int .i64 (d 2)] 159)
  have hy := ba3 w (.cells #[.int .i64 (g 0 0), .int .i64 (g 0 1), .int .i64 (g 0 2), .int .i64 (g 1 0), .int .i64 (g 1 1), .int .i64 (g 1 2), .int .i64 (g 2 0), .int .i64 (g 2 1), .int .i64 (g 2 2)] 161) (.cells #[.int .i64 (d 0), .int .i64 (d 1), .int .i64 (d 2)] 159) (.cells #[.int .i64 0, .int .i64 0, .int .i64 0] 159)
  have HY := Lib.hid hy
  clear hy
  go_enter Try.func112, Try.ntmps112
  go_wp2
  generalize ((w.alloc (.cells #[.int .i64 (g 0 0), .int .i64 (g 0 1), .int .i64 (g 0 2), .int .i64 (g 1 0), .int .i64 (g 1 1), .int .i64 (g 1 2), .int .i64 (g 2 0), .int .i64 (g 2 1), .int .i64 (g 2 2)] 161)).alloc (.cells #[.int .i64 (d 0), .int .i64 (d 1), .int .i64 (d 2)] 159)).alloc (.cells #[.int .i64 0, .int .i64 0, .int .i64 0] 159) = y at *
  obtain ⟨z, hz⟩ : ∃ z, z = w.heap.size := ⟨_, rfl⟩
  rw [← hz] at oG oD oU ⊢
  have HZ := Lib.hid hz
  clear hz
  rw [← mcs_is] at oG
  rw [← lcs_is] at oD
  have OG := Lib.hid oG
  have OD := Lib.hid oD
  have OU : Hid (Own y (z + 1 + 1) 159 (lcs fun _ => 0)) := oU
  clear oG oD oU
  go_loopw [10, 11] (fun ov i wr => ∃ k : Nat, k ≤ n ∧ i = .int .i64 k ∧ wr.ownsRow y.heap.size 3 1 ov (ins S k).length (ics (ins S k)) ∧ Below y.heap.size y wr) (fun _ i _ => n - (intOf i).toNat)
  case atStart => exact ⟨0, Nat.zero_le _, rfl, World.ownsRow_nil _ _ _ _, Below.refl _ _⟩
  case round =>
    obtain ⟨k, hk, rfl, ow, hW⟩ := hrel
    rename World => W
    by_cases hlt : k < n
    · have hzs := hW.size
      have hl := ins_len S k
      have hbt := bit_test (S := S) (k := k) (set8 hn HS.out) (by omega)
      by_cases hb : S.testBit k = true
      · have EI := Lib.hid (ins_yes hb)
        rw [hb] at hbt
        clear hb
        go_wp2_with (at_builtin; refine wpList_app _ rfl _ _ _ rfl y.heap.size 3 1 8 (.int .i64 0) Try.underlying23 Try.infoInt rfl (by omega) (by omega) _ (ins S k).length _ rfl (ow.alloc _) (by omega) (by simp; omega) W.heap.size [.int .i64 k] (0, 0) rfl (heap_alloc_new W _) rfl (by simp [Value.oneCell']) ?_; intro gq cap w2 hown hgq hbw)
        go_wp2
        go_roundw
        case rel =>
          refine ⟨k + 1, by omega, by go_num, ?_, (hW.alloc hzs _).trans hbw⟩
          rw [EI.out]
          simpa [ics] using hown
        case measure => simp [intOf]; try omega
      · have EI := Lib.hid (ins_no (show S.testBit k = false by simpa using hb))
        rw [show S.testBit k = false by simpa using hb] at hbt
        clear hb
        go_wp2
        go_roundw
        case rel =>
          refine ⟨k + 1, by omega, by go_num, ?_, hW⟩
          rw [EI.out]; exact ow
        case measure => simp [intOf]; try omega
    · obtain rfl : k = n := by omega
      have hl := ins_len S k
      have sI : SI W _ (ins S k) := owns_sl ow (by omega)
      have hfv := owns_frv ow
      have HX := Lib.hid (fun i (hi : i < (ins S k).length) => xn_cast hi)
      have hL : (ins S k).length ≤ 3 := by omega
      have DEN := Lib.hid (still_den g hn HS.out)
      have NUM := Lib.hid (fun q (hq : q < 3) => still_num g d (k := q) hn HS.out hq)
      clear ow
      generalize ins S k = xs at *
      obtain ⟨adi, capi, e, hi1, hi2, _⟩ := sI.open
      subst e
      have SI0 := Lib.hid sI
      have HFV := Lib.hid hfv
      have OGW := Lib.hid (OG.out.below hW)
      have ODW := Lib.hid (OD.out.below hW)
      have OUW := Lib.hid (OU.out.below hW)
      have hBW := Lib.hid (below_to HY.out hW)
      have hzs := hW.size
      have HZ2 : z + 1 + 1 < y.heap.size := OU.out.lt
      clear sI hfv hW OG OD OU
      have oM := Own.new W 161 (mcs fun _ _ => 0)
      have hM := ba1 W (.cells (mcs fun _ _ => 0).toArray 161)
      rw [← mpart_0 (g := g) (xs := xs)] at oM
      go_wp2
      go_loopw [38] (fun i wr => ∃ i' : Nat, i' ≤ xs.length ∧ i = .int .i64 i' ∧ Own wr W.heap.size 161 (mcs (mpart g xs i' 0)) ∧ Below W.heap.size W wr) (fun i _ => xs.length - (intOf i).toNat)
      case atStart => exact ⟨0, Nat.zero_le _, rfl, oM, hM⟩
      case round =>
        clear oM hM
        obtain ⟨i, hi, rfl, oM, hM⟩ := hrel
        rename World => W1
        by_cases hil : i < xs.length
        · obtain ⟨_, _, e, _, _, H⟩ := (SI0.out.below hM).open
          cases e
          obtain ⟨b, off, rfl, c1⟩ := H.out i hil
          clear H
          obtain ⟨x1, x2⟩ := HX.out i hil
          rw [x1] at c1
          clear x1
          go_wp2
          go_loopw [45] (fun j wr => ∃ j' : Nat, j' ≤ xs.length ∧ j = .int .i64 j' ∧ Own wr W.heap.size 161 (mcs (mpart g xs i j')) ∧ Below W.heap.size W wr) (fun j _ => xs.length - (intOf j).toNat)
          case atStart => exact ⟨0, Nat.zero_le _, rfl, oM, hM⟩
          case round =>
            clear oM hM c1
            obtain ⟨j, hj, rfl, oM, hM⟩ := hrel
            rename World => W2
            by_cases hjl : j < xs.length
            · obtain ⟨_, _, e, _, _, H⟩ := (SI0.out.below hM).open
              cases e
              obtain ⟨b, off, e, c1⟩ := H.out j hjl
              cases e
              clear H
              obtain ⟨x1, x3⟩ := HX.out j hjl
              rw [x1] at c1
              clear x1
              have oG := OGW.out.below hM
              obtain ⟨rG, fG⟩ := oG.rules
              have zG := oG.lt
              obtain ⟨rM, fM⟩ := oM.rules
              have zM := oM.lt
              have g0 := mcs_get g (k := xn xs i) (l := xn xs j) (by omega) (by omega)
              obtain ⟨vm, m0⟩ : ∃ v, (mcs (mpart g xs i j))[i * 3 + j]? = some v := ⟨_, mcs_get _ (by omega) (by omega)⟩
              go_wp2_with fail
              have gl := @grow_lt
              refine wp_region_st [.t [0, 1, 2, 3, 4, 5, 6, 7, 8]] [9] (by kernel_rfl) (by kernel_rfl) (fun _ _ _ _ _ h => h) ?_
              refine wpX_t ?_
              try simp only [opsAt, List.getElem?_toArray, List.getElem?_cons_zero, List.getElem?_cons_succ, Option.getD_some]
              repeat (go_big_quiet_step (fail))
              refine wpQuiet_nil ?_
              refine wpX_nil ?_
              try simp only [opsAt, List.getElem?_toArray, List.getElem?_cons_zero, List.getElem?_cons_succ, Option.getD_some]
              clear gl
              go_wp2
              go_roundw
              case rel =>
                refine ⟨j + 1, by omega, by go_num, ?_, hM.drew.setCell (p := ⟨W.heap.size, i * 3 + j, none⟩) (by simp) _⟩
                have o2 := oM.drew.set (i * 3 + j) (.int .i64 (g (xn xs i) (xn xs j)))
                rw [mcs_set _ (by omega) (by omega), mpart_put hjl] at o2
                exact o2
              case measure => simp [intOf]; try omega
            · obtain rfl : j = xs.length := by omega
              rw [mpart_row] at oM
              go_wp2
              go_roundw
              case rel => exact ⟨i + 1, by omega, by go_num, oM, hM⟩
              case measure => simp [intOf]; try omega
        · obtain rfl : i = xs.length := by omega
          have MW : Hid (∀ i j, wi 3000 (mfull g xs i j)) := fun i j => mpart_wi HG.out _ _ _ _
          have oM' : Own W1 W.heap.size 161 (mcs (mfull g xs)) := oM
          clear oM
          have oM := oM'
          rw [mcs_is] at oM
          obtain ⟨rM, fM⟩ := oM.rules
          have zM := oM.lt
          go_wp2_with fail
          refine (ndetM_any xs.length (mfull g xs) _ _ hL MW.out DEN.out).mono ?_
          rintro e W2 ⟨rfl, hq⟩
          clear rM fM zM oM
          have hM2 := below_to hM hq
          have oM2 := Lib.hid (oM'.below hq)
          clear hM hq oM'
          by_cases hz : den8 g S = 0
          · have oU := OUW.out.below hM2
            rw [hz]
            rw [lcs_is] at oU
            obtain ⟨rU, fU⟩ := oU.rules
            have zU := oU.lt
            have hfin : Hid (Below z w W2) := by
              show Below z w W2
              have h1 := hBW.out
              rw [← HZ.out] at h1
              exact h1.trans (hM2.mono (by omega))
            go_wp2
            have oz := ((oU.set 0 (.int .i64 0)).set 1 (.int .i64 0)).set 2 (.int .i64 0)
            have bz := ((hfin.out.setCell (p := ⟨z + 1 + 1, 0, none⟩) (by simp; omega) (.int .i64 0)).setCell (p := ⟨z + 1 + 1, 1, none⟩) (by simp; omega) (.int .i64 0)).setCell (p := ⟨z + 1 + 1, 2, none⟩) (by simp; omega) (.int .i64 0)
            refine bp_gen' (fun X => Own X (z + 1 + 1) 159 _ ∧ Below z w X) ⟨oz, bz⟩ ?_
            rintro wz ⟨q1, q2⟩
            obtain ⟨r1, f1⟩ := q1.rules
            refine bodyPost_ret (v := .tuple #[.agg #[.int .i64 0, .int .i64 0, .int .i64 0], .int .i64 0]) (by simp [results, Try.results112, go_sem, r1]) rfl ⟨?_, by rw [← HZ.out]; exact q2⟩
            rw [lcs_is, hz]
            simp [stN, hz]
          have HNZ := Lib.hid hz
          have q0 : (den8 g S == 0) = false := by simpa using hz
          clear hz
          have oD := ODW.out.below hM2
          have oU : Own W2 (z + 1 + 1) 159 (lcs (npart g d xs 0)) := OUW.out.below hM2
          have sI := SI0.out.below hM2
          have oM := oM2.out
          have hF : Below z w W2 := by
            have h1 := hBW.out
            rw [← HZ.out] at h1
            exact h1.trans (hM2.mono (by omega))
          clear OUW ODW SI0 hM2 oM2 OGW hBW
          go_wp2
          go_loopw [70] (fun i wr => ∃ l : Nat, l ≤ xs.length ∧ i = .int .i64 l ∧ Own wr (z + 1) 159 (lcs d) ∧ Own wr (z + 1 + 1) 159 (lcs (npart g d xs l)) ∧ Own wr W.heap.size 161 (mcs (mfull g xs)) ∧ SI wr (.slice adi xs.length capi) xs ∧ Below z w wr) (fun i _ => xs.length - (intOf i).toNat)
          case atStart => exact ⟨0, Nat.zero_le _, rfl, oD, oU, oM, sI, hF⟩
          case round =>
            clear oD oU oM sI hF
            obtain ⟨l, hl', rfl, oD, oU, oM, sI, hF⟩ := hrel
            rename World => W3
            by_cases hll : l < xs.length
            · obtain ⟨_, _, e, _, _, H⟩ := sI.open
              cases e
              obtain ⟨b, off, rfl, c1⟩ := H.out l hll
              clear H
              obtain ⟨x1, x2⟩ := HX.out l hll
              rw [x1] at c1
              clear x1
              have SI3 := Lib.hid sI
              have OD3 := Lib.hid oD
              have OU3 := Lib.hid oU
              have OM3 := Lib.hid oM
              have HF3 := Lib.hid hF
              clear sI oD oU hF
              rw [mcs_is] at oM
              obtain ⟨rM, fM⟩ := oM.rules
              have zM := oM.lt
              have oQ := Own.new W3 161 (mcs (mfull g xs))
              have hQ := ba1 W3 (.cells (mcs (mfull g xs)).toArray 161)
              rw [← wcol_0 (M := mfull g xs) (d := d) (xs := xs) (j := l)] at oQ
              go_wp2
              clear rM fM oM
              go_loopw [78] (fun i wr => ∃ i' : Nat, i' ≤ xs.length ∧ i = .int .i64 i' ∧ Own wr W3.heap.size 161 (mcs (wcol (mfull g xs) d xs i' l)) ∧ Below W3.heap.size W3 wr) (fun i _ => xs.length - (intOf i).toNat)
              case atStart => exact ⟨0, Nat.zero_le _, rfl, oQ, hQ⟩
              case round =>
                clear oQ hQ c1
                obtain ⟨i, hi', rfl, oQ, hQ⟩ := hrel
                rename World => W4
                by_cases hil' : i < xs.length
                · obtain ⟨_, _, e, _, _, H⟩ := (SI3.out.below hQ).open
                  cases e
                  obtain ⟨b, off, e, c1⟩ := H.out i hil'
                  cases e
                  clear H
                  obtain ⟨x1, x3⟩ := HX.out i hil'
                  rw [x1] at c1
                  clear x1
                  have oD := OD3.out.below hQ
                  obtain ⟨rD, fD⟩ := oD.rules
                  have zD := oD.lt
                  obtain ⟨rQ, fQ⟩ := oQ.rules
                  have zQ := oQ.lt
                  have d0 := lcs_get d (k := xn xs i) (by omega)
                  obtain ⟨vm, m0⟩ : ∃ v, (mcs (wcol (mfull g xs) d xs i l))[i * 3 + l]? = some v := ⟨_, mcs_get _ (by omega) (by omega)⟩
                  go_wp2_with fail
                  have gl := @grow_lt
                  refine wp_region_st [.t [0, 1, 2, 3, 4, 5, 6]] [7] (by kernel_rfl) (by kernel_rfl) (fun _ _ _ _ _ h => h) ?_
                  refine wpX_t ?_
                  try simp only [opsAt, List.getElem?_toArray, List.getElem?_cons_zero, List.getElem?_cons_succ, Option.getD_some]
                  repeat (go_big_quiet_step (fail))
                  refine wpQuiet_nil ?_
                  refine wpX_nil ?_
                  try simp only [opsAt, List.getElem?_toArray, List.getElem?_cons_zero, List.getElem?_cons_succ, Option.getD_some]
                  clear gl
                  go_wp2
                  go_roundw
                  case rel =>
                    refine ⟨i + 1, by omega, by go_num, ?_, hQ.drew.setCell (p := ⟨W3.heap.size, i * 3 + l, none⟩) (by simp) _⟩
                    have o2 := oQ.drew.set (i * 3 + l) (.int .i64 (d (xn xs i)))
                    rw [mcs_set _ (by omega) (by omega), wcol_put] at o2
                    exact o2
                  case measure => simp [intOf]; try omega
                · obtain rfl : i = xs.length := by omega
                  have NW : Hid (∀ i j, wi 3000 (wcol (mfull g xs) d xs xs.length l i j)) := fun i j => wcol_wi MW.out HD.out _ _ _ _
                  have ED : Hid (lput (npart g d xs l) (xn xs l) (detM xs.length (wcol (mfull g xs) d xs xs.length l)) = npart g d xs (l + 1)) := rfl
                  have oU := OU3.out.below hQ
                  have oD := OD3.out.below hQ
                  have oM := OM3.out.below hQ
                  have sI := SI3.out.below hQ
                  have hF := HF3.out.trans (hQ.mono (by have := HF3.out.size; have := OM3.out.lt; omega))
                  have qM := oQ
                  rw [mcs_is] at qM
                  obtain ⟨rQ, fQ⟩ := qM.rules
                  have zQ := qM.lt
                  go_wp2_with fail
                  refine (ndetM_any xs.length (wcol (mfull g xs) d xs xs.length l) _ _ hL NW.out rfl).mono ?_
                  rintro e W5 ⟨rfl, hq⟩
                  clear rQ fQ zQ qM oQ hQ
                  have hz4 := oM.lt
                  replace oU := oU.below hq
                  replace oD := oD.below hq
                  replace oM := oM.below hq
                  replace sI := sI.below hq
                  replace hF := hF.trans (hq.mono (by omega))
                  clear hq
                  obtain ⟨rU, fU⟩ := oU.rules
                  have zU := oU.lt
                  obtain ⟨vm, m0⟩ : ∃ v, (lcs (npart g d xs l))[xn xs l]? = some v := ⟨_, lcs_get _ (by omega)⟩
                  go_wp2
                  go_roundw
                  case rel =>
                    refine ⟨l + 1, by omega, by go_num, oD.other (by omega) _ _, ?_, oM.other (by omega) _ _, sI.low HFV.out (by simp; omega) _, hF.setCell (p := ⟨z + 1 + 1, xn xs l, none⟩) (by simp; omega) _⟩
                    have o2 := oU.set (xn xs l) (.int .i64 (detM xs.length (wcol (mfull g xs) d xs xs.length l)))
                    rw [lcs_set _ (by omega), ED.out] at o2
                    exact o2
                  case measure => simp [intOf]; try omega
            · obtain rfl : l = xs.length := by omega
              rw [lcs_congr NUM.out, lcs_is] at oU
              obtain ⟨rU, fU⟩ := oU.rules
              have zU := oU.lt
              go_wp2
              have oz := ((oU.set 0 (.int .i64 (num8 g d S 0))).set 1 (.int .i64 (num8 g d S 1))).set 2 (.int .i64 (num8 g d S 2))
              have bz := ((hF.setCell (p := ⟨z + 1 + 1, 0, none⟩) (by simp; omega) (.int .i64 (num8 g d S 0))).setCell (p := ⟨z + 1 + 1, 1, none⟩) (by simp; omega) (.int .i64 (num8 g d S 1))).setCell (p := ⟨z + 1 + 1, 2, none⟩) (by simp; omega) (.int .i64 (num8 g d S 2))
              refine bp_gen' (fun X => Own X (z + 1 + 1) 159 _ ∧ Below z w X) ⟨oz, bz⟩ ?_
              rintro wz ⟨q1, q2⟩
              obtain ⟨r1, f1⟩ := q1.rules
              refine bodyPost_ret (v := .tuple #[.agg #[.int .i64 (num8 g d S 0), .int .i64 (num8 g d S 1), .int .i64 (num8 g d S 2)], .int .i64 (den8 g S)]) (by simp [results, Try.results112, go_sem, r1]) rfl ⟨?_, by rw [← HZ.out]; exact q2⟩
              rw [lcs_is]
              simp only [stN, if_neg HNZ.out]
theorem nstill_ex (g : Nat → Nat → Int) (d : Nat → Int) (n S : Nat) (w : World) (hn : n ≤ 3) (hS : S < 2 ^ n) (hg : ∀ k l, wi 3000 (g k l)) (hd : ∀ k, wi 3000 (d k)) :
    Calls Try.prog 112 #[.agg #[.int .i64 (g 0 0), .int .i64 (g 0 1), .int .i64 (g 0 2), .int .i64 (g 1 0), .int .i64 (g 1 1), .int .i64 (g 1 2), .int .i64 (g 2 0), .int .i64 (g 2 1), .int .i64 (g 2 2)], .agg #[.int .i64 (d 0), .int .i64 (d 1), .int .i64 (d 2)], .int .i64 n, .int .i64 S] w (still_post w g d S) := nstill_any g d n S w hn hS hg hd
end Go.Proofs.Ythlcmlngmcoknaa

/- What is proved here: the contract of nnls.Solve. Condition: a system that can be read. -/
namespace Go.Proofs.Ythlcmlngmcoknaa
open Go.RowKit

theorem norm_is {w : World} {A : List (List Int)} {B : List Int} {e : Ending} {w' : World} (h : norm_post w A B e w') :
    e = .returned (.tuple #[.agg #[.int .i64 (nG A 0 0), .int .i64 (nG A 0 1), .int .i64 (nG A 0 2), .int .i64 (nG A 1 0), .int .i64 (nG A 1 1), .int .i64 (nG A 1 2), .int .i64 (nG A 2 0), .int .i64 (nG A 2 1), .int .i64 (nG A 2 2)], .agg #[.int .i64 (nD A B 0 0), .int .i64 (nD A B 0 1), .int .i64 (nD A B 0 2)]]) ∧ Below w.heap.size w w' := h
set_option maxRecDepth 100000 in
set_option maxHeartbeats 4000000 in
theorem nsolve_any (A : List (List Int)) (B : List Int) (va vb : Value) (w : World) (hA : SS w va A) (hB : SI w vb B) :
    Calls Try.prog 50 #[.agg #[va, vb]] w (solve_post w (nSolve A B 0)) := by
  go_enter Try.func50, Try.ntmps50
  have oS := Own.new w 25 [va, vb]
  have hy := ba1 w (.cells #[va, vb] 25)
  replace hA := hA.below hy
  replace hB := hB.below hy
  obtain ⟨rS, fS⟩ := oS.rules
  have zS := oS.lt
  go_wp2_with fail
  refine (ncheck_any A B _ _ _ hA hB).mono ?_
  rintro e y1 ⟨rfl, hq⟩
  clear rS fS zS
  replace oS := oS.below hq
  replace hA := hA.below hq
  replace hB := hB.below hq
  replace hy := below_to hy hq
  clear hq
  obtain ⟨rS, fS⟩ := oS.rules
  have zS := oS.lt
  by_cases h0 : ncheck A B = 0
  case neg =>
    have HV : Hid (nSolve A B 0 = ([], 0, ncheck A B)) := if_neg h0
    have q0 : (ncheck A B != 0) = true := by simpa using h0
    clear hA hB h0
    go_wp2
    refine bodyPost_ret (v := .tuple #[.slice none 0 0, .int .i64 0, .int .i64 (ncheck A B)]) (by simp [results, Try.results50, go_sem]) rfl ⟨.slice none 0 0, by rw [HV.out]; try rfl, by rw [HV.out]; exact sf_nil _, hy⟩
  have HF := Lib.hid (fit_of h0)
  have HV : Hid (nSolve A B 0 = (nsol A B 0 (A.getD 0 []).length, nS A B 0, 0)) := if_pos h0
  rw [h0]
  clear h0
  have hr := HF.out.rows.1
  have n1 := HF.out.cols.1
  have n3 := HF.out.cols.2
  have hw0 := HF.out.wide 0 (by omega)
  obtain ⟨ada, capa, e, ha1, ha2, H⟩ := hA.open
  subst e
  obtain ⟨b, off, ad', cap', rfl, c1, c2, c3, _⟩ := H.out 0 hr
  clear H
  rw [hw0] at c1 c2 c3
  rw [Nat.add_zero] at c1
  have HW0 := Lib.hid hw0
  clear hw0
  generalize (A.getD 0 []).length = n at *
  have rows1 : (0 : Int) < A.length := by omega
  go_wp2_with fail
  refine (nnorm_any A B n _ _ _ hA hB HF.out).mono ?_
  rintro e y2 hp
  obtain ⟨rfl, hq⟩ := norm_is hp
  clear hp rS fS zS oS hA hB c1 c2 c3
  replace hy := below_to hy hq
  clear hq
  have oG := own_first y2 161 (mcs (nG A)) (.cells (lcs (nD A B 0)).toArray 159)
  have oC := own_second y2 159 (lcs (nD A B 0)) (.cells (mcs (nG A)).toArray 161)
  have hW := ba2 y2 (.cells (mcs (nG A)).toArray 161) (.cells (lcs (nD A B 0)).toArray 159)
  have HY := Lib.hid hy
  have NG : Hid (∀ k l, wi 3000 (nG A k l)) := nG_wi HF.out
  have ND : Hid (∀ k, wi 3000 (nD A B 0 k)) := nD_wi HF.out (by decide) (by decide)
  clear hy
  go_wp2
  rw [mcs_is, lcs_is] at *
  generalize ((y2.alloc (.cells #[.int .i64 (nG A 0 0), .int .i64 (nG A 0 1), .int .i64 (nG A 0 2), .int .i64 (nG A 1 0), .int .i64 (nG A 1 1), .int .i64 (nG A 1 2), .int .i64 (nG A 2 0), .int .i64 (nG A 2 1), .int .i64 (nG A 2 2)] 161)).alloc (.cells #[.int .i64 (nD A B 0 0), .int .i64 (nD A B 0 1), .int .i64 (nD A B 0 2)] 159)) = y at *
  have HB := Lib.hid (below_to HY.out hW)
  obtain ⟨z, hz⟩ : ∃ z, z = y2.heap.size := ⟨_, rfl⟩
  rw [← hz] at oG oC ⊢
  clear hz hW HY
  have OG := Lib.hid oG
  have OC := Lib.hid oC
  clear oG oC
  go_loopw [3] (fun i wr => ∃ T : Nat, T ≤ 2 ^ n ∧ i = .int .i64 T ∧ Hid (∀ S, S < T → good8 (nG A) (nD A B 0) S = false) ∧ Below y.heap.size y wr) (fun i _ => 2 ^ n - (intOf i).toNat)
  case atStart => exact ⟨0, Nat.zero_le _, rfl, fun S hS => absurd hS (Nat.not_lt_zero S), Below.refl _ _⟩
  case round =>
    obtain ⟨T, hT, rfl, hv, hW⟩ := hrel
    rename World => W
    have pw := pow_wrap n3
    by_cases hlt : T < 2 ^ n
    · have t1 : (T : Int) < wrap64 (2 ^ n) := by rw [pw]; omega
      have t2 : decide ((T : Int) < wrap64 (2 ^ n)) = true := by simpa using t1
      have HT := Lib.hid hlt
      have T8 : T < 8 := set8 n3 hlt
      clear hlt pw
      have oG := OG.out.below hW
      have oC := OC.out.below hW
      obtain ⟨rG, fG⟩ := oG.rules
      have zG := oG.lt
      obtain ⟨rC, fC⟩ := oC.rules
      have zC := oC.lt
      go_wp2_with fail
      refine (nstill_ex (nG A) (nD A B 0) n T _ n3 HT.out NG.out ND.out).mono ?_
      rintro e W1 ⟨rfl, hq⟩
      rw [lcs_is]
      clear rG fG zG rC fC zC t1 t2 oG oC
      replace hW := below_to hW hq
      clear hq
      by_cases hd : den8 (nG A) T = 0
      · have HN : Hid (good8 (nG A) (nD A B 0) T = false) := by
          show _ = _
          cases h : good8 (nG A) (nD A B 0) T
          · rfl
          · exact absurd hd (good8_iff.1 h).1
        rw [hd]
        clear hd
        go_wp2
        go_roundw
        case rel =>
          refine ⟨T + 1, HT.out, by go_num, fun S hS => ?_, below_to hW (ba1 _ _)⟩
          rcases Nat.lt_or_ge S T with h | h
          · exact hv.out S h
          · obtain rfl : S = T := by omega
            exact HN.out
        case measure => have := HT.out; simp [intOf]; try omega
      · have qd : (den8 (nG A) T == 0) = false := by simpa using hd
        have EN : stN (nG A) (nD A B 0) T = num8 (nG A) (nD A B 0) T := by funext k; unfold stN; rw [if_neg hd]
        rw [EN]
        have NU : Hid (∀ k, wi 200000000000 (num8 (nG A) (nD A B 0) T k)) := num8_wi' HF.out (by decide) (by decide) HT.out
        have NDen := Lib.hid (den8_wi HF.out HT.out)
        have GI := Lib.hid (good_is HF.out HT.out hd (Int.le_refl 0))
        clear EN
        have oN := Own.new W1 159 (lcs (num8 (nG A) (nD A B 0) T))
        rw [lcs_is] at oN
        have hN := ba1 W1 (.cells #[.int .i64 (num8 (nG A) (nD A B 0) T 0), .int .i64 (num8 (nG A) (nD A B 0) T 1), .int .i64 (num8 (nG A) (nD A B 0) T 2)] 159)
        go_upto_region 10 with fail
        generalize W1.alloc (.cells #[.int .i64 (num8 (nG A) (nD A B 0) T 0), .int .i64 (num8 (nG A) (nD A B 0) T 1), .int .i64 (num8 (nG A) (nD A B 0) T 2)] 159) = W2 at *
        replace hW := below_to hW hN
        obtain ⟨p, hp⟩ : ∃ p, p = W1.heap.size := ⟨_, rfl⟩
        rw [← hp] at oN ⊢
        clear hp hN
        have oG := OG.out.below hW
        have oC := OC.out.below hW
        obtain ⟨rG, fG⟩ := oG.rules
        have zG := oG.lt
        obtain ⟨rC, fC⟩ := oC.rules
        have zC := oC.lt
        obtain ⟨rN, fN⟩ := oN.rules
        have zN := oN.lt
        have HD := Lib.hid hd
        clear hd
        by_cases hg : good8 (nG A) (nD A B 0) T = true
        case neg =>
          have hg' : good8 (nG A) (nD A B 0) T = false := by simpa using hg
          have HN := Lib.hid hg'
          have hb := GI.out.trans hg'
          clear hg hg'
          go_wp2_with fail
          refine (nbest_ex (nG A) (nD A B 0) (num8 (nG A) (nD A B 0) T) (den8 (nG A) T) n false _ n3 NG.out ND.out NU.out NDen.out hb).mono ?_
          rintro e W3 ⟨rfl, hq⟩
          replace hW := below_to hW hq
          clear hq rG fG zG rC fC zC rN fN zN oG oC oN hb
          go_wp2
          go_roundw
          case rel =>
            refine ⟨T + 1, HT.out, by go_num, fun S hS => ?_, hW⟩
            rcases Nat.lt_or_ge S T with h | h
            · exact hv.out S h
            · obtain rfl : S = T := by omega
              exact HN.out
          case measure => have := HT.out; simp [intOf]; try omega
        have hb := GI.out.trans hg
        have HS : Hid (nS A B 0 = T) := nS_is HF.out HT.out hg hv.out
        clear hg
        go_wp2_with fail
        refine (nbest_ex (nG A) (nD A B 0) (num8 (nG A) (nD A B 0) T) (den8 (nG A) T) n true _ n3 NG.out ND.out NU.out NDen.out hb).mono ?_
        rintro e W3 ⟨rfl, hq⟩
        replace hW := below_to hW hq
        replace oN := oN.below hq
        clear hq rG fG zG rC fC zC rN fN zN oG oC hb
        have ON := Lib.hid oN
        clear oN
        have MK := mk_fracs n n rfl (by omega)
        have oX := Own.new W3 78 (fcs (List.replicate n (0, 0)))
        have hX := ba1 W3 (.cells (fcs (List.replicate n (0, 0))).toArray 78)
        have HB3 := Lib.hid (below_to HB.out hW)
        go_wp2
        clear MK
        go_loopw [2, 3, 55] (fun x s i wr => ∃ k : Nat, k ≤ n ∧ x = .slice (some ⟨W3.heap.size, 0, none⟩) n n ∧ s = .int .i64 T ∧ i = .int .i64 k ∧ Own wr W3.heap.size 78 (fcs ((nsol A B 0 n).take k ++ List.replicate (n - k) (0, 0))) ∧ Below W3.heap.size W3 wr) (fun _ _ i _ => n - (intOf i).toNat)
        case atStart => exact ⟨0, Nat.zero_le _, rfl, rfl, rfl, by simpa using oX, hX⟩
        case round =>
          clear oX hX hW
          obtain ⟨k, hk, rfl, rfl, rfl, oX, hX⟩ := hrel
          rename World => W4
          by_cases hkn : k < n
          · obtain ⟨i1, i2⟩ := nsx_make HF.out (Int.le_refl 0) (by decide) (k := k) (by omega)
            rw [HS.out] at i2
            have I1 := Lib.hid i1
            have I2 := Lib.hid i2
            have NK := NU.out k
            have ND' := NDen.out
            have oN := ON.out.below hX
            have n0 := lcs_get (num8 (nG A) (nD A B 0) T) (k := k) (by omega)
            rw [← lcs_is] at oN
            obtain ⟨rN, fN⟩ := oN.rules
            have zN := oN.lt
            clear i1 i2
            go_wp2_with fail
            refine (make_any _ _ _ (by unfold wi at NK; exact ⟨by omega, by omega⟩) (by unfold wi at ND'; exact ⟨by omega, by omega⟩)).mono ?_
            rintro e W5 ⟨rfl, hq⟩
            rw [I2.out]
            have HG := Lib.hid (nsol_get (A := A) (B := B) (c := 0) hkn)
            unfold uf
            unfold up at HG
            generalize (nsx A B 0 k).num = xn at *
            generalize ((nsx A B 0 k).den : Int) = xd at *
            clear rN fN zN oN n0
            replace oX := oX.below hq
            replace hX := below_to hX hq
            clear hq
            have OX := Lib.hid oX
            obtain ⟨v1, v2, g1, g2⟩ := fcs_some ((nsol A B 0 n).take k ++ List.replicate (n - k) (0, 0)) k (by have := nsol_len (A := A) (B := B) (c := 0) (n := n); simp; omega)
            obtain ⟨rX, fX⟩ := oX.rules
            have zX := oX.lt
            go_wp2
            go_roundw
            case rel =>
              refine ⟨k + 1, by omega, rfl, rfl, by go_num, ?_, ?_⟩
              · have o2 := (OX.out.set (k * 2) (.int .i64 xn)).set (k * 2 + 1) (.int .i64 xd)
                rw [fcs_set _ k (xn, xd), take_fill _ k n _ nsol_len hkn HG.out] at o2
                exact o2
              · repeat (refine Below.setCell ?_ (by simp) _)
                exact hX
            case measure => simp [intOf]; try omega
          · obtain rfl : k = n := by omega
            have hf : SF W4 (.slice (some ⟨W3.heap.size, 0, none⟩) k k) (nsol A B 0 k) := by
              unfold SF
              rw [nsol_len]
              exact oX.sl (n := k) k (Nat.le_refl _) (by omega) _ ⟨[], by rw [Nat.sub_self, List.take_of_length_le (by rw [nsol_len]; exact Nat.le_refl _)]; simp⟩
            have hB4 := below_to HB3.out hX
            clear oX hX
            go_wp2
            refine bodyPost_ret (v := .tuple #[.slice (some ⟨W3.heap.size, 0, none⟩) k k, .int .i64 T, .int .i64 0]) (by simp [results, Try.results50, go_sem]) rfl ⟨.slice (some ⟨W3.heap.size, 0, none⟩) k k, by rw [HV.out, HS.out]; try rfl, by rw [HV.out]; exact hf, hB4⟩
    · exfalso
      obtain ⟨h1, h2⟩ := nS_spec HF.out (Int.le_refl 0)
      have := hv.out (nS A B 0) (by omega)
      rw [h2] at this
      cases this
end Go.Proofs.Ythlcmlngmcoknaa
