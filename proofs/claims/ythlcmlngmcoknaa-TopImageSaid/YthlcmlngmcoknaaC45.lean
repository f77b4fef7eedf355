/- What is proved here: contracts of functions and plain facts, several texts in one; each one says ahead what it proves, and its conditions. -/
import Derived.Test.YthlcmlngmcoknaaC30
import Derived.Test.YthlcmlngmcoknaaC32
import Derived.Test.YthlcmlngmcoknaaC40
import Derived.Test.YthlcmlngmcoknaaC43
import Derived.Test.YthlcmlngmcoknaaC11
import Derived.Test.YthlcmlngmcoknaaC44
import Derived.Test.YthlcmlngmcoknaaC38
import Derived.Test.YthlcmlngmcoknaaC01
import Derived.Deep.DeepCutAuto
/- What is proved here: the contract of fits41: it answers true. Condition: a system that fits, a cost and a slice of fractions that can be read. -/
namespace Go.Proofs.Ythlcmlngmcoknaa
open Go.RowKit

theorem rowsOf_bad (f : Nat → FR) : ∀ m, ¬ (rowsOf f m).2 = 0 → (rowsOf f m).1 = []
  | 0, h => absurd rfl h
  | m + 1, h => by
    rw [rowsOf] at h ⊢
    by_cases h1 : (rowsOf f m).2 = 0
    · rw [if_pos h1] at h ⊢
      by_cases h2 : (f m).e = 0
      · rw [if_pos h2] at h; exact absurd rfl h
      · rw [if_neg h2]
    · rw [if_neg h1]; exact rowsOf_bad f m h1
theorem dMake_bad {A : List (List Int)} {B : List Int} {c : Int} {x : List (Int × Int)} (h : ¬ (dMake A B c x).2 = 0) : (dMake A B c x).1 = [] := by
  by_cases hs : scheck A B c = 0
  case neg => rw [dMake_c hs]
  by_cases hr : (nResidual A B x).2 = 0
  case neg => rw [dMake_r hs hr]
  rw [dMake_0 hs hr] at h ⊢
  generalize negs (nResidual A B x).1 = Z at *
  by_cases hd : (dsums A Z x.length).2 = 0
  case neg => rw [dwit_1 hd]
  rw [dwit_0 hd] at h ⊢
  generalize mostN (dsums A Z x.length).1 (x.length - 1) = m at *
  by_cases h1 : fcmp c 1 m.1 m.2 = -1
  case neg => rw [dpart_0 h1] at h; exact absurd rfl h
  by_cases h2 : (fdiv c 1 m.1 m.2).e = 0
  case neg => rw [dpart_1 h1 h2]
  rw [dpart_2 h1 h2] at h ⊢
  exact rowsOf_bad _ _ h
theorem FI_nil41 : FI [] := fun p hp => by cases hp
theorem sol_FI41 {A : List (List Int)} {B : List Int} {c : Int} {n : Nat} (h : Fit A B n) (h0 : 0 ≤ c) (h1 : c ≤ 1000) : FI (nsol A B c n) := fun p hp => fr_i64 (sol_chk h h0 h1 p hp).1
theorem FI_of41 {x : List (Int × Int)} (hx : ∀ i (h : i < x.length), fchk x[i].1 x[i].2 = 0) : FI x := fun p hp => by
  obtain ⟨i, hi, rfl⟩ := List.getElem_of_mem hp
  exact fr_i64 (hx i hi)
theorem FI_wit41 {m : Nat} {x : List (Int × Int)} (hw : witB m x = true) : FI x := fun p hp => by
  obtain ⟨i, hi, rfl⟩ := List.getElem_of_mem hp
  exact fr_i64 ((witB_of hw).2 i hi)
theorem dmake41_as (A : List (List Int)) (B : List Int) (c : Int) (x : List (Int × Int)) (r : List (Int × Int) × Int) (va vb vx : Value) (w : World) (hA : SS w va A) (hB : SI w vb B) (hx : SF w vx x) (ix : FI x) (hr : dMake A B c x = r) :
    Calls Try.prog 95 #[.agg #[va, vb], .int .i64 c, vx] w (rows_post w r) := by
  subst hr; exact dmake_any A B c x va vb vx w hA hB hx ix
theorem dgap41_as (A : List (List Int)) (B : List Int) (c : Int) (x y : List (Int × Int)) (r : FR) (va vb vx vy : Value) (w : World) (hA : SS w va A) (hB : SI w vb B) (hx : SF w vx x) (ix : FI x) (hz : SF w vy y) (iz : FI y) (hr : dgap A B c x y = r) :
    Calls Try.prog 99 #[.agg #[va, vb], .int .i64 c, vx, vy] w fun e w' => e = .returned (.tuple #[.agg #[.int .i64 r.n, .int .i64 r.d], .int .i64 r.e]) ∧ Below w.heap.size w w' := by
  subst hr; exact dgap_any A B c x y va vb vx vy w hA hB hx ix hz iz
theorem dacc41_as (A : List (List Int)) (B : List Int) (c : Int) (x y : List (Int × Int)) (gn gd : Int) (r : Bool × Int) (va vb vx vy : Value) (w : World) (hA : SS w va A) (hB : SI w vb B) (hx : SF w vx x) (ix : FI x) (hz : SF w vy y) (iz : FI y) (ig : i64 gn) (ih : i64 gd) (hr : daccept A B c x y gn gd = r) :
    Calls Try.prog 96 #[.agg #[va, vb], .int .i64 c, vx, vy, .agg #[.int .i64 gn, .int .i64 gd]] w fun e w' => e = .returned (.tuple #[.bool r.1, .int .i64 r.2]) ∧ Below w.heap.size w w' := by
  subst hr; exact dacc_any A B c x y gn gd va vb vx vy w hA hB hx ix hz iz ig ih
theorem rnpt41_as (A : List (List Int)) (x : List (Int × Int)) (b : Bool) (va vb vx : Value) (w : World) (hA : SS w va A) (hx : SF w vx x) (ix : FI x) (l1 : 0 < A.length) (hb : pointB (A.getD 0 []).length x = b) :
    Calls Try.prog 98 #[.agg #[va, vb], vx] w fun e w' => e = .returned (.bool b) ∧ Below w.heap.size w w' := by
  subst hb; exact rnpt_any A x va vb vx w hA hx ix l1
theorem scost41_as (A : List (List Int)) (B : List Int) (c : Int) (x : List (Int × Int)) (r : FR) (va vb vx : Value) (w : World) (hA : SS w va A) (hB : SI w vb B) (hx : SF w vx x) (ix : FI x) (hr : sCost A B c x = r) :
    Calls Try.prog 97 #[.agg #[va, vb], .int .i64 c, vx] w fun e w' => e = .returned (.tuple #[.agg #[.int .i64 r.n, .int .i64 r.d], .int .i64 r.e]) ∧ Below w.heap.size w w' := by
  subst hr; exact scost_any A B c x va vb vx w hA hB hx ix
theorem spsolve41_as (A : List (List Int)) (B : List Int) (c : Int) (r : List (Int × Int) × Nat × Int) (va vb : Value) (w : World) (hA : SS w va A) (hB : SI w vb B) (hr : sSolve A B c = r) :
    Calls Try.prog 94 #[.agg #[va, vb], .int .i64 c] w (solve_post w r) := by
  subst hr; exact spsolve_any A B c va vb w hA hB
theorem fsub41_as (an ad bn bd : Int) (r : FR) (w : World) (h1 : i64 an ∧ i64 ad) (h3 : i64 bn ∧ i64 bd) (hr : fsub an ad bn bd = r) :
    Calls Try.prog 100 #[.agg #[.int .i64 an, .int .i64 ad], .agg #[.int .i64 bn, .int .i64 bd]] w fun e w' => e = .returned (.tuple #[.agg #[.int .i64 r.n, .int .i64 r.d], .int .i64 r.e]) ∧ Below w.heap.size w w' := by
  subst hr; exact fsub_any an ad bn bd w h1.1 h1.2 h3.1 h3.2
theorem cmp41_as (an ad bn bd q : Int) (w : World) (h1 : fchk an ad = 0) (h3 : fchk bn bd = 0) (hr : fcmp an ad bn bd = q) :
    Calls Try.prog 101 #[.agg #[.int .i64 an, .int .i64 ad], .agg #[.int .i64 bn, .int .i64 bd]] w fun e w' => e = .returned (.tuple #[.int .i64 q, .int .i64 0]) ∧ Below w.heap.size w w' := by
  have h := cmp_any an ad bn bd w (fr_i64 h1).1 (fr_i64 h1).2 (fr_i64 h3).1 (fr_i64 h3).2
  have hb := fboth_of h1 h3
  rw [hb, show fcmpZ an ad bn bd = fcmp an ad bn bd from if_pos hb, hr] at h
  exact h
set_option maxRecDepth 100000 in
set_option maxHeartbeats 16000000 in
theorem fits41_any (A : List (List Int)) (B : List Int) (c : Int) (x : List (Int × Int)) (va vb vx : Value) (w : World) (hA : SS w va A) (hB : SI w vb B) (hx : SF w vx x) (ix : FI x) (h0 : scheck A B c = 0) :
    Calls Try.prog 44 #[.agg #[va, vb], .int .i64 c, vx] w fun e w' => e = .returned (.bool true) ∧ Below w.heap.size w w' := by
  have IX := Lib.hid ix
  obtain ⟨adx, capx, rfl, hx1, hx2, _⟩ := hx.open
  clear ix
  go_enter Try.func44, Try.ntmps44
  have oS := Own.new w 25 [va, vb]
  have hy := ba1 w (.cells #[va, vb] 25)
  replace hA := hA.below hy
  replace hB := hB.below hy
  replace hx := hx.below hy
  obtain ⟨rS, fS⟩ := oS.rules
  have zS := oS.lt
  obtain ⟨h9, c0, c1⟩ := scheck_of h0
  have HF := Lib.hid (fit_of h9)
  have hl1 := HF.out.rows.1
  have H0 := Lib.hid h0
  have HI := Lib.hid (sol_FI41 (c := c) HF.out c0 c1)
  have HS : Hid (sSolve A B c = (nsol A B c (A.getD 0 []).length, nS A B c, 0)) := if_pos h0
  have SL := sol_s h0
  have HL : sCost A B c (nsol A B c (A.getD 0 []).length) = uf (qprice (fA A) (fB B) A.length (c : Rat) (nsx A B c)) := SL.cost
  have LC : fchk (uf (qprice (fA A) (fB B) A.length (c : Rat) (nsx A B c))).n (uf (qprice (fA A) (fB B) A.length (c : Rat) (nsx A B c))).d = 0 := up_chk SL.cin
  have LE : (uf (qprice (fA A) (fB B) A.length (c : Rat) (nsx A B c))).e = 0 := rfl
  have PI := Lib.hid (point_iff (x := x) h9)
  have MM := Lib.hid (fun hp => made_math (x := x) h0 hp)
  have GM := fun (y : List (Int × Int)) hp hw hf e2 => gap_math (x := x) (y := y) h0 hp hw hf e2
  have GD := Lib.hid (fun (y : List (Int × Int)) hp hw => (dgap_val (x := x) (y := y) h0 hp hw).1)
  have CE := Lib.hid (fun hp => cost_err (x := x) h0 hp)
  have TF := tight_fact h0
  clear h0 h9 c0 c1 SL
  obtain ⟨U, hU⟩ : ∃ U, U = uf (qprice (fA A) (fB B) A.length (c : Rat) (nsx A B c)) := ⟨_, rfl⟩
  rw [← hU] at HL LC LE GM
  clear hU
  obtain ⟨ln, ld, le⟩ := U
  simp only at HL LC LE GM
  subst LE
  generalize nS A B c = st at *
  generalize nsol A B c (A.getD 0 []).length = X at *
  obtain ⟨t1, t2, t3, _, t5⟩ := TF
  have t3' := negs_val t2
  obtain ⟨R, hR⟩ : ∃ R, R = (nResidual A B X).1 := ⟨_, rfl⟩
  rw [← hR] at t3 t5 t3'
  clear t1 t2
  have FZ := Lib.hid (FI_of41 t3')
  have HM := Lib.hid t3
  have HC := Lib.hid t5
  clear t3 t3' t5 hR
  generalize negs R = Z at *
  have HL2 := Lib.hid HL
  have LC2 := Lib.hid LC
  have GM2 := Lib.hid GM
  clear HL LC GM
  go_wp2_with fail
  refine (spsolve41_as A B c _ _ _ _ hA hB HS.out).mono ?_
  rintro e y4 ⟨u, rfl, sx, hq⟩
  clear rS fS zS
  replace oS := oS.below hq
  replace hA := hA.below hq
  replace hB := hB.below hq
  replace hx := hx.below hq
  replace hy := below_to hy hq
  clear hq
  obtain ⟨rS, fS⟩ := oS.rules
  have zS := oS.lt
  have sx' : SF y4 u X := sx
  clear sx
  go_wp2_with fail
  refine (dmake41_as A B c X _ _ _ _ _ hA hB sx' HI.out HM.out).mono ?_
  rintro e y5 ⟨v, rfl, sz, hq⟩
  clear rS fS zS
  replace oS := oS.below hq
  replace hA := hA.below hq
  replace hB := hB.below hq
  replace hx := hx.below hq
  replace sx' := sx'.below hq
  replace hy := below_to hy hq
  clear hq
  obtain ⟨rS, fS⟩ := oS.rules
  have zS := oS.lt
  have sz' : SF y5 v Z := sz
  clear sz
  go_upto_region 3 with fail
  have gl := @grow_lt
  refine wp_region_stt [.t [0, 1, 2, 3], .f 4, .f 5] [6, 7, 8] [9, 10] (by kernel_rfl) (by kernel_rfl) (fun _ _ _ _ _ h => h) ?_
  refine wpX_t ?_
  try simp only [opsAt, List.getElem?_toArray, List.getElem?_cons_zero, List.getElem?_cons_succ, Option.getD_some]
  repeat (go_big_quiet_step (fail))
  refine wpQuiet_nil ?_
  refine wpX_f rfl rfl (fun K' hK' => ?_)
  go_simp
  refine (rof_any 0 _).mono ?_
  rintro e y8 ⟨rfl, hq1⟩
  refine hK' _ _ (grow_of (below_to ((Below.refl _ _).drew) hq1)) ?_
  clear hK' K'
  have hr1 := below_to ((Below.refl y5.heap.size y5).drew) hq1
  refine wpX_f rfl rfl (fun K' hK' => ?_)
  go_simp
  refine (dacc41_as A B c X Z 0 1 _ _ _ _ _ _ (hA.below hr1) (hB.below hr1) (sx'.below hr1) HI.out (sz'.below hr1) FZ.out ⟨by decide, by decide⟩ ⟨by decide, by decide⟩ HC.out).mono ?_
  rintro e y9 ⟨rfl, hq2⟩
  refine hK' _ _ (grow_of (below_to (below_to ((Below.refl _ _).drew) hq1) hq2)) ?_
  clear hK' K'
  refine wpX_nil ?_
  try simp only [opsAt, List.getElem?_toArray, List.getElem?_cons_zero, List.getElem?_cons_succ, Option.getD_some]
  repeat (go_big_quiet_step (fail))
  refine wpQuiet_nil ?_
  try simp only [opsAt, List.getElem?_toArray, List.getElem?_cons_zero, List.getElem?_cons_succ, Option.getD_some]
  have hq : Below y5.heap.size y5 y9 := below_to (below_to ((Below.refl _ _).drew) hq1) hq2
  clear gl hq1 hq2 hr1
  clear rS fS zS
  replace oS := oS.below hq
  replace hA := hA.below hq
  replace hB := hB.below hq
  replace hx := hx.below hq
  replace sx' := sx'.below hq
  replace sz' := sz'.below hq
  replace hy := below_to hy hq
  clear hq
  obtain ⟨rS, fS⟩ := oS.rules
  have zS := oS.lt
  go_wp2_with fail
  refine (scost41_as A B c X _ _ _ _ _ hA hB sx' HI.out HL2.out).mono ?_
  rintro e x1 ⟨rfl, hq⟩
  clear rS fS zS
  replace oS := oS.below hq
  replace hA := hA.below hq
  replace hB := hB.below hq
  replace hx := hx.below hq
  replace sx' := sx'.below hq
  replace sz' := sz'.below hq
  replace hy := below_to hy hq
  clear hq
  obtain ⟨rS, fS⟩ := oS.rules
  have zS := oS.lt
  go_upto_region 5 with fail
  have oL := Own.new x1 78 [.int .i64 ln, .int .i64 ld]
  have hq := ba1 x1 (.cells #[.int .i64 ln, .int .i64 ld] 78)
  clear rS fS zS
  replace oS := oS.below hq
  replace hA := hA.below hq
  replace hB := hB.below hq
  replace hx := hx.below hq
  replace sx' := sx'.below hq
  replace sz' := sz'.below hq
  replace hy := below_to hy hq
  clear hq
  obtain ⟨bL, hbL⟩ : ∃ b, b = x1.heap.size := ⟨_, rfl⟩
  rw [← hbL] at oL ⊢
  clear hbL
  generalize x1.alloc (.cells #[.int .i64 ln, .int .i64 ld] 78) = x2 at *
  obtain ⟨rS, fS⟩ := oS.rules
  have zS := oS.lt
  obtain ⟨rL, fL⟩ := oL.rules
  have zL := oL.lt
  clear sx' sz' FZ HM HC HS HI HL2
  by_cases hb : pointB (A.getD 0 []).length x = true
  case neg =>
    have hb' : pointB (A.getD 0 []).length x = false := by simpa using hb
    go_wp2_with fail
    refine (rnpt41_as A x false _ _ _ _ hA hx IX.out hl1 hb').mono ?_
    rintro e z1 ⟨rfl, hq⟩
    clear rS fS zS rL fL zL
    replace oS := oS.below hq
    replace oL := oL.below hq
    replace hA := hA.below hq
    replace hB := hB.below hq
    replace hx := hx.below hq
    replace hy := below_to hy hq
    clear hq
    obtain ⟨rS, fS⟩ := oS.rules
    have zS := oS.lt
    obtain ⟨rL, fL⟩ := oL.rules
    have zL := oL.lt
    clear hA hB hx
    go_wp2
    go_ret
    exact ⟨by first | rfl | simp, hy⟩
  have HP := Lib.hid (PI.out.2 hb)
  go_wp2_with fail
  refine (rnpt41_as A x true _ _ _ _ hA hx IX.out hl1 hb).mono ?_
  rintro e x3 ⟨rfl, hq⟩
  clear rS fS zS rL fL zL
  replace oS := oS.below hq
  replace oL := oL.below hq
  replace hA := hA.below hq
  replace hB := hB.below hq
  replace hx := hx.below hq
  replace hy := below_to hy hq
  clear hq
  obtain ⟨rS, fS⟩ := oS.rules
  have zS := oS.lt
  obtain ⟨rL, fL⟩ := oL.rules
  have zL := oL.lt
  clear hb PI
  have MF := MM.out HP.out
  have ZB := Lib.hid (fun h => dMake_bad (A := A) (B := B) (c := c) (x := x) h)
  obtain ⟨M, hM⟩ : ∃ M, M = dMake A B c x := ⟨_, rfl⟩
  rw [← hM] at MF ZB
  have HM := Lib.hid hM.symm
  clear hM
  obtain ⟨z, me⟩ := M
  simp only at MF ZB
  obtain ⟨ME, MF⟩ := MF
  have IZ : Hid (FI z) := by
    by_cases h : me = 0
    · exact FI_wit41 (MF h).1
    · rw [ZB.out h]; exact FI_nil41
  have MG := Lib.hid MF
  clear MF ZB
  obtain ⟨G, hG⟩ : ∃ D, D = dgap A B c x z := ⟨_, rfl⟩
  obtain ⟨C, hC⟩ : ∃ C, C = sCost A B c x := ⟨_, rfl⟩
  have CE2 := CE.out HP.out
  have KF : Hid (me = 0 → (G.e = 0 ∨ G.e = 16) ∧ (G.e = 0 → fchk G.n G.d = 0 ∧ fchk C.n C.d = 0 ∧ ∀ m : FR, fsub C.n C.d ln ld = m → (m.e = 0 ∨ m.e = 16) ∧ (m.e = 0 → fchk m.n m.d = 0 ∧ fcmp m.n m.d G.n G.d ≤ 0 ∧ 0 ≤ m.n))) := fun h => by
    obtain ⟨h1, h2⟩ := MG.out h
    rw [hG, hC]
    exact ⟨GD.out z HP.out h1, fun h3 => GM2.out z HP.out h1 h2 h3⟩
  rw [← hC] at CE2
  have HG := Lib.hid hG.symm
  have HC := Lib.hid hC.symm
  clear hG hC MG GD GM2 CE MM
  obtain ⟨gn, gd, ge⟩ := G
  obtain ⟨cn, cd, ce⟩ := C
  simp only at KF CE2
  go_wp2_with fail
  refine (dmake41_as A B c x _ _ _ _ _ hA hB hx IX.out HM.out).mono ?_
  rintro e x4 ⟨v2, rfl, sz, hq⟩
  clear rS fS zS rL fL zL
  replace oS := oS.below hq
  replace oL := oL.below hq
  replace hA := hA.below hq
  replace hB := hB.below hq
  replace hx := hx.below hq
  replace hy := below_to hy hq
  clear hq
  obtain ⟨rS, fS⟩ := oS.rules
  have zS := oS.lt
  obtain ⟨rL, fL⟩ := oL.rules
  have zL := oL.lt
  have hz : SF x4 v2 z := sz
  clear sz
  go_wp2_with fail
  refine (dgap41_as A B c x z _ _ _ _ _ _ hA hB hx IX.out hz IZ.out HG.out).mono ?_
  rintro e x5 ⟨rfl, hq⟩
  clear rS fS zS rL fL zL
  replace oS := oS.below hq
  replace oL := oL.below hq
  replace hA := hA.below hq
  replace hB := hB.below hq
  replace hx := hx.below hq
  replace hz := hz.below hq
  replace hy := below_to hy hq
  clear hq
  obtain ⟨rS, fS⟩ := oS.rules
  have zS := oS.lt
  obtain ⟨rL, fL⟩ := oL.rules
  have zL := oL.lt
  go_upto_region 11 with fail
  have oG := Own.new x5 78 [.int .i64 gn, .int .i64 gd]
  have hq := ba1 x5 (.cells #[.int .i64 gn, .int .i64 gd] 78)
  clear rS fS zS rL fL zL
  replace oS := oS.below hq
  replace oL := oL.below hq
  replace hA := hA.below hq
  replace hB := hB.below hq
  replace hx := hx.below hq
  replace hz := hz.below hq
  replace hy := below_to hy hq
  clear hq
  obtain ⟨bG, hbG⟩ : ∃ b, b = x5.heap.size := ⟨_, rfl⟩
  rw [← hbG] at oG ⊢
  clear hbG
  generalize x5.alloc (.cells #[.int .i64 gn, .int .i64 gd] 78) = x6 at *
  obtain ⟨rS, fS⟩ := oS.rules
  have zS := oS.lt
  obtain ⟨rL, fL⟩ := oL.rules
  have zL := oL.lt
  obtain ⟨rG, fG⟩ := oG.rules
  have zG := oG.lt
  go_wp2_with fail
  refine (scost41_as A B c x _ _ _ _ _ hA hB hx IX.out HC.out).mono ?_
  rintro e x7 ⟨rfl, hq⟩
  clear rS fS zS rL fL zL rG fG zG
  replace oS := oS.below hq
  replace oL := oL.below hq
  replace oG := oG.below hq
  replace hA := hA.below hq
  replace hB := hB.below hq
  replace hx := hx.below hq
  replace hz := hz.below hq
  replace hy := below_to hy hq
  clear hq
  obtain ⟨rS, fS⟩ := oS.rules
  have zS := oS.lt
  obtain ⟨rL, fL⟩ := oL.rules
  have zL := oL.lt
  obtain ⟨rG, fG⟩ := oG.rules
  have zG := oG.lt
  go_upto_region 12 with fail
  have oC := Own.new x7 78 [.int .i64 cn, .int .i64 cd]
  have hq := ba1 x7 (.cells #[.int .i64 cn, .int .i64 cd] 78)
  clear rS fS zS rL fL zL rG fG zG
  replace oS := oS.below hq
  replace oL := oL.below hq
  replace oG := oG.below hq
  replace hA := hA.below hq
  replace hB := hB.below hq
  replace hx := hx.below hq
  replace hz := hz.below hq
  replace hy := below_to hy hq
  clear hq
  obtain ⟨bC, hbC⟩ : ∃ b, b = x7.heap.size := ⟨_, rfl⟩
  rw [← hbC] at oC ⊢
  clear hbC
  generalize x7.alloc (.cells #[.int .i64 cn, .int .i64 cd] 78) = x8 at *
  obtain ⟨rS, fS⟩ := oS.rules
  have zS := oS.lt
  obtain ⟨rL, fL⟩ := oL.rules
  have zL := oL.lt
  obtain ⟨rG, fG⟩ := oG.rules
  have zG := oG.lt
  obtain ⟨rC, fC⟩ := oC.rules
  have zC := oC.lt
  clear hA hB hx hz HM HG HC IZ
  rcases ME with rfl | rfl
  case inr =>
    go_wp2
    go_ret
    exact ⟨by first | rfl | simp, hy⟩
  obtain ⟨KE, KF2⟩ := KF.out rfl
  have KG := Lib.hid KF2
  clear KF KF2
  rcases KE with rfl | rfl
  case inr =>
    rcases CE2 with rfl | rfl
    · go_wp2
      go_ret
      exact ⟨by first | rfl | simp, hy⟩
    · go_wp2
      go_ret
      exact ⟨by first | rfl | simp, hy⟩
  rcases CE2 with rfl | rfl
  case inr =>
    go_wp2
    go_ret
    exact ⟨by first | rfl | simp, hy⟩
  obtain ⟨k1, k2, k3⟩ := KG.out rfl
  obtain ⟨D, hD⟩ : ∃ D, D = fsub cn cd ln ld := ⟨_, rfl⟩
  obtain ⟨k4, k5⟩ := k3 D hD.symm
  have HD := Lib.hid hD.symm
  have K1 := Lib.hid k1
  have K2 := Lib.hid k2
  have K5 := Lib.hid k5
  clear k1 k2 k3 k5 hD KG
  obtain ⟨dn, dd, de⟩ := D
  simp only at k4 K5
  go_wp2_with fail
  refine (fsub41_as cn cd ln ld _ _ (fr_i64 K2.out) (fr_i64 LC2.out) HD.out).mono ?_
  rintro e x9 ⟨rfl, hq⟩
  clear rS fS zS rL fL zL rG fG zG rC fC zC
  replace oS := oS.below hq
  replace oL := oL.below hq
  replace oG := oG.below hq
  replace oC := oC.below hq
  replace hy := below_to hy hq
  clear hq
  obtain ⟨rS, fS⟩ := oS.rules
  have zS := oS.lt
  obtain ⟨rL, fL⟩ := oL.rules
  have zL := oL.lt
  obtain ⟨rG, fG⟩ := oG.rules
  have zG := oG.lt
  obtain ⟨rC, fC⟩ := oC.rules
  have zC := oC.lt
  go_upto_region 15 with fail
  have oD := Own.new x9 78 [.int .i64 dn, .int .i64 dd]
  have hq := ba1 x9 (.cells #[.int .i64 dn, .int .i64 dd] 78)
  clear rS fS zS rL fL zL rG fG zG rC fC zC
  replace oS := oS.below hq
  replace oL := oL.below hq
  replace oG := oG.below hq
  replace oC := oC.below hq
  replace hy := below_to hy hq
  clear hq
  obtain ⟨bD, hbD⟩ : ∃ b, b = x9.heap.size := ⟨_, rfl⟩
  rw [← hbD] at oD ⊢
  clear hbD
  generalize x9.alloc (.cells #[.int .i64 dn, .int .i64 dd] 78) = x10 at *
  obtain ⟨rS, fS⟩ := oS.rules
  have zS := oS.lt
  obtain ⟨rL, fL⟩ := oL.rules
  have zL := oL.lt
  obtain ⟨rG, fG⟩ := oG.rules
  have zG := oG.lt
  obtain ⟨rC, fC⟩ := oC.rules
  have zC := oC.lt
  obtain ⟨rD, fD⟩ := oD.rules
  have zD := oD.lt
  rcases k4 with rfl | rfl
  case inr =>
    go_wp2
    go_ret
    exact ⟨by first | rfl | simp, hy⟩
  obtain ⟨j1, j2, j3⟩ := K5.out rfl
  obtain ⟨q, hq9⟩ : ∃ q, q = fcmp dn dd gn gd := ⟨_, rfl⟩
  rw [← hq9] at j2
  have HQ := Lib.hid hq9.symm
  have J1 := Lib.hid j1
  have q1 : decide (q ≤ 0) = true := by simpa using j2
  have q2 : decide (0 ≤ dn) = true := by simpa using j3
  have q3 : decide (dn ≥ 0) = true := q2
  clear hq9 j1 K5
  go_wp2_with fail
  refine (cmp41_as dn dd gn gd q _ J1.out K1.out HQ.out).mono ?_
  rintro e x11 ⟨rfl, hq⟩
  clear rS fS zS rL fL zL rG fG zG rC fC zC rD fD zD
  replace oS := oS.below hq
  replace oL := oL.below hq
  replace oG := oG.below hq
  replace oC := oC.below hq
  replace oD := oD.below hq
  replace hy := below_to hy hq
  clear hq
  obtain ⟨rS, fS⟩ := oS.rules
  have zS := oS.lt
  obtain ⟨rL, fL⟩ := oL.rules
  have zL := oL.lt
  obtain ⟨rG, fG⟩ := oG.rules
  have zG := oG.lt
  obtain ⟨rC, fC⟩ := oC.rules
  have zC := oC.lt
  obtain ⟨rD, fD⟩ := oD.rules
  have zD := oD.lt
  go_wp2
  go_ret
  exact ⟨by simp [j2, j3], hy⟩
end Go.Proofs.Ythlcmlngmcoknaa
