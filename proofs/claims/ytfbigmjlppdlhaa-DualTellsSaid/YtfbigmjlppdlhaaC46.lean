/- What is proved here: contracts of functions and plain facts, several texts in one; each one says ahead what it proves, and its conditions. -/
import Derived.Test.YtfbigmjlppdlhaaC38
import Derived.Test.YtfbigmjlppdlhaaC31
import Derived.Test.YtfbigmjlppdlhaaC15
/- What is proved here: what feasible witnesses, their worth, gaps and certificates come to. No program in sight. -/
namespace Go.Proofs.Ytfbigmjlppdlhaa
open Go.RowKit

/-- Whether a list is a witness for a fit with m equations. -/
def witB (m : Nat) (y : List (Int × Int)) : Bool := fvalid y && decide (y.length = m)
theorem witB_len {m : Nat} {y : List (Int × Int)} (h : ¬ y.length = m) : witB m y = false := by simp [witB, h]
theorem witB_bad {m : Nat} {y : List (Int × Int)} (h : fvalid y = false) : witB m y = false := by simp [witB, h]
theorem witB_ok {m : Nat} {y : List (Int × Int)} (h : fvalid y = true) : witB m y = decide (y.length = m) := by simp [witB, h]
theorem witB_of {m : Nat} {y : List (Int × Int)} (h : witB m y = true) : y.length = m ∧ ∀ i (h : i < y.length), fchk y[i].1 y[i].2 = 0 := by
  simp only [witB, Bool.and_eq_true, decide_eq_true_eq] at h
  exact ⟨h.2, fun i hi => fvalid_get h.1 i hi⟩
/-- The error of a fit, a cost and a witness. -/
def dcheck (A : List (List Int)) (B : List Int) (c : Int) (y : List (Int × Int)) : Int := if scheck A B c = 0 then (if witB A.length y = true then 0 else 2) else scheck A B c
theorem dcheck_c {A : List (List Int)} {B : List Int} {c : Int} {y : List (Int × Int)} (h : ¬ scheck A B c = 0) : dcheck A B c y = scheck A B c := if_neg h
theorem dcheck_2 {A : List (List Int)} {B : List Int} {c : Int} {y : List (Int × Int)} (h : scheck A B c = 0) (h' : witB A.length y = false) : dcheck A B c y = 2 := by unfold dcheck; rw [if_pos h, if_neg (by rw [h']; decide)]
theorem dcheck_0 {A : List (List Int)} {B : List Int} {c : Int} {y : List (Int × Int)} (h : scheck A B c = 0) (h' : witB A.length y = true) : dcheck A B c y = 0 := by unfold dcheck; rw [if_pos h, if_pos h']
theorem dcheck_of {A : List (List Int)} {B : List Int} {c : Int} {y : List (Int × Int)} (h : dcheck A B c y = 0) : scheck A B c = 0 ∧ witB A.length y = true := by
  unfold dcheck at h
  split at h
  · rename_i h1
    split at h
    · rename_i h2; exact ⟨h1, h2⟩
    · cases h
  · rename_i h1; exact absurd h h1
theorem FitY.ofC {A : List (List Int)} {B : List Int} {y : List (Int × Int)} (h : ncheck A B = 0) (hw : witB A.length y = true) : FitY A y (A.getD 0 []).length := by
  have f := fit_of h
  obtain ⟨h1, h2⟩ := witB_of hw
  exact ⟨f.rows.1, ⟨by have := f.rows; omega, by have := f.cols; omega⟩, h1, f.wide, fun i hi k hk => by have := f.coef i hi k hk; omega, h2⟩
/-- Whether no sum is greater than the cost. -/
def feasB (l : List (Int × Int)) (c : Int) (k : Nat) : Bool := (List.range k).all fun j => !decide (fcmp c 1 (l.getD j (0, 0)).1 (l.getD j (0, 0)).2 = -1)
theorem feasB_succ {l : List (Int × Int)} {c : Int} {k : Nat} (h1 : k < l.length) (h : feasB l c k = true) (hn : ¬ fcmp c 1 l[k].1 l[k].2 = -1) : feasB l c (k + 1) = true := by
  unfold feasB at *
  rw [List.range_succ, List.all_append, h]
  simp only [List.all_cons, List.all_nil, getD_get h1, hn]
  rfl
theorem feasB_not {l : List (Int × Int)} {c : Int} {k n : Nat} (hk : k < n) (h1 : k < l.length) (hn : fcmp c 1 l[k].1 l[k].2 = -1) : feasB l c n = false := by
  unfold feasB
  rw [List.all_eq_false]
  refine ⟨k, List.mem_range.2 hk, ?_⟩
  simp only [getD_get h1, hn]
  decide
def dfeas (A : List (List Int)) (B : List Int) (c : Int) (y : List (Int × Int)) : Bool × Int :=
  if dcheck A B c y = 0 then (if (dsums A y (A.getD 0 []).length).2 = 0 then (feasB (dsums A y (A.getD 0 []).length).1 c (dsums A y (A.getD 0 []).length).1.length, 0) else (false, (dsums A y (A.getD 0 []).length).2)) else (false, dcheck A B c y)
theorem dfeas_c {A : List (List Int)} {B : List Int} {c : Int} {y : List (Int × Int)} (h : ¬ dcheck A B c y = 0) : dfeas A B c y = (false, dcheck A B c y) := if_neg h
theorem dfeas_1 {A : List (List Int)} {B : List Int} {c : Int} {y : List (Int × Int)} (h : dcheck A B c y = 0) (h' : ¬ (dsums A y (A.getD 0 []).length).2 = 0) : dfeas A B c y = (false, (dsums A y (A.getD 0 []).length).2) := by unfold dfeas; rw [if_pos h, if_neg h']
theorem dfeas_0 {A : List (List Int)} {B : List Int} {c : Int} {y : List (Int × Int)} (h : dcheck A B c y = 0) (h' : (dsums A y (A.getD 0 []).length).2 = 0) : dfeas A B c y = (feasB (dsums A y (A.getD 0 []).length).1 c (dsums A y (A.getD 0 []).length).1.length, 0) := by unfold dfeas; rw [if_pos h, if_pos h']
/-- What the sum of the products of two lists adds up. -/
def prodT (a b : List (Int × Int)) (i : Nat) : (Int × Int) × (Int × Int) := (a.getD i (0, 0), b.getD i (0, 0))
theorem prod_succ {a b : List (Int × Int)} {k : Nat} (ha : k < a.length) (hb : k < b.length) (h : (gsum (prodT a b) k).e = 0) : gsum (prodT a b) (k + 1) = fplus (gsum (prodT a b) k).n (gsum (prodT a b) k).d a[k].1 a[k].2 b[k].1 b[k].2 := by
  rw [gsum_succ h]; simp [prodT, List.getD, ha, hb]
theorem prod_ok {a b : List (Int × Int)} {k : Nat} (hk : k ≤ a.length) (hb : a.length ≤ b.length) (va : ∀ i (h : i < a.length), fchk a[i].1 a[i].2 = 0) (vb : ∀ i (h : i < b.length), fchk b[i].1 b[i].2 = 0) : FOk (gsum (prodT a b) k) :=
  gsum_FOk k fun j hj => by
    have h1 : j < a.length := by omega
    have h2 : j < b.length := by omega
    simp only [prodT, getD_get h1, getD_get h2]
    exact ⟨va j h1, vb j h2⟩
/-- Right sides as fractions. -/
def rights (B : List Int) : List (Int × Int) := B.map fun b => (b, 1)
theorem rights_len (B : List Int) : (rights B).length = B.length := by simp [rights]
theorem rights_get {B : List Int} {i : Nat} (h : i < B.length) : (rights B)[i]? = some (B[i], 1) := by simp [rights, h]
theorem rights_val {B : List Int} (hB : ∀ i (h : i < B.length), -1000 ≤ B[i] ∧ B[i] ≤ 1000) : ∀ i (h : i < (rights B).length), fchk (rights B)[i].1 (rights B)[i].2 = 0 := by
  intro i hi
  have h1 : i < B.length := by rw [rights_len] at hi; exact hi
  have e : (rights B)[i] = (B[i], 1) := by
    have := rights_get h1
    simpa [hi] using this
  rw [e]; exact fchk_small (hB i h1).1 (hB i h1).2
/-- The worth: g is the sum with the right sides, s that of the squares. -/
def dval (g s : FR) : FR := if g.e = 0 then (if s.e = 0 then (if (fmul s.n s.d 1 2).e = 0 then fsub g.n g.d (fmul s.n s.d 1 2).n (fmul s.n s.d 1 2).d else ⟨0, 0, 16⟩) else ⟨0, 0, s.e⟩) else ⟨0, 0, g.e⟩
theorem dval_g {g s : FR} (h : ¬ g.e = 0) : dval g s = ⟨0, 0, g.e⟩ := if_neg h
theorem dval_s {g s : FR} (h : g.e = 0) (h' : ¬ s.e = 0) : dval g s = ⟨0, 0, s.e⟩ := by unfold dval; rw [if_pos h, if_neg h']
theorem dval_h {g s : FR} (h : g.e = 0) (h' : s.e = 0) (h2 : ¬ (fmul s.n s.d 1 2).e = 0) : dval g s = ⟨0, 0, 16⟩ := by unfold dval; rw [if_pos h, if_pos h', if_neg h2]
theorem dval_0 {g s : FR} (h : g.e = 0) (h' : s.e = 0) (h2 : (fmul s.n s.d 1 2).e = 0) : dval g s = fsub g.n g.d (fmul s.n s.d 1 2).n (fmul s.n s.d 1 2).d := by unfold dval; rw [if_pos h, if_pos h', if_pos h2]
def dworth (A : List (List Int)) (B : List Int) (y : List (Int × Int)) : FR := if dcheck A B 0 y = 0 then dval (gsum (prodT y (rights B)) y.length) (gsum (prodT y y) y.length) else ⟨0, 0, dcheck A B 0 y⟩
theorem dworth_c {A : List (List Int)} {B : List Int} {y : List (Int × Int)} (h : ¬ dcheck A B 0 y = 0) : dworth A B y = ⟨0, 0, dcheck A B 0 y⟩ := if_neg h
theorem dworth_0 {A : List (List Int)} {B : List Int} {y : List (Int × Int)} (h : dcheck A B 0 y = 0) : dworth A B y = dval (gsum (prodT y (rights B)) y.length) (gsum (prodT y y) y.length) := if_pos h
theorem dworth_ok {A : List (List Int)} {B : List Int} {y : List (Int × Int)} (h : (dworth A B y).e = 0) : fchk (dworth A B y).n (dworth A B y).d = 0 := by
  by_cases hc : dcheck A B 0 y = 0
  · obtain ⟨hs, hw⟩ := dcheck_of hc
    obtain ⟨hn, _⟩ := scheck_of hs
    have f := fit_of hn
    obtain ⟨wl, wv⟩ := witB_of hw
    have rv := rights_val (B := B) fun i hi => by have := f.side i hi; omega
    have g1 := prod_ok (a := y) (b := rights B) (k := y.length) (Nat.le_refl _) (by rw [rights_len, f.right, wl]; exact Nat.le_refl _) wv rv
    have s1 := prod_ok (a := y) (b := y) (k := y.length) (Nat.le_refl _) (Nat.le_refl _) wv wv
    rw [dworth_0 hc] at h ⊢
    by_cases h1 : (gsum (prodT y (rights B)) y.length).e = 0
    · by_cases h2 : (gsum (prodT y y) y.length).e = 0
      · have m1 := fmul_FOk (s1.v h2) (show fchk 1 2 = 0 by decide)
        by_cases h3 : (fmul (gsum (prodT y y) y.length).n (gsum (prodT y y) y.length).d 1 2).e = 0
        · rw [dval_0 h1 h2 h3] at h ⊢
          exact (fsub_FOk (g1.v h1) (m1.v h3)).v h
        · rw [dval_h h1 h2 h3] at h; cases h
      · rw [dval_s h1 h2] at h; exact absurd h h2
    · rw [dval_g h1] at h; exact absurd h h1
  · rw [dworth_c hc] at h; exact absurd h hc
theorem sCost_ok {A : List (List Int)} {B : List Int} {c : Int} {x : List (Int × Int)} (h : (sCost A B c x).e = 0) : fchk (sCost A B c x).n (sCost A B c x).d = 0 := by
  by_cases hc : scheck A B c = 0
  · obtain ⟨_, c1, c2⟩ := scheck_of hc
    rw [sCost_0 hc] at h ⊢
    by_cases h1 : (nValue A B x).e = 0
    · by_cases h2 : (sBright x).e = 0
      · have m1 := fmul_FOk (nValue_ok h1).2 (show fchk 1 2 = 0 by decide)
        have m2 := fmul_FOk (fchk_small (a := c) (by omega) c2) (sBright_ok h2)
        by_cases h3 : (fmul (nValue A B x).n (nValue A B x).d 1 2).e = 0
        · by_cases h4 : (fmul c 1 (sBright x).n (sBright x).d).e = 0
          · rw [price_0 h1 h2 h3 h4] at h ⊢
            exact (fadd_FOk (m1.v h3) (m2.v h4)).v h
          · rw [price_m h1 h2 h3 h4] at h; cases h
        · rw [price_h h1 h2 h3] at h; cases h
      · rw [price_b h1 h2] at h; exact absurd h h2
    · rw [price_v h1] at h; exact absurd h h1
  · rw [sCost_c hc] at h; exact absurd h hc
/-- A point and a witness. -/
def bothB (A : List (List Int)) (x y : List (Int × Int)) : Bool := pointB (A.getD 0 []).length x && witB A.length y
def dgap (A : List (List Int)) (B : List Int) (c : Int) (x y : List (Int × Int)) : FR :=
  if scheck A B c = 0 then (if bothB A x y = true then (if (sCost A B c x).e = 0 then (if (dworth A B y).e = 0 then fsub (sCost A B c x).n (sCost A B c x).d (dworth A B y).n (dworth A B y).d else ⟨0, 0, (dworth A B y).e⟩) else ⟨0, 0, (sCost A B c x).e⟩) else ⟨0, 0, 2⟩) else ⟨0, 0, scheck A B c⟩
section
variable {A : List (List Int)} {B : List Int} {c : Int} {x y : List (Int × Int)}
theorem dgap_c (h : ¬ scheck A B c = 0) : dgap A B c x y = ⟨0, 0, scheck A B c⟩ := if_neg h
theorem dgap_2 (h : scheck A B c = 0) (h' : bothB A x y = false) : dgap A B c x y = ⟨0, 0, 2⟩ := by unfold dgap; rw [if_pos h, if_neg (by rw [h']; decide)]
theorem dgap_p (h : scheck A B c = 0) (h' : bothB A x y = true) (h1 : ¬ (sCost A B c x).e = 0) : dgap A B c x y = ⟨0, 0, (sCost A B c x).e⟩ := by unfold dgap; rw [if_pos h, if_pos h', if_neg h1]
theorem dgap_w (h : scheck A B c = 0) (h' : bothB A x y = true) (h1 : (sCost A B c x).e = 0) (h2 : ¬ (dworth A B y).e = 0) : dgap A B c x y = ⟨0, 0, (dworth A B y).e⟩ := by unfold dgap; rw [if_pos h, if_pos h', if_pos h1, if_neg h2]
theorem dgap_0 (h : scheck A B c = 0) (h' : bothB A x y = true) (h1 : (sCost A B c x).e = 0) (h2 : (dworth A B y).e = 0) : dgap A B c x y = fsub (sCost A B c x).n (sCost A B c x).d (dworth A B y).n (dworth A B y).d := by unfold dgap; rw [if_pos h, if_pos h', if_pos h1, if_pos h2]
def daccept (A : List (List Int)) (B : List Int) (c : Int) (x y : List (Int × Int)) (gn gd : Int) : Bool × Int :=
  if scheck A B c = 0 then (if bothB A x y = true then (if fchk gn gd = 0 then (if (dfeas A B c y).2 = 0 then (if (dgap A B c x y).e = 0 then ((dfeas A B c y).1 && (decide ((dgap A B c x y).n = gn) && decide ((dgap A B c x y).d = gd)), 0) else (false, (dgap A B c x y).e)) else (false, (dfeas A B c y).2)) else (false, 8)) else (false, 2)) else (false, scheck A B c)
variable {gn gd : Int}
theorem dacc_c (h : ¬ scheck A B c = 0) : daccept A B c x y gn gd = (false, scheck A B c) := if_neg h
theorem dacc_2 (h : scheck A B c = 0) (h' : bothB A x y = false) : daccept A B c x y gn gd = (false, 2) := by unfold daccept; rw [if_pos h, if_neg (by rw [h']; decide)]
theorem dacc_8 (h : scheck A B c = 0) (h' : bothB A x y = true) (h1 : ¬ fchk gn gd = 0) : daccept A B c x y gn gd = (false, 8) := by unfold daccept; rw [if_pos h, if_pos h', if_neg h1]
theorem dacc_f (h : scheck A B c = 0) (h' : bothB A x y = true) (h1 : fchk gn gd = 0) (h2 : ¬ (dfeas A B c y).2 = 0) : daccept A B c x y gn gd = (false, (dfeas A B c y).2) := by unfold daccept; rw [if_pos h, if_pos h', if_pos h1, if_neg h2]
theorem dacc_g (h : scheck A B c = 0) (h' : bothB A x y = true) (h1 : fchk gn gd = 0) (h2 : (dfeas A B c y).2 = 0) (h3 : ¬ (dgap A B c x y).e = 0) : daccept A B c x y gn gd = (false, (dgap A B c x y).e) := by unfold daccept; rw [if_pos h, if_pos h', if_pos h1, if_pos h2, if_neg h3]
theorem dacc_0 (h : scheck A B c = 0) (h' : bothB A x y = true) (h1 : fchk gn gd = 0) (h2 : (dfeas A B c y).2 = 0) (h3 : (dgap A B c x y).e = 0) : daccept A B c x y gn gd = ((dfeas A B c y).1 && (decide ((dgap A B c x y).n = gn) && decide ((dgap A B c x y).d = gd)), 0) := by unfold daccept; rw [if_pos h, if_pos h', if_pos h1, if_pos h2, if_pos h3]
end
end Go.Proofs.Ytfbigmjlppdlhaa

/- What is proved here: the contracts of fringeref39.Witness and check. Condition: a system and a slice of fractions that can be read. -/
namespace Go.Proofs.Ytfbigmjlppdlhaa
open Go.RowKit

set_option maxRecDepth 100000 in
set_option maxHeartbeats 4000000 in
theorem rdwit_any (A : List (List Int)) (x : List (Int × Int)) (va vb vx : Value) (w : World) (hA : SS w va A) (hx : SF w vx x) (ix : FI x) :
    Calls Try.prog 94 #[.agg #[va, vb], vx] w fun e w' => e = .returned (.bool (witB A.length x)) ∧ Below w.heap.size w w' := by
  have IX := Lib.hid ix
  obtain ⟨ada, capa, rfl, ha1, ha2, _⟩ := hA.open
  obtain ⟨adx, capx, rfl, hx1, hx2, _⟩ := hx.open
  clear ix hA
  go_enter Try.func94, Try.ntmps94
  have oS := Own.new w 25 [.slice ada A.length capa, vb]
  have hy := ba1 w (.cells #[.slice ada A.length capa, vb] 25)
  have SX := Lib.hid (hx.below hy)
  clear hx
  go_wp2_with fail
  generalize w.alloc (.cells #[.slice ada A.length capa, vb] 25) = y1 at *
  go_loopw [5] (fun i wr => ∃ k : Nat, k ≤ x.length ∧ i = .int .i64 k ∧ Hid (fvalid (x.take k) = true) ∧ Below y1.heap.size y1 wr) (fun i _ => x.length - (intOf i).toNat)
  case atStart => exact ⟨0, Nat.zero_le _, rfl, rfl, Below.refl _ _⟩
  case round =>
    obtain ⟨k, hk, rfl, hv, hW⟩ := hrel
    rename World => W
    by_cases hlt : k < x.length
    · obtain ⟨_, _, e, _, _, H⟩ := (SX.out.below hW).open
      cases e
      obtain ⟨b', off', rfl, c1, c2⟩ := H.out k hlt
      obtain ⟨i1, i2⟩ := IX.out.get k hlt
      clear H
      have XT := Lib.hid (fun h => fvalid_take hlt hv.out h)
      have XN := Lib.hid (fun h => witB_bad (m := A.length) (fvalid_not (k := k) hlt h))
      generalize x[k].1 = n1 at *
      generalize x[k].2 = d1 at *
      go_wp2_with fail
      refine (rcheck_any n1 d1 _ i1 i2).mono ?_
      rintro e y2 ⟨rfl, hq⟩
      replace hW := below_to hW hq
      clear hq
      by_cases h1 : fchk n1 d1 = 0
      · have b3 : (fchk n1 d1 != 0) = false := by simp [h1]
        have HV := Lib.hid (XT.out h1)
        clear h1 XT XN
        go_wp2
        go_roundw
        case rel => exact ⟨k + 1, by omega, by go_num, HV, hW⟩
        case measure => simp [intOf]; try omega
      · have b3 : (fchk n1 d1 != 0) = true := by simpa using h1
        have HV := Lib.hid (XN.out h1)
        clear h1 XT XN
        go_wp2
        go_ret
        exact ⟨by rw [HV.out]; try rfl, below_to hy hW⟩
    · have hv' : fvalid x = true := by
        have := hv.out
        rw [List.take_of_length_le (by omega)] at this
        exact this
      have HV := Lib.hid (witB_ok (m := A.length) hv')
      clear hv'
      replace oS := oS.below hW
      obtain ⟨rS, fS⟩ := oS.rules
      have zS := oS.lt
      by_cases hl : x.length = A.length
      · have b5 : ((x.length : Int) == (A.length : Int)) = true := by simp [hl]
        have HL : Hid (decide (x.length = A.length) = true) := by show _ = _; simp [hl]
        clear hl
        go_wp2
        go_ret
        exact ⟨by rw [HV.out, HL.out]; try rfl, below_to hy hW⟩
      · have b5 : ((x.length : Int) == (A.length : Int)) = false := by simp; omega
        have HL : Hid (decide (x.length = A.length) = false) := by show _ = _; simp [hl]
        clear hl
        go_wp2
        go_ret
        exact ⟨by rw [HV.out, HL.out]; try rfl, below_to hy hW⟩
set_option maxRecDepth 100000 in
set_option maxHeartbeats 4000000 in
theorem rdcheck_any (A : List (List Int)) (B : List Int) (c : Int) (y : List (Int × Int)) (va vb vy : Value) (w : World) (hA : SS w va A) (hB : SI w vb B) (hx : SF w vy y) (ix : FI y) :
    Calls Try.prog 90 #[.agg #[va, vb], .int .i64 c, vy] w fun e w' => e = .returned (.int .i64 (dcheck A B c y)) ∧ Below w.heap.size w w' := by
  have IX := Lib.hid ix
  clear ix
  go_enter Try.func90, Try.ntmps90
  have oS := Own.new w 25 [va, vb]
  have hy := ba1 w (.cells #[va, vb] 25)
  replace hA := hA.below hy
  replace hB := hB.below hy
  replace hx := hx.below hy
  obtain ⟨rS, fS⟩ := oS.rules
  have zS := oS.lt
  go_wp2_with fail
  refine (rscheck_any A B c _ _ _ hA hB).mono ?_
  rintro e y1 ⟨rfl, hq⟩
  clear rS fS zS
  replace oS := oS.below hq
  replace hA := hA.below hq
  replace hB := hB.below hq
  replace hx := hx.below hq
  replace hy := below_to hy hq
  clear hq
  obtain ⟨rS, fS⟩ := oS.rules
  have zS := oS.lt
  by_cases h0 : scheck A B c = 0
  case neg =>
    have HV := Lib.hid (dcheck_c (y := y) h0)
    have b1 : (scheck A B c != 0) = true := by simpa using h0
    clear h0 hA hB hx
    go_wp2
    go_ret
    exact ⟨by rw [HV.out]; try rfl, hy⟩
  have b1 : (scheck A B c != 0) = false := by simp [h0]
  have H0 := Lib.hid h0
  clear h0
  go_wp2_with fail
  refine (rdwit_any A y _ _ _ _ hA hx IX.out).mono ?_
  rintro e y2 ⟨rfl, hq⟩
  clear rS fS zS
  replace oS := oS.below hq
  replace hA := hA.below hq
  replace hB := hB.below hq
  replace hx := hx.below hq
  replace hy := below_to hy hq
  clear hq
  obtain ⟨rS, fS⟩ := oS.rules
  have zS := oS.lt
  by_cases hp : witB A.length y = true
  · have HV := Lib.hid (dcheck_0 H0.out hp)
    rw [hp]
    clear hp hA hB hx
    go_wp2
    go_ret
    exact ⟨by rw [HV.out]; try rfl, hy⟩
  · have hp' : witB A.length y = false := by simpa using hp
    have HV := Lib.hid (dcheck_2 H0.out hp')
    rw [hp']
    clear hp hp' hA hB hx
    go_wp2
    go_ret
    exact ⟨by rw [HV.out]; try rfl, hy⟩
end Go.Proofs.Ytfbigmjlppdlhaa
