/- What is proved here: contracts of functions and plain facts, several texts in one; each one says ahead what it proves, and its conditions. -/
import Derived.Test.YthlcmlngmcoknaaC05
import Derived.Test.YthlcmlngmcoknaaC07
import Derived.Test.YthlcmlngmcoknaaC01
import Derived.Test.YthlcmlngmcoknaaC04
import Derived.Test.YthlcmlngmcoknaaC02
import Derived.Test.YthlcmlngmcoknaaC06
/- What is proved here: sums of products of fractions, and lists of such sums, are the rational ones where no error comes. No program in sight. Condition: as each theorem says. -/
namespace Go.Proofs.Ythlcmlngmcoknaa
open Go.RowKit

/-- A fraction as a rational number. -/
def qq (p : Int × Int) : Rat := Rat.divInt p.1 p.2
/-- A rational number as a fraction. -/
def up (x : Rat) : Int × Int := (x.num, (x.den : Int))
def uf (x : Rat) : FR := ⟨x.num, (x.den : Int), 0⟩
theorem qq_up (x : Rat) : qq (up x) = x := Q_self x
theorem up_qq {p : Int × Int} (h : fchk p.1 p.2 = 0) : up (qq p) = p := by obtain ⟨h1, h2, _⟩ := Q_ok h; exact Prod.ext h1 h2
theorem up_chk {x : Rat} (h : inr x) : fchk (up x).1 (up x).2 = 0 := fchk_inr h
theorem qq_inr {p : Int × Int} (h : fchk p.1 p.2 = 0) : inr (qq p) := (Q_ok h).2.2
theorem qq_int (n : Int) : qq (n, 1) = (n : Rat) := by unfold qq; rw [Rat.divInt_eq_div]; grind
theorem qq_00 : qq (0, 0) = 0 := by unfold qq; simp
theorem pack_val {x : Rat} (h : (pack x).e = 0) : inr x ∧ pack x = uf x := ⟨pack_e.1 h, pack_ok (pack_e.1 h)⟩
theorem fmul_qq {a b : Int × Int} (h1 : fchk a.1 a.2 = 0) (h2 : fchk b.1 b.2 = 0) : fmul a.1 a.2 b.1 b.2 = pack (qq a * qq b) := by rw [fmul_0 (fboth_of h1 h2), fmulV_pack h1 h2]; rfl
theorem fadd_qq {a b : Int × Int} (h1 : fchk a.1 a.2 = 0) (h2 : fchk b.1 b.2 = 0) : fadd a.1 a.2 b.1 b.2 = pack (qq a + qq b) := by rw [fadd_0 (fboth_of h1 h2)]; rfl
theorem fsub_qq {a b : Int × Int} (h1 : fchk a.1 a.2 = 0) (h2 : fchk b.1 b.2 = 0) : fsub a.1 a.2 b.1 b.2 = pack (qq a - qq b) := by rw [fsub_0 (fboth_of h1 h2)]; rfl
theorem fplus_go {s : Rat} {a b : Int × Int} (hs : inr s) (h1 : fchk a.1 a.2 = 0) (h2 : fchk b.1 b.2 = 0) (hp : inr (qq a * qq b)) (ht : inr (s + qq a * qq b)) :
    fplus (uf s).n (uf s).d a.1 a.2 b.1 b.2 = uf (s + qq a * qq b) := by
  have hm := fmul_qq h1 h2
  rw [pack_ok hp] at hm
  rw [fplus_0 (by rw [hm]), hm]
  have := fadd_qq (a := up s) (b := up (qq a * qq b)) (up_chk hs) (up_chk hp)
  rw [qq_up, qq_up, pack_ok ht] at this
  exact this
theorem fplus_val {s : Rat} {a b : Int × Int} (hs : inr s) (h1 : fchk a.1 a.2 = 0) (h2 : fchk b.1 b.2 = 0) (he : (fplus (uf s).n (uf s).d a.1 a.2 b.1 b.2).e = 0) :
    inr (s + qq a * qq b) ∧ fplus (uf s).n (uf s).d a.1 a.2 b.1 b.2 = uf (s + qq a * qq b) := by
  have hm := fmul_qq h1 h2
  by_cases hp : inr (qq a * qq b)
  · by_cases ht : inr (s + qq a * qq b)
    · exact ⟨ht, fplus_go hs h1 h2 hp ht⟩
    · exfalso
      rw [pack_ok hp] at hm
      rw [fplus_0 (by rw [hm]), hm] at he
      have := fadd_qq (a := up s) (b := up (qq a * qq b)) (up_chk hs) (up_chk hp)
      rw [qq_up, qq_up, pack_no ht] at this
      have he' : (fadd (up s).1 (up s).2 (up (qq a * qq b)).1 (up (qq a * qq b)).2).e = 0 := he
      rw [this] at he'
      cases he'
  · exfalso
    rw [pack_no hp] at hm
    rw [fplus_1 (by rw [hm]; decide), hm] at he
    cases he
/-- What a sum of products adds up, as a rational number. -/
def tq (t : Nat → (Int × Int) × (Int × Int)) (j : Nat) : Rat := qq (t j).1 * qq (t j).2
/-- The fractions of a sum of products are valid. -/
def tval (t : Nat → (Int × Int) × (Int × Int)) (k : Nat) : Prop := ∀ j, j < k → fchk (t j).1.1 (t j).1.2 = 0 ∧ fchk (t j).2.1 (t j).2.2 = 0
theorem inr_0 : inr 0 := by decide
theorem gsum_go {t : Nat → (Int × Int) × (Int × Int)} : ∀ k, tval t k → (∀ j, j < k → inr (tq t j)) → (∀ j, j ≤ k → inr (sm (tq t) j)) → gsum t k = uf (sm (tq t) k)
  | 0, _, _, _ => rfl
  | k + 1, hv, hp, hs => by
    have ih := gsum_go k (fun j hj => hv j (by omega)) (fun j hj => hp j (by omega)) (fun j hj => hs j (by omega))
    obtain ⟨h1, h2⟩ := hv k (by omega)
    rw [gsum_succ (by rw [ih]; rfl), ih, sm_succ]
    exact fplus_go (hs k (by omega)) h1 h2 (hp k (by omega)) (by have := hs (k + 1) (by omega); rw [sm_succ] at this; exact this)
theorem gsum_val {t : Nat → (Int × Int) × (Int × Int)} : ∀ k, tval t k → (gsum t k).e = 0 → inr (sm (tq t) k) ∧ gsum t k = uf (sm (tq t) k)
  | 0, _, _ => ⟨inr_0, rfl⟩
  | k + 1, hv, he => by
    have he' : (gsum t k).e = 0 := by
      apply Classical.byContradiction
      intro h
      rw [gsum_stop h (k + 1) (by omega)] at he
      exact h he
    obtain ⟨i1, i2⟩ := gsum_val k (fun j hj => hv j (by omega)) he'
    obtain ⟨h1, h2⟩ := hv k (by omega)
    rw [gsum_succ he', i2] at he ⊢
    rw [sm_succ]
    exact fplus_val i1 h1 h2 he
theorem sm_more {f : Nat → Rat} {n : Nat} : ∀ N, n ≤ N → (∀ j, n ≤ j → f j = 0) → sm f N = sm f n
  | 0, h, _ => by obtain rfl : n = 0 := by omega
                  rfl
  | N + 1, h, hz => by
    rcases Nat.lt_or_ge n (N + 1) with h1 | h1
    · rw [sm_succ, sm_more N (by omega) hz, hz N (by omega)]; grind
    · obtain rfl : n = N + 1 := by omega
      rfl
/-- The numbers of a list of rows without an error. -/
theorem rows_each {f : Nat → FR} : ∀ m, (rowsOf f m).2 = 0 → ∀ i, i < m → (f i).e = 0 ∧ (rowsOf f m).1[i]? = some ((f i).n, (f i).d)
  | 0, _, i, hi => by omega
  | m + 1, h, i, hi => by
    by_cases h1 : (rowsOf f m).2 = 0
    · by_cases h2 : (f m).e = 0
      · rw [rows_succ h1 h2]
        have hl := rows_len m h1
        rcases Nat.lt_or_ge i m with h3 | h3
        · obtain ⟨h4, h5⟩ := rows_each m h1 i h3
          exact ⟨h4, by rw [List.getElem?_append_left (by omega)]; exact h5⟩
        · obtain rfl : i = m := by omega
          exact ⟨h2, by rw [List.getElem?_append_right (by omega), hl]; simp⟩
      · rw [rows_err h1 h2] at h; exact absurd h h2
    · rw [rows_stop h1 (m + 1) (by omega)] at h; exact absurd h h1
/-- A list of rows has no error where none of them has one. -/
theorem rows_go {f : Nat → FR} : ∀ m, (∀ i, i < m → (f i).e = 0) → (rowsOf f m).2 = 0
  | 0, _ => rfl
  | m + 1, h => by rw [rows_succ (rows_go m fun i hi => h i (by omega)) (h m (by omega))]
theorem rows_list {f : Nat → FR} {g : Nat → Rat} {m : Nat} (h : ∀ i, i < m → f i = uf (g i)) : rowsOf f m = ((List.range m).map fun i => up (g i), 0) := by
  have h0 : (rowsOf f m).2 = 0 := rows_go (f := f) m fun i hi => by rw [h i hi]; rfl
  have hl := rows_len m h0
  refine Prod.ext (List.ext_getElem? fun i => ?_) h0
  rcases Nat.lt_or_ge i m with hi | hi
  · rw [(rows_each m h0 i hi).2, h i hi, List.getElem?_map, List.getElem?_range hi]; rfl
  · rw [List.getElem?_eq_none (by omega), List.getElem?_eq_none (by simp; omega)]
theorem inr_frac {a b : Int} (hb : 0 < b) (h1 : b ≤ 1000000000000000000) (h2 : -1000000000000000000 ≤ a) (h3 : a ≤ 1000000000000000000) : inr ((a : Rat) / (b : Rat)) := by
  rw [← Rat.divInt_eq_div]
  have := (fmk_ok (num := a) (den := b) (by omega) h1 h2 h3).1
  rw [fmk_pack (by omega)] at this
  exact pack_e.1 this
theorem fmk_uf {a b : Int} (hb : 0 < b) (h1 : b ≤ 1000000000000000000) (h2 : -1000000000000000000 ≤ a) (h3 : a ≤ 1000000000000000000) : fmk a b = uf ((a : Rat) / (b : Rat)) := by
  have := inr_frac hb h1 h2 h3
  rw [fmk_pack (by omega), ← Rat.divInt_eq_div] at *
  exact pack_ok this
theorem sm_div (u : Nat → Int) (D : Int) : ∀ k, sm (fun j => ((u j : Int) : Rat) / (D : Rat)) k = ((si u k : Int) : Rat) / (D : Rat)
  | 0 => by rw [sm_zero]; show (0 : Rat) = ((0 : Int) : Rat) / _; rw [Rat.div_def]; show (0 : Rat) = 0 * _; grind
  | k + 1 => by rw [sm_succ, sm_div u D k, si_succ, Rat.intCast_add, Rat.div_def, Rat.div_def, Rat.div_def]; grind
theorem mul_div' (a n D : Int) : (a : Rat) * ((n : Rat) / (D : Rat)) = ((a * n : Int) : Rat) / (D : Rat) := by
  rw [Rat.intCast_mul, Rat.div_def, Rat.div_def]; grind
end Go.Proofs.Ythlcmlngmcoknaa

/- What is proved here: the contracts of nnls.within and nnls.Check. Condition: a system whose lists can be read. -/
namespace Go.Proofs.Ythlcmlngmcoknaa
open Go.RowKit

/-- Whether a number is from -m to m. -/
def winB (a m : Int) : Bool := decide (-m ≤ a) && decide (a ≤ m)
theorem nwithin_any (a m : Int) (w : World) (h1 : 0 ≤ m) (h2 : m ≤ 1000) :
    Calls Try.prog 120 #[.int .i64 a, .int .i64 m] w fun e w' => e = .returned (.bool (winB a m)) ∧ w = w' := by
  unfold winB
  by_cases h3 : -m ≤ a
  · have b1 : decide (-m ≤ a) = true := by simpa using h3
    rw [b1]
    go_enter Try.func120, Try.ntmps120
    go_wp2
    go_ret
    exact ⟨by simp, rfl⟩
  · have b1 : decide (-m ≤ a) = false := by simpa using h3
    rw [b1]
    go_enter Try.func120, Try.ntmps120
    go_wp2
    go_ret
    exact ⟨by simp, rfl⟩
set_option maxRecDepth 100000 in
set_option maxHeartbeats 4000000 in
theorem ncheck_any (A : List (List Int)) (B : List Int) (va vb : Value) (w : World) (hA : SS w va A) (hB : SI w vb B) :
    Calls Try.prog 57 #[.agg #[va, vb]] w fun e w' => e = .returned (.int .i64 (ncheck A B)) ∧ Below w.heap.size w w' := by
  have hA0 := Lib.hid hA
  have hB0 := Lib.hid hB
  obtain ⟨ada, capa, rfl, ha1, ha2, _⟩ := hA.open
  obtain ⟨adb, capb, rfl, hb1, hb2, _⟩ := hB.open
  clear hA hB
  by_cases h0 : 5 < A.length
  · have HV := Lib.hid (ncheck_4 (B := B) (.inl h0))
    go_enter Try.func57, Try.ntmps57
    have oS := Own.new w 25 [.slice ada A.length capa, .slice adb B.length capb]
    obtain ⟨rS, fS⟩ := oS.rules
    have zS := oS.lt
    go_wp2
    go_ret
    exact ⟨by rw [HV.out]; try rfl, ba1 _ _⟩
  by_cases h0' : 5 < B.length
  · have HV := Lib.hid (ncheck_4 (A := A) (.inr h0'))
    go_enter Try.func57, Try.ntmps57
    have oS := Own.new w 25 [.slice ada A.length capa, .slice adb B.length capb]
    obtain ⟨rS, fS⟩ := oS.rules
    have zS := oS.lt
    go_wp2
    go_ret
    exact ⟨by rw [HV.out]; try rfl, ba1 _ _⟩
  have H0 : Hid (¬ (5 < A.length ∨ 5 < B.length)) := by show ¬ _; omega
  go_enter Try.func57, Try.ntmps57
  have oS := Own.new w 25 [.slice ada A.length capa, .slice adb B.length capb]
  have hy := ba1 w (.cells #[.slice ada A.length capa, .slice adb B.length capb] 25)
  have sA := Lib.hid (hA0.out.below hy)
  have sB := Lib.hid (hB0.out.below hy)
  clear hA0 hB0
  go_wp2_with fail
  generalize w.alloc (.cells #[.slice ada A.length capa, .slice adb B.length capb] 25) = y at *
  obtain ⟨rS, fS⟩ := oS.rules
  have zS := oS.lt
  go_wp2
  go_loop [22] (fun i => ∃ k : Nat, k ≤ A.length ∧ i = .int .i64 k ∧ Hid (((A.take k).all fun r => decide (r.length ≤ 3)) = true)) (fun i => A.length - (intOf i).toNat)
  case atStart => exact ⟨0, Nat.zero_le _, rfl, rfl⟩
  case round =>
    obtain ⟨k, hk, rfl, hv⟩ := hrel
    by_cases hlt : k < A.length
    · obtain ⟨_, _, e, _, _, H⟩ := sA.out.open
      cases e
      obtain ⟨b, off, ad', cap', rfl, c1, c2, c3, _⟩ := H.out k hlt
      clear H
      by_cases hz : 3 < A[k].length
      · have HV := Lib.hid (ncheck_4' H0.out hlt hz)
        generalize A[k].length = m at *
        go_wp2
        go_ret
        exact ⟨by rw [HV.out]; try rfl, hy⟩
      · have HV := Lib.hid (all_take (p := fun r => decide (r.length ≤ 3)) hlt hv.out (by simp; omega))
        generalize A[k].length = m at *
        go_wp2
        go_round
        case rel => exact ⟨k + 1, by omega, by go_num, HV⟩
        case measure => simp [intOf]; try omega
    · have H1 := Lib.hid (all_end hlt hv.out)
      clear hv
      by_cases hz0 : A.length = 0
      · have HV := Lib.hid (ncheck_8 H0.out H1.out (.inl hz0))
        have q1 : decide ((A.length : Int) < 1) = true := by simp; omega
        have q2 : (A.length : Int) < 1 := by omega
        clear hz0
        go_wp2
        go_ret
        exact ⟨by rw [HV.out]; try rfl, hy⟩
      have q1 : decide ((A.length : Int) < 1) = false := by simp; omega
      by_cases hz1 : B.length ≠ A.length
      · have HV := Lib.hid (ncheck_8 H0.out H1.out (.inr (.inl hz1)))
        have q2 : ((B.length : Int) != (A.length : Int)) = true := by simp; omega
        clear hz1
        go_wp2
        go_ret
        exact ⟨by rw [HV.out]; try rfl, hy⟩
      have q2 : ((B.length : Int) != (A.length : Int)) = false := by simp; omega
      have l1 : 0 < A.length := by omega
      have l2 : B.length ≤ A.length := by omega
      have l3 : A.length ≤ B.length := by omega
      obtain ⟨_, _, e, _, _, H⟩ := sA.out.open
      cases e
      obtain ⟨b, off, ad0, cap0, rfl, d1, d2, d3, _⟩ := H.out 0 l1
      rw [Nat.add_zero] at d1
      have H := Lib.hid H
      have G0 := Lib.hid (getD_get (d := []) l1)
      by_cases hz2 : A[0].length = 0
      · have HV := Lib.hid (ncheck_8 H0.out H1.out (.inr (.inr (by rw [G0.out]; exact hz2))))
        have q3 : decide ((A[0].length : Int) < 1) = true := by simp; omega
        have q4 : (A[0].length : Int) < 1 := by omega
        clear hz2 hz1 hz0
        generalize A[0].length = m at *
        go_wp2
        go_ret
        exact ⟨by rw [HV.out]; try rfl, hy⟩
      have H2 : Hid (¬ (A.length = 0 ∨ B.length ≠ A.length ∨ (A.getD 0 []).length = 0)) := by
        show ¬ _
        rw [G0.out]; omega
      have q3 : decide ((A[0].length : Int) < 1) = false := by simp; omega
      have q4 : ¬ (A[0].length : Int) < 1 := by omega
      have G1 : Hid ((A.getD 0 []).length = A[0].length) := by show _ = _; rw [G0.out]
      clear hz2 hz1 hz0 G0
      generalize A[0].length = n at *
      go_wp2
      go_loop [54] (fun i => ∃ k : Nat, k ≤ A.length ∧ i = .int .i64 k ∧ Hid (((A.take k).all fun r => rowOk n r) = true) ∧ Hid (((B.take k).all fun b => decide (-50 ≤ b) && decide (b ≤ 50)) = true)) (fun i => A.length - (intOf i).toNat)
      case atStart => exact ⟨0, Nat.zero_le _, rfl, rfl, rfl⟩
      case round =>
        obtain ⟨k, hk, rfl, hv, hu⟩ := hrel
        by_cases hlt : k < A.length
        · obtain ⟨b', off', ad', cap', e, c1, c2, c3, s1⟩ := H.out.out k hlt
          cases e
          obtain ⟨_, _, e, _, _, HB⟩ := sB.out.open
          cases e
          obtain ⟨b2, off2, rfl, c4⟩ := HB.out k (by omega)
          clear HB
          have hkB : k < B.length := by omega
          have X8 := Lib.hid (fun h => ncheck_8' H0.out H1.out H2.out (.inl h))
          have Y8 := Lib.hid (fun h => ncheck_8' H0.out H1.out H2.out (.inr (all_not hkB h)))
          have XT := Lib.hid (fun h => all_take (p := fun r => rowOk n r) hlt hv.out h)
          have YT := Lib.hid (fun h => all_take (p := fun b => decide (-50 ≤ b) && decide (b ≤ 50)) hkB hu.out h)
          have XN := Lib.hid (fun h => all_not (p := fun r => rowOk n r) hlt h)
          have G2 := Lib.hid G1.out
          by_cases hw : A[k].length = n
          case neg =>
            have HV := Lib.hid (X8.out (by rw [G1.out]; exact XN.out (by simp [rowOk, hw])))
            have q5 : ((A[k].length : Int) != (n : Int)) = true := by simp; omega
            clear hw X8 Y8 XT YT XN s1
            generalize A[k].length = m at *
            go_wp2
            go_ret
            exact ⟨by rw [HV.out]; try rfl, hy⟩
          have q5 : ((A[k].length : Int) != (n : Int)) = false := by simp; omega
          have HW := Lib.hid hw
          have l4 : A[k].length ≤ n := by omega
          have l5 : n ≤ A[k].length := by omega
          have S1 := Lib.hid s1
          clear hw s1
          generalize A[k] = row at *
          generalize B[k] = bk at *
          by_cases hb : winB bk 50 = true
          case neg =>
            have hb' : winB bk 50 = false := by simpa using hb
            have HV := Lib.hid (Y8.out hb')
            have HB := Lib.hid hb'
            clear hb hb' X8 Y8 XT YT XN
            go_wp2_with fail
            refine (nwithin_any bk 50 _ (by decide) (by decide)).mono ?_
            rintro e _ ⟨rfl, rfl⟩
            rw [HB.out]
            go_wp2
            go_ret
            exact ⟨by rw [HV.out]; try rfl, hy⟩
          have HB := Lib.hid hb
          have YT' := Lib.hid (YT.out hb)
          clear hb Y8 YT
          go_wp2_with fail
          refine (nwithin_any bk 50 _ (by decide) (by decide)).mono ?_
          rintro e _ ⟨rfl, rfl⟩
          rw [HB.out]
          go_wp2
          go_loop [78] (fun i => ∃ j : Nat, j ≤ row.length ∧ i = .int .i64 j ∧ Hid (((row.take j).all fun a => decide (-5 ≤ a) && decide (a ≤ 5)) = true)) (fun i => row.length - (intOf i).toNat)
          case atStart => exact ⟨0, Nat.zero_le _, rfl, rfl⟩
          case round =>
            obtain ⟨j, hj, rfl, hr⟩ := hrel
            by_cases hjl : j < row.length
            · obtain ⟨_, _, e, _, _, HR⟩ := S1.out.open
              cases e
              obtain ⟨b3, off3, rfl, c5⟩ := HR.out j hjl
              clear HR
              have RT := Lib.hid (fun h => all_take (p := fun a => decide (-5 ≤ a) && decide (a ≤ 5)) hjl hr.out h)
              have RN := Lib.hid (fun h => all_not (p := fun a => decide (-5 ≤ a) && decide (a ≤ 5)) hjl h)
              generalize row[j] = aj at *
              by_cases ha : winB aj 5 = true
              case neg =>
                have ha' : winB aj 5 = false := by simpa using ha
                have HV := Lib.hid (X8.out (by rw [G1.out]; exact XN.out (by unfold rowOk; rw [RN.out ha']; simp)))
                have HA := Lib.hid ha'
                clear ha ha' X8 XT XN RT RN
                go_wp2_with fail
                refine (nwithin_any aj 5 _ (by decide) (by decide)).mono ?_
                rintro e _ ⟨rfl, rfl⟩
                rw [HA.out]
                go_wp2
                go_ret
                exact ⟨by rw [HV.out]; try rfl, hy⟩
              have HA := Lib.hid ha
              have HV := Lib.hid (RT.out ha)
              clear ha X8 XT XN RT RN
              go_wp2_with fail
              refine (nwithin_any aj 5 _ (by decide) (by decide)).mono ?_
              rintro e _ ⟨rfl, rfl⟩
              rw [HA.out]
              go_wp2
              go_round
              case rel => exact ⟨j + 1, by omega, by go_num, HV⟩
              case measure => simp [intOf]; try omega
            · have HV := Lib.hid (XT.out (by unfold rowOk; rw [all_end hjl hr.out, HW.out]; simp))
              clear X8 XT XN
              go_wp2
              go_round
              case rel => exact ⟨k + 1, by omega, by go_num, HV, YT'⟩
              case measure => simp [intOf]; try omega
        · have HV := Lib.hid (ncheck_0 H0.out H1.out H2.out (by rw [G1.out]; exact all_end hlt hv.out) (all_end (xs := B) (k := k) (by omega) hu.out))
          go_wp2
          go_ret
          exact ⟨by rw [HV.out]; try rfl, hy⟩
end Go.Proofs.Ythlcmlngmcoknaa

/- What is proved here: the contract of frac.Make. Condition: the numbers are 64-bit integers. -/
namespace Go.Proofs.Ythlcmlngmcoknaa
open Go.RowKit

set_option maxHeartbeats 800000 in
theorem make_any (num den : Int) (w : World) (h1 : i64 num) (h2 : i64 den) :
    Calls Try.prog 114 #[.int .i64 num, .int .i64 den] w fun e w' => e = .returned (.tuple #[.agg #[.int .i64 (fmk num den).n, .int .i64 (fmk num den).d], .int .i64 (fmk num den).e]) ∧ Below w.heap.size w w' := by
  by_cases h : den = 0
  · subst h
    rw [fmk_0]
    go_enter Try.func114, Try.ntmps114
    go_wp2
    exact bodyPost_ret (v := .tuple #[.agg #[.int .i64 0, .int .i64 0], .int .i64 18]) (by simp [results, Try.results114, go_sem]) rfl ⟨rfl, ba1 _ _⟩
  · have H := Lib.hid (fmk_ne (num := num) h)
    obtain ⟨n1, n2⟩ := h1
    obtain ⟨d1, d2⟩ := h2
    have b1 : (den == 0) = false := by simpa using h
    have hg : 0 < Nat.gcd num.natAbs den.natAbs := Nat.gcd_pos_of_pos_right _ (by omega)
    have hgl : Nat.gcd num.natAbs den.natAbs ≤ den.natAbs := Nat.gcd_le_right _ (by omega)
    have na : num.natAbs ≤ 9223372036854775808 := by omega
    have da : den.natAbs ≤ 9223372036854775808 := by omega
    have q1 := quo_bd num.natAbs (Nat.gcd num.natAbs den.natAbs) na
    have q2 := quo_bd den.natAbs (Nat.gcd num.natAbs den.natAbs) da
    have e1 := wrap_quo num.natAbs (Nat.gcd num.natAbs den.natAbs) na
    have e2 := wrap_quo den.natAbs (Nat.gcd num.natAbs den.natAbs) da
    generalize hgg : Nat.gcd num.natAbs den.natAbs = g at *
    have HG := Lib.hid hgg
    have g0 : ((g : Int) == 0) = false := by simp; omega
    have g1 : ¬ ((g : Int) = 0) := by omega
    clear hgg h
    go_enter Try.func114, Try.ntmps114
    go_wp2_with fail
    refine (size_any _ _ (by omega) (by omega)).mono ?_
    rintro e _ ⟨rfl, rfl⟩
    go_wp2_with fail
    refine (size_any _ _ (by omega) (by omega)).mono ?_
    rintro e _ ⟨rfl, rfl⟩
    go_wp2_with fail
    refine (gcd_any _ _ _ (by omega) (by omega)).mono ?_
    rintro e w1 ⟨rfl, nd, rfl⟩
    rw [HG.out]
    go_wp2_with fail
    refine wp_region_st [.t [0, 1, 2, 3, 4, 5, 6, 7, 8, 9, 10], .f 11, .t [12, 13]] [14, 15] (by kernel_rfl) (by kernel_rfl) (fun _ _ _ _ _ h => h) ?_
    refine wpX_t ?_
    try simp only [opsAt, List.getElem?_toArray, List.getElem?_cons_zero, List.getElem?_cons_succ, Option.getD_some]
    repeat (go_big_quiet_step (fail))
    refine wpQuiet_nil ?_
    refine wpX_f rfl rfl (fun K' hK' => ?_)
    go_simp
    refine (build_any _ _ _ _ (by omega) (by omega) (by omega) (by omega)).mono ?_
    rintro e w1 ⟨rfl, hb1⟩
    refine hK' _ _ (grow_of (below_to ((Below.refl _ _).drew) hb1)) ?_
    clear hK' K'
    obtain ⟨c1, f1⟩ := bcell hb1
    have z1 := (hb1).size
    try simp at z1
    try simp at c1
    try simp at f1
    refine wpX_t ?_
    try simp only [opsAt, List.getElem?_toArray, List.getElem?_cons_zero, List.getElem?_cons_succ, Option.getD_some]
    repeat (go_big_quiet_step (fail))
    refine wpQuiet_nil ?_
    refine wpX_nil ?_
    try simp only [opsAt, List.getElem?_toArray, List.getElem?_cons_zero, List.getElem?_cons_succ, Option.getD_some]
    go_wp2
    generalize hr : bld (!decide (num < 0) == decide (den < 0)) (↑num.natAbs / ↑g) (↑den.natAbs / ↑g) = r at *
    have HR : Hid (fmk num den = r) := by show _ = _; rw [H.out, ← hr]; rfl
    clear hr H
    refine bodyPost_ret (v := .tuple #[.agg #[.int .i64 r.n, .int .i64 r.d], .int .i64 r.e]) (by simp [results, Try.results114, go_sem, c1]) rfl ⟨by rw [HR.out], ?_⟩
    repeat (refine Below.setCell ?_ (by first | omega | (simp; done) | (simp; omega)) _)
    exact below_to (ba1 _ _) (below_to (below_drewN _ _) hb1)

end Go.Proofs.Ythlcmlngmcoknaa

/- What is proved here: the contract of nnls.point. Condition: a system and a slice of fractions that can be read. -/
namespace Go.Proofs.Ythlcmlngmcoknaa
open Go.RowKit

set_option maxRecDepth 100000 in
set_option maxHeartbeats 4000000 in
theorem npoint_any (A : List (List Int)) (B : List Int) (x : List (Int × Int)) (va vb vx : Value) (w : World) (hA : SS w va A) (hB : SI w vb B) (hx : SF w vx x) (ix : FI x) :
    Calls Try.prog 115 #[.agg #[va, vb], vx] w fun e w' => e = .returned (.int .i64 (npoint A B x)) ∧ Below w.heap.size w w' := by
  have IX := Lib.hid ix
  obtain ⟨ada, capa, rfl, ha1, ha2, _⟩ := hA.open
  obtain ⟨adb, capb, rfl, hb1, hb2, _⟩ := hB.open
  obtain ⟨adx, capx, rfl, hx1, hx2, _⟩ := hx.open
  clear ix
  go_enter Try.func115, Try.ntmps115
  have oS := Own.new w 25 [.slice ada A.length capa, .slice adb B.length capb]
  have hy := ba1 w (.cells #[.slice ada A.length capa, .slice adb B.length capb] 25)
  replace hA := hA.below hy
  replace hB := hB.below hy
  replace hx := hx.below hy
  obtain ⟨rS, fS⟩ := oS.rules
  have zS := oS.lt
  go_wp2_with fail
  refine (ncheck_any A B _ _ _ hA hB).mono ?_
  rintro e y1 ⟨rfl, hq⟩
  clear rS fS zS
  replace oS := oS.below hq
  replace hA := hA.below hq
  replace hB := hB.below hq
  replace hx := hx.below hq
  replace hy := below_to hy hq
  clear hq
  obtain ⟨rS, fS⟩ := oS.rules
  have zS := oS.lt
  by_cases h0 : ncheck A B = 0
  case neg =>
    have HV := Lib.hid (npoint_c (x := x) h0)
    have b1 : (ncheck A B != 0) = true := by simpa using h0
    clear h0 hA hB hx
    go_wp2
    go_ret
    exact ⟨by rw [HV.out]; try rfl, hy⟩
  have b1 : (ncheck A B != 0) = false := by simp [h0]
  have H0 := Lib.hid h0
  have l1 := ncheck_len h0
  clear h0
  obtain ⟨_, _, e, _, _, H⟩ := hA.open
  cases e
  obtain ⟨b, off, ad0, cap0, rfl, d1, d2, d3, _⟩ := H.out 0 l1
  rw [Nat.add_zero] at d1
  have G0 : Hid ((A.getD 0 []).length = A[0].length) := by show _ = _; rw [getD_get l1]
  clear H
  have SX := Lib.hid hx
  clear hA hB hx
  generalize A[0].length = n at *
  by_cases hl : x.length = n
  case neg =>
    have HV := Lib.hid (npoint_2 H0.out (by rw [G0.out]; exact pointB_len hl))
    have b2 : ((x.length : Int) != (n : Int)) = true := by simp; omega
    clear hl
    go_wp2
    go_ret
    exact ⟨by rw [HV.out]; try rfl, hy⟩
  have b2 : ((x.length : Int) != (n : Int)) = false := by simp; omega
  have HL := Lib.hid hl
  clear hl
  go_wp2
  go_loopw [23] (fun i wr => ∃ k : Nat, k ≤ x.length ∧ i = .int .i64 k ∧ Hid ((x.take k).all ptB = true) ∧ Below y1.heap.size y1 wr) (fun i _ => x.length - (intOf i).toNat)
  case atStart => exact ⟨0, Nat.zero_le _, rfl, rfl, Below.refl _ _⟩
  case round =>
    obtain ⟨k, hk, rfl, hv, hW⟩ := hrel
    rename World => W
    clear rS fS zS d1
    by_cases hlt : k < x.length
    · obtain ⟨_, _, e, _, _, H⟩ := (SX.out.below hW).open
      cases e
      obtain ⟨b', off', rfl, c1, c2⟩ := H.out k hlt
      obtain ⟨i1, i2⟩ := IX.out.get k hlt
      clear H
      have XN := Lib.hid (fun h => npoint_2 H0.out (by rw [G0.out]; exact pointB_all (all_not hlt h)))
      have XT := Lib.hid (fun h => all_take (p := ptB) hlt hv.out h)
      have K1 := Lib.hid (ptB_chk (p := x[k]))
      have K2 := Lib.hid (ptB_neg (p := x[k]))
      have K3 := Lib.hid (ptB_ok (p := x[k]))
      generalize x[k].1 = n1 at *
      generalize x[k].2 = d1 at *
      go_wp2_with fail
      refine (check_any n1 d1 _ i1 i2).mono ?_
      rintro e y2 ⟨rfl, hq⟩
      have hq0 := hq
      have oF := (Own.new W 78 [.int .i64 n1, .int .i64 d1]).below hq
      replace hW := below_to hW (below_to (ba1 W _) hq)
      clear hq hq0
      obtain ⟨G, hG⟩ : ∃ G, G = W.heap.size := ⟨_, rfl⟩
      rw [← hG] at oF ⊢
      clear hG
      obtain ⟨rF, fF⟩ := oF.rules
      have zF := oF.lt
      by_cases h1 : fchk n1 d1 = 0
      case neg =>
        have HV := Lib.hid (XN.out (K1.out h1))
        have b3 : (fchk n1 d1 != 0) = true := by simpa using h1
        clear h1 XN XT K1 K2 K3
        go_wp2
        go_ret
        exact ⟨by rw [HV.out]; try rfl, below_to hy hW⟩
      have b3 : (fchk n1 d1 != 0) = false := by simp [h1]
      by_cases h2 : n1 < 0
      · have HV := Lib.hid (XN.out (K2.out h2))
        have b4 : decide (n1 < 0) = true := by simpa using h2
        clear h1 XN XT K1 K2 K3
        go_wp2
        go_ret
        exact ⟨by rw [HV.out]; try rfl, below_to hy hW⟩
      have b4 : decide (n1 < 0) = false := by simpa using h2
      have HV := Lib.hid (XT.out (K3.out h1 (by omega)))
      clear h1 XN XT K1 K2 K3
      go_wp2
      go_roundw
      case rel => exact ⟨k + 1, by omega, by go_num, HV, hW⟩
      case measure => simp [intOf]; try omega
    · have HV := Lib.hid (npoint_0 H0.out (by rw [G0.out, pointB_ok (all_end hlt hv.out)]; simpa using HL.out))
      go_wp2
      go_ret
      exact ⟨by rw [HV.out]; try rfl, below_to hy hW⟩
end Go.Proofs.Ythlcmlngmcoknaa

/- What is proved here: the contract of nnls.column. Condition: a list of rows that can be read, of which each has the column. -/
namespace Go.Proofs.Ythlcmlngmcoknaa
open Go.RowKit

def ints_post (w : World) (xs : List Int) (e : Ending) (w' : World) : Prop := ∃ u, e = .returned u ∧ SI w' u xs ∧ Below w.heap.size w w'
set_option maxRecDepth 100000 in
set_option maxHeartbeats 4000000 in
theorem ncol_any (A : List (List Int)) (k : Nat) (va vb : Value) (w : World) (hA : SS w va A) (l1 : A.length ≤ 100) (hk : ∀ i (h : i < A.length), k < A[i].length) :
    Calls Try.prog 117 #[.agg #[va, vb], .int .i64 k] w (ints_post w (colOf A k)) := by
  have HK := Lib.hid hk
  obtain ⟨ada, capa, rfl, ha1, ha2, _⟩ := hA.open
  clear hk
  go_enter Try.func117, Try.ntmps117
  have oS := Own.new w 25 [.slice ada A.length capa, vb]
  have hy := ba1 w (.cells #[.slice ada A.length capa, vb] 25)
  have SA := Lib.hid (hA.below hy)
  clear hA
  have MK := mk_ints A.length (by omega)
  obtain ⟨rS, fS⟩ := oS.rules
  have zS := oS.lt
  go_wp2
  clear MK rS fS zS
  have oC := own_second w 3 (ics (List.replicate A.length 0)) (.cells #[.slice ada A.length capa, vb] 25)
  have hW := ba1 (w.alloc (.cells #[.slice ada A.length capa, vb] 25)) (.cells (ics (List.replicate A.length 0)).toArray 3)
  have zS := oS.lt
  go_loopw [15] (fun i wr => ∃ m : Nat, m ≤ A.length ∧ i = .int .i64 m ∧ Own wr (w.heap.size + 1) 3 (ics ((colOf A k).take m ++ List.replicate (A.length - m) 0)) ∧ Below (w.alloc (.cells #[.slice ada A.length capa, vb] 25)).heap.size (w.alloc (.cells #[.slice ada A.length capa, vb] 25)) wr) (fun i _ => A.length - (intOf i).toNat)
  case atStart => exact ⟨0, Nat.zero_le _, rfl, by simpa using oC, hW⟩
  case round =>
    clear oC hW
    obtain ⟨m, hm, rfl, oC, hW⟩ := hrel
    rename World => W
    by_cases hlt : m < A.length
    · obtain ⟨_, _, e, _, _, H⟩ := (SA.out.below hW).open
      cases e
      obtain ⟨b, off, ad', cap', rfl, c1, c2, c3, sR⟩ := H.out m hlt
      obtain ⟨_, _, e, _, _, H'⟩ := sR.open
      cases e
      have hkm := HK.out m hlt
      obtain ⟨b', off', rfl, c4⟩ := H'.out k hkm
      have CG := Lib.hid (colOf_get (k := k) hlt)
      rw [cel_get hlt hkm] at CG
      clear H H' sR
      generalize A[m][k] = amk at *
      generalize A[m].length = rl at *
      obtain ⟨v1, g1⟩ := ics_some ((colOf A k).take m ++ List.replicate (A.length - m) 0) m (by have := colOf_len A k; simp; omega)
      obtain ⟨rC, fC⟩ := oC.rules
      have zC := oC.lt
      go_wp2
      go_roundw
      case rel =>
        refine ⟨m + 1, by omega, by go_num, ?_, ?_⟩
        · have o2 := oC.set m (.int .i64 amk)
          unfold ics at o2 ⊢
          rw [fill_set (colOf A k) 0 (Value.int .i64) m A.length (colOf_len A k) hlt amk CG.out] at o2
          exact o2
        · exact hW.setCell (p := ⟨w.heap.size + 1, m, none⟩) (by simp) _
      case measure => simp [intOf]; try omega
    · obtain rfl : m = A.length := by omega
      have hsl : SI W (.slice (some ⟨w.heap.size + 1, 0, none⟩) A.length A.length) (colOf A k) := by
        unfold SI
        rw [colOf_len]
        exact oC.sl (n := A.length) A.length (Nat.le_refl _) (by omega) _ ⟨[], by rw [Nat.sub_self, List.take_of_length_le (by rw [colOf_len]; exact Nat.le_refl _)]; simp [ics]⟩
      clear oC
      go_wp2
      go_ret
      exact ⟨_, rfl, hsl, below_to hy hW⟩
end Go.Proofs.Ythlcmlngmcoknaa

/- What is proved here: the contract of a comparison of two lists of fractions. Condition: two slices of fractions. -/
namespace Go.Proofs.Ythlcmlngmcoknaa
open Go.RowKit

theorem take_eq {xs ys : List (Int × Int)} {k : Nat} (h1 : k < xs.length) (h2 : k < ys.length) (h : xs.take k = ys.take k) (e1 : xs[k].1 = ys[k].1) (e2 : xs[k].2 = ys[k].2) : xs.take (k + 1) = ys.take (k + 1) := by
  rw [List.take_succ_eq_append_getElem h1, List.take_succ_eq_append_getElem h2, h]
  rw [Prod.ext e1 e2]
theorem take_ne {xs ys : List (Int × Int)} {k : Nat} (h1 : k < xs.length) (h2 : k < ys.length) (e : ¬ (xs[k].1 = ys[k].1 ∧ xs[k].2 = ys[k].2)) : decide (xs = ys) = false := by
  refine decide_eq_false fun h => e ?_
  subst h
  exact ⟨rfl, rfl⟩
set_option maxRecDepth 100000 in
set_option maxHeartbeats 4000000 in
theorem rsame_any (xs ys : List (Int × Int)) (u v : Value) (w : World) (hs : SF w u xs) (ht : SF w v ys) :
    Calls Try.prog 51 #[u, v] w fun e w' => e = .returned (.bool (decide (xs = ys))) ∧ Below w.heap.size w w' := by
  have hs0 := Lib.hid hs
  have ht0 := Lib.hid ht
  obtain ⟨ad, cap, rfl, h1, h2, _⟩ := hs.open
  obtain ⟨ad', cap', rfl, h1', h2', _⟩ := ht.open
  clear hs ht
  by_cases hl : xs.length = ys.length
  case neg =>
    have b1 : ((xs.length : Int) != (ys.length : Int)) = true := by simp; omega
    have HV : Hid (decide (xs = ys) = false) := decide_eq_false fun h => hl (by rw [h])
    clear hl
    go_enter Try.func51, Try.ntmps51
    go_wp2
    go_ret
    exact ⟨by rw [HV.out]; try rfl, Below.refl _ _⟩
  have b1 : ((xs.length : Int) != (ys.length : Int)) = false := by simp; omega
  have HL := Lib.hid hl
  have hl' : ys.length ≤ xs.length := by omega
  have hl'' : xs.length ≤ ys.length := by omega
  clear hl
  go_enter Try.func51, Try.ntmps51
  go_wp2
  go_loopw [5] (fun i wr => ∃ k : Nat, k ≤ xs.length ∧ i = .int .i64 k ∧ Hid (xs.take k = ys.take k) ∧ Below w.heap.size w wr) (fun i _ => xs.length - (intOf i).toNat)
  case atStart => exact ⟨0, Nat.zero_le _, rfl, rfl, Below.refl _ _⟩
  case round =>
    obtain ⟨k, hk, rfl, hv, hB⟩ := hrel
    by_cases hlt : k < xs.length
    · have hlt' : k < ys.length := by omega
      obtain ⟨_, _, e, _, _, H⟩ := (hs0.out.below hB).open
      cases e
      obtain ⟨b, off, rfl, c1, c2⟩ := H.out k hlt
      obtain ⟨_, _, e, _, _, H'⟩ := (ht0.out.below hB).open
      cases e
      obtain ⟨b', off', rfl, c1', c2'⟩ := H'.out k hlt'
      clear H H'
      have TE := Lib.hid (take_eq hlt hlt' hv.out)
      have TN := Lib.hid (take_ne hlt hlt')
      generalize xs[k].1 = n at *
      generalize xs[k].2 = d at *
      generalize ys[k].1 = n' at *
      generalize ys[k].2 = d' at *
      by_cases e1 : n = n'
      · by_cases e2 : d = d'
        · have HV := Lib.hid (TE.out e1 e2)
          subst e1 e2
          clear TE TN
          go_wp2
          go_quiet (fail)
          go_wp2
          go_roundw
          case rel => exact ⟨k + 1, by omega, by go_num, HV, bd hB _⟩
          case measure => simp [intOf]; try omega
        · have HV := Lib.hid (TN.out fun h => e2 h.2)
          have q2 : (d == d') = false := by simpa using e2
          subst e1
          clear TE TN e2
          go_wp2
          go_quiet (fail)
          go_wp2
          go_ret
          exact ⟨by rw [HV.out]; try rfl, bd hB _⟩
      · have HV := Lib.hid (TN.out fun h => e1 h.1)
        have q1 : (n == n') = false := by simpa using e1
        clear TE TN e1
        go_wp2
        go_quiet (fail)
        go_wp2
        go_ret
        exact ⟨by rw [HV.out]; try rfl, bd hB _⟩
    · have HV : Hid (decide (xs = ys) = true) := by
        have := hv.out
        have hl := HL.out
        rw [List.take_of_length_le (by omega), List.take_of_length_le (by omega)] at this
        exact decide_eq_true this
      go_wp2
      go_ret
      exact ⟨by rw [HV.out]; try rfl, hB⟩
end Go.Proofs.Ythlcmlngmcoknaa

/- What is proved here: the comparison of two equal lists of fractions gives true. Condition: two slices of the same fractions. -/
namespace Go.Proofs.Ythlcmlngmcoknaa
open Go.RowKit

theorem rsame_true (xs : List (Int × Int)) (u v : Value) (w : World) (hs : SF w u xs) (ht : SF w v xs) :
    Calls Try.prog 51 #[u, v] w fun e w' => e = .returned (.bool true) ∧ Below w.heap.size w w' :=
  (rsame_any xs xs u v w hs ht).mono fun _ _ ⟨he, hb⟩ => ⟨by rw [he, decide_eq_true rfl], hb⟩
end Go.Proofs.Ythlcmlngmcoknaa

/- What is proved here: what making a row of rows gives. Condition: at most 100,000 rows. -/
namespace Go.Proofs.Ythlcmlngmcoknaa
open Go.RowKit

theorem Try.infoRow : (Try.prog.info? 23).map (fun i => (i.zero, i.size, i.bytes)) = some (some (.slice none 0 0), 1, 24) := by kernel_rfl
theorem made_rows (n : Nat) : madeCells (Value.slice none 0 0).cells (n * 1) = (List.replicate n (Value.slice none 0 0)).toArray := by
  apply Array.ext
  · simp [size_madeCells]
  · intro i h1 h2
    simp [madeCells, Value.cells, Nat.mod_one]
theorem mk_rowz (n : Nat) (hn : n ≤ 100000) (w : World) : (Instr.makeSlice 22 (.int .i64 (n : Int)) (.int .i64 (n : Int))).run Try.prog w = .ok (.slice (some ⟨w.heap.size, 0, none⟩) n n) (w.alloc (.cells (List.replicate n (Value.slice none 0 0)).toArray 23)) := by
  obtain ⟨i0, hi, hz0, hz1, hz2⟩ := info_parts Try.infoRow
  have h := run_make w 22 23 i0 (.slice none 0 0) Try.underlying22 hi hz0 .i64 .i64 (n : Int) (n : Int) (by omega) (by omega) (by rw [hz2]; omega) (by omega)
  rw [Int.toNat_natCast, hz1, made_rows] at h
  exact h
theorem own_7th (w : World) (T : TypeId) (cs : List Value) (o1 o2 o3 o4 o5 o6 : Obj) : Own (((((((w.alloc o1).alloc o2).alloc o3).alloc o4).alloc o5).alloc o6).alloc (.cells cs.toArray T (0, 0))) (w.heap.size + 1 + 1 + 1 + 1 + 1 + 1) T cs := by
  have h := own_sixth (w.alloc o1) T cs o2 o3 o4 o5 o6
  rw [show (w.alloc o1).heap.size = w.heap.size + 1 from by simp] at h
  exact h
theorem ba7 (w : World) (o1 o2 o3 o4 o5 o6 o7 : Obj) : Below w.heap.size w (((((((w.alloc o1).alloc o2).alloc o3).alloc o4).alloc o5).alloc o6).alloc o7) := (ba6 w o1 o2 o3 o4 o5 o6).alloc (by simp; omega) _
end Go.Proofs.Ythlcmlngmcoknaa
