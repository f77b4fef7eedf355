/- What is proved here: contracts of functions and plain facts, several texts in one; each one says ahead what it proves, and its conditions. -/
import Derived.Test.YtfoemacgmehpiaaC05
import Derived.Test.YtfoemacgmehpiaaC01
import Derived.Test.YtfoemacgmehpiaaC04
import Derived.Test.YtfoemacgmehpiaaC02
/- What is proved here: what making a row of fractions gives, and storing one of them. Condition: at most 100,000 fractions. -/
namespace Go.Proofs.Ytfoemacgmehpiaa
open Go.RowKit

theorem Try.infoFrac : (Try.prog.info? 39).map (fun i => (i.zero, i.size, i.bytes)) = some (some (.agg #[.int .i64 0, .int .i64 0]), 2, 16) := by kernel_rfl
theorem fcs_zero : ∀ n, fcs (List.replicate n (0, 0)) = List.replicate (n * 2) (.int .i64 0)
  | 0 => rfl
  | n + 1 => by rw [List.replicate_succ, fcs_cons, fcs_zero n, show (n + 1) * 2 = n * 2 + 1 + 1 by omega, List.replicate_succ, List.replicate_succ]
theorem made_fracs (n : Nat) : madeCells (Value.agg #[.int .i64 0, .int .i64 0]).cells (n * 2) = (fcs (List.replicate n (0, 0))).toArray := by
  rw [fcs_zero]
  apply Array.ext
  · simp [size_madeCells]
  · intro i h1 h2
    have : i % 2 = 0 ∨ i % 2 = 1 := by omega
    rcases this with h | h <;> simp [madeCells, Value.cells, h]
theorem mk_fracs (n : Nat) (x : Int) (hx : x = n) (hn : n ≤ 100000) (w : World) : (Instr.makeSlice 26 (.int .i64 x) (.int .i64 x)).run Try.prog w = .ok (.slice (some ⟨w.heap.size, 0, none⟩) n n) (w.alloc (.cells (fcs (List.replicate n (0, 0))).toArray 39)) := by
  subst hx
  obtain ⟨i0, hi, hz0, hz1, hz2⟩ := info_parts Try.infoFrac
  have h := run_make w 26 39 i0 (.agg #[.int .i64 0, .int .i64 0]) Try.underlying26 hi hz0 .i64 .i64 (n : Int) (n : Int) (by omega) (by omega) (by rw [hz2]; omega) (by omega)
  rw [Int.toNat_natCast, hz1, made_fracs] at h
  exact h
theorem fcs_some (xs : List (Int × Int)) (i : Nat) (h : i < xs.length) : ∃ v1 v2, (fcs xs)[i * 2]? = some v1 ∧ (fcs xs)[i * 2 + 1]? = some v2 := ⟨_, _, (fcs_get xs i h).1, (fcs_get xs i h).2⟩
/-- Two cells of a row of fractions are stored: one fraction. -/
theorem fcs_set : ∀ (xs : List (Int × Int)) (k : Nat) (p : Int × Int), ((fcs xs).set (k * 2) (.int .i64 p.1)).set (k * 2 + 1) (.int .i64 p.2) = fcs (xs.set k p)
  | [], k, p => rfl
  | x :: xs, 0, p => rfl
  | x :: xs, k + 1, p => by
    rw [fcs_cons, show (k + 1) * 2 = k * 2 + 1 + 1 by omega, List.set_cons_succ, List.set_cons_succ, List.set_cons_succ, List.set_cons_succ, fcs_set xs k p, List.set_cons_succ, fcs_cons]
theorem fill_rows (rs : List (Int × Int)) (m N : Nat) (p : Int × Int) (h : rs.length = m) (hm : m < N) : (rs ++ List.replicate (N - m) (0, 0)).set m p = (rs ++ [p]) ++ List.replicate (N - (m + 1)) (0, 0) := by
  rw [List.set_append_right _ _ (by omega), h, Nat.sub_self, show N - m = N - (m + 1) + 1 by omega, List.replicate_succ, List.set_cons_zero, List.append_assoc]
  rfl
/-- A row that is made empty, with room for n. -/
theorem mk_fracs0 (n : Nat) (hn : n ≤ 100000) (w : World) : (Instr.makeSlice 26 (.int .i64 0) (.int .i64 n)).run Try.prog w = .ok (.slice (some ⟨w.heap.size, 0, none⟩) 0 n) (w.alloc (.cells (fcs (List.replicate n (0, 0))).toArray 39)) := by
  obtain ⟨i0, hi, hz0, hz1, hz2⟩ := info_parts Try.infoFrac
  have h := run_make w 26 39 i0 (.agg #[.int .i64 0, .int .i64 0]) Try.underlying26 hi hz0 .i64 .i64 (0 : Int) (n : Int) (by omega) (by omega) (by rw [hz2]; omega) (by omega)
  rw [Int.toNat_natCast, hz1, made_fracs] at h
  exact h
theorem owns_made (w : World) (n : Nat) (hn : n ≤ 100000) (T : TypeId) (B : Nat) (hB : B ≤ w.heap.size) : (w.alloc (.cells (fcs (List.replicate n (0, 0))).toArray T)).ownsRow B T 2 (.slice (some ⟨w.heap.size, 0, none⟩) 0 n) 0 (fcs []) :=
  ⟨rfl, .inr ⟨w.heap.size, n, (fcs (List.replicate n (0, 0))).toArray, rfl, hB, heap_alloc_new w _, Nat.zero_le _, by unfold maxLen; omega, by simp [fcs_len], by simp [fcs_nil]⟩⟩
theorem owns_base {w : World} {B B' : Nat} {T : TypeId} {size : Nat} {v : Value} {n : Nat} {cs : List Value} (h : w.ownsRow B T size v n cs) (hB : B' ≤ B) : w.ownsRow B' T size v n cs := by
  obtain ⟨hl, h2⟩ := h
  refine ⟨hl, ?_⟩
  rcases h2 with h2 | ⟨g, cap, cur, h3, hg, r⟩
  · exact .inl h2
  · exact .inr ⟨g, cap, cur, h3, by omega, r⟩
theorem owns_SF {w : World} {B : Nat} {T : TypeId} {v : Value} {xs : List (Int × Int)} (h : w.ownsRow B T 2 v xs.length (fcs xs)) : SF w v xs := by
  refine owns_sl h ?_
  obtain ⟨hl, h2⟩ := h
  rcases h2 with ⟨_, h2⟩ | ⟨g, cap, cur, _, _, _, h4, h5, _⟩
  · omega
  · unfold maxLen at h5; omega
/-- Rows of the call's own, and an error. -/
def rows_own (w : World) (r : List (Int × Int) × Int) (e : Ending) (w' : World) : Prop := ∃ u, e = .returned (.tuple #[u, .int .i64 r.2]) ∧ w'.ownsRow w.heap.size 39 2 u r.1.length (fcs r.1) ∧ Below w.heap.size w w'
def rows_post (w : World) (r : List (Int × Int) × Int) (e : Ending) (w' : World) : Prop := ∃ u, e = .returned (.tuple #[u, .int .i64 r.2]) ∧ SF w' u r.1 ∧ Below w.heap.size w w'
theorem rows_own_post {w : World} {r : List (Int × Int) × Int} {e : Ending} {w' : World} (h : rows_own w r e w') : rows_post w r e w' := by
  obtain ⟨u, h1, h2, h3⟩ := h
  exact ⟨u, h1, owns_SF h2, h3⟩
theorem owns_nil (w w0 : World) : w.ownsRow w0.heap.size 39 2 (.slice none 0 0) ([] : List (Int × Int)).length (fcs []) := World.ownsRow_nil _ _ _ _
end Go.Proofs.Ytfoemacgmehpiaa

/- What is proved here: the contracts of nnls.within and nnls.Check. Condition: a system whose lists can be read. -/
namespace Go.Proofs.Ytfoemacgmehpiaa
open Go.RowKit

/-- Whether a number is from -m to m. -/
def winB (a m : Int) : Bool := decide (-m ≤ a) && decide (a ≤ m)
theorem nwithin_any (a m : Int) (w : World) (h1 : 0 ≤ m) (h2 : m ≤ 1000) :
    Calls Try.prog 84 #[.int .i64 a, .int .i64 m] w fun e w' => e = .returned (.bool (winB a m)) ∧ w = w' := by
  unfold winB
  by_cases h3 : -m ≤ a
  · have b1 : decide (-m ≤ a) = true := by simpa using h3
    rw [b1]
    go_enter Try.func84, Try.ntmps84
    go_wp2
    go_ret
    exact ⟨by simp, rfl⟩
  · have b1 : decide (-m ≤ a) = false := by simpa using h3
    rw [b1]
    go_enter Try.func84, Try.ntmps84
    go_wp2
    go_ret
    exact ⟨by simp, rfl⟩
set_option maxRecDepth 100000 in
set_option maxHeartbeats 4000000 in
theorem ncheck_any (A : List (List Int)) (B : List Int) (va vb : Value) (w : World) (hA : SS w va A) (hB : SI w vb B) :
    Calls Try.prog 54 #[.agg #[va, vb]] w fun e w' => e = .returned (.int .i64 (ncheck A B)) ∧ Below w.heap.size w w' := by
  have hA0 := Lib.hid hA
  have hB0 := Lib.hid hB
  obtain ⟨ada, capa, rfl, ha1, ha2, _⟩ := hA.open
  obtain ⟨adb, capb, rfl, hb1, hb2, _⟩ := hB.open
  clear hA hB
  by_cases h0 : 5 < A.length
  · have HV := Lib.hid (ncheck_4 (B := B) (.inl h0))
    go_enter Try.func54, Try.ntmps54
    have oS := Own.new w 25 [.slice ada A.length capa, .slice adb B.length capb]
    obtain ⟨rS, fS⟩ := oS.rules
    have zS := oS.lt
    go_wp2
    go_ret
    exact ⟨by rw [HV.out]; try rfl, ba1 _ _⟩
  by_cases h0' : 5 < B.length
  · have HV := Lib.hid (ncheck_4 (A := A) (.inr h0'))
    go_enter Try.func54, Try.ntmps54
    have oS := Own.new w 25 [.slice ada A.length capa, .slice adb B.length capb]
    obtain ⟨rS, fS⟩ := oS.rules
    have zS := oS.lt
    go_wp2
    go_ret
    exact ⟨by rw [HV.out]; try rfl, ba1 _ _⟩
  have H0 : Hid (¬ (5 < A.length ∨ 5 < B.length)) := by show ¬ _; omega
  go_enter Try.func54, Try.ntmps54
  have oS := Own.new w 25 [.slice ada A.length capa, .slice adb B.length capb]
  have hy := ba1 w (.cells #[.slice ada A.length capa, .slice adb B.length capb] 25)
  have sA := Lib.hid (hA0.out.below hy)
  have sB := Lib.hid (hB0.out.below hy)
  clear hA0 hB0
  go_wp2_with fail
  generalize w.alloc (.cells #[.slice ada A.length capa, .slice adb B.length capb] 25) = y at *
  obtain ⟨rS, fS⟩ := oS.rules
  have zS := oS.lt
  go_wp2
  go_loop [22] (fun i => ∃ k : Nat, k ≤ A.length ∧ i = .int .i64 k ∧ Hid (((A.take k).all fun r => decide (r.length ≤ 3)) = true)) (fun i => A.length - (intOf i).toNat)
  case atStart => exact ⟨0, Nat.zero_le _, rfl, rfl⟩
  case round =>
    obtain ⟨k, hk, rfl, hv⟩ := hrel
    by_cases hlt : k < A.length
    · obtain ⟨_, _, e, _, _, H⟩ := sA.out.open
      cases e
      obtain ⟨b, off, ad', cap', rfl, c1, c2, c3, _⟩ := H.out k hlt
      clear H
      by_cases hz : 3 < A[k].length
      · have HV := Lib.hid (ncheck_4' H0.out hlt hz)
        generalize A[k].length = m at *
        go_wp2
        go_ret
        exact ⟨by rw [HV.out]; try rfl, hy⟩
      · have HV := Lib.hid (all_take (p := fun r => decide (r.length ≤ 3)) hlt hv.out (by simp; omega))
        generalize A[k].length = m at *
        go_wp2
        go_round
        case rel => exact ⟨k + 1, by omega, by go_num, HV⟩
        case measure => simp [intOf]; try omega
    · have H1 := Lib.hid (all_end hlt hv.out)
      clear hv
      by_cases hz0 : A.length = 0
      · have HV := Lib.hid (ncheck_8 H0.out H1.out (.inl hz0))
        have q1 : decide ((A.length : Int) < 1) = true := by simp; omega
        have q2 : (A.length : Int) < 1 := by omega
        clear hz0
        go_wp2
        go_ret
        exact ⟨by rw [HV.out]; try rfl, hy⟩
      have q1 : decide ((A.length : Int) < 1) = false := by simp; omega
      by_cases hz1 : B.length ≠ A.length
      · have HV := Lib.hid (ncheck_8 H0.out H1.out (.inr (.inl hz1)))
        have q2 : ((B.length : Int) != (A.length : Int)) = true := by simp; omega
        clear hz1
        go_wp2
        go_ret
        exact ⟨by rw [HV.out]; try rfl, hy⟩
      have q2 : ((B.length : Int) != (A.length : Int)) = false := by simp; omega
      have l1 : 0 < A.length := by omega
      have l2 : B.length ≤ A.length := by omega
      have l3 : A.length ≤ B.length := by omega
      obtain ⟨_, _, e, _, _, H⟩ := sA.out.open
      cases e
      obtain ⟨b, off, ad0, cap0, rfl, d1, d2, d3, _⟩ := H.out 0 l1
      rw [Nat.add_zero] at d1
      have H := Lib.hid H
      have G0 := Lib.hid (getD_get (d := []) l1)
      by_cases hz2 : A[0].length = 0
      · have HV := Lib.hid (ncheck_8 H0.out H1.out (.inr (.inr (by rw [G0.out]; exact hz2))))
        have q3 : decide ((A[0].length : Int) < 1) = true := by simp; omega
        have q4 : (A[0].length : Int) < 1 := by omega
        clear hz2 hz1 hz0
        generalize A[0].length = m at *
        go_wp2
        go_ret
        exact ⟨by rw [HV.out]; try rfl, hy⟩
      have H2 : Hid (¬ (A.length = 0 ∨ B.length ≠ A.length ∨ (A.getD 0 []).length = 0)) := by
        show ¬ _
        rw [G0.out]; omega
      have q3 : decide ((A[0].length : Int) < 1) = false := by simp; omega
      have q4 : ¬ (A[0].length : Int) < 1 := by omega
      have G1 : Hid ((A.getD 0 []).length = A[0].length) := by show _ = _; rw [G0.out]
      clear hz2 hz1 hz0 G0
      generalize A[0].length = n at *
      go_wp2
      go_loop [54] (fun i => ∃ k : Nat, k ≤ A.length ∧ i = .int .i64 k ∧ Hid (((A.take k).all fun r => rowOk n r) = true) ∧ Hid (((B.take k).all fun b => decide (-50 ≤ b) && decide (b ≤ 50)) = true)) (fun i => A.length - (intOf i).toNat)
      case atStart => exact ⟨0, Nat.zero_le _, rfl, rfl, rfl⟩
      case round =>
        obtain ⟨k, hk, rfl, hv, hu⟩ := hrel
        by_cases hlt : k < A.length
        · obtain ⟨b', off', ad', cap', e, c1, c2, c3, s1⟩ := H.out.out k hlt
          cases e
          obtain ⟨_, _, e, _, _, HB⟩ := sB.out.open
          cases e
          obtain ⟨b2, off2, rfl, c4⟩ := HB.out k (by omega)
          clear HB
          have hkB : k < B.length := by omega
          have X8 := Lib.hid (fun h => ncheck_8' H0.out H1.out H2.out (.inl h))
          have Y8 := Lib.hid (fun h => ncheck_8' H0.out H1.out H2.out (.inr (all_not hkB h)))
          have XT := Lib.hid (fun h => all_take (p := fun r => rowOk n r) hlt hv.out h)
          have YT := Lib.hid (fun h => all_take (p := fun b => decide (-50 ≤ b) && decide (b ≤ 50)) hkB hu.out h)
          have XN := Lib.hid (fun h => all_not (p := fun r => rowOk n r) hlt h)
          have G2 := Lib.hid G1.out
          by_cases hw : A[k].length = n
          case neg =>
            have HV := Lib.hid (X8.out (by rw [G1.out]; exact XN.out (by simp [rowOk, hw])))
            have q5 : ((A[k].length : Int) != (n : Int)) = true := by simp; omega
            clear hw X8 Y8 XT YT XN s1
            generalize A[k].length = m at *
            go_wp2
            go_ret
            exact ⟨by rw [HV.out]; try rfl, hy⟩
          have q5 : ((A[k].length : Int) != (n : Int)) = false := by simp; omega
          have HW := Lib.hid hw
          have l4 : A[k].length ≤ n := by omega
          have l5 : n ≤ A[k].length := by omega
          have S1 := Lib.hid s1
          clear hw s1
          generalize A[k] = row at *
          generalize B[k] = bk at *
          by_cases hb : winB bk 50 = true
          case neg =>
            have hb' : winB bk 50 = false := by simpa using hb
            have HV := Lib.hid (Y8.out hb')
            have HB := Lib.hid hb'
            clear hb hb' X8 Y8 XT YT XN
            go_wp2_with fail
            refine (nwithin_any bk 50 _ (by decide) (by decide)).mono ?_
            rintro e _ ⟨rfl, rfl⟩
            rw [HB.out]
            go_wp2
            go_ret
            exact ⟨by rw [HV.out]; try rfl, hy⟩
          have HB := Lib.hid hb
          have YT' := Lib.hid (YT.out hb)
          clear hb Y8 YT
          go_wp2_with fail
          refine (nwithin_any bk 50 _ (by decide) (by decide)).mono ?_
          rintro e _ ⟨rfl, rfl⟩
          rw [HB.out]
          go_wp2
          go_loop [78] (fun i => ∃ j : Nat, j ≤ row.length ∧ i = .int .i64 j ∧ Hid (((row.take j).all fun a => decide (-5 ≤ a) && decide (a ≤ 5)) = true)) (fun i => row.length - (intOf i).toNat)
          case atStart => exact ⟨0, Nat.zero_le _, rfl, rfl⟩
          case round =>
            obtain ⟨j, hj, rfl, hr⟩ := hrel
            by_cases hjl : j < row.length
            · obtain ⟨_, _, e, _, _, HR⟩ := S1.out.open
              cases e
              obtain ⟨b3, off3, rfl, c5⟩ := HR.out j hjl
              clear HR
              have RT := Lib.hid (fun h => all_take (p := fun a => decide (-5 ≤ a) && decide (a ≤ 5)) hjl hr.out h)
              have RN := Lib.hid (fun h => all_not (p := fun a => decide (-5 ≤ a) && decide (a ≤ 5)) hjl h)
              generalize row[j] = aj at *
              by_cases ha : winB aj 5 = true
              case neg =>
                have ha' : winB aj 5 = false := by simpa using ha
                have HV := Lib.hid (X8.out (by rw [G1.out]; exact XN.out (by unfold rowOk; rw [RN.out ha']; simp)))
                have HA := Lib.hid ha'
                clear ha ha' X8 XT XN RT RN
                go_wp2_with fail
                refine (nwithin_any aj 5 _ (by decide) (by decide)).mono ?_
                rintro e _ ⟨rfl, rfl⟩
                rw [HA.out]
                go_wp2
                go_ret
                exact ⟨by rw [HV.out]; try rfl, hy⟩
              have HA := Lib.hid ha
              have HV := Lib.hid (RT.out ha)
              clear ha X8 XT XN RT RN
              go_wp2_with fail
              refine (nwithin_any aj 5 _ (by decide) (by decide)).mono ?_
              rintro e _ ⟨rfl, rfl⟩
              rw [HA.out]
              go_wp2
              go_round
              case rel => exact ⟨j + 1, by omega, by go_num, HV⟩
              case measure => simp [intOf]; try omega
            · have HV := Lib.hid (XT.out (by unfold rowOk; rw [all_end hjl hr.out, HW.out]; simp))
              clear X8 XT XN
              go_wp2
              go_round
              case rel => exact ⟨k + 1, by omega, by go_num, HV, YT'⟩
              case measure => simp [intOf]; try omega
        · have HV := Lib.hid (ncheck_0 H0.out H1.out H2.out (by rw [G1.out]; exact all_end hlt hv.out) (all_end (xs := B) (k := k) (by omega) hu.out))
          go_wp2
          go_ret
          exact ⟨by rw [HV.out]; try rfl, hy⟩
end Go.Proofs.Ytfoemacgmehpiaa

/- What is proved here: the contract of frac.Make. Condition: the numbers are 64-bit integers. -/
namespace Go.Proofs.Ytfoemacgmehpiaa
open Go.RowKit

set_option maxHeartbeats 800000 in
theorem make_any (num den : Int) (w : World) (h1 : i64 num) (h2 : i64 den) :
    Calls Try.prog 59 #[.int .i64 num, .int .i64 den] w fun e w' => e = .returned (.tuple #[.agg #[.int .i64 (fmk num den).n, .int .i64 (fmk num den).d], .int .i64 (fmk num den).e]) ∧ Below w.heap.size w w' := by
  by_cases h : den = 0
  · subst h
    rw [fmk_0]
    go_enter Try.func59, Try.ntmps59
    go_wp2
    exact bodyPost_ret (v := .tuple #[.agg #[.int .i64 0, .int .i64 0], .int .i64 18]) (by simp [results, Try.results59, go_sem]) rfl ⟨rfl, ba1 _ _⟩
  · have H := Lib.hid (fmk_ne (num := num) h)
    obtain ⟨n1, n2⟩ := h1
    obtain ⟨d1, d2⟩ := h2
    have b1 : (den == 0) = false := by simpa using h
    have hg : 0 < Nat.gcd num.natAbs den.natAbs := Nat.gcd_pos_of_pos_right _ (by omega)
    have hgl : Nat.gcd num.natAbs den.natAbs ≤ den.natAbs := Nat.gcd_le_right _ (by omega)
    have na : num.natAbs ≤ 9223372036854775808 := by omega
    have da : den.natAbs ≤ 9223372036854775808 := by omega
    have q1 := quo_bd num.natAbs (Nat.gcd num.natAbs den.natAbs) na
    have q2 := quo_bd den.natAbs (Nat.gcd num.natAbs den.natAbs) da
    have e1 := wrap_quo num.natAbs (Nat.gcd num.natAbs den.natAbs) na
    have e2 := wrap_quo den.natAbs (Nat.gcd num.natAbs den.natAbs) da
    generalize hgg : Nat.gcd num.natAbs den.natAbs = g at *
    have HG := Lib.hid hgg
    have g0 : ((g : Int) == 0) = false := by simp; omega
    have g1 : ¬ ((g : Int) = 0) := by omega
    clear hgg h
    go_enter Try.func59, Try.ntmps59
    go_wp2_with fail
    refine (size_any _ _ (by omega) (by omega)).mono ?_
    rintro e _ ⟨rfl, rfl⟩
    go_wp2_with fail
    refine (size_any _ _ (by omega) (by omega)).mono ?_
    rintro e _ ⟨rfl, rfl⟩
    go_wp2_with fail
    refine (gcd_any _ _ _ (by omega) (by omega)).mono ?_
    rintro e w1 ⟨rfl, nd, rfl⟩
    rw [HG.out]
    go_wp2_with fail
    refine wp_region_st [.t [0, 1, 2, 3, 4, 5, 6, 7, 8, 9, 10], .f 11, .t [12, 13]] [14, 15] (by kernel_rfl) (by kernel_rfl) (fun _ _ _ _ _ h => h) ?_
    refine wpX_t ?_
    try simp only [opsAt, List.getElem?_toArray, List.getElem?_cons_zero, List.getElem?_cons_succ, Option.getD_some]
    repeat (go_big_quiet_step (fail))
    refine wpQuiet_nil ?_
    refine wpX_f rfl rfl (fun K' hK' => ?_)
    go_simp
    refine (build_any _ _ _ _ (by omega) (by omega) (by omega) (by omega)).mono ?_
    rintro e w1 ⟨rfl, hb1⟩
    refine hK' _ _ (grow_of (below_to ((Below.refl _ _).drew) hb1)) ?_
    clear hK' K'
    obtain ⟨c1, f1⟩ := bcell hb1
    have z1 := (hb1).size
    try simp at z1
    try simp at c1
    try simp at f1
    refine wpX_t ?_
    try simp only [opsAt, List.getElem?_toArray, List.getElem?_cons_zero, List.getElem?_cons_succ, Option.getD_some]
    repeat (go_big_quiet_step (fail))
    refine wpQuiet_nil ?_
    refine wpX_nil ?_
    try simp only [opsAt, List.getElem?_toArray, List.getElem?_cons_zero, List.getElem?_cons_succ, Option.getD_some]
    go_wp2
    generalize hr : bld (!decide (num < 0) == decide (den < 0)) (↑num.natAbs / ↑g) (↑den.natAbs / ↑g) = r at *
    have HR : Hid (fmk num den = r) := by show _ = _; rw [H.out, ← hr]; rfl
    clear hr H
    refine bodyPost_ret (v := .tuple #[.agg #[.int .i64 r.n, .int .i64 r.d], .int .i64 r.e]) (by simp [results, Try.results59, go_sem, c1]) rfl ⟨by rw [HR.out], ?_⟩
    repeat (refine Below.setCell ?_ (by first | omega | (simp; done) | (simp; omega)) _)
    exact below_to (ba1 _ _) (below_to (below_drewN _ _) hb1)

end Go.Proofs.Ytfoemacgmehpiaa

/- What is proved here: the contract of nnls.column. Condition: a list of rows that can be read, of which each has the column. -/
namespace Go.Proofs.Ytfoemacgmehpiaa
open Go.RowKit

def ints_post (w : World) (xs : List Int) (e : Ending) (w' : World) : Prop := ∃ u, e = .returned u ∧ SI w' u xs ∧ Below w.heap.size w w'
set_option maxRecDepth 100000 in
set_option maxHeartbeats 4000000 in
theorem ncol_any (A : List (List Int)) (k : Nat) (va vb : Value) (w : World) (hA : SS w va A) (l1 : A.length ≤ 100) (hk : ∀ i (h : i < A.length), k < A[i].length) :
    Calls Try.prog 70 #[.agg #[va, vb], .int .i64 k] w (ints_post w (colOf A k)) := by
  have HK := Lib.hid hk
  obtain ⟨ada, capa, rfl, ha1, ha2, _⟩ := hA.open
  clear hk
  go_enter Try.func70, Try.ntmps70
  have oS := Own.new w 25 [.slice ada A.length capa, vb]
  have hy := ba1 w (.cells #[.slice ada A.length capa, vb] 25)
  have SA := Lib.hid (hA.below hy)
  clear hA
  have MK := mk_ints A.length (by omega)
  obtain ⟨rS, fS⟩ := oS.rules
  have zS := oS.lt
  go_wp2
  clear MK rS fS zS
  have oC := own_second w 3 (ics (List.replicate A.length 0)) (.cells #[.slice ada A.length capa, vb] 25)
  have hW := ba1 (w.alloc (.cells #[.slice ada A.length capa, vb] 25)) (.cells (ics (List.replicate A.length 0)).toArray 3)
  have zS := oS.lt
  go_loopw [15] (fun i wr => ∃ m : Nat, m ≤ A.length ∧ i = .int .i64 m ∧ Own wr (w.heap.size + 1) 3 (ics ((colOf A k).take m ++ List.replicate (A.length - m) 0)) ∧ Below (w.alloc (.cells #[.slice ada A.length capa, vb] 25)).heap.size (w.alloc (.cells #[.slice ada A.length capa, vb] 25)) wr) (fun i _ => A.length - (intOf i).toNat)
  case atStart => exact ⟨0, Nat.zero_le _, rfl, by simpa using oC, hW⟩
  case round =>
    clear oC hW
    obtain ⟨m, hm, rfl, oC, hW⟩ := hrel
    rename World => W
    by_cases hlt : m < A.length
    · obtain ⟨_, _, e, _, _, H⟩ := (SA.out.below hW).open
      cases e
      obtain ⟨b, off, ad', cap', rfl, c1, c2, c3, sR⟩ := H.out m hlt
      obtain ⟨_, _, e, _, _, H'⟩ := sR.open
      cases e
      have hkm := HK.out m hlt
      obtain ⟨b', off', rfl, c4⟩ := H'.out k hkm
      have CG := Lib.hid (colOf_get (k := k) hlt)
      rw [cel_get hlt hkm] at CG
      clear H H' sR
      generalize A[m][k] = amk at *
      generalize A[m].length = rl at *
      obtain ⟨v1, g1⟩ := ics_some ((colOf A k).take m ++ List.replicate (A.length - m) 0) m (by have := colOf_len A k; simp; omega)
      obtain ⟨rC, fC⟩ := oC.rules
      have zC := oC.lt
      go_wp2
      go_roundw
      case rel =>
        refine ⟨m + 1, by omega, by go_num, ?_, ?_⟩
        · have o2 := oC.set m (.int .i64 amk)
          unfold ics at o2 ⊢
          rw [fill_set (colOf A k) 0 (Value.int .i64) m A.length (colOf_len A k) hlt amk CG.out] at o2
          exact o2
        · exact hW.setCell (p := ⟨w.heap.size + 1, m, none⟩) (by simp) _
      case measure => simp [intOf]; try omega
    · obtain rfl : m = A.length := by omega
      have hsl : SI W (.slice (some ⟨w.heap.size + 1, 0, none⟩) A.length A.length) (colOf A k) := by
        unfold SI
        rw [colOf_len]
        exact oC.sl (n := A.length) A.length (Nat.le_refl _) (by omega) _ ⟨[], by rw [Nat.sub_self, List.take_of_length_le (by rw [colOf_len]; exact Nat.le_refl _)]; simp [ics]⟩
      clear oC
      go_wp2
      go_ret
      exact ⟨_, rfl, hsl, below_to hy hW⟩
end Go.Proofs.Ytfoemacgmehpiaa

/- What is proved here: the contracts of frac.compare, order and Cmp. Condition: the numbers are 64-bit integers. -/
namespace Go.Proofs.Ytfoemacgmehpiaa
open Go.RowKit

theorem compare_any (a b c d : Nat) (w : World) (ha : a ≤ 18446744073709551615) (hb : b ≤ 18446744073709551615) (hc : c ≤ 18446744073709551615) (hd : d ≤ 18446744073709551615) :
    Calls Try.prog 90 #[.int .u64 a, .int .u64 b, .int .u64 c, .int .u64 d] w fun e w' => e = .returned (.int .i64 (cmpN (a * b) (c * d))) ∧ w = w' := by
  have H := Lib.hid (wid_cmp (a * b) (c * d))
  go_enter Try.func90, Try.ntmps90
  go_wp2_with fail
  refine (mul64_any _ _ ha hb _).mono ?_
  rintro e _ ⟨rfl, rfl⟩
  generalize a * b / 18446744073709551616 = p at *
  generalize a * b % 18446744073709551616 = q at *
  go_wp2_with fail
  refine (mul64_any _ _ hc hd _).mono ?_
  rintro e _ ⟨rfl, rfl⟩
  generalize c * d / 18446744073709551616 = r at *
  generalize c * d % 18446744073709551616 = s at *
  go_wp2_with fail
  refine (wider_any _ _ _ _ _).mono ?_
  rintro e _ ⟨rfl, rfl⟩
  go_wp2
  go_ret
  exact ⟨by rw [H.out]; try rfl, rfl⟩

set_option maxHeartbeats 1600000 in
theorem order_any (an ad bn bd : Int) (w : World) (h1 : i64 an) (h2 : 1 ≤ ad) (h3 : ad ≤ 9223372036854775807) (h4 : i64 bn) (h5 : 1 ≤ bd) (h6 : bd ≤ 9223372036854775807) :
    Calls Try.prog 64 #[.agg #[.int .i64 an, .int .i64 ad], .agg #[.int .i64 bn, .int .i64 bd]] w fun e w' => e = .returned (.int .i64 (fcmp an ad bn bd)) ∧ Below w.heap.size w w' := by
  obtain ⟨a1, a2⟩ := h1
  obtain ⟨b1, b2⟩ := h4
  by_cases p : an < 0
  · by_cases q : bn < 0
    · have H := Lib.hid (fcmp_neg p q h2 h5)
      have hc := cmpN_bd (an.natAbs * bd.natAbs) (bn.natAbs * ad.natAbs)
      go_enter Try.func64, Try.ntmps64
      go_wp2
      go_quiet (first | (go_at_call 87; exact Calls.quiet_same (size_any _ _ (by omega) (by omega))) | (go_at_call 90; exact Calls.quiet_same (compare_any _ _ _ _ _ (by omega) (by omega) (by omega) (by omega))))
      go_wp2
      go_ret
      exact ⟨by rw [H.out]; try rfl, below_to (ba2 _ _ _) (below_drewN _ _)⟩
    · have H := Lib.hid (fcmp_lt (bn := bn) p (by omega) h2 h5)
      go_enter Try.func64, Try.ntmps64
      go_wp2
      go_ret
      exact ⟨by rw [H.out]; try rfl, ba2 _ _ _⟩
  · by_cases q : bn < 0
    · have H := Lib.hid (fcmp_gt (an := an) (by omega) q h2 h5)
      go_enter Try.func64, Try.ntmps64
      go_wp2
      go_ret
      exact ⟨by rw [H.out]; try rfl, ba2 _ _ _⟩
    · have H := Lib.hid (fcmp_nn (an := an) (bn := bn) (by omega) (by omega) h2 h5)
      go_enter Try.func64, Try.ntmps64
      go_wp2
      go_quiet (first | (go_at_call 87; exact Calls.quiet_same (size_any _ _ (by omega) (by omega))) | (go_at_call 90; exact Calls.quiet_same (compare_any _ _ _ _ _ (by omega) (by omega) (by omega) (by omega))))
      go_wp2
      go_ret
      exact ⟨by rw [H.out]; try rfl, below_to (ba2 _ _ _) (below_drewN _ _)⟩

theorem cmp_any (an ad bn bd : Int) (w : World) (h1 : i64 an) (h2 : i64 ad) (h3 : i64 bn) (h4 : i64 bd) :
    Calls Try.prog 24 #[.agg #[.int .i64 an, .int .i64 ad], .agg #[.int .i64 bn, .int .i64 bd]] w fun e w' => e = .returned (.tuple #[.int .i64 (fcmpZ an ad bn bd), .int .i64 (fboth an ad bn bd)]) ∧ Below w.heap.size w w' := by
  by_cases p : fboth an ad bn bd = 0
  · have H : Hid (fcmpZ an ad bn bd = fcmp an ad bn bd) := if_pos p
    have b1 : (fboth an ad bn bd != 0) = false := by simp [p]
    obtain ⟨p1, p2⟩ := fboth_ok p
    obtain ⟨u1, u2, u3, u4, _⟩ := fok_of p1
    obtain ⟨v1, v2, v3, v4, _⟩ := fok_of p2
    have P := Lib.hid p
    clear p p1 p2
    go_enter Try.func24, Try.ntmps24
    go_wp2_with fail
    refine (frboth_any _ _ _ _ _ h1 h2 h3 h4).mono ?_
    rintro e w1 ⟨rfl, hb1⟩
    obtain ⟨c1, f1⟩ := bcell hb1
    have z1 := (hb1).size
    try simp at z1
    try simp at c1
    try simp at f1
    go_wp2_with fail
    refine (order_any _ _ _ _ _ h1 (by omega) (by omega) h3 (by omega) (by omega)).mono ?_
    rintro e w2 ⟨rfl, hb2⟩
    go_wp2
    go_ret2
    exact ⟨by rw [H.out, P.out]; try rfl, below_to (below_to (ba2 _ _ _) hb1) hb2⟩
  · have H : Hid (fcmpZ an ad bn bd = 0) := if_neg p
    have b1 : (fboth an ad bn bd != 0) = true := by simp [p]
    clear p
    go_enter Try.func24, Try.ntmps24
    go_wp2_with fail
    refine (frboth_any _ _ _ _ _ h1 h2 h3 h4).mono ?_
    rintro e w1 ⟨rfl, hb1⟩
    go_wp2
    go_ret2
    exact ⟨by rw [H.out]; try rfl, below_to (ba2 _ _ _) hb1⟩

end Go.Proofs.Ytfoemacgmehpiaa
