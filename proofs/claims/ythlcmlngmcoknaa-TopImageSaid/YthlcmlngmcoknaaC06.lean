/- What is proved here: contracts of functions and plain facts, several texts in one; each one says ahead what it proves, and its conditions. -/
import Derived.Test.YthlcmlngmcoknaaC02
import Derived.Test.YthlcmlngmcoknaaC05
import Derived.Test.YthlcmlngmcoknaaC01
/- What is proved here: slices of sources, or of components: what their cells hold, opened element by element. No condition. -/
namespace Go.Proofs.Ythlcmlngmcoknaa
open Go.RowKit

def T3.cs (s : T3) : List Value := [.int .i64 s.x, .int .i64 s.y, .int .i64 s.f]
def tcs (l : List T3) : List Value := l.flatMap T3.cs
theorem tcs_nil : tcs [] = [] := rfl
theorem tcs_append (xs ys : List T3) : tcs (xs ++ ys) = tcs xs ++ tcs ys := by simp [tcs]
theorem tcs_cons (v : T3) (xs : List T3) : tcs (v :: xs) = v.cs ++ tcs xs := by simp [tcs]
theorem tcs_len (xs : List T3) : (tcs xs).length = xs.length * 3 := by
  induction xs with
  | nil => rfl
  | cons v xs ih => rw [tcs_cons, List.length_append, ih]; simp [T3.cs]; omega
theorem tcs_get : ∀ (xs : List T3) (i : Nat) (h : i < xs.length) (k : Nat), k < 3 → (tcs xs)[i * 3 + k]? = (xs[i]).cs[k]?
  | v :: xs, 0, _, k, hk => by
    rw [tcs_cons, List.getElem?_append_left (by simp [T3.cs]; omega)]; simp
  | v :: xs, i + 1, h, k, hk => by
    have hl : i < xs.length := by simpa using h
    have ih := tcs_get xs i hl k hk
    rw [tcs_cons, List.getElem?_append_right (by simp [T3.cs]; omega)]
    have e : (i + 1) * 3 + k - v.cs.length = i * 3 + k := by simp [T3.cs]; omega
    rw [e, ih]; rfl
def ST (w : World) (v : Value) (xs : List T3) : Prop := Sl w v xs.length (tcs xs)
theorem ST.below {w w' : World} {v : Value} {xs : List T3} (h : ST w v xs) (hb : Below w.heap.size w w') : ST w' v xs := Sl.below h hb
theorem ST.grow {w : World} {v : Value} {xs : List T3} (h : ST w v xs) (e : World) : ST (grow w e) v xs := Sl.grow h e
theorem ST.open {w : World} {v : Value} {xs : List T3} (h : ST w v xs) : ∃ ad cap, v = .slice ad xs.length cap ∧ xs.length ≤ cap ∧ xs.length ≤ 9223372036854775807 ∧
    Hid (∀ i (h : i < xs.length), ∃ b off, ad = some ⟨b, off, none⟩ ∧ w.cell? ⟨b, off + i * 3, none⟩ = some (.int .i64 xs[i].x) ∧ w.cell? ⟨b, off + i * 3 + 1, none⟩ = some (.int .i64 xs[i].y) ∧ w.cell? ⟨b, off + i * 3 + 2, none⟩ = some (.int .i64 xs[i].f)) := by
  obtain ⟨ad, cap, h1, h2, h3, h4⟩ := h
  refine ⟨ad, cap, h1, h2, h3, fun i hi => ?_⟩
  have g := tcs_get xs i hi
  obtain ⟨b, off, e, c0⟩ := h4 (i * 3 + 0) _ (by rw [g 0 (by decide)]; rfl)
  refine ⟨b, off, e, c0, ?_, ?_⟩
  all_goals subst e
  · obtain ⟨_, _, e, c⟩ := h4 (i * 3 + 1) _ (by rw [g 1 (by decide)]; rfl); cases e; exact c
  · obtain ⟨_, _, e, c⟩ := h4 (i * 3 + 2) _ (by rw [g 2 (by decide)]; rfl); cases e; exact c
theorem st_nil (w : World) : ST w (.slice none 0 0) [] := ⟨none, 0, rfl, Nat.le_refl _, by decide, fun i x hx => by simp [tcs] at hx⟩
theorem owns_ST {w : World} {B : Nat} {T : TypeId} {v : Value} {xs : List T3} (h : w.ownsRow B T 3 v xs.length (tcs xs)) (hn : xs.length ≤ 9223372036854775807) : ST w v xs := owns_sl h hn
theorem st_of_own {w : World} {g : Nat} {T : TypeId} (xs : List T3) (n : Nat) (hn : xs.length = n) (hm : n ≤ 1000) (h : Own w g T (tcs xs)) : ST w (.slice (some ⟨g, 0, none⟩) n n) xs := by
  unfold ST; rw [hn]
  exact h.sl n (Nat.le_refl _) (by omega) _ ⟨[], by simp⟩
/-- All numbers are 64-bit integers. -/
def TI (xs : List T3) : Prop := ∀ s ∈ xs, i64 s.x ∧ i64 s.y ∧ i64 s.f
theorem TI.get {xs : List T3} (h : TI xs) (i : Nat) (hi : i < xs.length) : i64 xs[i].x ∧ i64 xs[i].y ∧ i64 xs[i].f := h _ (List.getElem_mem hi)

/-! ### What a sky, places, a cleaning are -/
def cellB (s : T3) : Bool := decide (0 ≤ s.x) && decide (s.x < 8) && (decide (0 ≤ s.y) && decide (s.y < 8)) && (decide (0 ≤ s.f) && decide (s.f ≤ 1000))
def skyN (l : List T3) : Int := if 16 < l.length then 4 else if l.all cellB = true then 0 else 8
def plcB (a : Int × Int) : Bool := decide (-100 ≤ a.1) && decide (a.1 ≤ 100) && (decide (-100 ≤ a.2) && decide (a.2 ≤ 100))
def plcN (p : List (Int × Int)) : Int := if 8 < p.length then 4 else if p.length < 2 then 8 else if p.all plcB = true then 0 else 8
def bothN (p : List (Int × Int)) (l : List T3) : Int := if plcN p ≠ 0 then plcN p else skyN l
theorem tall_take {α : Type} {l : List α} {f : α → Bool} {k : Nat} (hk : k < l.length) (h : (l.take k).all f = true) (hz : f l[k] = true) : (l.take (k + 1)).all f = true := by
  rw [List.take_succ_eq_append_getElem hk, List.all_append, h]; simp [hz]
theorem tall_not {α : Type} {l : List α} {f : α → Bool} {k : Nat} (hk : k < l.length) (hz : f l[k] = false) : l.all f = false := by
  rw [List.all_eq_false]; exact ⟨l[k], List.getElem_mem hk, by simp [hz]⟩
theorem skyN_4 {l : List T3} (h : 16 < l.length) : skyN l = 4 := if_pos h
theorem skyN_8 {l : List T3} (h : ¬ 16 < l.length) (h2 : l.all cellB = false) : skyN l = 8 := by unfold skyN; rw [if_neg h, if_neg (by rw [h2]; decide)]
theorem skyN_0 {l : List T3} (h : ¬ 16 < l.length) (h2 : l.all cellB = true) : skyN l = 0 := by unfold skyN; rw [if_neg h, if_pos h2]
theorem plcN_4 {l : List (Int × Int)} (h : 8 < l.length) : plcN l = 4 := if_pos h
theorem plcN_2 {l : List (Int × Int)} (h : ¬ 8 < l.length) (h1 : l.length < 2) : plcN l = 8 := by unfold plcN; rw [if_neg h, if_pos h1]
theorem plcN_8 {l : List (Int × Int)} (h : ¬ 8 < l.length) (h1 : ¬ l.length < 2) (h2 : l.all plcB = false) : plcN l = 8 := by unfold plcN; rw [if_neg h, if_neg h1, if_neg (by rw [h2]; decide)]
theorem plcN_0 {l : List (Int × Int)} (h : ¬ 8 < l.length) (h1 : ¬ l.length < 2) (h2 : l.all plcB = true) : plcN l = 0 := by unfold plcN; rw [if_neg h, if_neg h1, if_pos h2]
theorem skyN_of {l : List T3} (h : skyN l = 0) : l.length ≤ 16 ∧ ∀ s ∈ l, 0 ≤ s.x ∧ s.x < 8 ∧ 0 ≤ s.y ∧ s.y < 8 ∧ 0 ≤ s.f ∧ s.f ≤ 1000 := by
  by_cases h1 : 16 < l.length
  · rw [skyN_4 h1] at h; omega
  · by_cases h2 : l.all cellB = true
    · refine ⟨by omega, fun s hs => ?_⟩
      have := List.all_eq_true.1 h2 s hs
      unfold cellB at this
      simp only [Bool.and_eq_true, decide_eq_true_eq] at this
      omega
    · rw [skyN_8 h1 (by simpa using h2)] at h; omega
theorem plcN_of {p : List (Int × Int)} (h : plcN p = 0) : 2 ≤ p.length ∧ p.length ≤ 8 ∧ ∀ a ∈ p, -100 ≤ a.1 ∧ a.1 ≤ 100 ∧ -100 ≤ a.2 ∧ a.2 ≤ 100 := by
  by_cases h1 : 8 < p.length
  · rw [plcN_4 h1] at h; omega
  · by_cases h0 : p.length < 2
    · rw [plcN_2 h1 h0] at h; omega
    · by_cases h2 : p.all plcB = true
      · refine ⟨by omega, by omega, fun a ha => ?_⟩
        have := List.all_eq_true.1 h2 a ha
        unfold plcB at this
        simp only [Bool.and_eq_true, decide_eq_true_eq] at this
        omega
      · rw [plcN_8 h1 h0 (by simpa using h2)] at h; omega
theorem bothN_of {p : List (Int × Int)} {l : List T3} (h : bothN p l = 0) : plcN p = 0 ∧ skyN l = 0 := by
  unfold bothN at h
  by_cases h1 : plcN p = 0
  · rw [if_neg (by simp [h1])] at h; exact ⟨h1, h⟩
  · rw [if_pos h1] at h; exact absurd h h1
end Go.Proofs.Ythlcmlngmcoknaa

/- What is proved here: the contract of fringeref37.Check. Condition: a system whose lists can be read. -/
namespace Go.Proofs.Ythlcmlngmcoknaa
open Go.RowKit

set_option maxRecDepth 100000 in
set_option maxHeartbeats 4000000 in
theorem rncheck_any (A : List (List Int)) (B : List Int) (va vb : Value) (w : World) (hA : SS w va A) (hB : SI w vb B) :
    Calls Try.prog 93 #[.agg #[va, vb]] w fun e w' => e = .returned (.int .i64 (ncheck A B)) ∧ Below w.heap.size w w' := by
  have hA0 := Lib.hid hA
  have hB0 := Lib.hid hB
  obtain ⟨ada, capa, rfl, ha1, ha2, _⟩ := hA.open
  obtain ⟨adb, capb, rfl, hb1, hb2, _⟩ := hB.open
  clear hA hB
  by_cases h0 : 5 < A.length
  · have HV := Lib.hid (ncheck_4 (B := B) (.inl h0))
    go_enter Try.func93, Try.ntmps93
    have oS := Own.new w 25 [.slice ada A.length capa, .slice adb B.length capb]
    obtain ⟨rS, fS⟩ := oS.rules
    have zS := oS.lt
    go_wp2
    go_ret
    exact ⟨by rw [HV.out]; try rfl, ba1 _ _⟩
  by_cases h0' : 5 < B.length
  · have HV := Lib.hid (ncheck_4 (A := A) (.inr h0'))
    go_enter Try.func93, Try.ntmps93
    have oS := Own.new w 25 [.slice ada A.length capa, .slice adb B.length capb]
    obtain ⟨rS, fS⟩ := oS.rules
    have zS := oS.lt
    go_wp2
    go_ret
    exact ⟨by rw [HV.out]; try rfl, ba1 _ _⟩
  have H0 : Hid (¬ (5 < A.length ∨ 5 < B.length)) := by show ¬ _; omega
  go_enter Try.func93, Try.ntmps93
  have oS := Own.new w 25 [.slice ada A.length capa, .slice adb B.length capb]
  have hy := ba1 w (.cells #[.slice ada A.length capa, .slice adb B.length capb] 25)
  have sA := Lib.hid (hA0.out.below hy)
  have sB := Lib.hid (hB0.out.below hy)
  clear hA0 hB0
  go_wp2_with fail
  generalize w.alloc (.cells #[.slice ada A.length capa, .slice adb B.length capb] 25) = y at *
  obtain ⟨rS, fS⟩ := oS.rules
  have zS := oS.lt
  go_wp2
  go_loop [3] (fun i => ∃ k : Nat, k ≤ A.length ∧ i = .int .i64 k ∧ Hid (((A.take k).all fun r => decide (r.length ≤ 3)) = true)) (fun i => A.length - (intOf i).toNat)
  case atStart => exact ⟨0, Nat.zero_le _, rfl, rfl⟩
  case round =>
    obtain ⟨k, hk, rfl, hv⟩ := hrel
    by_cases hlt : k < A.length
    · obtain ⟨_, _, e, _, _, H⟩ := sA.out.open
      cases e
      obtain ⟨b, off, ad', cap', rfl, c1, c2, c3, _⟩ := H.out k hlt
      clear H
      by_cases hz : 3 < A[k].length
      · have HV := Lib.hid (ncheck_4' H0.out hlt hz)
        generalize A[k].length = m at *
        go_wp2
        go_ret
        exact ⟨by rw [HV.out]; try rfl, hy⟩
      · have HV := Lib.hid (all_take (p := fun r => decide (r.length ≤ 3)) hlt hv.out (by simp; omega))
        generalize A[k].length = m at *
        go_wp2
        go_round
        case rel => exact ⟨k + 1, by omega, by go_num, HV⟩
        case measure => simp [intOf]; try omega
    · have H1 := Lib.hid (all_end hlt hv.out)
      clear hv
      by_cases hz0 : A.length = 0
      · have HV := Lib.hid (ncheck_8 H0.out H1.out (.inl hz0))
        have q1 : ((A.length : Int) == 0) = true := by rw [hz0]; rfl
        clear hz0
        go_wp2
        go_ret
        exact ⟨by rw [HV.out]; try rfl, hy⟩
      have q1 : ((A.length : Int) == 0) = false := by simpa using hz0
      by_cases hz1 : B.length ≠ A.length
      · have HV := Lib.hid (ncheck_8 H0.out H1.out (.inr (.inl hz1)))
        have q2 : ((B.length : Int) != (A.length : Int)) = true := by simp; omega
        clear hz1
        go_wp2
        go_ret
        exact ⟨by rw [HV.out]; try rfl, hy⟩
      have q2 : ((B.length : Int) != (A.length : Int)) = false := by simp; omega
      have l1 : 0 < A.length := by omega
      have l2 : B.length ≤ A.length := by omega
      have l3 : A.length ≤ B.length := by omega
      obtain ⟨_, _, e, _, _, H⟩ := sA.out.open
      cases e
      obtain ⟨b, off, ad0, cap0, rfl, d1, d2, d3, _⟩ := H.out 0 l1
      rw [Nat.add_zero] at d1
      have H := Lib.hid H
      have G0 := Lib.hid (getD_get (d := []) l1)
      by_cases hz2 : A[0].length = 0
      · have HV := Lib.hid (ncheck_8 H0.out H1.out (.inr (.inr (by rw [G0.out]; exact hz2))))
        have q3 : ((A[0].length : Int) == 0) = true := by rw [hz2]; rfl
        clear hz2 hz1 hz0
        generalize A[0].length = m at *
        go_wp2
        go_ret
        exact ⟨by rw [HV.out]; try rfl, hy⟩
      have H2 : Hid (¬ (A.length = 0 ∨ B.length ≠ A.length ∨ (A.getD 0 []).length = 0)) := by
        show ¬ _
        rw [G0.out]; omega
      have q3 : ((A[0].length : Int) == 0) = false := by simpa using hz2
      have G1 : Hid ((A.getD 0 []).length = A[0].length) := by show _ = _; rw [G0.out]
      clear hz2 hz1 hz0 G0
      generalize A[0].length = n at *
      go_wp2
      clear rS fS zS d1 H
      go_loopw [4] (fun i wr => ∃ k : Nat, k ≤ A.length ∧ i = .int .i64 k ∧ Hid (((A.take k).all fun r => rowOk n r) = true) ∧ Hid (((B.take k).all fun b => decide (-50 ≤ b) && decide (b ≤ 50)) = true) ∧ Below y.heap.size y wr) (fun i _ => A.length - (intOf i).toNat)
      case atStart => exact ⟨0, Nat.zero_le _, rfl, rfl, rfl, Below.refl _ _⟩
      case round =>
        obtain ⟨k, hk, rfl, hv, hu, hB⟩ := hrel
        rename World => W
        replace oS := oS.below hB
        have sA' := Lib.hid (sA.out.below hB)
        have sB' := Lib.hid (sB.out.below hB)
        obtain ⟨rS, fS⟩ := oS.rules
        have zS := oS.lt
        by_cases hlt : k < A.length
        · obtain ⟨_, _, e, _, _, H⟩ := sA'.out.open
          cases e
          obtain ⟨_, _, ad0', cap0', e, d1, d2', d3', _⟩ := H.out 0 l1
          cases e
          rw [Nat.add_zero] at d1
          obtain ⟨b', off', ad', cap', e, c1, c2, c3, s1⟩ := H.out k hlt
          cases e
          clear H
          obtain ⟨_, _, e, _, _, HB⟩ := sB'.out.open
          cases e
          have hkB : k < B.length := by omega
          obtain ⟨b2, off2, rfl, c4⟩ := HB.out k hkB
          clear HB
          have X8 := Lib.hid (fun h => ncheck_8' H0.out H1.out H2.out (.inl h))
          have Y8 := Lib.hid (fun h => ncheck_8' H0.out H1.out H2.out (.inr (all_not hkB h)))
          have XT := Lib.hid (fun h => all_take (p := fun r => rowOk n r) hlt hv.out h)
          have YT := Lib.hid (fun h => all_take (p := fun b => decide (-50 ≤ b) && decide (b ≤ 50)) hkB hu.out h)
          have XN := Lib.hid (fun h => all_not (p := fun r => rowOk n r) hlt h)
          have N0 : Hid (A[0].length = n) := by show _ = _; rw [← G1.out, getD_get l1]
          rw [N0.out] at d1 d2' d3'
          by_cases hw : A[k].length = n
          case neg =>
            have HV := Lib.hid (X8.out (by rw [G1.out]; exact XN.out (by simp [rowOk, hw])))
            have q5 : ((A[k].length : Int) != (n : Int)) = true := by simp; omega
            clear hw X8 Y8 XT YT XN s1
            generalize A[k].length = m at *
            go_wp2
            go_quiet (fail)
            go_wp2
            go_ret
            exact ⟨by rw [HV.out]; try rfl, bd (below_to hy hB) _⟩
          have q5 : ((A[k].length : Int) != (n : Int)) = false := by simp; omega
          have HW := Lib.hid hw
          have l4 : A[k].length ≤ n := by omega
          have l5 : n ≤ A[k].length := by omega
          have S1 := Lib.hid s1
          clear hw s1
          generalize A[k] = row at *
          generalize B[k] = bk at *
          by_cases hb1 : bk < -50
          · have HV := Lib.hid (Y8.out (by simp; omega))
            have q6 : decide (bk < -50) = true := by simpa using hb1
            clear X8 Y8 XT YT XN
            go_wp2
            go_quiet (fail)
            go_wp2
            go_ret
            exact ⟨by rw [HV.out]; try rfl, bd (below_to hy hB) _⟩
          have q6 : decide (bk < -50) = false := by simpa using hb1
          by_cases hb2 : 50 < bk
          · have HV := Lib.hid (Y8.out (by simp; omega))
            have q7 : decide (50 < bk) = true := by simpa using hb2
            clear X8 Y8 XT YT XN
            go_wp2
            go_quiet (fail)
            go_wp2
            go_ret
            exact ⟨by rw [HV.out]; try rfl, bd (below_to hy hB) _⟩
          have q7 : decide (50 < bk) = false := by simpa using hb2
          have YT' := Lib.hid (YT.out (by simp; omega))
          clear Y8 YT
          go_wp2
          go_quiet (fail)
          go_wp2
          have hB' := bd hB nq
          have S1' := Lib.hid (S1.out.below (below_drewN W nq))
          have c1' : (W.drewN nq).cell? ⟨b, off + k, none⟩ = some (.slice ad' row.length cap') := c1
          replace oS := oS.drewN nq
          clear rS fS zS S1 c1 c4 d1
          generalize W.drewN nq = W' at *
          obtain ⟨rS, fS⟩ := oS.rules
          have zS := oS.lt
          go_loop [5] (fun i => ∃ j : Nat, j ≤ row.length ∧ i = .int .i64 j ∧ Hid (((row.take j).all fun a => decide (-5 ≤ a) && decide (a ≤ 5)) = true)) (fun i => row.length - (intOf i).toNat)
          case atStart => exact ⟨0, Nat.zero_le _, rfl, rfl⟩
          case round =>
            obtain ⟨j, hj, rfl, hr⟩ := hrel
            by_cases hjl : j < row.length
            · obtain ⟨_, _, e, _, _, HR⟩ := S1'.out.open
              cases e
              obtain ⟨b3, off3, rfl, c5⟩ := HR.out j hjl
              clear HR
              have RT := Lib.hid (fun h => all_take (p := fun a => decide (-5 ≤ a) && decide (a ≤ 5)) hjl hr.out h)
              have RN := Lib.hid (fun h => all_not (p := fun a => decide (-5 ≤ a) && decide (a ≤ 5)) hjl h)
              generalize row[j] = aj at *
              by_cases ha1 : aj < -5
              · have HV := Lib.hid (X8.out (by rw [G1.out]; exact XN.out (by unfold rowOk; rw [RN.out (by simp; omega)]; simp)))
                have q8 : decide (aj < -5) = true := by simpa using ha1
                clear X8 XT XN RT RN
                go_wp2
                go_ret
                exact ⟨by rw [HV.out]; try rfl, below_to hy hB'⟩
              have q8 : decide (aj < -5) = false := by simpa using ha1
              by_cases ha2 : 5 < aj
              · have HV := Lib.hid (X8.out (by rw [G1.out]; exact XN.out (by unfold rowOk; rw [RN.out (by simp; omega)]; simp)))
                have q9 : decide (5 < aj) = true := by simpa using ha2
                clear X8 XT XN RT RN
                go_wp2
                go_ret
                exact ⟨by rw [HV.out]; try rfl, below_to hy hB'⟩
              have q9 : decide (5 < aj) = false := by simpa using ha2
              have HV := Lib.hid (RT.out (by simp; omega))
              clear X8 XT XN RT RN
              go_wp2
              go_round
              case rel => exact ⟨j + 1, by omega, by go_num, HV⟩
              case measure => simp [intOf]; try omega
            · have HV := Lib.hid (XT.out (by unfold rowOk; rw [all_end hjl hr.out, HW.out]; simp))
              clear X8 XT XN
              go_wp2
              go_roundw
              case rel => exact ⟨k + 1, by omega, by go_num, HV, YT', hB'⟩
              case measure => simp [intOf]; try omega
        · have HV := Lib.hid (ncheck_0 H0.out H1.out H2.out (by rw [G1.out]; exact all_end hlt hv.out) (all_end (xs := B) (k := k) (by omega) hu.out))
          go_wp2
          go_ret
          exact ⟨by rw [HV.out]; try rfl, below_to hy hB⟩
end Go.Proofs.Ythlcmlngmcoknaa
