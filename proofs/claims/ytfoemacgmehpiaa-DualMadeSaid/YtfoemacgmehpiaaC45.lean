/- What is proved here: contracts of functions and plain facts, several texts in one; each one says ahead what it proves, and its conditions. -/
import Derived.Test.YtfoemacgmehpiaaC39
import Derived.Test.YtfoemacgmehpiaaC28
import Derived.Test.YtfoemacgmehpiaaC13
import Derived.Test.YtfoemacgmehpiaaC23
import Derived.Test.YtfoemacgmehpiaaC10
import Derived.Test.YtfoemacgmehpiaaC38
/- What is proved here: the contract of fringeref39.Witness. Condition: a system and a slice of fractions that can be read. -/
namespace Go.Proofs.Ytfoemacgmehpiaa
open Go.RowKit

set_option maxRecDepth 100000 in
set_option maxHeartbeats 4000000 in
theorem rdwit_any (A : List (List Int)) (x : List (Int × Int)) (va vb vx : Value) (w : World) (hA : SS w va A) (hx : SF w vx x) (ix : FI x) :
    Calls Try.prog 36 #[.agg #[va, vb], vx] w fun e w' => e = .returned (.bool (witB A.length x)) ∧ Below w.heap.size w w' := by
  have IX := Lib.hid ix
  obtain ⟨ada, capa, rfl, ha1, ha2, _⟩ := hA.open
  obtain ⟨adx, capx, rfl, hx1, hx2, _⟩ := hx.open
  clear ix hA
  go_enter Try.func36, Try.ntmps36
  have oS := Own.new w 25 [.slice ada A.length capa, vb]
  have hy := ba1 w (.cells #[.slice ada A.length capa, vb] 25)
  have SX := Lib.hid (hx.below hy)
  clear hx
  go_wp2_with fail
  generalize w.alloc (.cells #[.slice ada A.length capa, vb] 25) = y1 at *
  go_loopw [5] (fun i wr => ∃ k : Nat, k ≤ x.length ∧ i = .int .i64 k ∧ Hid (fvalid (x.take k) = true) ∧ Below y1.heap.size y1 wr) (fun i _ => x.length - (intOf i).toNat)
  case atStart => exact ⟨0, Nat.zero_le _, rfl, rfl, Below.refl _ _⟩
  case round =>
    obtain ⟨k, hk, rfl, hv, hW⟩ := hrel
    rename World => W
    by_cases hlt : k < x.length
    · obtain ⟨_, _, e, _, _, H⟩ := (SX.out.below hW).open
      cases e
      obtain ⟨b', off', rfl, c1, c2⟩ := H.out k hlt
      obtain ⟨i1, i2⟩ := IX.out.get k hlt
      clear H
      have XT := Lib.hid (fun h => fvalid_take hlt hv.out h)
      have XN := Lib.hid (fun h => witB_bad (m := A.length) (fvalid_not (k := k) hlt h))
      generalize x[k].1 = n1 at *
      generalize x[k].2 = d1 at *
      go_wp2_with fail
      refine (rcheck_any n1 d1 _ i1 i2).mono ?_
      rintro e y2 ⟨rfl, hq⟩
      replace hW := below_to hW hq
      clear hq
      by_cases h1 : fchk n1 d1 = 0
      · have b3 : (fchk n1 d1 != 0) = false := by simp [h1]
        have HV := Lib.hid (XT.out h1)
        clear h1 XT XN
        go_wp2
        go_roundw
        case rel => exact ⟨k + 1, by omega, by go_num, HV, hW⟩
        case measure => simp [intOf]; try omega
      · have b3 : (fchk n1 d1 != 0) = true := by simpa using h1
        have HV := Lib.hid (XN.out h1)
        clear h1 XT XN
        go_wp2
        go_ret
        exact ⟨by rw [HV.out]; try rfl, below_to hy hW⟩
    · have hv' : fvalid x = true := by
        have := hv.out
        rw [List.take_of_length_le (by omega)] at this
        exact this
      have HV := Lib.hid (witB_ok (m := A.length) hv')
      clear hv'
      replace oS := oS.below hW
      obtain ⟨rS, fS⟩ := oS.rules
      have zS := oS.lt
      by_cases hl : x.length = A.length
      · have b5 : ((x.length : Int) == (A.length : Int)) = true := by simp [hl]
        have HL : Hid (decide (x.length = A.length) = true) := by show _ = _; simp [hl]
        clear hl
        go_wp2
        go_ret
        exact ⟨by rw [HV.out, HL.out]; try rfl, below_to hy hW⟩
      · have b5 : ((x.length : Int) == (A.length : Int)) = false := by simp; omega
        have HL : Hid (decide (x.length = A.length) = false) := by show _ = _; simp [hl]
        clear hl
        go_wp2
        go_ret
        exact ⟨by rw [HV.out, HL.out]; try rfl, below_to hy hW⟩
end Go.Proofs.Ytfoemacgmehpiaa

/- What is proved here: the contracts of fringelaw39.given and ints. Condition: ints: a slice of 64-bit numbers, at most 100. -/
namespace Go.Proofs.Ytfoemacgmehpiaa
open Go.RowKit

set_option maxRecDepth 100000 in
set_option maxHeartbeats 4000000 in
theorem given39_any (w : World) : Calls Try.prog 72 #[] w (sys_post w [[1, 0], [0, 1]] [3, 1]) := by
  go_enter Try.func72, Try.ntmps72
  go_wp2
  have oR := ((((Own.new w 25 [.slice (some ⟨w.heap.size + 1 + 1 + 1, 0, none⟩) 2 2, .slice (some ⟨w.heap.size + 1 + 1 + 1 + 1, 0, none⟩) 2 2]).alloc (.cells #[.int .i64 1, .int .i64 0] 3)).alloc (.cells #[.int .i64 0, .int .i64 1] 3)).alloc (.cells #[.slice (some ⟨w.heap.size + 1, 0, none⟩) 2 2, .slice (some ⟨w.heap.size + 1 + 1, 0, none⟩) 2 2] 23)).alloc (.cells #[.int .i64 3, .int .i64 1] 3)
  have o1 := (((own_second w 3 [.int .i64 1, .int .i64 0] (.cells #[.slice (some ⟨w.heap.size + 1 + 1 + 1, 0, none⟩) 2 2, .slice (some ⟨w.heap.size + 1 + 1 + 1 + 1, 0, none⟩) 2 2] 25)).alloc (.cells #[.int .i64 0, .int .i64 1] 3)).alloc (.cells #[.slice (some ⟨w.heap.size + 1, 0, none⟩) 2 2, .slice (some ⟨w.heap.size + 1 + 1, 0, none⟩) 2 2] 23)).alloc (.cells #[.int .i64 3, .int .i64 1] 3)
  have o2 := ((own_third w 3 [.int .i64 0, .int .i64 1] (.cells #[.slice (some ⟨w.heap.size + 1 + 1 + 1, 0, none⟩) 2 2, .slice (some ⟨w.heap.size + 1 + 1 + 1 + 1, 0, none⟩) 2 2] 25) (.cells #[.int .i64 1, .int .i64 0] 3)).alloc (.cells #[.slice (some ⟨w.heap.size + 1, 0, none⟩) 2 2, .slice (some ⟨w.heap.size + 1 + 1, 0, none⟩) 2 2] 23)).alloc (.cells #[.int .i64 3, .int .i64 1] 3)
  have o3 := (own_4th w 23 [.slice (some ⟨w.heap.size + 1, 0, none⟩) 2 2, .slice (some ⟨w.heap.size + 1 + 1, 0, none⟩) 2 2] (.cells #[.slice (some ⟨w.heap.size + 1 + 1 + 1, 0, none⟩) 2 2, .slice (some ⟨w.heap.size + 1 + 1 + 1 + 1, 0, none⟩) 2 2] 25) (.cells #[.int .i64 1, .int .i64 0] 3) (.cells #[.int .i64 0, .int .i64 1] 3)).alloc (.cells #[.int .i64 3, .int .i64 1] 3)
  have o4 := own_fifth w 3 [.int .i64 3, .int .i64 1] (.cells #[.slice (some ⟨w.heap.size + 1 + 1 + 1, 0, none⟩) 2 2, .slice (some ⟨w.heap.size + 1 + 1 + 1 + 1, 0, none⟩) 2 2] 25) (.cells #[.int .i64 1, .int .i64 0] 3) (.cells #[.int .i64 0, .int .i64 1] 3) (.cells #[.slice (some ⟨w.heap.size + 1, 0, none⟩) 2 2, .slice (some ⟨w.heap.size + 1 + 1, 0, none⟩) 2 2] 23)
  have hB := ba5 w (.cells #[.slice (some ⟨w.heap.size + 1 + 1 + 1, 0, none⟩) 2 2, .slice (some ⟨w.heap.size + 1 + 1 + 1 + 1, 0, none⟩) 2 2] 25) (.cells #[.int .i64 1, .int .i64 0] 3) (.cells #[.int .i64 0, .int .i64 1] 3) (.cells #[.slice (some ⟨w.heap.size + 1, 0, none⟩) 2 2, .slice (some ⟨w.heap.size + 1 + 1, 0, none⟩) 2 2] 23) (.cells #[.int .i64 3, .int .i64 1] 3)
  have s1 := si_of_own [1, 0] 2 rfl (by decide) o1
  have s2 := si_of_own [0, 1] 2 rfl (by decide) o2
  have s4 := si_of_own [3, 1] 2 rfl (by decide) o4
  have s3 := ss_of_own [[1, 0], [0, 1]] [.slice (some ⟨w.heap.size + 1, 0, none⟩) 2 2, .slice (some ⟨w.heap.size + 1 + 1, 0, none⟩) 2 2] 2 rfl rfl (by decide) o3 (fun i h h' => by
    match i, h with
    | 0, _ => exact s1
    | 1, _ => exact s2)
  refine bp_gen' (fun W => Own W w.heap.size 25 [.slice (some ⟨w.heap.size + 1 + 1 + 1, 0, none⟩) 2 2, .slice (some ⟨w.heap.size + 1 + 1 + 1 + 1, 0, none⟩) 2 2] ∧ SS W (.slice (some ⟨w.heap.size + 1 + 1 + 1, 0, none⟩) 2 2) [[1, 0], [0, 1]] ∧ SI W (.slice (some ⟨w.heap.size + 1 + 1 + 1 + 1, 0, none⟩) 2 2) [3, 1] ∧ Below w.heap.size w W) ⟨oR, s3, s4, hB⟩ ?_
  rintro wz ⟨oz, sa, sb, bz⟩
  obtain ⟨rz, fz⟩ := oz.rules
  clear oz oR o1 o2 o3 o4 s1 s2 s3 s4 hB
  refine bodyPost_ret (v := .agg #[.slice (some ⟨w.heap.size + 1 + 1 + 1, 0, none⟩) 2 2, .slice (some ⟨w.heap.size + 1 + 1 + 1 + 1, 0, none⟩) 2 2]) (by simp [results, Try.results72, go_sem, rz]) rfl ⟨_, _, rfl, sa, sb, bz⟩
set_option maxRecDepth 100000 in
set_option maxHeartbeats 4000000 in
theorem ints39_any (l : List Int) (v : Value) (w : World) (hs : SI w v l) (hl : l.length ≤ 100) : Calls Try.prog 73 #[v] w (fracs_post w (l.map fun n => (n, 1))) := by
  have hs0 := Lib.hid hs
  obtain ⟨ad, cap, rfl, h1, h2, _⟩ := hs.open
  clear hs
  go_enter Try.func73, Try.ntmps73
  go_wp2
  go_loopw [3, 4] (fun ov i wr => ∃ m : Nat, m ≤ l.length ∧ i = .int .i64 m ∧ wr.ownsRow w.heap.size 39 2 ov m (fcs ((l.take m).map fun n => (n, 1))) ∧ Below w.heap.size w wr) (fun _ i _ => l.length - (intOf i).toNat)
  case atStart => exact ⟨0, Nat.zero_le _, rfl, World.ownsRow_nil _ _ _ _, Below.refl _ _⟩
  case round =>
    obtain ⟨m, hm, rfl, ow, hW⟩ := hrel
    rename World => W
    by_cases hlt : m < l.length
    · obtain ⟨_, _, e, _, _, H⟩ := (hs0.out.below hW).open
      cases e
      obtain ⟨b, off, rfl, c1⟩ := H.out m hlt
      clear H
      have HE : Hid (((l.take (m + 1)).map fun n => ((n, 1) : Int × Int)) = ((l.take m).map fun n => ((n, 1) : Int × Int)) ++ [(l[m], 1)]) := by
        show _ = _
        rw [List.take_succ_eq_append_getElem hlt, List.map_append]; rfl
      generalize l[m] = lm at *
      go_wp2_with fail
      refine (rof_any lm _).mono ?_
      rintro e y2 ⟨rfl, hq⟩
      replace ow := owns_at ow hq
      replace hW := below_to hW hq
      clear hq c1
      have zr := hW.size
      go_wp2_with (at_builtin; refine wpList_app _ rfl _ _ _ rfl w.heap.size 39 2 16 (.agg #[.int .i64 0, .int .i64 0]) Try.underlying26 Try.infoFrac rfl (by omega) (by omega) _ m _ rfl (ow.alloc _) (by omega) (by simp; omega) y2.heap.size [.int .i64 lm, .int .i64 1] (0, 0) rfl (heap_alloc_new y2 _) rfl (by simp [Value.oneCell']) ?_; intro g cap2 w9 hown hg hbw)
      go_roundw
      case rel =>
        refine ⟨m + 1, by omega, by go_num, ?_, ?_⟩
        · rw [HE.out, fcs_append]; exact hown
        · exact (below_to hW (ba1 y2 _)).trans (hbw.mono (Nat.le_refl _))
      case measure => simp [intOf]; try omega
    · obtain rfl : m = l.length := by omega
      have hsl : SF W u3 (l.map fun n => (n, 1)) := by
        have h9 := owns_sl ow (by omega)
        rw [List.take_of_length_le (Nat.le_refl _)] at h9
        unfold SF
        rw [List.length_map]
        exact h9
      clear ow
      go_wp2
      go_ret
      exact ⟨u3, rfl, hsl, hW⟩
end Go.Proofs.Ytfoemacgmehpiaa

/- What is proved here: plain facts on rows that are written over. No program in sight. -/
namespace Go.Proofs.Ytfoemacgmehpiaa
open Go.RowKit

theorem fr_neg {n d : Int} (h : fchk n d = 0) : -9223372036854775807 ≤ n ∧ n ≤ 9223372036854775807 := by
  have h2 := (Q_ok h).2.2.1
  have h3 := (Q_ok h).1
  rw [h3] at h2
  omega
/-- A row that is written over from the left by another one. -/
theorem neg_set {r : List (Int × Int)} {m : Nat} (hm : m < r.length) : ((negs r).take m ++ r.drop m).set m (-r[m].1, r[m].2) = (negs r).take (m + 1) ++ r.drop (m + 1) := by
  have h1 : ((negs r).take m).length = m := by simp [negs]; omega
  rw [over_set _ h1 hm]
  congr 1
  rw [List.take_add_one, negs_get hm]
  rfl
theorem neg_get {r : List (Int × Int)} {m : Nat} (hm : m < r.length) : ((negs r).take m ++ r.drop m)[m]'(by simp [negs]; omega) = r[m] := by
  have h1 : ((negs r).take m).length = m := by simp [negs]; omega
  exact over_get h1 hm
theorem neg_len {r : List (Int × Int)} {m : Nat} (hm : m ≤ r.length) : ((negs r).take m ++ r.drop m).length = r.length := by simp [negs]; omega
/-- The first number of a fraction of a row is stored. -/
theorem fcs_put1 {xs : List (Int × Int)} {k : Nat} (rest : List Value) (h : k < xs.length) (v : Int) : (fcs xs ++ rest).set (k * 2) (.int .i64 v) = fcs (xs.set k (v, xs[k].2)) ++ rest := by
  rw [← fcs_put rest h (v, xs[k].2)]
  have hl := fcs_len xs
  have h2 := (fcs_at rest h).2
  have h3 : ((fcs xs ++ rest).set (k * 2) (.int .i64 v))[k * 2 + 1]? = some (.int .i64 xs[k].2) := by
    rw [List.getElem?_set_ne (by omega)]; exact h2
  obtain ⟨h4, h5⟩ := List.getElem?_eq_some_iff.1 h3
  rw [← h5, List.set_getElem_self]
end Go.Proofs.Ytfoemacgmehpiaa
