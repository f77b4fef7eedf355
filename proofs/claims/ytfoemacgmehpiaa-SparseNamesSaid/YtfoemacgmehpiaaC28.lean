/- What is proved here: contracts of functions and plain facts, several texts in one; each one says ahead what it proves, and its conditions. -/
import Derived.Test.YtfoemacgmehpiaaC05
import Derived.Test.YtfoemacgmehpiaaC10
import Derived.Test.YtfoemacgmehpiaaC23
/- What is proved here: the contracts of sparse.ready, sparse.whole and fringeref38.Check. Condition: a system whose lists can be read. -/
namespace Go.Proofs.Ytfoemacgmehpiaa
open Go.RowKit

theorem swhole_any (n : Int) (w : World) : Calls Try.prog 60 #[.int .i64 n] w fun e w' => e = .returned (.agg #[.int .i64 n, .int .i64 1]) ∧ Below w.heap.size w w' := by
  go_enter Try.func60, Try.ntmps60
  go_wp2
  have oR := Own.new w 39 [.int .i64 n, .int .i64 1]
  have hB := ba1 w (.cells #[.int .i64 n, .int .i64 1] 39)
  refine bp_gen' (fun W => Own W _ _ _ ∧ Below w.heap.size w W) ⟨oR, hB⟩ ?_
  rintro wz ⟨oz, bz⟩
  obtain ⟨rz, fz⟩ := oz.rules
  clear oz
  refine bodyPost_ret (v := .agg #[.int .i64 n, .int .i64 1]) (by simp [results, Try.results60, go_sem, rz]) rfl ⟨rfl, ?_⟩
  exact bz
set_option maxRecDepth 100000 in
set_option maxHeartbeats 4000000 in
theorem sready_any (A : List (List Int)) (B : List Int) (c : Int) (va vb : Value) (w : World) (hA : SS w va A) (hB : SI w vb B) :
    Calls Try.prog 55 #[.agg #[va, vb], .int .i64 c] w fun e w' => e = .returned (.int .i64 (scheck A B c)) ∧ Below w.heap.size w w' := by
  go_enter Try.func55, Try.ntmps55
  have oS := Own.new w 25 [va, vb]
  have hy := ba1 w (.cells #[va, vb] 25)
  replace hA := hA.below hy
  replace hB := hB.below hy
  obtain ⟨rS, fS⟩ := oS.rules
  have zS := oS.lt
  go_wp2_with fail
  refine (ncheck_any A B _ _ _ hA hB).mono ?_
  rintro e y1 ⟨rfl, hq⟩
  clear rS fS zS
  replace oS := oS.below hq
  replace hA := hA.below hq
  replace hB := hB.below hq
  replace hy := below_to hy hq
  clear hq
  obtain ⟨rS, fS⟩ := oS.rules
  have zS := oS.lt
  by_cases h0 : ncheck A B = 0
  case neg =>
    have HV := Lib.hid (scheck_c (c := c) h0)
    have b1 : (ncheck A B != 0) = true := by simpa using h0
    clear h0 hA hB
    go_wp2
    go_ret
    exact ⟨by rw [HV.out]; try rfl, hy⟩
  have b1 : (ncheck A B != 0) = false := by simp [h0]
  by_cases h1 : c < 0
  · have HV := Lib.hid (scheck_2 h0 (.inl h1))
    have b2 : decide (c < 0) = true := by simpa using h1
    clear h0 hA hB
    go_wp2
    go_ret
    exact ⟨by rw [HV.out]; try rfl, hy⟩
  have b2 : decide (c < 0) = false := by simpa using h1
  by_cases h2 : 1000 < c
  · have HV := Lib.hid (scheck_2 h0 (.inr h2))
    have b3 : decide (1000 < c) = true := by simpa using h2
    clear h0 hA hB
    go_wp2
    go_ret
    exact ⟨by rw [HV.out]; try rfl, hy⟩
  have b3 : decide (1000 < c) = false := by simpa using h2
  have HV := Lib.hid (scheck_0 (c := c) h0 (by omega) (by omega))
  clear h0 hA hB
  go_wp2
  go_ret
  exact ⟨by rw [HV.out]; try rfl, hy⟩
set_option maxRecDepth 100000 in
set_option maxHeartbeats 4000000 in
theorem rscheck_any (A : List (List Int)) (B : List Int) (c : Int) (va vb : Value) (w : World) (hA : SS w va A) (hB : SI w vb B) :
    Calls Try.prog 17 #[.agg #[va, vb], .int .i64 c] w fun e w' => e = .returned (.int .i64 (scheck A B c)) ∧ Below w.heap.size w w' := by
  go_enter Try.func17, Try.ntmps17
  have oS := Own.new w 25 [va, vb]
  have hy := ba1 w (.cells #[va, vb] 25)
  replace hA := hA.below hy
  replace hB := hB.below hy
  obtain ⟨rS, fS⟩ := oS.rules
  have zS := oS.lt
  go_wp2_with fail
  refine (rncheck_any A B _ _ _ hA hB).mono ?_
  rintro e y1 ⟨rfl, hq⟩
  clear rS fS zS
  replace oS := oS.below hq
  replace hA := hA.below hq
  replace hB := hB.below hq
  replace hy := below_to hy hq
  clear hq
  obtain ⟨rS, fS⟩ := oS.rules
  have zS := oS.lt
  by_cases h0 : ncheck A B = 0
  case neg =>
    have HV := Lib.hid (scheck_c (c := c) h0)
    have b1 : (ncheck A B != 0) = true := by simpa using h0
    clear h0 hA hB
    go_wp2
    go_ret
    exact ⟨by rw [HV.out]; try rfl, hy⟩
  have b1 : (ncheck A B != 0) = false := by simp [h0]
  by_cases h1 : c < 0
  · have HV := Lib.hid (scheck_2 h0 (.inl h1))
    have b2 : decide (c < 0) = true := by simpa using h1
    clear h0 hA hB
    go_wp2
    go_ret
    exact ⟨by rw [HV.out]; try rfl, hy⟩
  have b2 : decide (c < 0) = false := by simpa using h1
  by_cases h2 : 1000 < c
  · have HV := Lib.hid (scheck_2 h0 (.inr h2))
    have b3 : decide (1000 < c) = true := by simpa using h2
    clear h0 hA hB
    go_wp2
    go_ret
    exact ⟨by rw [HV.out]; try rfl, hy⟩
  have b3 : decide (1000 < c) = false := by simpa using h2
  have HV := Lib.hid (scheck_0 (c := c) h0 (by omega) (by omega))
  clear h0 hA hB
  go_wp2
  go_ret
  exact ⟨by rw [HV.out]; try rfl, hy⟩
end Go.Proofs.Ytfoemacgmehpiaa

/- What is proved here: a row of fractions of the call's own that is written over. No condition. -/
namespace Go.Proofs.Ytfoemacgmehpiaa
open Go.RowKit

/-- A row of the call's own that is not empty, as a block. -/
theorem owns_open {w : World} {B : Nat} {T : TypeId} {u : Value} {xs : List (Int × Int)} (h : w.ownsRow B T 2 u xs.length (fcs xs)) (h0 : 0 < xs.length) :
    ∃ G cap rest, u = .slice (some ⟨G, 0, none⟩) xs.length cap ∧ B ≤ G ∧ Own w G T (fcs xs ++ rest) ∧ xs.length ≤ cap ∧ cap ≤ maxLen ∧ (fcs xs ++ rest).length = cap * 2 := by
  obtain ⟨hl, h2⟩ := h
  rcases h2 with ⟨_, h2⟩ | ⟨g, cap, cur, h3, hg, hh, h4, h5, h6, h7⟩
  · omega
  · refine ⟨g, cap, cur.toList.drop (xs.length * 2), h3, hg, ?_, h4, h5, ?_⟩
    · unfold Own; rw [hh, ← h7, List.take_append_drop]
    · rw [← h7, List.take_append_drop]; simpa using h6
theorem owns_shut {w : World} {B : Nat} {T : TypeId} {xs : List (Int × Int)} {rest : List Value} {G cap : Nat} (h : Own w G T (fcs xs ++ rest)) (hB : B ≤ G) (h4 : xs.length ≤ cap) (h5 : cap ≤ maxLen) (h6 : (fcs xs ++ rest).length = cap * 2) :
    w.ownsRow B T 2 (.slice (some ⟨G, 0, none⟩) xs.length cap) xs.length (fcs xs) :=
  ⟨fcs_len xs, .inr ⟨G, cap, (fcs xs ++ rest).toArray, rfl, hB, h, h4, h5, by simpa using h6, by rw [List.toList_toArray, ← fcs_len, List.take_left']; rfl⟩⟩
theorem fcs_at {xs : List (Int × Int)} {k : Nat} (rest : List Value) (h : k < xs.length) : (fcs xs ++ rest)[k * 2]? = some (.int .i64 xs[k].1) ∧ (fcs xs ++ rest)[k * 2 + 1]? = some (.int .i64 xs[k].2) := by
  obtain ⟨h1, h2⟩ := fcs_get xs k h
  have hl := fcs_len xs
  rw [List.getElem?_append_left (by omega), List.getElem?_append_left (by omega)]
  exact ⟨h1, h2⟩
theorem fcs_put {xs : List (Int × Int)} {k : Nat} (rest : List Value) (h : k < xs.length) (p : Int × Int) : ((fcs xs ++ rest).set (k * 2) (.int .i64 p.1)).set (k * 2 + 1) (.int .i64 p.2) = fcs (xs.set k p) ++ rest := by
  have hl := fcs_len xs
  rw [List.set_append_left _ _ (by omega), List.set_append_left _ _ (by rw [List.length_set]; omega), fcs_set]
/-- A row that is written over from the left. -/
theorem over_set {rs g : List (Int × Int)} {m : Nat} (p : Int × Int) (h : rs.length = m) (hm : m < g.length) : (rs ++ g.drop m).set m p = (rs ++ [p]) ++ g.drop (m + 1) := by
  rw [List.set_append_right _ _ (by omega), h, Nat.sub_self, List.drop_eq_getElem_cons hm, List.set_cons_zero, List.append_assoc]
  rfl
theorem over_get {rs g : List (Int × Int)} {m : Nat} (h : rs.length = m) (hm : m < g.length) : (rs ++ g.drop m)[m]'(by simp; omega) = g[m] := by
  rw [List.getElem_append_right (by omega)]
  simp [h]
theorem over_len {rs g : List (Int × Int)} {m : Nat} (h : rs.length = m) (hm : m ≤ g.length) : (rs ++ g.drop m).length = g.length := by simp; omega
end Go.Proofs.Ytfoemacgmehpiaa

/- What is proved here: the contract of fringeref01.Of. No condition. -/
namespace Go.Proofs.Ytfoemacgmehpiaa
open Go.RowKit

theorem rof_any (n : Int) (w : World) : Calls Try.prog 27 #[.int .i64 n] w fun e w' => e = .returned (.agg #[.int .i64 n, .int .i64 1]) ∧ Below w.heap.size w w' := by
  go_enter Try.func27, Try.ntmps27
  go_wp2
  have oR := Own.new w 39 [.int .i64 n, .int .i64 1]
  have hB := ba1 w (.cells #[.int .i64 n, .int .i64 1] 39)
  refine bp_gen' (fun W => Own W _ _ _ ∧ Below w.heap.size w W) ⟨oR, hB⟩ ?_
  rintro wz ⟨oz, bz⟩
  obtain ⟨rz, fz⟩ := oz.rules
  clear oz
  refine bodyPost_ret (v := .agg #[.int .i64 n, .int .i64 1]) (by simp [results, Try.results27, go_sem, rz]) rfl ⟨rfl, ?_⟩
  exact bz
end Go.Proofs.Ytfoemacgmehpiaa

/- What is proved here: the contracts of fringelaw38.given and ints. Condition: ints: a slice of 64-bit numbers, at most 100. -/
namespace Go.Proofs.Ytfoemacgmehpiaa
open Go.RowKit

set_option maxRecDepth 100000 in
set_option maxHeartbeats 4000000 in
theorem given38_any (w : World) : Calls Try.prog 51 #[] w (sys_post w [[1, 0], [0, 1]] [3, 1]) := by
  go_enter Try.func51, Try.ntmps51
  go_wp2
  have oR := ((((Own.new w 25 [.slice (some ⟨w.heap.size + 1 + 1 + 1, 0, none⟩) 2 2, .slice (some ⟨w.heap.size + 1 + 1 + 1 + 1, 0, none⟩) 2 2]).alloc (.cells #[.int .i64 1, .int .i64 0] 3)).alloc (.cells #[.int .i64 0, .int .i64 1] 3)).alloc (.cells #[.slice (some ⟨w.heap.size + 1, 0, none⟩) 2 2, .slice (some ⟨w.heap.size + 1 + 1, 0, none⟩) 2 2] 23)).alloc (.cells #[.int .i64 3, .int .i64 1] 3)
  have o1 := (((own_second w 3 [.int .i64 1, .int .i64 0] (.cells #[.slice (some ⟨w.heap.size + 1 + 1 + 1, 0, none⟩) 2 2, .slice (some ⟨w.heap.size + 1 + 1 + 1 + 1, 0, none⟩) 2 2] 25)).alloc (.cells #[.int .i64 0, .int .i64 1] 3)).alloc (.cells #[.slice (some ⟨w.heap.size + 1, 0, none⟩) 2 2, .slice (some ⟨w.heap.size + 1 + 1, 0, none⟩) 2 2] 23)).alloc (.cells #[.int .i64 3, .int .i64 1] 3)
  have o2 := ((own_third w 3 [.int .i64 0, .int .i64 1] (.cells #[.slice (some ⟨w.heap.size + 1 + 1 + 1, 0, none⟩) 2 2, .slice (some ⟨w.heap.size + 1 + 1 + 1 + 1, 0, none⟩) 2 2] 25) (.cells #[.int .i64 1, .int .i64 0] 3)).alloc (.cells #[.slice (some ⟨w.heap.size + 1, 0, none⟩) 2 2, .slice (some ⟨w.heap.size + 1 + 1, 0, none⟩) 2 2] 23)).alloc (.cells #[.int .i64 3, .int .i64 1] 3)
  have o3 := (own_4th w 23 [.slice (some ⟨w.heap.size + 1, 0, none⟩) 2 2, .slice (some ⟨w.heap.size + 1 + 1, 0, none⟩) 2 2] (.cells #[.slice (some ⟨w.heap.size + 1 + 1 + 1, 0, none⟩) 2 2, .slice (some ⟨w.heap.size + 1 + 1 + 1 + 1, 0, none⟩) 2 2] 25) (.cells #[.int .i64 1, .int .i64 0] 3) (.cells #[.int .i64 0, .int .i64 1] 3)).alloc (.cells #[.int .i64 3, .int .i64 1] 3)
  have o4 := own_fifth w 3 [.int .i64 3, .int .i64 1] (.cells #[.slice (some ⟨w.heap.size + 1 + 1 + 1, 0, none⟩) 2 2, .slice (some ⟨w.heap.size + 1 + 1 + 1 + 1, 0, none⟩) 2 2] 25) (.cells #[.int .i64 1, .int .i64 0] 3) (.cells #[.int .i64 0, .int .i64 1] 3) (.cells #[.slice (some ⟨w.heap.size + 1, 0, none⟩) 2 2, .slice (some ⟨w.heap.size + 1 + 1, 0, none⟩) 2 2] 23)
  have hB := ba5 w (.cells #[.slice (some ⟨w.heap.size + 1 + 1 + 1, 0, none⟩) 2 2, .slice (some ⟨w.heap.size + 1 + 1 + 1 + 1, 0, none⟩) 2 2] 25) (.cells #[.int .i64 1, .int .i64 0] 3) (.cells #[.int .i64 0, .int .i64 1] 3) (.cells #[.slice (some ⟨w.heap.size + 1, 0, none⟩) 2 2, .slice (some ⟨w.heap.size + 1 + 1, 0, none⟩) 2 2] 23) (.cells #[.int .i64 3, .int .i64 1] 3)
  have s1 := si_of_own [1, 0] 2 rfl (by decide) o1
  have s2 := si_of_own [0, 1] 2 rfl (by decide) o2
  have s4 := si_of_own [3, 1] 2 rfl (by decide) o4
  have s3 := ss_of_own [[1, 0], [0, 1]] [.slice (some ⟨w.heap.size + 1, 0, none⟩) 2 2, .slice (some ⟨w.heap.size + 1 + 1, 0, none⟩) 2 2] 2 rfl rfl (by decide) o3 (fun i h h' => by
    match i, h with
    | 0, _ => exact s1
    | 1, _ => exact s2)
  refine bp_gen' (fun W => Own W w.heap.size 25 [.slice (some ⟨w.heap.size + 1 + 1 + 1, 0, none⟩) 2 2, .slice (some ⟨w.heap.size + 1 + 1 + 1 + 1, 0, none⟩) 2 2] ∧ SS W (.slice (some ⟨w.heap.size + 1 + 1 + 1, 0, none⟩) 2 2) [[1, 0], [0, 1]] ∧ SI W (.slice (some ⟨w.heap.size + 1 + 1 + 1 + 1, 0, none⟩) 2 2) [3, 1] ∧ Below w.heap.size w W) ⟨oR, s3, s4, hB⟩ ?_
  rintro wz ⟨oz, sa, sb, bz⟩
  obtain ⟨rz, fz⟩ := oz.rules
  clear oz oR o1 o2 o3 o4 s1 s2 s3 s4 hB
  refine bodyPost_ret (v := .agg #[.slice (some ⟨w.heap.size + 1 + 1 + 1, 0, none⟩) 2 2, .slice (some ⟨w.heap.size + 1 + 1 + 1 + 1, 0, none⟩) 2 2]) (by simp [results, Try.results51, go_sem, rz]) rfl ⟨_, _, rfl, sa, sb, bz⟩
set_option maxRecDepth 100000 in
set_option maxHeartbeats 4000000 in
theorem ints38_any (l : List Int) (v : Value) (w : World) (hs : SI w v l) (hl : l.length ≤ 100) : Calls Try.prog 52 #[v] w (fracs_post w (l.map fun n => (n, 1))) := by
  have hs0 := Lib.hid hs
  obtain ⟨ad, cap, rfl, h1, h2, _⟩ := hs.open
  clear hs
  go_enter Try.func52, Try.ntmps52
  go_wp2
  go_loopw [3, 4] (fun ov i wr => ∃ m : Nat, m ≤ l.length ∧ i = .int .i64 m ∧ wr.ownsRow w.heap.size 39 2 ov m (fcs ((l.take m).map fun n => (n, 1))) ∧ Below w.heap.size w wr) (fun _ i _ => l.length - (intOf i).toNat)
  case atStart => exact ⟨0, Nat.zero_le _, rfl, World.ownsRow_nil _ _ _ _, Below.refl _ _⟩
  case round =>
    obtain ⟨m, hm, rfl, ow, hW⟩ := hrel
    rename World => W
    by_cases hlt : m < l.length
    · obtain ⟨_, _, e, _, _, H⟩ := (hs0.out.below hW).open
      cases e
      obtain ⟨b, off, rfl, c1⟩ := H.out m hlt
      clear H
      have HE : Hid (((l.take (m + 1)).map fun n => ((n, 1) : Int × Int)) = ((l.take m).map fun n => ((n, 1) : Int × Int)) ++ [(l[m], 1)]) := by
        show _ = _
        rw [List.take_succ_eq_append_getElem hlt, List.map_append]; rfl
      generalize l[m] = lm at *
      go_wp2_with fail
      refine (rof_any lm _).mono ?_
      rintro e y2 ⟨rfl, hq⟩
      replace ow := owns_at ow hq
      replace hW := below_to hW hq
      clear hq c1
      have zr := hW.size
      go_wp2_with (at_builtin; refine wpList_app _ rfl _ _ _ rfl w.heap.size 39 2 16 (.agg #[.int .i64 0, .int .i64 0]) Try.underlying26 Try.infoFrac rfl (by omega) (by omega) _ m _ rfl (ow.alloc _) (by omega) (by simp; omega) y2.heap.size [.int .i64 lm, .int .i64 1] (0, 0) rfl (heap_alloc_new y2 _) rfl (by simp [Value.oneCell']) ?_; intro g cap2 w9 hown hg hbw)
      go_roundw
      case rel =>
        refine ⟨m + 1, by omega, by go_num, ?_, ?_⟩
        · rw [HE.out, fcs_append]; exact hown
        · exact (below_to hW (ba1 y2 _)).trans (hbw.mono (Nat.le_refl _))
      case measure => simp [intOf]; try omega
    · obtain rfl : m = l.length := by omega
      have hsl : SF W u3 (l.map fun n => (n, 1)) := by
        have h9 := owns_sl ow (by omega)
        rw [List.take_of_length_le (Nat.le_refl _)] at h9
        unfold SF
        rw [List.length_map]
        exact h9
      clear ow
      go_wp2
      go_ret
      exact ⟨u3, rfl, hsl, hW⟩
end Go.Proofs.Ytfoemacgmehpiaa

/- What is proved here: the contract of a comparison of two lists of fractions. Condition: two slices of fractions. -/
namespace Go.Proofs.Ytfoemacgmehpiaa
open Go.RowKit

theorem take_eq {xs ys : List (Int × Int)} {k : Nat} (h1 : k < xs.length) (h2 : k < ys.length) (h : xs.take k = ys.take k) (e1 : xs[k].1 = ys[k].1) (e2 : xs[k].2 = ys[k].2) : xs.take (k + 1) = ys.take (k + 1) := by
  rw [List.take_succ_eq_append_getElem h1, List.take_succ_eq_append_getElem h2, h]
  rw [Prod.ext e1 e2]
theorem take_ne {xs ys : List (Int × Int)} {k : Nat} (h1 : k < xs.length) (h2 : k < ys.length) (e : ¬ (xs[k].1 = ys[k].1 ∧ xs[k].2 = ys[k].2)) : decide (xs = ys) = false := by
  refine decide_eq_false fun h => e ?_
  subst h
  exact ⟨rfl, rfl⟩
set_option maxRecDepth 100000 in
set_option maxHeartbeats 4000000 in
theorem rsame_any (xs ys : List (Int × Int)) (u v : Value) (w : World) (hs : SF w u xs) (ht : SF w v ys) :
    Calls Try.prog 29 #[u, v] w fun e w' => e = .returned (.bool (decide (xs = ys))) ∧ Below w.heap.size w w' := by
  have hs0 := Lib.hid hs
  have ht0 := Lib.hid ht
  obtain ⟨ad, cap, rfl, h1, h2, _⟩ := hs.open
  obtain ⟨ad', cap', rfl, h1', h2', _⟩ := ht.open
  clear hs ht
  by_cases hl : xs.length = ys.length
  case neg =>
    have b1 : ((xs.length : Int) != (ys.length : Int)) = true := by simp; omega
    have HV : Hid (decide (xs = ys) = false) := decide_eq_false fun h => hl (by rw [h])
    clear hl
    go_enter Try.func29, Try.ntmps29
    go_wp2
    go_ret
    exact ⟨by rw [HV.out]; try rfl, Below.refl _ _⟩
  have b1 : ((xs.length : Int) != (ys.length : Int)) = false := by simp; omega
  have HL := Lib.hid hl
  have hl' : ys.length ≤ xs.length := by omega
  have hl'' : xs.length ≤ ys.length := by omega
  clear hl
  go_enter Try.func29, Try.ntmps29
  go_wp2
  go_loopw [5] (fun i wr => ∃ k : Nat, k ≤ xs.length ∧ i = .int .i64 k ∧ Hid (xs.take k = ys.take k) ∧ Below w.heap.size w wr) (fun i _ => xs.length - (intOf i).toNat)
  case atStart => exact ⟨0, Nat.zero_le _, rfl, rfl, Below.refl _ _⟩
  case round =>
    obtain ⟨k, hk, rfl, hv, hB⟩ := hrel
    by_cases hlt : k < xs.length
    · have hlt' : k < ys.length := by omega
      obtain ⟨_, _, e, _, _, H⟩ := (hs0.out.below hB).open
      cases e
      obtain ⟨b, off, rfl, c1, c2⟩ := H.out k hlt
      obtain ⟨_, _, e, _, _, H'⟩ := (ht0.out.below hB).open
      cases e
      obtain ⟨b', off', rfl, c1', c2'⟩ := H'.out k hlt'
      clear H H'
      have TE := Lib.hid (take_eq hlt hlt' hv.out)
      have TN := Lib.hid (take_ne hlt hlt')
      generalize xs[k].1 = n at *
      generalize xs[k].2 = d at *
      generalize ys[k].1 = n' at *
      generalize ys[k].2 = d' at *
      by_cases e1 : n = n'
      · by_cases e2 : d = d'
        · have HV := Lib.hid (TE.out e1 e2)
          subst e1 e2
          clear TE TN
          go_wp2
          go_quiet (fail)
          go_wp2
          go_roundw
          case rel => exact ⟨k + 1, by omega, by go_num, HV, bd hB _⟩
          case measure => simp [intOf]; try omega
        · have HV := Lib.hid (TN.out fun h => e2 h.2)
          have q2 : (d == d') = false := by simpa using e2
          subst e1
          clear TE TN e2
          go_wp2
          go_quiet (fail)
          go_wp2
          go_ret
          exact ⟨by rw [HV.out]; try rfl, bd hB _⟩
      · have HV := Lib.hid (TN.out fun h => e1 h.1)
        have q1 : (n == n') = false := by simpa using e1
        clear TE TN e1
        go_wp2
        go_quiet (fail)
        go_wp2
        go_ret
        exact ⟨by rw [HV.out]; try rfl, bd hB _⟩
    · have HV : Hid (decide (xs = ys) = true) := by
        have := hv.out
        have hl := HL.out
        rw [List.take_of_length_le (by omega), List.take_of_length_le (by omega)] at this
        exact decide_eq_true this
      go_wp2
      go_ret
      exact ⟨by rw [HV.out]; try rfl, hB⟩
end Go.Proofs.Ytfoemacgmehpiaa

/- What is proved here: the comparison of two equal lists of fractions gives true. Condition: two slices of the same fractions. -/
namespace Go.Proofs.Ytfoemacgmehpiaa
open Go.RowKit

theorem rsame_true (xs : List (Int × Int)) (u v : Value) (w : World) (hs : SF w u xs) (ht : SF w v xs) :
    Calls Try.prog 29 #[u, v] w fun e w' => e = .returned (.bool true) ∧ Below w.heap.size w w' :=
  (rsame_any xs xs u v w hs ht).mono fun _ _ ⟨he, hb⟩ => ⟨by rw [he, decide_eq_true rfl], hb⟩
end Go.Proofs.Ytfoemacgmehpiaa
