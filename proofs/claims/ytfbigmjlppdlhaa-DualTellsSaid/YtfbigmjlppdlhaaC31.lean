/- What is proved here: contracts of functions and plain facts, several texts in one; each one says ahead what it proves, and its conditions. -/
import Derived.Test.YtfbigmjlppdlhaaC30
import Derived.Test.YtfbigmjlppdlhaaC06
import Derived.Test.YtfbigmjlppdlhaaC15
/- What is proved here: the contracts of sparse.ready, sparse.whole and fringeref38.Check. Condition: a system whose lists can be read. -/
namespace Go.Proofs.Ytfbigmjlppdlhaa
open Go.RowKit

theorem swhole_any (n : Int) (w : World) : Calls Try.prog 75 #[.int .i64 n] w fun e w' => e = .returned (.agg #[.int .i64 n, .int .i64 1]) ∧ Below w.heap.size w w' := by
  go_enter Try.func75, Try.ntmps75
  go_wp2
  have oR := Own.new w 34 [.int .i64 n, .int .i64 1]
  have hB := ba1 w (.cells #[.int .i64 n, .int .i64 1] 34)
  refine bp_gen' (fun W => Own W _ _ _ ∧ Below w.heap.size w W) ⟨oR, hB⟩ ?_
  rintro wz ⟨oz, bz⟩
  obtain ⟨rz, fz⟩ := oz.rules
  clear oz
  refine bodyPost_ret (v := .agg #[.int .i64 n, .int .i64 1]) (by simp [results, Try.results75, go_sem, rz]) rfl ⟨rfl, ?_⟩
  exact bz
set_option maxRecDepth 100000 in
set_option maxHeartbeats 4000000 in
theorem sready_any (A : List (List Int)) (B : List Int) (c : Int) (va vb : Value) (w : World) (hA : SS w va A) (hB : SI w vb B) :
    Calls Try.prog 74 #[.agg #[va, vb], .int .i64 c] w fun e w' => e = .returned (.int .i64 (scheck A B c)) ∧ Below w.heap.size w w' := by
  go_enter Try.func74, Try.ntmps74
  have oS := Own.new w 25 [va, vb]
  have hy := ba1 w (.cells #[va, vb] 25)
  replace hA := hA.below hy
  replace hB := hB.below hy
  obtain ⟨rS, fS⟩ := oS.rules
  have zS := oS.lt
  go_wp2_with fail
  refine (ncheck_any A B _ _ _ hA hB).mono ?_
  rintro e y1 ⟨rfl, hq⟩
  clear rS fS zS
  replace oS := oS.below hq
  replace hA := hA.below hq
  replace hB := hB.below hq
  replace hy := below_to hy hq
  clear hq
  obtain ⟨rS, fS⟩ := oS.rules
  have zS := oS.lt
  by_cases h0 : ncheck A B = 0
  case neg =>
    have HV := Lib.hid (scheck_c (c := c) h0)
    have b1 : (ncheck A B != 0) = true := by simpa using h0
    clear h0 hA hB
    go_wp2
    go_ret
    exact ⟨by rw [HV.out]; try rfl, hy⟩
  have b1 : (ncheck A B != 0) = false := by simp [h0]
  by_cases h1 : c < 0
  · have HV := Lib.hid (scheck_2 h0 (.inl h1))
    have b2 : decide (c < 0) = true := by simpa using h1
    clear h0 hA hB
    go_wp2
    go_ret
    exact ⟨by rw [HV.out]; try rfl, hy⟩
  have b2 : decide (c < 0) = false := by simpa using h1
  by_cases h2 : 1000 < c
  · have HV := Lib.hid (scheck_2 h0 (.inr h2))
    have b3 : decide (1000 < c) = true := by simpa using h2
    clear h0 hA hB
    go_wp2
    go_ret
    exact ⟨by rw [HV.out]; try rfl, hy⟩
  have b3 : decide (1000 < c) = false := by simpa using h2
  have HV := Lib.hid (scheck_0 (c := c) h0 (by omega) (by omega))
  clear h0 hA hB
  go_wp2
  go_ret
  exact ⟨by rw [HV.out]; try rfl, hy⟩
set_option maxRecDepth 100000 in
set_option maxHeartbeats 4000000 in
theorem rscheck_any (A : List (List Int)) (B : List Int) (c : Int) (va vb : Value) (w : World) (hA : SS w va A) (hB : SI w vb B) :
    Calls Try.prog 76 #[.agg #[va, vb], .int .i64 c] w fun e w' => e = .returned (.int .i64 (scheck A B c)) ∧ Below w.heap.size w w' := by
  go_enter Try.func76, Try.ntmps76
  have oS := Own.new w 25 [va, vb]
  have hy := ba1 w (.cells #[va, vb] 25)
  replace hA := hA.below hy
  replace hB := hB.below hy
  obtain ⟨rS, fS⟩ := oS.rules
  have zS := oS.lt
  go_wp2_with fail
  refine (rncheck_any A B _ _ _ hA hB).mono ?_
  rintro e y1 ⟨rfl, hq⟩
  clear rS fS zS
  replace oS := oS.below hq
  replace hA := hA.below hq
  replace hB := hB.below hq
  replace hy := below_to hy hq
  clear hq
  obtain ⟨rS, fS⟩ := oS.rules
  have zS := oS.lt
  by_cases h0 : ncheck A B = 0
  case neg =>
    have HV := Lib.hid (scheck_c (c := c) h0)
    have b1 : (ncheck A B != 0) = true := by simpa using h0
    clear h0 hA hB
    go_wp2
    go_ret
    exact ⟨by rw [HV.out]; try rfl, hy⟩
  have b1 : (ncheck A B != 0) = false := by simp [h0]
  by_cases h1 : c < 0
  · have HV := Lib.hid (scheck_2 h0 (.inl h1))
    have b2 : decide (c < 0) = true := by simpa using h1
    clear h0 hA hB
    go_wp2
    go_ret
    exact ⟨by rw [HV.out]; try rfl, hy⟩
  have b2 : decide (c < 0) = false := by simpa using h1
  by_cases h2 : 1000 < c
  · have HV := Lib.hid (scheck_2 h0 (.inr h2))
    have b3 : decide (1000 < c) = true := by simpa using h2
    clear h0 hA hB
    go_wp2
    go_ret
    exact ⟨by rw [HV.out]; try rfl, hy⟩
  have b3 : decide (1000 < c) = false := by simpa using h2
  have HV := Lib.hid (scheck_0 (c := c) h0 (by omega) (by omega))
  clear h0 hA hB
  go_wp2
  go_ret
  exact ⟨by rw [HV.out]; try rfl, hy⟩
end Go.Proofs.Ytfbigmjlppdlhaa

/- What is proved here: a row of fractions of the call's own that is written over. No condition. -/
namespace Go.Proofs.Ytfbigmjlppdlhaa
open Go.RowKit

/-- A row of the call's own that is not empty, as a block. -/
theorem owns_open {w : World} {B : Nat} {T : TypeId} {u : Value} {xs : List (Int × Int)} (h : w.ownsRow B T 2 u xs.length (fcs xs)) (h0 : 0 < xs.length) :
    ∃ G cap rest, u = .slice (some ⟨G, 0, none⟩) xs.length cap ∧ B ≤ G ∧ Own w G T (fcs xs ++ rest) ∧ xs.length ≤ cap ∧ cap ≤ maxLen ∧ (fcs xs ++ rest).length = cap * 2 := by
  obtain ⟨hl, h2⟩ := h
  rcases h2 with ⟨_, h2⟩ | ⟨g, cap, cur, h3, hg, hh, h4, h5, h6, h7⟩
  · omega
  · refine ⟨g, cap, cur.toList.drop (xs.length * 2), h3, hg, ?_, h4, h5, ?_⟩
    · unfold Own; rw [hh, ← h7, List.take_append_drop]
    · rw [← h7, List.take_append_drop]; simpa using h6
theorem owns_shut {w : World} {B : Nat} {T : TypeId} {xs : List (Int × Int)} {rest : List Value} {G cap : Nat} (h : Own w G T (fcs xs ++ rest)) (hB : B ≤ G) (h4 : xs.length ≤ cap) (h5 : cap ≤ maxLen) (h6 : (fcs xs ++ rest).length = cap * 2) :
    w.ownsRow B T 2 (.slice (some ⟨G, 0, none⟩) xs.length cap) xs.length (fcs xs) :=
  ⟨fcs_len xs, .inr ⟨G, cap, (fcs xs ++ rest).toArray, rfl, hB, h, h4, h5, by simpa using h6, by rw [List.toList_toArray, ← fcs_len, List.take_left']; rfl⟩⟩
theorem fcs_at {xs : List (Int × Int)} {k : Nat} (rest : List Value) (h : k < xs.length) : (fcs xs ++ rest)[k * 2]? = some (.int .i64 xs[k].1) ∧ (fcs xs ++ rest)[k * 2 + 1]? = some (.int .i64 xs[k].2) := by
  obtain ⟨h1, h2⟩ := fcs_get xs k h
  have hl := fcs_len xs
  rw [List.getElem?_append_left (by omega), List.getElem?_append_left (by omega)]
  exact ⟨h1, h2⟩
theorem fcs_put {xs : List (Int × Int)} {k : Nat} (rest : List Value) (h : k < xs.length) (p : Int × Int) : ((fcs xs ++ rest).set (k * 2) (.int .i64 p.1)).set (k * 2 + 1) (.int .i64 p.2) = fcs (xs.set k p) ++ rest := by
  have hl := fcs_len xs
  rw [List.set_append_left _ _ (by omega), List.set_append_left _ _ (by rw [List.length_set]; omega), fcs_set]
/-- A row that is written over from the left. -/
theorem over_set {rs g : List (Int × Int)} {m : Nat} (p : Int × Int) (h : rs.length = m) (hm : m < g.length) : (rs ++ g.drop m).set m p = (rs ++ [p]) ++ g.drop (m + 1) := by
  rw [List.set_append_right _ _ (by omega), h, Nat.sub_self, List.drop_eq_getElem_cons hm, List.set_cons_zero, List.append_assoc]
  rfl
theorem over_get {rs g : List (Int × Int)} {m : Nat} (h : rs.length = m) (hm : m < g.length) : (rs ++ g.drop m)[m]'(by simp; omega) = g[m] := by
  rw [List.getElem_append_right (by omega)]
  simp [h]
theorem over_len {rs g : List (Int × Int)} {m : Nat} (h : rs.length = m) (hm : m ≤ g.length) : (rs ++ g.drop m).length = g.length := by simp; omega
end Go.Proofs.Ytfbigmjlppdlhaa
