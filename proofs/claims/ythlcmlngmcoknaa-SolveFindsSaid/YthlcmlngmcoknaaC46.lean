/- What is proved here: contracts of functions and plain facts, several texts in one; each one says ahead what it proves, and its conditions. -/
import Derived.Test.YthlcmlngmcoknaaC20
import Derived.Test.YthlcmlngmcoknaaC24
import Derived.Test.YthlcmlngmcoknaaC45
import Derived.Test.YthlcmlngmcoknaaC17
/- What is proved here: rows of fractions in memory, each in a block of its own, and a list of them: made by appends, reading, storing, and two rows changing places. No condition. -/
namespace Go.Proofs.Ythlcmlngmcoknaa
open Go.RowKit

def RowsQ (w : World) (B : Nat) (Ti Tr : TypeId) (ov : Value) (k : Nat) (R : Nat → List (Int × Int)) (vs : List Value) : Prop :=
  w.ownsRow B Tr 1 ov k vs ∧ ∀ i, i < k → ∃ u, vs[i]? = some u ∧ w.ownsRow B Ti 2 u (R i).length (fcs (R i)) ∧ Apart u ov ∧ ∀ j, j < i → ∀ u', vs[j]? = some u' → Apart u' u
theorem rowsQ_nil (w : World) (B : Nat) (Ti Tr : TypeId) (R : Nat → List (Int × Int)) : RowsQ w B Ti Tr (.slice none 0 0) 0 R [] := ⟨World.ownsRow_nil _ _ _ _, fun i h => absurd h (Nat.not_lt_zero _)⟩
theorem RowsQ.below {w w' : World} {B : Nat} {Ti Tr : TypeId} {ov : Value} {k : Nat} {R : Nat → List (Int × Int)} {vs : List Value} (h : RowsQ w B Ti Tr ov k R vs) (hb : Below w.heap.size w w') : RowsQ w' B Ti Tr ov k R vs :=
  ⟨owns_at h.1 hb, fun i hi => by obtain ⟨u, h1, h2, h3⟩ := h.2 i hi; exact ⟨u, h1, owns_at h2 hb, h3⟩⟩
theorem RowsQ.mono {w : World} {B B' : Nat} {Ti Tr : TypeId} {ov : Value} {k : Nat} {R : Nat → List (Int × Int)} {vs : List Value} (h : RowsQ w B Ti Tr ov k R vs) (hb : B' ≤ B) : RowsQ w B' Ti Tr ov k R vs :=
  ⟨owns_mono h.1 hb, fun i hi => by obtain ⟨u, h1, h2, h3⟩ := h.2 i hi; exact ⟨u, h1, owns_mono h2 hb, h3⟩⟩
/-- One more row. -/
theorem RowsQ.push {Y0 W w2 : World} {B : Nat} {Ti Tr : TypeId} {ov rv : Value} {k g cap : Nat} {R : Nat → List (Int × Int)} {vs : List Value} (h0 : RowsQ Y0 B Ti Tr ov k R vs) (hB : B ≤ Y0.heap.size) (hb : Below Y0.heap.size Y0 W)
    (hr : W.ownsRow Y0.heap.size Ti 2 rv (R k).length (fcs (R k))) (hown : w2.ownsRow B Tr 1 (.slice (some ⟨g, 0, none⟩) (k + 1) cap) (k + 1) (vs ++ [rv])) (hk : Keep B W w2 ov g) :
    RowsQ w2 B Ti Tr (.slice (some ⟨g, 0, none⟩) (k + 1) cap) (k + 1) R (vs ++ [rv]) := by
  have hl : vs.length = k := by have := h0.1.1; omega
  have aov : Apart rv ov := (apart_new h0.1 hr).symm
  have hr' := owns_mono hr hB
  refine ⟨hown, fun i hi => ?_⟩
  rcases Nat.lt_or_ge i k with h1 | h1
  · obtain ⟨u, e1, e2, e3, e4⟩ := h0.2 i h1
    have e2' := owns_at e2 hb
    refine ⟨u, by rw [List.getElem?_append_left (by omega)]; exact e1, hk.row e2' e3, hk.apart e2' e3 _ _, fun j hj u' hu' => ?_⟩
    rw [List.getElem?_append_left (by omega)] at hu'
    exact e4 j hj u' hu'
  · obtain rfl : i = k := by omega
    refine ⟨rv, by rw [List.getElem?_append_right (by omega), hl]; simp, hk.row hr' aov, hk.apart hr' aov _ _, fun j hj u' hu' => ?_⟩
    rw [List.getElem?_append_left (by omega)] at hu'
    obtain ⟨u, e1, e2, _, _⟩ := h0.2 j hj
    rw [e1] at hu'
    cases hu'
    exact apart_new e2 hr

/-- A row of a matrix as fractions. -/
def mrq (M : Nat → Nat → Rat) (W i : Nat) : List (Int × Int) := (List.range W).map fun j => up (M i j)
theorem mrq_len (M : Nat → Nat → Rat) (W i : Nat) : (mrq M W i).length = W := by simp [mrq]
theorem mrq_get {M : Nat → Nat → Rat} {W i j : Nat} (hj : j < W) : (mrq M W i)[j]? = some (up (M i j)) := by
  unfold mrq; rw [List.getElem?_map, List.getElem?_range hj]; rfl
structure MatQ (w : World) (B Lm g : Nat) (Tr Ti : TypeId) (rest : List Value) (bb cp : Nat → Nat) (ex : Nat → List Value) (n W : Nat) (M : Nat → Nat → Rat) : Prop where
  out : Own w g Tr (mout bb cp n W ++ rest)
  base : B ≤ g ∧ g < Lm
  row : ∀ i, i < n → Own w (bb i) Ti (fcs (mrq M W i) ++ ex i)
  blk : ∀ i, i < n → B ≤ bb i ∧ bb i ≠ g ∧ W ≤ cp i ∧ bb i < Lm
  inj : ∀ i j, i < n → j < n → bb i = bb j → i = j
section
variable {w w' : World} {B Lm g : Nat} {Tr Ti : TypeId} {rest : List Value} {bb cp : Nat → Nat} {ex : Nat → List Value} {n W : Nat} {M : Nat → Nat → Rat}
theorem MatQ.cell_out (h : MatQ w B Lm g Tr Ti rest bb cp ex n W M) {i : Nat} (hi : i < n) : w.cell? ⟨g, i, none⟩ = some (.slice (some ⟨bb i, 0, none⟩) W (cp i)) := by
  have hl : i < (mout bb cp n W ++ rest).length := by rw [List.length_append, mout_len]; omega
  rw [h.out.cell i hl]
  congr 1
  rw [List.getElem_append_left (by rw [mout_len]; exact hi)]
  simp [mout]
theorem MatQ.cell_at (h : MatQ w B Lm g Tr Ti rest bb cp ex n W M) {i j : Nat} (hi : i < n) (hj : j < W) :
    w.cell? ⟨bb i, j * 2, none⟩ = some (.int .i64 (up (M i j)).1) ∧ w.cell? ⟨bb i, j * 2 + 1, none⟩ = some (.int .i64 (up (M i j)).2) := by
  have hf : (fcs (mrq M W i)).length = W * 2 := by rw [fcs_len, mrq_len]
  have hj' : j < (mrq M W i).length := by rw [mrq_len]; exact hj
  obtain ⟨g1, g2⟩ := fcs_get (mrq M W i) j hj'
  have e : (mrq M W i)[j] = up (M i j) := by
    have := mrq_get (M := M) (i := i) hj
    rw [List.getElem?_eq_getElem hj'] at this
    exact Option.some.inj this
  rw [e] at g1 g2
  have cellk : ∀ k v, k < W * 2 → (fcs (mrq M W i))[k]? = some v → w.cell? ⟨bb i, k, none⟩ = some v := fun k v hk hv => by
    rw [(h.row i hi).cell k (by rw [List.length_append]; omega)]
    rw [List.getElem_append_left (by omega)]
    rw [List.getElem?_eq_getElem (by omega)] at hv
    exact hv
  exact ⟨cellk _ _ (by omega) g1, cellk _ _ (by omega) g2⟩
theorem MatQ.free_out (h : MatQ w B Lm g Tr Ti rest bb cp ex n W M) (k : Nat) : w.frozen? ⟨g, k, none⟩ = false := h.out.free k
theorem MatQ.free_at (h : MatQ w B Lm g Tr Ti rest bb cp ex n W M) {i : Nat} (hi : i < n) (k : Nat) : w.frozen? ⟨bb i, k, none⟩ = false := (h.row i hi).free k
theorem MatQ.below (h : MatQ w B Lm g Tr Ti rest bb cp ex n W M) (hb : Below w.heap.size w w') : MatQ w' B Lm g Tr Ti rest bb cp ex n W M :=
  ⟨h.out.below hb, h.base, fun i hi => (h.row i hi).below hb, h.blk, h.inj⟩
theorem MatQ.at {B' : Nat} (h : MatQ w B Lm g Tr Ti rest bb cp ex n W M) (hb : Below B' w w') (hL : Lm ≤ B') : MatQ w' B Lm g Tr Ti rest bb cp ex n W M :=
  ⟨h.out.at hb (by have := h.base; omega), h.base, fun i hi => (h.row i hi).at hb (by have := h.blk i hi; omega), h.blk, h.inj⟩
theorem MatQ.other (h : MatQ w B Lm g Tr Ti rest bb cp ex n W M) {b : Nat} (hb : Lm ≤ b) (k : Nat) (v : Value) : MatQ (w.setCell ⟨b, k, none⟩ v) B Lm g Tr Ti rest bb cp ex n W M :=
  ⟨h.out.other (by have := h.base; omega) k v, h.base, fun i hi => (h.row i hi).other (by have := h.blk i hi; omega) k v, h.blk, h.inj⟩
theorem MatQ.congr {M' : Nat → Nat → Rat} (h : MatQ w B Lm g Tr Ti rest bb cp ex n W M) (e : ∀ i j, i < n → j < W → M i j = M' i j) : MatQ w B Lm g Tr Ti rest bb cp ex n W M' :=
  ⟨h.out, h.base, fun i hi => by
    have : mrq M W i = mrq M' W i := List.map_congr_left fun j hj => by rw [e i j hi (List.mem_range.1 hj)]
    rw [← this]; exact h.row i hi, h.blk, h.inj⟩
def mputq (M : Nat → Nat → Rat) (i j : Nat) (z : Rat) (r c : Nat) : Rat := if r = i ∧ c = j then z else M r c
theorem MatQ.put (h : MatQ w B Lm g Tr Ti rest bb cp ex n W M) {i j : Nat} (hi : i < n) (hj : j < W) (z : Rat) :
    MatQ ((w.setCell ⟨bb i, j * 2, none⟩ (.int .i64 (up z).1)).setCell ⟨bb i, j * 2 + 1, none⟩ (.int .i64 (up z).2)) B Lm g Tr Ti rest bb cp ex n W (mputq M i j z) :=
  ⟨(h.out.other (by have := h.blk i hi; omega) _ _).other (by have := h.blk i hi; omega) _ _, h.base, fun r hr => by
    by_cases hri : r = i
    · subst hri
      have hf : (fcs (mrq M W r)).length = W * 2 := by rw [fcs_len, mrq_len]
      have := ((h.row r hr).set (j * 2) (.int .i64 (up z).1)).set (j * 2 + 1) (.int .i64 (up z).2)
      rw [List.set_append_left _ _ (by omega), List.set_append_left _ _ (by rw [List.length_set]; omega)] at this
      rw [fcs_set (mrq M W r) j (up z)] at this
      have e : (mrq M W r).set j (up z) = mrq (mputq M r j z) W r := by
        refine List.ext_getElem? fun c => ?_
        rw [List.getElem?_set]
        by_cases hc : c < W
        · rw [mrq_get hc, mrq_get hc]
          by_cases hjc : j = c
          · subst hjc
            rw [if_pos rfl, if_pos (by rw [mrq_len]; exact hc)]
            unfold mputq; rw [if_pos ⟨rfl, rfl⟩]
          · rw [if_neg hjc]
            unfold mputq; rw [if_neg (fun h' => hjc h'.2.symm)]
        · have : ¬ j = c := by omega
          rw [if_neg this, List.getElem?_eq_none (by rw [mrq_len]; omega), List.getElem?_eq_none (by rw [mrq_len]; omega)]
      rw [e] at this
      exact this
    · have e : mrq (mputq M i j z) W r = mrq M W r := List.map_congr_left fun c _ => by unfold mputq; rw [if_neg (fun h' => hri h'.1)]
      rw [e]
      exact ((h.row r hr).other (fun e' => hri (h.inj r i hr hi e')) _ _).other (fun e' => hri (h.inj r i hr hi e')) _ _, h.blk, h.inj⟩
/-- Two rows change places. -/
theorem MatQ.swap (h : MatQ w B Lm g Tr Ti rest bb cp ex n W M) {a b : Nat} (ha : a < n) (hb : b < n) :
    MatQ ((w.setCell ⟨g, a, none⟩ (.slice (some ⟨bb b, 0, none⟩) W (cp b))).setCell ⟨g, b, none⟩ (.slice (some ⟨bb a, 0, none⟩) W (cp a))) B Lm g Tr Ti rest (fun i => bb (swi a b i)) (fun i => cp (swi a b i)) (fun i => ex (swi a b i)) n W (fun i => M (swi a b i)) := by
  refine ⟨?_, h.base, fun i hi => ?_, fun i hi => h.blk _ (swi_lt ha hb hi), fun i j hi hj e => ?_⟩
  · have := (h.out.set a (.slice (some ⟨bb b, 0, none⟩) W (cp b))).set b (.slice (some ⟨bb a, 0, none⟩) W (cp a))
    rw [List.set_append_left _ _ (by rw [mout_len]; exact ha), List.set_append_left _ _ (by rw [List.length_set, mout_len]; exact hb)] at this
    have e : ((mout bb cp n W).set a (.slice (some ⟨bb b, 0, none⟩) W (cp b))).set b (.slice (some ⟨bb a, 0, none⟩) W (cp a)) = mout (fun i => bb (swi a b i)) (fun i => cp (swi a b i)) n W := by
      refine List.ext_getElem? fun c => ?_
      rw [List.getElem?_set, List.getElem?_set, List.length_set, mout_len]
      by_cases hc : c < n
      · have e0 : (mout (fun i => bb (swi a b i)) (fun i => cp (swi a b i)) n W)[c]? = some (.slice (some ⟨bb (swi a b c), 0, none⟩) W (cp (swi a b c))) := by simp [mout, hc]
        rw [e0]
        unfold swi
        by_cases h1 : b = c
        · subst h1
          rw [if_pos rfl, if_pos hb]
          by_cases h2 : b = a
          · subst h2; rw [if_pos rfl]
          · rw [if_neg h2, if_pos rfl]
        · rw [if_neg h1]
          by_cases h2 : a = c
          · subst h2; rw [if_pos rfl, if_pos ha, if_pos rfl]
          · have h1' : ¬ c = b := fun e => h1 e.symm
            have h2' : ¬ c = a := fun e => h2 e.symm
            rw [if_neg h2, if_neg h2', if_neg h1']
            simp [mout, hc]
      · rw [if_neg (by omega), if_neg (by omega), List.getElem?_eq_none (by rw [mout_len]; omega), List.getElem?_eq_none (by rw [mout_len]; omega)]
    rw [e] at this
    exact this
  · have hs := swi_lt ha hb hi
    have hne := (h.blk _ hs).2.1
    exact ((h.row _ hs).other hne a _).other hne b _
  · have := h.inj _ _ (swi_lt ha hb hi) (swi_lt ha hb hj) e
    rw [← swi_swi a b i, ← swi_swi a b j, this]
end
theorem owns_openF {w : World} {B n : Nat} {T : TypeId} {v : Value} {cs : List Value} (h : w.ownsRow B T 2 v n cs) (hn : 1 ≤ n) : ∃ g cap rest, v = .slice (some ⟨g, 0, none⟩) n cap ∧ n ≤ cap ∧ B ≤ g ∧ Own w g T (cs ++ rest) := by
  obtain ⟨h1, h2⟩ := h
  rcases h2 with ⟨_, h3⟩ | ⟨g, cap, cur, e, hb, hh, hc, _, hs, ht⟩
  · omega
  · refine ⟨g, cap, cur.toList.drop (n * 2), e, hc, hb, ?_⟩
    unfold Own
    rw [hh]
    rw [← ht, List.take_append_drop]
/-- Rows in memory as a matrix. -/
theorem rows_matq {w : World} {B : Nat} {Ti Tr : TypeId} {ov : Value} {n mw : Nat} {M : Nat → Nat → Rat} {R : Nat → List (Int × Int)} {vs : List Value} (h : RowsQ w B Ti Tr ov n R vs) (hn : 1 ≤ n) (hm : 1 ≤ mw) (hR : ∀ i, i < n → R i = mrq M mw i) :
    ∃ g cap rest bb cp ex, ov = .slice (some ⟨g, 0, none⟩) n cap ∧ n ≤ cap ∧ MatQ w B w.heap.size g Tr Ti rest bb cp ex n mw M := by
  obtain ⟨g, cap, rest, e, hc, hb, ho⟩ := owns_openR h.1 hn
  have hl : vs.length = n := by have := h.1.1; omega
  have key : ∀ i : Nat, ∃ z : Nat × Nat × List Value, i < n → vs[i]? = some (.slice (some ⟨z.1, 0, none⟩) mw z.2.1) ∧ B ≤ z.1 ∧ z.1 ≠ g ∧ mw ≤ z.2.1 ∧ Own w z.1 Ti (fcs (R i) ++ z.2.2) ∧ ∀ j, j < i → ∀ u', vs[j]? = some u' → u'.ownBlock ≠ some z.1 := fun i => by
    by_cases hi : i < n
    · obtain ⟨u, e1, e2, e3, e4⟩ := h.2 i hi
      have hRl : (R i).length = mw := by rw [hR i hi, mrq_len]
      rw [hRl] at e2
      obtain ⟨b, c, r, eu, h1, h2, h3⟩ := owns_openF e2 hm
      refine ⟨(b, c, r), fun _ => ⟨by rw [e1, eu], h2, fun hbg => ?_, h1, h3, fun j hj u' hu' hc' => ?_⟩⟩
      · exact e3 b (by rw [eu]; rfl) (by rw [e, ← hbg]; rfl)
      · exact e4 j hj u' hu' b hc' (by rw [eu]; rfl)
    · exact ⟨(0, 0, []), fun h => absurd h hi⟩
  obtain ⟨Z, hZ⟩ := Classical.axiomOfChoice key
  refine ⟨g, cap, rest, fun i => (Z i).1, fun i => (Z i).2.1, fun i => (Z i).2.2, e, hc, ?_⟩
  have hvs : vs = mout (fun i => (Z i).1) (fun i => (Z i).2.1) n mw := by
    refine List.ext_getElem? fun i => ?_
    rcases Nat.lt_or_ge i n with hi | hi
    · rw [(hZ i hi).1]; simp [mout, hi]
    · rw [List.getElem?_eq_none (by omega), List.getElem?_eq_none (by rw [mout_len]; omega)]
  refine ⟨by rw [← hvs]; exact ho, ⟨hb, ho.lt⟩, fun i hi => ?_, fun i hi => ?_, fun i j hi hj eb => ?_⟩
  · have := (hZ i hi).2.2.2.2.1
    rw [hR i hi] at this
    exact this
  · have := hZ i hi
    exact ⟨this.2.1, this.2.2.1, this.2.2.2.1, this.2.2.2.2.1.lt⟩
  · apply Classical.byContradiction
    intro hne
    rcases Nat.lt_or_ge i j with h1 | h1
    · exact (hZ j hj).2.2.2.2.2 i h1 _ (hZ i hi).1 (by simp only [Value.ownBlock]; rw [eb])
    · exact (hZ i hi).2.2.2.2.2 j (by omega) _ (hZ j hj).1 (by simp only [Value.ownBlock]; rw [eb])
end Go.Proofs.Ythlcmlngmcoknaa

/- What is proved here: the contract of the reference's Widened of layer 29: rows of whole fractions, each in a block of its own. Condition: short lists that can be read. -/
namespace Go.Proofs.Ythlcmlngmcoknaa
open Go.RowKit

theorem wfrow_info : (Try.prog.info? 28).map (fun i => (i.zero, i.size, i.bytes)) = some (some (.slice none 0 0), 1, 24) := by kernel_rfl
def wfr (l : List Int) : List (Int × Int) := l.map fun z => (z, 1)
theorem wfr_len (l : List Int) : (wfr l).length = l.length := by simp [wfr]
theorem wfr_app (l : List Int) (z : Int) : fcs (wfr (l ++ [z])) = fcs (wfr l) ++ [.int .i64 z, .int .i64 1] := by
  unfold wfr; rw [List.map_append, fcs_append]; rfl
/-- The rows of a system as fractions. -/
def wR (A : List (List Int)) (B : List Int) (i : Nat) : List (Int × Int) := wfr (dR A B i)
def wide_post (w : World) (n : Nat) (R : Nat → List (Int × Int)) (e : Ending) (w' : World) : Prop := ∃ u vs, e = .returned u ∧ RowsQ w' w.heap.size 78 28 u n R vs ∧ Below w.heap.size w w'
set_option maxRecDepth 100000 in
set_option maxHeartbeats 16000000 in
theorem rwide_any (A : List (List Int)) (B : List Int) (va vb : Value) (w : World) (hA : SS w va A) (hB : SI w vb B) (hl : B.length = A.length) (h6 : A.length ≤ 100) (hr : ∀ i (h : i < A.length), A[i].length ≤ 100) :
    Calls Try.prog 66 #[va, vb] w (wide_post w A.length (wR A B)) := by
  have BL := Lib.hid hl
  have RL0 := Lib.hid hr
  clear hl hr
  obtain ⟨ada, capa, rfl, ha1, ha2, _⟩ := hA.open
  obtain ⟨adb, capb, rfl, hb1, hb2, _⟩ := hB.open
  have SA := Lib.hid hA
  have SB2 := Lib.hid hB
  clear hA hB
  go_enter Try.func66, Try.ntmps66
  go_wp2
  go_loopw [5, 6] (fun av i wr => ∃ k : Nat, k ≤ A.length ∧ i = .int .i64 k ∧ (∃ vs, RowsQ wr w.heap.size 78 28 av k (wR A B) vs) ∧ Below w.heap.size w wr) (fun _ i _ => A.length + 1 - (intOf i).toNat)
  case atStart => exact ⟨0, Nat.zero_le _, rfl, ⟨[], rowsQ_nil _ _ _ _ _⟩, Below.refl _ _⟩
  case round =>
    obtain ⟨k, hk, rfl, ⟨vs, RA⟩, hC⟩ := hrel
    rename World => W
    obtain ⟨ad4, cap4, e4⟩ := oslice RA.1
    subst e4
    by_cases hlt : k < A.length
    · obtain ⟨_, _, e, _, _, H⟩ := (SA.out.below hC).open
      cases e
      obtain ⟨b, off, ad', cap', e, c1, c2, c3, s1⟩ := H.out k hlt
      subst e
      have RK : Hid (wR A B k = wfr (A[k] ++ [B.getD k 0])) := by show _ = _; unfold wR dR; rw [getD_get hlt]
      have hkB : k < B.length := by rw [BL.out]; exact hlt
      have BK := Lib.hid (getD_get (d := (0 : Int)) hkB)
      have RL := RL0.out k hlt
      have S1 := Lib.hid s1
      have C1 := Lib.hid c1
      clear s1 H
      generalize A[k] = row at *
      have zb := World.block_lt_of_cell? _ _ c1
      simp only at zb
      go_wp2
      clear c1
      go_loopw [7, 8] (fun cv i wr => ∃ q : Nat, q ≤ row.length ∧ i = .int .i64 q ∧ wr.ownsRow W.heap.size 78 2 cv q (fcs (wfr (row.take q))) ∧ Below W.heap.size W wr) (fun _ i _ => row.length + 1 - (intOf i).toNat)
      case atStart => exact ⟨0, Nat.zero_le _, rfl, World.ownsRow_nil _ _ _ _, Below.refl _ _⟩
      case round =>
        obtain ⟨q, hq, rfl, og, hD⟩ := hrel
        rename World => Y
        have c1 := below_cell hD C1.out
        have zb2 := World.block_lt_of_cell? _ _ c1
        simp only at zb2
        by_cases hql : q < row.length
        · obtain ⟨_, _, e, _, _, HR⟩ := (S1.out.below hD).open
          cases e
          obtain ⟨b3, off3, e, c4⟩ := HR.out q hql
          subst e
          clear HR
          have OT : Hid (row.take (q + 1) = row.take q ++ [row[q]]) := List.take_succ_eq_append_getElem hql
          generalize row[q] = z at *
          go_wp2_with fail
          refine (rof_any z _).mono ?_
          rintro e y1 ⟨rfl, hq1⟩
          have og2 := owns_at og hq1
          have hD2 := below_to hD hq1
          have zD := hD2.size
          clear og hD hq1 c1 c4 zb2
          go_wp2_with (at_builtin; refine wpList_app _ rfl _ _ _ rfl W.heap.size 78 2 16 (.agg #[.int .i64 0, .int .i64 0]) Try.underlying28 Try.infoFrac rfl (by omega) (by omega) _ q _ rfl (og2.alloc _) (by omega) (by simp; omega) y1.heap.size [.int .i64 z, .int .i64 1] (0, 0) rfl (heap_alloc_new y1 _) rfl (by simp [Value.oneCell']) ?_; intro g cap2 w2 hown hg hbw)
          go_roundw
          case rel =>
            refine ⟨q + 1, by omega, by go_num, ?_, ?_⟩
            · rw [OT.out, wfr_app]; exact hown
            · exact (below_to hD2 (ba1 y1 _)).trans (hbw.mono (Nat.le_refl _))
          case measure => simp [intOf]; try omega
        · obtain rfl : q = row.length := by omega
          rw [List.take_of_length_le (Nat.le_refl _)] at og
          obtain ⟨adr, capr, e7⟩ := oslice og
          subst e7
          obtain ⟨_, _, e, _, _, HB⟩ := (SB2.out.below (below_to hC hD)).open
          cases e
          obtain ⟨b2, off2, e, c5⟩ := HB.out k hkB
          subst e
          rw [← BK.out] at c5
          clear HB
          have RK2 := RK.out
          generalize B.getD k 0 = bk at *
          have zC := hC.size
          go_wp2_with fail
          refine (rof_any bk _).mono ?_
          rintro e Y1 ⟨rfl, hq1⟩
          replace og := owns_at og hq1
          replace hD := below_to hD hq1
          clear hq1 c1 c5 zb2
          have zD := hD.size
          go_wp2_with (at_builtin; first
            | (refine wpList_app _ rfl _ _ _ rfl W.heap.size 78 2 16 (.agg #[.int .i64 0, .int .i64 0]) Try.underlying28 Try.infoFrac rfl (by omega) (by omega) (.slice adr row.length capr) _ _ rfl (og.alloc _) (by omega) (by simp; omega) Y1.heap.size [.int .i64 bk, .int .i64 1] (0, 0) rfl (heap_alloc_new Y1 _) rfl (by simp [Value.oneCell']) ?_; intro g cap2 w2 hown hg hbw; have hW2 := (below_to hD (ba1 Y1 (.cells #[.int .i64 bk, .int .i64 1] 78))).trans (hbw.mono (Nat.le_refl _)); have hW3 := below_to hW2 (ba1 w2 (.cells #[.slice (some ⟨g, 0, none⟩) (row.length + 1) cap2] 28)); have zW3 := hW3.size)
            | (refine wpList_app3 _ rfl _ _ _ rfl w.heap.size 28 1 24 (.slice none 0 0) Try.underlying29 wfrow_info rfl (by omega) (by omega) _ k vs rfl (RA.below hW3).1 (by omega) (by omega) w2.heap.size [.slice (some ⟨g, 0, none⟩) (row.length + 1) cap2] (0, 0) rfl (heap_alloc_new w2 _) rfl (by simp [Value.oneCell']) ?_; intro g3 cap3 w3 hown3 hg3 hbw3 hk3))
          have OG' : (w2.alloc (.cells #[.slice (some ⟨g, 0, none⟩) (row.length + 1) cap2] 28)).ownsRow W.heap.size 78 2 (.slice (some ⟨g, 0, none⟩) (row.length + 1) cap2) (wR A B k).length (fcs (wR A B k)) := by
            rw [RK2, wfr_len, List.length_append, wfr_app]; exact owns_at hown (ba1 w2 _)
          have RA3 := RA.push zC hW3 OG' hown3 hk3
          have hE := (below_to hC hW3).trans (hbw3.mono (Nat.le_refl _))
          clear RA hown hown3 hk3 hbw3 OG' hW3 hW2 hbw hD hC og
          go_roundw
          case rel => exact ⟨k + 1, by omega, by go_num, ⟨_, RA3⟩, hE⟩
          case measure => simp [intOf]; try omega
    · obtain rfl : k = A.length := by omega
      go_wp2
      go_ret
      exact ⟨_, _, rfl, RA, hC⟩
end Go.Proofs.Ythlcmlngmcoknaa
