/- What is proved here: contracts of functions and plain facts, several texts in one; each one says ahead what it proves, and its conditions. -/
import Derived.Test.YthlcmlngmcoknaaC36
import Derived.Test.YthlcmlngmcoknaaC02
import Derived.Test.YthlcmlngmcoknaaC01
/- What is proved here: rows of whole numbers in memory, each in a block of its own, and a list of them: reading, storing, and two rows changing places. No condition. -/
namespace Go.Proofs.Ythlcmlngmcoknaa
open Go.RowKit

def mrc (M : Nat → Nat → Int) (W i : Nat) : List Value := (List.range W).map fun j => .int .i64 (M i j)
def mout (bb cp : Nat → Nat) (n W : Nat) : List Value := (List.range n).map fun i => .slice (some ⟨bb i, 0, none⟩) W (cp i)
theorem mrc_len (M : Nat → Nat → Int) (W i : Nat) : (mrc M W i).length = W := by simp [mrc]
theorem mout_len (bb cp : Nat → Nat) (n W : Nat) : (mout bb cp n W).length = n := by simp [mout]
structure MatO (w : World) (B Lm g : Nat) (Tr Ti : TypeId) (rest : List Value) (bb cp : Nat → Nat) (ex : Nat → List Value) (n W : Nat) (M : Nat → Nat → Int) : Prop where
  out : Own w g Tr (mout bb cp n W ++ rest)
  base : B ≤ g ∧ g < Lm
  row : ∀ i, i < n → Own w (bb i) Ti (mrc M W i ++ ex i)
  blk : ∀ i, i < n → B ≤ bb i ∧ bb i ≠ g ∧ W ≤ cp i ∧ bb i < Lm
  inj : ∀ i j, i < n → j < n → bb i = bb j → i = j
section
variable {w w' : World} {B Lm g : Nat} {Tr Ti : TypeId} {rest : List Value} {bb cp : Nat → Nat} {ex : Nat → List Value} {n W : Nat} {M : Nat → Nat → Int}
theorem MatO.cell_out (h : MatO w B Lm g Tr Ti rest bb cp ex n W M) {i : Nat} (hi : i < n) : w.cell? ⟨g, i, none⟩ = some (.slice (some ⟨bb i, 0, none⟩) W (cp i)) := by
  have hl : i < (mout bb cp n W ++ rest).length := by rw [List.length_append, mout_len]; omega
  rw [h.out.cell i hl]
  congr 1
  rw [List.getElem_append_left (by rw [mout_len]; exact hi)]
  simp [mout]
theorem MatO.cell_at (h : MatO w B Lm g Tr Ti rest bb cp ex n W M) {i j : Nat} (hi : i < n) (hj : j < W) : w.cell? ⟨bb i, j, none⟩ = some (.int .i64 (M i j)) := by
  have hl : j < (mrc M W i ++ ex i).length := by rw [List.length_append, mrc_len]; omega
  rw [(h.row i hi).cell j hl]
  congr 1
  rw [List.getElem_append_left (by rw [mrc_len]; exact hj)]
  simp [mrc]
theorem MatO.free_out (h : MatO w B Lm g Tr Ti rest bb cp ex n W M) (k : Nat) : w.frozen? ⟨g, k, none⟩ = false := h.out.free k
theorem MatO.free_at (h : MatO w B Lm g Tr Ti rest bb cp ex n W M) {i : Nat} (hi : i < n) (k : Nat) : w.frozen? ⟨bb i, k, none⟩ = false := (h.row i hi).free k
theorem MatO.below (h : MatO w B Lm g Tr Ti rest bb cp ex n W M) (hb : Below w.heap.size w w') : MatO w' B Lm g Tr Ti rest bb cp ex n W M :=
  ⟨h.out.below hb, h.base, fun i hi => (h.row i hi).below hb, h.blk, h.inj⟩
theorem MatO.other (h : MatO w B Lm g Tr Ti rest bb cp ex n W M) {b : Nat} (hb : Lm ≤ b) (k : Nat) (v : Value) : MatO (w.setCell ⟨b, k, none⟩ v) B Lm g Tr Ti rest bb cp ex n W M :=
  ⟨h.out.other (by have := h.base; omega) k v, h.base, fun i hi => (h.row i hi).other (by have := h.blk i hi; omega) k v, h.blk, h.inj⟩
theorem MatO.congr {M' : Nat → Nat → Int} (h : MatO w B Lm g Tr Ti rest bb cp ex n W M) (e : ∀ i j, i < n → j < W → M i j = M' i j) : MatO w B Lm g Tr Ti rest bb cp ex n W M' :=
  ⟨h.out, h.base, fun i hi => by
    have : mrc M W i = mrc M' W i := List.map_congr_left fun j hj => by rw [e i j hi (List.mem_range.1 hj)]
    rw [← this]; exact h.row i hi, h.blk, h.inj⟩
def mput (M : Nat → Nat → Int) (i j : Nat) (z : Int) (r c : Nat) : Int := if r = i ∧ c = j then z else M r c
theorem MatO.put (h : MatO w B Lm g Tr Ti rest bb cp ex n W M) {i j : Nat} (hi : i < n) (hj : j < W) (z : Int) : MatO (w.setCell ⟨bb i, j, none⟩ (.int .i64 z)) B Lm g Tr Ti rest bb cp ex n W (mput M i j z) :=
  ⟨h.out.other (by have := h.blk i hi; omega) j _, h.base, fun r hr => by
    by_cases hri : r = i
    · subst hri
      have := (h.row r hr).set j (.int .i64 z)
      rw [List.set_append_left _ _ (by rw [mrc_len]; exact hj)] at this
      have e : (mrc M W r).set j (.int .i64 z) = mrc (mput M r j z) W r := by
        refine List.ext_getElem? fun c => ?_
        rw [List.getElem?_set]
        by_cases hc : c < W
        · by_cases hjc : j = c
          · subst hjc
            rw [if_pos rfl, if_pos (by rw [mrc_len]; exact hc)]
            simp [mrc, mput, hc]
          · rw [if_neg hjc]
            have hcj : ¬ c = j := fun e => hjc e.symm
            simp [mrc, mput, hc, hcj]
        · have : ¬ j = c := by omega
          rw [if_neg this, List.getElem?_eq_none (by rw [mrc_len]; omega), List.getElem?_eq_none (by rw [mrc_len]; omega)]
      rw [e] at this
      exact this
    · have e : mrc (mput M i j z) W r = mrc M W r := List.map_congr_left fun c _ => by unfold mput; rw [if_neg (fun h' => hri h'.1)]
      rw [e]
      exact (h.row r hr).other (fun e' => hri (h.inj r i hr hi e')) j _, h.blk, h.inj⟩
/-- Two rows change places. -/
theorem MatO.swap (h : MatO w B Lm g Tr Ti rest bb cp ex n W M) {a b : Nat} (ha : a < n) (hb : b < n) :
    MatO ((w.setCell ⟨g, a, none⟩ (.slice (some ⟨bb b, 0, none⟩) W (cp b))).setCell ⟨g, b, none⟩ (.slice (some ⟨bb a, 0, none⟩) W (cp a))) B Lm g Tr Ti rest (fun i => bb (swi a b i)) (fun i => cp (swi a b i)) (fun i => ex (swi a b i)) n W (fun i => M (swi a b i)) := by
  refine ⟨?_, h.base, fun i hi => ?_, fun i hi => h.blk _ (swi_lt ha hb hi), fun i j hi hj e => ?_⟩
  · have := (h.out.set a (.slice (some ⟨bb b, 0, none⟩) W (cp b))).set b (.slice (some ⟨bb a, 0, none⟩) W (cp a))
    rw [List.set_append_left _ _ (by rw [mout_len]; exact ha), List.set_append_left _ _ (by rw [List.length_set, mout_len]; exact hb)] at this
    have e : ((mout bb cp n W).set a (.slice (some ⟨bb b, 0, none⟩) W (cp b))).set b (.slice (some ⟨bb a, 0, none⟩) W (cp a)) = mout (fun i => bb (swi a b i)) (fun i => cp (swi a b i)) n W := by
      refine List.ext_getElem? fun c => ?_
      rw [List.getElem?_set, List.getElem?_set, List.length_set, mout_len]
      by_cases hc : c < n
      · have e0 : (mout (fun i => bb (swi a b i)) (fun i => cp (swi a b i)) n W)[c]? = some (.slice (some ⟨bb (swi a b c), 0, none⟩) W (cp (swi a b c))) := by simp [mout, hc]
        rw [e0]
        unfold swi
        by_cases h1 : b = c
        · subst h1
          rw [if_pos rfl, if_pos hb]
          by_cases h2 : b = a
          · subst h2; rw [if_pos rfl]
          · rw [if_neg h2, if_pos rfl]
        · rw [if_neg h1]
          by_cases h2 : a = c
          · subst h2; rw [if_pos rfl, if_pos ha, if_pos rfl]
          · have h1' : ¬ c = b := fun e => h1 e.symm
            have h2' : ¬ c = a := fun e => h2 e.symm
            rw [if_neg h2, if_neg h2', if_neg h1']
            simp [mout, hc]
      · rw [if_neg (by omega), if_neg (by omega), List.getElem?_eq_none (by rw [mout_len]; omega), List.getElem?_eq_none (by rw [mout_len]; omega)]
    rw [e] at this
    exact this
  · have hs := swi_lt ha hb hi
    have hne := (h.blk _ hs).2.1
    exact ((h.row _ hs).other hne a _).other hne b _
  · have := h.inj _ _ (swi_lt ha hb hi) (swi_lt ha hb hj) e
    rw [← swi_swi a b i, ← swi_swi a b j, this]
end
end Go.Proofs.Ythlcmlngmcoknaa
