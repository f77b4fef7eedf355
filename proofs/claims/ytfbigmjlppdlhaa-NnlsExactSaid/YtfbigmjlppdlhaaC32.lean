/- What is proved here: contracts of functions and plain facts, several texts in one; each one says ahead what it proves, and its conditions. -/
import Derived.Test.YtfbigmjlppdlhaaC01
import Derived.Test.YtfbigmjlppdlhaaProg
/- What is proved here: the cells of a square of three by three numbers, and of three numbers, and storing one of them. No condition. -/
namespace Go.Proofs.Ytfbigmjlppdlhaa
open Go.RowKit

/-- The cells of a square. -/
def mcs (f : Nat → Nat → Int) : List Value := (List.range 9).map fun p => .int .i64 (f (p / 3) (p % 3))
/-- The cells of three numbers. -/
def lcs (f : Nat → Int) : List Value := (List.range 3).map fun p => .int .i64 (f p)
theorem mcs_is (f : Nat → Nat → Int) : mcs f = [.int .i64 (f 0 0), .int .i64 (f 0 1), .int .i64 (f 0 2), .int .i64 (f 1 0), .int .i64 (f 1 1), .int .i64 (f 1 2), .int .i64 (f 2 0), .int .i64 (f 2 1), .int .i64 (f 2 2)] := rfl
theorem lcs_is (f : Nat → Int) : lcs f = [.int .i64 (f 0), .int .i64 (f 1), .int .i64 (f 2)] := rfl
theorem mcs_get (f : Nat → Nat → Int) {k l : Nat} (hk : k < 3) (hl : l < 3) : (mcs f)[k * 3 + l]? = some (.int .i64 (f k l)) := by
  rcases (by omega : k = 0 ∨ k = 1 ∨ k = 2) with rfl | rfl | rfl <;> rcases (by omega : l = 0 ∨ l = 1 ∨ l = 2) with rfl | rfl | rfl <;> rfl
theorem lcs_get (f : Nat → Int) {k : Nat} (hk : k < 3) : (lcs f)[k]? = some (.int .i64 (f k)) := by
  rcases (by omega : k = 0 ∨ k = 1 ∨ k = 2) with rfl | rfl | rfl <;> rfl
/-- A square with one number changed. -/
def mput (f : Nat → Nat → Int) (k l : Nat) (v : Int) (i j : Nat) : Int := if i = k ∧ j = l then v else f i j
def lput (f : Nat → Int) (k : Nat) (v : Int) (i : Nat) : Int := if i = k then v else f i
theorem mcs_set (f : Nat → Nat → Int) {k l : Nat} (hk : k < 3) (hl : l < 3) (v : Int) : (mcs f).set (k * 3 + l) (.int .i64 v) = mcs (mput f k l v) := by
  rcases (by omega : k = 0 ∨ k = 1 ∨ k = 2) with rfl | rfl | rfl <;> rcases (by omega : l = 0 ∨ l = 1 ∨ l = 2) with rfl | rfl | rfl <;> rfl
theorem lcs_set (f : Nat → Int) {k : Nat} (hk : k < 3) (v : Int) : (lcs f).set k (.int .i64 v) = lcs (lput f k v) := by
  rcases (by omega : k = 0 ∨ k = 1 ∨ k = 2) with rfl | rfl | rfl <;> rfl
theorem mcs_congr {f g : Nat → Nat → Int} (h : ∀ i, i < 3 → ∀ j, j < 3 → f i j = g i j) : mcs f = mcs g := by
  rw [mcs_is, mcs_is, h 0 (by omega) 0 (by omega), h 0 (by omega) 1 (by omega), h 0 (by omega) 2 (by omega), h 1 (by omega) 0 (by omega), h 1 (by omega) 1 (by omega), h 1 (by omega) 2 (by omega), h 2 (by omega) 0 (by omega), h 2 (by omega) 1 (by omega), h 2 (by omega) 2 (by omega)]
theorem lcs_congr {f g : Nat → Int} (h : ∀ i, i < 3 → f i = g i) : lcs f = lcs g := by
  rw [lcs_is, lcs_is, h 0 (by omega), h 1 (by omega), h 2 (by omega)]
/-- Nine cells of one block and three of another are stored. -/
def refilled (W : World) (G C : Nat) (v0 v1 v2 v3 v4 v5 v6 v7 v8 u0 u1 u2 : Value) : World :=
  (((((((((((W.setCell ⟨G, 0, none⟩ v0).setCell ⟨G, 1, none⟩ v1).setCell ⟨G, 2, none⟩ v2).setCell ⟨G, 3, none⟩ v3).setCell ⟨G, 4, none⟩ v4).setCell ⟨G, 5, none⟩ v5).setCell ⟨G, 6, none⟩ v6).setCell ⟨G, 7, none⟩ v7).setCell ⟨G, 8, none⟩ v8).setCell ⟨C, 0, none⟩ u0).setCell ⟨C, 1, none⟩ u1).setCell ⟨C, 2, none⟩ u2
theorem refill_own {B : Nat} {w W : World} {G C : Nat} {T U : TypeId} {v0 v1 v2 v3 v4 v5 v6 v7 v8 u0 u1 u2 : Value} (hG : Own W G T [v0, v1, v2, v3, v4, v5, v6, v7, v8]) (hC : Own W C U [u0, u1, u2]) (hne : G ≠ C) (h : Below B w W) (h1 : B ≤ G) (h2 : B ≤ C) :
    Own (refilled W G C v0 v1 v2 v3 v4 v5 v6 v7 v8 u0 u1 u2) G T [v0, v1, v2, v3, v4, v5, v6, v7, v8] ∧ Own (refilled W G C v0 v1 v2 v3 v4 v5 v6 v7 v8 u0 u1 u2) C U [u0, u1, u2] ∧ Below B w (refilled W G C v0 v1 v2 v3 v4 v5 v6 v7 v8 u0 u1 u2) :=
  ⟨(((((((((((hG.set 0 v0).set 1 v1).set 2 v2).set 3 v3).set 4 v4).set 5 v5).set 6 v6).set 7 v7).set 8 v8).other hne 0 u0).other hne 1 u1).other hne 2 u2,
   (((((((((((hC.other hne.symm 0 v0).other hne.symm 1 v1).other hne.symm 2 v2).other hne.symm 3 v3).other hne.symm 4 v4).other hne.symm 5 v5).other hne.symm 6 v6).other hne.symm 7 v7).other hne.symm 8 v8).set 0 u0).set 1 u1).set 2 u2,
   (((((((((((h.setCell (p := ⟨G, 0, none⟩) h1 v0).setCell (p := ⟨G, 1, none⟩) h1 v1).setCell (p := ⟨G, 2, none⟩) h1 v2).setCell (p := ⟨G, 3, none⟩) h1 v3).setCell (p := ⟨G, 4, none⟩) h1 v4).setCell (p := ⟨G, 5, none⟩) h1 v5).setCell (p := ⟨G, 6, none⟩) h1 v6).setCell (p := ⟨G, 7, none⟩) h1 v7).setCell (p := ⟨G, 8, none⟩) h1 v8).setCell (p := ⟨C, 0, none⟩) h2 u0).setCell (p := ⟨C, 1, none⟩) h2 u1).setCell (p := ⟨C, 2, none⟩) h2 u2⟩
end Go.Proofs.Ytfbigmjlppdlhaa

/- What is proved here: what making a row of numbers gives. Condition: at most 100,000 numbers. -/
namespace Go.Proofs.Ytfbigmjlppdlhaa
open Go.RowKit

theorem Try.infoInt : (Try.prog.info? 3).map (fun i => (i.zero, i.size, i.bytes)) = some (some (.int .i64 0), 1, 8) := by kernel_rfl
/-- The cells of numbers. -/
def ics (xs : List Int) : List Value := xs.map (Value.int .i64)
theorem ics_len (xs : List Int) : (ics xs).length = xs.length := by simp [ics]
theorem made_ints (n : Nat) : madeCells (Value.int .i64 0).cells (n * 1) = (ics (List.replicate n 0)).toArray := by
  apply Array.ext
  · simp [size_madeCells, ics]
  · intro i h1 h2
    simp [madeCells, Value.cells, Nat.mod_one, ics]
theorem mk_ints (n : Nat) (hn : n ≤ 100000) (w : World) : (Instr.makeSlice 23 (.int .i64 (n : Int)) (.int .i64 (n : Int))).run Try.prog w = .ok (.slice (some ⟨w.heap.size, 0, none⟩) n n) (w.alloc (.cells (ics (List.replicate n 0)).toArray 3)) := by
  obtain ⟨i0, hi, hz0, hz1, hz2⟩ := info_parts Try.infoInt
  have h := run_make w 23 3 i0 (.int .i64 0) Try.underlying23 hi hz0 .i64 .i64 (n : Int) (n : Int) (by omega) (by omega) (by rw [hz2]; omega) (by omega)
  rw [Int.toNat_natCast, hz1, made_ints] at h
  exact h
theorem ics_some (xs : List Int) (i : Nat) (h : i < xs.length) : ∃ v, (ics xs)[i]? = some v := ⟨_, by simp [ics, h]; rfl⟩
end Go.Proofs.Ytfbigmjlppdlhaa
