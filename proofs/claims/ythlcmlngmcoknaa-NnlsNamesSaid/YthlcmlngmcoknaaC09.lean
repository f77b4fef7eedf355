/- What is proved here: contracts of functions and plain facts, several texts in one; each one says ahead what it proves, and its conditions. -/
import Derived.Test.YthlcmlngmcoknaaC05
import Derived.Test.YthlcmlngmcoknaaProg
import Derived.Test.YthlcmlngmcoknaaC07
import Derived.Test.YthlcmlngmcoknaaC08
import Derived.Test.YthlcmlngmcoknaaC02
/- What is proved here: the contract of nnls.det. Condition: numbers within 3000. -/
namespace Go.Proofs.Ythlcmlngmcoknaa
open Go.RowKit

/-- A number within m. -/
def wi (m x : Int) : Prop := -m ≤ x ∧ x ≤ m
theorem det2_bd {a b c d X Y : Int} (h1 : wi X a) (h2 : wi Y b) (h3 : wi X c) (h4 : wi Y d) : wi (2 * (X * Y)) (det2 a b c d) := by
  have u1 := wr_mulbd h1 h4
  have u2 := wr_mulbd h2 h3
  rw [Int.mul_comm Y X] at u2
  unfold wi det2; omega
theorem det3_bd {a b c d e f g h i X Y Z : Int} (a1 : wi X a) (d1 : wi X d) (g1 : wi X g) (b1 : wi Y b) (e1 : wi Y e) (h1 : wi Y h) (c1 : wi Z c) (f1 : wi Z f) (i1 : wi Z i) : wi (6 * (X * Y * Z)) (det3 a b c d e f g h i) := by
  have u1 := wr_mulbd a1 (det2_bd e1 f1 h1 i1)
  have u2 := wr_mulbd b1 (det2_bd d1 f1 g1 i1)
  have u3 := wr_mulbd c1 (det2_bd d1 e1 g1 h1)
  have e1 : X * (2 * (Y * Z)) = 2 * (X * Y * Z) := by grind
  have e2 : Y * (2 * (X * Z)) = 2 * (X * Y * Z) := by grind
  have e3 : Z * (2 * (X * Y)) = 2 * (X * Y * Z) := by grind
  rw [e1] at u1
  rw [e2] at u2
  rw [e3] at u3
  unfold det2 at u1 u2 u3
  unfold wi det3
  omega
/-- The determinant of the first n rows and columns. -/
def detN (n : Nat) (a b c d e f g h i : Int) : Int := match n with
  | 0 => 1
  | 1 => a
  | 2 => det2 a b d e
  | _ => det3 a b c d e f g h i
set_option maxRecDepth 100000 in
set_option maxHeartbeats 4000000 in
theorem ndet_any (n : Nat) (a b c d e f g h i : Int) (w : World) (hn : n ≤ 3) (hb : i64 (detN n a b c d e f g h i)) :
    Calls Try.prog 152 #[.agg #[.int .i64 a, .int .i64 b, .int .i64 c, .int .i64 d, .int .i64 e, .int .i64 f, .int .i64 g, .int .i64 h, .int .i64 i], .int .i64 n] w fun en w' => en = .returned (.int .i64 (detN n a b c d e f g h i)) ∧ Below w.heap.size w w' := by
  have HB := Lib.hid hb
  clear hb
  rcases (by omega : n = 0 ∨ n = 1 ∨ n = 2 ∨ n = 3) with rfl | rfl | rfl | rfl
  · go_enter Try.func152, Try.ntmps152
    have oM := Own.new w 161 [.int .i64 a, .int .i64 b, .int .i64 c, .int .i64 d, .int .i64 e, .int .i64 f, .int .i64 g, .int .i64 h, .int .i64 i]
    obtain ⟨rM, fM⟩ := oM.rules
    have zM := oM.lt
    go_wp2
    go_ret
    exact ⟨by rfl, ba1 _ _⟩
  · go_enter Try.func152, Try.ntmps152
    have oM := Own.new w 161 [.int .i64 a, .int .i64 b, .int .i64 c, .int .i64 d, .int .i64 e, .int .i64 f, .int .i64 g, .int .i64 h, .int .i64 i]
    obtain ⟨rM, fM⟩ := oM.rules
    have zM := oM.lt
    go_wp2
    go_ret
    exact ⟨by rfl, ba1 _ _⟩
  · have E : Hid (wrap64 (wrap64 (a * e) - wrap64 (b * d)) = det2 a b d e) := by
      show _ = _
      rw [wr_sub_l, wr_sub_r]
      exact Go.IntWalk.wrap64_in _ HB.out
    go_enter Try.func152, Try.ntmps152
    have oM := Own.new w 161 [.int .i64 a, .int .i64 b, .int .i64 c, .int .i64 d, .int .i64 e, .int .i64 f, .int .i64 g, .int .i64 h, .int .i64 i]
    obtain ⟨rM, fM⟩ := oM.rules
    have zM := oM.lt
    go_wp2
    go_ret
    exact ⟨by show Ending.returned (.int .i64 _) = Ending.returned (.int .i64 (det2 a b d e)); rw [← E.out], ba1 _ _⟩
  · have E : Hid (wrap64 (wrap64 (wrap64 (a * wrap64 (wrap64 (e * i) - wrap64 (f * h))) - wrap64 (b * wrap64 (wrap64 (d * i) - wrap64 (f * g)))) + wrap64 (c * wrap64 (wrap64 (d * h) - wrap64 (e * g)))) = det3 a b c d e f g h i) := by
      show _ = _
      simp only [wr_sub_l, wr_sub_r, wr_mul_r, wr_add_l, wr_add_r]
      exact Go.IntWalk.wrap64_in _ HB.out
    go_enter Try.func152, Try.ntmps152
    have oM := Own.new w 161 [.int .i64 a, .int .i64 b, .int .i64 c, .int .i64 d, .int .i64 e, .int .i64 f, .int .i64 g, .int .i64 h, .int .i64 i]
    obtain ⟨rM, fM⟩ := oM.rules
    have zM := oM.lt
    go_wp2
    go_ret
    exact ⟨by show Ending.returned (.int .i64 _) = Ending.returned (.int .i64 (det3 a b c d e f g h i)); rw [← E.out], ba1 _ _⟩
end Go.Proofs.Ythlcmlngmcoknaa

/- What is proved here: the unknowns of a set, the matrix of a set while it is filled, and that its determinants are the minors. No program in sight, no condition. -/
namespace Go.Proofs.Ythlcmlngmcoknaa
open Go.RowKit

/-- The unknowns of a set, of the first k. -/
def ins (S k : Nat) : List Int := ((List.range k).filter fun i => S.testBit i).map Int.ofNat
theorem ins_yes {S k : Nat} (h : S.testBit k = true) : ins S (k + 1) = ins S k ++ [(k : Int)] := by
  unfold ins; rw [List.range_succ, List.filter_append, List.map_append]; simp [h]
theorem ins_no {S k : Nat} (h : S.testBit k = false) : ins S (k + 1) = ins S k := by
  unfold ins; rw [List.range_succ, List.filter_append, List.map_append]; simp [h]
theorem ins_len (S : Nat) : ∀ k, (ins S k).length ≤ k
  | 0 => by simp [ins]
  | k + 1 => by
    by_cases h : S.testBit k = true
    · rw [ins_yes h]; have := ins_len S k; simp; omega
    · rw [ins_no (by simpa using h)]; have := ins_len S k; omega
theorem ins_lt {S n : Nat} {x : Int} (h : x ∈ ins S n) : 0 ≤ x ∧ x < n := by
  unfold ins at h
  obtain ⟨i, hi, rfl⟩ := List.mem_map.1 h
  have := List.mem_range.1 (List.mem_filter.1 hi).1
  constructor <;> simp <;> omega
/-- The i-th unknown of a list. -/
def xn (xs : List Int) (i : Nat) : Nat := (xs.getD i 0).toNat
/-- The matrix of the unknowns of a list, filled up to a row and a column. -/
def mpart (g : Nat → Nat → Int) (xs : List Int) (i j i' j' : Nat) : Int := if (i' < i ∨ (i' = i ∧ j' < j)) ∧ j' < xs.length then g (xn xs i') (xn xs j') else 0
theorem mpart_put {g : Nat → Nat → Int} {xs : List Int} {i j : Nat} (hj : j < xs.length) : mput (mpart g xs i j) i j (g (xn xs i) (xn xs j)) = mpart g xs i (j + 1) := by
  funext a b
  unfold mput mpart
  by_cases h : a = i ∧ b = j
  · obtain ⟨rfl, rfl⟩ := h
    rw [if_pos ⟨rfl, rfl⟩, if_pos (by omega)]
  · rw [if_neg h]
    by_cases h2 : (a < i ∨ (a = i ∧ b < j)) ∧ b < xs.length
    · rw [if_pos h2, if_pos (by omega)]
    · rw [if_neg h2, if_neg (by omega)]
theorem mpart_row {g : Nat → Nat → Int} {xs : List Int} {i : Nat} : mpart g xs i xs.length = mpart g xs (i + 1) 0 := by
  funext a b
  unfold mpart
  by_cases h2 : (a < i ∨ (a = i ∧ b < xs.length)) ∧ b < xs.length
  · rw [if_pos h2, if_pos (by omega)]
  · rw [if_neg h2, if_neg (by omega)]
theorem mpart_0 {g : Nat → Nat → Int} {xs : List Int} : mpart g xs 0 0 = fun _ _ => 0 := by
  funext a b
  unfold mpart
  rw [if_neg (by omega)]
/-- A matrix with the first numbers of a column replaced. -/
def wcol (M : Nat → Nat → Int) (d : Nat → Int) (xs : List Int) (i j i' j' : Nat) : Int := if i' < i ∧ j' = j then d (xn xs i') else M i' j'
theorem wcol_0 {M : Nat → Nat → Int} {d : Nat → Int} {xs : List Int} {j : Nat} : wcol M d xs 0 j = M := by
  funext a b; unfold wcol; rw [if_neg (by omega)]
theorem wcol_put {M : Nat → Nat → Int} {d : Nat → Int} {xs : List Int} {i j : Nat} : mput (wcol M d xs i j) i j (d (xn xs i)) = wcol M d xs (i + 1) j := by
  funext a b
  unfold mput wcol
  by_cases h : a = i ∧ b = j
  · obtain ⟨rfl, rfl⟩ := h
    rw [if_pos ⟨rfl, rfl⟩, if_pos (by omega)]
  · rw [if_neg h]
    by_cases h2 : a < i ∧ b = j
    · rw [if_pos h2, if_pos (by omega)]
    · rw [if_neg h2, if_neg (by omega)]
/-- The determinant of the first rows and columns of a square. -/
def detM (n : Nat) (f : Nat → Nat → Int) : Int := detN n (f 0 0) (f 0 1) (f 0 2) (f 1 0) (f 1 1) (f 1 2) (f 2 0) (f 2 1) (f 2 2)
theorem wi_mono {a b x : Int} (h : wi a x) (hab : a ≤ b) : wi b x := by unfold wi at *; omega
theorem detM_wi {n : Nat} {f : Nat → Nat → Int} (h : ∀ i j, wi 3000 (f i j)) : wi 200000000000 (detM n f) := by
  unfold detM detN
  split
  · unfold wi; omega
  · exact wi_mono (h 0 0) (by decide)
  · exact wi_mono (det2_bd (h 0 0) (h 0 1) (h 1 0) (h 1 1)) (by decide)
  · exact wi_mono (det3_bd (h 0 0) (h 1 0) (h 2 0) (h 0 1) (h 1 1) (h 2 1) (h 0 2) (h 1 2) (h 2 2)) (by decide)
theorem mpart_wi {g : Nat → Nat → Int} {xs : List Int} (h : ∀ i j, wi 3000 (g i j)) (i j a b : Nat) : wi 3000 (mpart g xs i j a b) := by
  unfold mpart; split
  · exact h _ _
  · unfold wi; omega
theorem wcol_wi {M : Nat → Nat → Int} {d : Nat → Int} {xs : List Int} (h : ∀ i j, wi 3000 (M i j)) (hd : ∀ i, wi 3000 (d i)) (i j a b : Nat) : wi 3000 (wcol M d xs i j a b) := by
  unfold wcol; split
  · exact hd _
  · exact h _ _
/-- The matrix of a list of unknowns. -/
def mfull (g : Nat → Nat → Int) (xs : List Int) : Nat → Nat → Int := mpart g xs xs.length 0
/-- The numerators of the first unknowns of a list. -/
def npart (g : Nat → Nat → Int) (d : Nat → Int) (xs : List Int) : Nat → Nat → Int
  | 0 => fun _ => 0
  | l + 1 => lput (npart g d xs l) (xn xs l) (detM xs.length (wcol (mfull g xs) d xs xs.length l))
theorem npart_wi {g : Nat → Nat → Int} {d : Nat → Int} {xs : List Int} (h : ∀ i j, wi 3000 (g i j)) (hd : ∀ i, wi 3000 (d i)) : ∀ l k, wi 200000000000 (npart g d xs l k)
  | 0, k => by unfold npart wi; omega
  | l + 1, k => by
    unfold npart lput; split
    · exact detM_wi fun i j => wcol_wi (mpart_wi h _ _) hd _ _ _ _
    · exact npart_wi h hd l k
theorem sets {n S : Nat} (hn : n ≤ 3) (hS : S < 2 ^ n) : (n = 0 ∧ S = 0) ∨ (n = 1 ∧ S = 0) ∨ (n = 1 ∧ S = 1) ∨ (n = 2 ∧ S = 0) ∨ (n = 2 ∧ S = 1) ∨ (n = 2 ∧ S = 2) ∨ (n = 2 ∧ S = 3) ∨ (n = 3 ∧ S = 0) ∨ (n = 3 ∧ S = 1) ∨ (n = 3 ∧ S = 2) ∨ (n = 3 ∧ S = 3) ∨ (n = 3 ∧ S = 4) ∨ (n = 3 ∧ S = 5) ∨ (n = 3 ∧ S = 6) ∨ (n = 3 ∧ S = 7) := by
  rcases (by omega : n = 0 ∨ n = 1 ∨ n = 2 ∨ n = 3) with rfl | rfl | rfl | rfl
  · obtain rfl : S = 0 := by simp at hS; omega
    simp
  · rcases (by simp at hS; omega : S = 0 ∨ S = 1) with rfl | rfl <;> simp
  · rcases (by simp at hS; omega : S = 0 ∨ S = 1 ∨ S = 2 ∨ S = 3) with rfl | rfl | rfl | rfl <;> simp
  · rcases cases8 (by simpa using hS) with rfl | rfl | rfl | rfl | rfl | rfl | rfl | rfl <;> simp
theorem still_den (g : Nat → Nat → Int) {n S : Nat} (hn : n ≤ 3) (hS : S < 2 ^ n) : detM (ins S n).length (mfull g (ins S n)) = den8 g S := by
  rcases sets hn hS with ⟨rfl, rfl⟩ | ⟨rfl, rfl⟩ | ⟨rfl, rfl⟩ | ⟨rfl, rfl⟩ | ⟨rfl, rfl⟩ | ⟨rfl, rfl⟩ | ⟨rfl, rfl⟩ | ⟨rfl, rfl⟩ | ⟨rfl, rfl⟩ | ⟨rfl, rfl⟩ | ⟨rfl, rfl⟩ | ⟨rfl, rfl⟩ | ⟨rfl, rfl⟩ | ⟨rfl, rfl⟩ | ⟨rfl, rfl⟩ <;> rfl
theorem still_num (g : Nat → Nat → Int) (d : Nat → Int) {n S k : Nat} (hn : n ≤ 3) (hS : S < 2 ^ n) (hk : k < 3) : npart g d (ins S n) (ins S n).length k = num8 g d S k := by
  rcases sets hn hS with ⟨rfl, rfl⟩ | ⟨rfl, rfl⟩ | ⟨rfl, rfl⟩ | ⟨rfl, rfl⟩ | ⟨rfl, rfl⟩ | ⟨rfl, rfl⟩ | ⟨rfl, rfl⟩ | ⟨rfl, rfl⟩ | ⟨rfl, rfl⟩ | ⟨rfl, rfl⟩ | ⟨rfl, rfl⟩ | ⟨rfl, rfl⟩ | ⟨rfl, rfl⟩ | ⟨rfl, rfl⟩ | ⟨rfl, rfl⟩ <;> rcases cases3 hk with rfl | rfl | rfl <;> rfl
theorem xn_cast {S n i : Nat} (hi : i < (ins S n).length) : (ins S n)[i] = (xn (ins S n) i : Int) ∧ xn (ins S n) i < n := by
  obtain ⟨h1, h2⟩ := ins_lt (List.getElem_mem hi)
  unfold xn
  simp only [List.getD, List.getElem?_eq_getElem hi, Option.getD_some]
  constructor <;> omega
/-- The binary digit of a set. -/
theorem bit_test {S k : Nat} (hS : S < 8) (hk : k < 3) : (bits BinOp.and IntKind.i64 ((S : Int) / 2 ^ k) 1 == 1) = S.testBit k := by
  rcases cases8 hS with rfl | rfl | rfl | rfl | rfl | rfl | rfl | rfl <;> rcases cases3 hk with rfl | rfl | rfl <;> decide
theorem set8 {n S : Nat} (hn : n ≤ 3) (hS : S < 2 ^ n) : S < 8 := by
  have := Nat.pow_le_pow_right (n := 2) (by decide) hn
  omega
theorem ndetM_any (n : Nat) (f : Nat → Nat → Int) (r : Int) (w : World) (hn : n ≤ 3) (hf : ∀ i j, wi 3000 (f i j)) (hr : detM n f = r) :
    Calls Try.prog 152 #[.agg #[.int .i64 (f 0 0), .int .i64 (f 0 1), .int .i64 (f 0 2), .int .i64 (f 1 0), .int .i64 (f 1 1), .int .i64 (f 1 2), .int .i64 (f 2 0), .int .i64 (f 2 1), .int .i64 (f 2 2)], .int .i64 n] w fun en w' => en = .returned (.int .i64 r) ∧ Below w.heap.size w w' := by
  subst hr
  have h := detM_wi (n := n) hf
  exact ndet_any n _ _ _ _ _ _ _ _ _ w hn (by unfold wi detM at h; exact ⟨by omega, by omega⟩)
end Go.Proofs.Ythlcmlngmcoknaa
