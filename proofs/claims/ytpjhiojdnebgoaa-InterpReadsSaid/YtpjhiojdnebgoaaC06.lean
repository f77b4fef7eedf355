/- What is proved here: contracts of functions and plain facts, several texts in one; each one says ahead what it proves, and its conditions. -/
import Derived.Test.YtpjhiojdnebgoaaC05
/- What is proved here: what Taps and Read of layer 15 come to, in plain Lean: the taps of a part by products of fractions, none of which leaves the range. No program in sight. -/
namespace Go.Proofs.Ytpjhiojdnebgoaa
open Go.RowKit

/-- Whether a fraction is a part. -/
def partB (n d : Int) : Bool := fchk n d == 0 && decide (0 ≤ n) && decide (n < d) && decide (d ≤ 16)
/-- The sum above of the step k. -/
def tapT (n k : Nat) (fn fd : Int) : FR := fadd ((n / 2 : Nat) - (k : Int)) 1 fn fd
/-- The factor of the step k. -/
def tapC (n j k : Nat) (fn fd : Int) : FR := fdiv (tapT n k fn fd).n (tapT n k fn fd).d ((j : Int) - (k : Int)) 1
/-- The product of the first k factors. -/
def tapV (n j : Nat) (fn fd : Int) : Nat → Int × Int
  | 0 => (1, 1)
  | k + 1 => if k = j then tapV n j fn fd k else ((fmul (tapV n j fn fd k).1 (tapV n j fn fd k).2 (tapC n j k fn fd).n (tapC n j k fn fd).d).n, (fmul (tapV n j fn fd k).1 (tapV n j fn fd k).2 (tapC n j k fn fd).n (tapC n j k fn fd).d).d)
def tapM (n j k : Nat) (fn fd : Int) : FR := fmul (tapV n j fn fd k).1 (tapV n j fn fd k).2 (tapC n j k fn fd).n (tapC n j k fn fd).d
def atF (n : Nat) (fn fd : Int) : FR := fadd ((n / 2 : Nat) : Int) 1 fn fd
def tapA (n k : Nat) (fn fd : Int) : FR := fsub (atF n fn fd).n (atF n fn fd).d (k : Int) 1
def tapQ (n j k : Nat) (fn fd : Int) : Bool := k == j || ((tapT n k fn fd).e == 0 && (tapC n j k fn fd).e == 0 && (tapM n j k fn fd).e == 0 && (tapA n k fn fd).n == (tapT n k fn fd).n && (tapA n k fn fd).d == (tapT n k fn fd).d)
set_option maxRecDepth 100000 in
theorem tap_all : ((List.range 17).all fun d => (List.range d).all fun m => !partB m d || (List.range 5).all fun n => (List.range (n + 1)).all fun j => (List.range (n + 1)).all fun k => tapQ n j k m d) = true := by decide +kernel
theorem tap_q {fn fd : Int} (h : partB fn fd = true) {n j k : Nat} (hn : n ≤ 4) (hj : j ≤ n) (hk : k ≤ n) : tapQ n j k fn fd = true := by
  have h0 := h
  unfold partB at h0
  simp only [Bool.and_eq_true, decide_eq_true_eq] at h0
  obtain ⟨⟨⟨_, h1⟩, h2⟩, h3⟩ := h0
  obtain ⟨m, rfl⟩ := Int.eq_ofNat_of_zero_le h1
  obtain ⟨d, rfl⟩ := Int.eq_ofNat_of_zero_le (show 0 ≤ fd by omega)
  have a := List.all_eq_true.1 tap_all d (List.mem_range.2 (by omega))
  have b := List.all_eq_true.1 a m (List.mem_range.2 (by omega))
  rw [h] at b
  simp only [Bool.not_true, Bool.false_or, List.all_eq_true, List.mem_range] at b
  exact b n (by omega) j (by omega) k (by omega)
structure TapOk (n j k : Nat) (fn fd : Int) : Prop where
  t : (tapT n k fn fd).e = 0
  c : (tapC n j k fn fd).e = 0
  m : (tapM n j k fn fd).e = 0
  a1 : (tapA n k fn fd).n = (tapT n k fn fd).n
  a2 : (tapA n k fn fd).d = (tapT n k fn fd).d
theorem tap_ok {fn fd : Int} (h : partB fn fd = true) {n j k : Nat} (hn : n ≤ 4) (hj : j ≤ n) (hk : k ≤ n) (hne : k ≠ j) : TapOk n j k fn fd := by
  have q := tap_q h hn hj hk
  unfold tapQ at q
  simp only [Bool.or_eq_true, Bool.and_eq_true, beq_iff_eq] at q
  rcases q with q | ⟨⟨⟨⟨h1, h2⟩, h3⟩, h4⟩, h5⟩
  · exact absurd q hne
  · exact ⟨h1, h2, h3, h4, h5⟩
theorem tapV_same {n j : Nat} {fn fd : Int} : tapV n j fn fd (j + 1) = tapV n j fn fd j := by show (if j = j then _ else _) = _; rw [if_pos rfl]
theorem tapV_succ {n j k : Nat} {fn fd : Int} (h : k ≠ j) : tapV n j fn fd (k + 1) = ((tapM n j k fn fd).n, (tapM n j k fn fd).d) := by show (if k = j then _ else _) = _; rw [if_neg h]; rfl
theorem i_one : i64 1 := ⟨by decide, by decide⟩
theorem tapV_i64 (n j : Nat) (fn fd : Int) : ∀ k, i64 (tapV n j fn fd k).1 ∧ i64 (tapV n j fn fd k).2
  | 0 => ⟨i_one, i_one⟩
  | k + 1 => by
    by_cases h : k = j
    · subst h; rw [tapV_same]; exact tapV_i64 n k fn fd k
    · rw [tapV_succ h]; exact fmul_i64 _ _ _ _
/-- The first m taps. -/
def tapsN (n : Nat) (fn fd : Int) (m : Nat) : List (Int × Int) := (List.range m).map fun j => tapV n j fn fd (n + 1)
theorem tapsN_len (n : Nat) (fn fd : Int) (m : Nat) : (tapsN n fn fd m).length = m := by simp [tapsN]
theorem tapsN_succ (n : Nat) (fn fd : Int) (m : Nat) : tapsN n fn fd (m + 1) = tapsN n fn fd m ++ [tapV n m fn fd (n + 1)] := by simp [tapsN, List.range_succ]
theorem tapsN_FI (n : Nat) (fn fd : Int) (m : Nat) : FI (tapsN n fn fd m) := by
  intro p hp
  obtain ⟨j, _, rfl⟩ := List.mem_map.1 hp
  exact tapV_i64 n j fn fd (n + 1)
/-- Taps. -/
def ftaps (n fn fd : Int) : List (Int × Int) × Int := if n < 0 ∨ 4 < n then ([], 2) else if partB fn fd = false then ([], 8) else (tapsN n.toNat fn fd (n.toNat + 1), 0)
theorem ftaps_FI (n fn fd : Int) : FI (ftaps n fn fd).1 := by
  unfold ftaps
  split
  · intro p hp; cases hp
  · split
    · intro p hp; cases hp
    · exact tapsN_FI _ _ _ _
def levB (l : List Int) : Bool := l.all fun x => decide (-1000000 ≤ x) && decide (x ≤ 1000000)
theorem lev_take {l : List Int} {k : Nat} (hk : k < l.length) (h : levB (l.take k) = true) (h1 : -1000000 ≤ l[k]) (h2 : l[k] ≤ 1000000) : levB (l.take (k + 1)) = true := by
  unfold levB at *
  rw [List.take_succ_eq_append_getElem hk, List.all_append, h]
  simp [h1, h2]
theorem lev_not {l : List Int} {k : Nat} (hk : k < l.length) (h1 : l[k] < -1000000 ∨ 1000000 < l[k]) : levB l = false := by
  unfold levB
  rw [List.all_eq_false]
  refine ⟨l[k], List.getElem_mem hk, ?_⟩
  simp only [Bool.and_eq_true, decide_eq_true_eq]
  omega
theorem lev_end {l : List Int} {k : Nat} (hk : ¬ k < l.length) (h : levB (l.take k) = true) : levB l = true := by rwa [List.take_of_length_le (by omega)] at h
def levE (l : List Int) : Int := if 256 < l.length then 4 else if levB l = false then 8 else 0
/-- Levels as fractions. -/
def wholes (l : List Int) : List (Int × Int) := l.map fun x => (x, 1)
theorem wholes_len (l : List Int) : (wholes l).length = l.length := by simp [wholes]
theorem wholes_take {l : List Int} {k : Nat} (hk : k < l.length) : wholes (l.take (k + 1)) = wholes (l.take k) ++ [(l[k], 1)] := by
  unfold wholes; rw [List.take_succ_eq_append_getElem hk, List.map_append]; rfl
theorem wholes_FI {l : List Int} (h : ∀ i (h : i < l.length), i64 l[i]) : FI (wholes l) := by
  intro p hp
  obtain ⟨x, hx, rfl⟩ := List.mem_map.1 hp
  obtain ⟨i, hi, rfl⟩ := List.getElem_of_mem hx
  exact ⟨h i hi, i_one⟩
def fread (l : List Int) (n fn fd : Int) : List (Int × Int) × Int := if levE l ≠ 0 then ([], levE l) else if (ftaps n fn fd).2 ≠ 0 then ([], (ftaps n fn fd).2) else ffilt (wholes l) (ftaps n fn fd).1
end Go.Proofs.Ytpjhiojdnebgoaa

/- What is proved here: what making a row of fractions gives, and storing one of them. Condition: at most 100,000 fractions. -/
namespace Go.Proofs.Ytpjhiojdnebgoaa
open Go.RowKit

theorem Try.infoFrac : (Try.prog.info? 24).map (fun i => (i.zero, i.size, i.bytes)) = some (some (.agg #[.int .i64 0, .int .i64 0]), 2, 16) := by kernel_rfl
theorem fcs_zero : ∀ n, fcs (List.replicate n (0, 0)) = List.replicate (n * 2) (.int .i64 0)
  | 0 => rfl
  | n + 1 => by rw [List.replicate_succ, fcs_cons, fcs_zero n, show (n + 1) * 2 = n * 2 + 1 + 1 by omega, List.replicate_succ, List.replicate_succ]
theorem made_fracs (n : Nat) : madeCells (Value.agg #[.int .i64 0, .int .i64 0]).cells (n * 2) = (fcs (List.replicate n (0, 0))).toArray := by
  rw [fcs_zero]
  apply Array.ext
  · simp [size_madeCells]
  · intro i h1 h2
    have : i % 2 = 0 ∨ i % 2 = 1 := by omega
    rcases this with h | h <;> simp [madeCells, Value.cells, h]
theorem mk_fracs (n : Nat) (x : Int) (hx : x = n) (hn : n ≤ 100000) (w : World) : (Instr.makeSlice 26 (.int .i64 x) (.int .i64 x)).run Try.prog w = .ok (.slice (some ⟨w.heap.size, 0, none⟩) n n) (w.alloc (.cells (fcs (List.replicate n (0, 0))).toArray 24)) := by
  subst hx
  obtain ⟨i0, hi, hz0, hz1, hz2⟩ := info_parts Try.infoFrac
  have h := run_make w 26 24 i0 (.agg #[.int .i64 0, .int .i64 0]) Try.underlying26 hi hz0 .i64 .i64 (n : Int) (n : Int) (by omega) (by omega) (by rw [hz2]; omega) (by omega)
  rw [Int.toNat_natCast, hz1, made_fracs] at h
  exact h
theorem fcs_some (xs : List (Int × Int)) (i : Nat) (h : i < xs.length) : ∃ v1 v2, (fcs xs)[i * 2]? = some v1 ∧ (fcs xs)[i * 2 + 1]? = some v2 := ⟨_, _, (fcs_get xs i h).1, (fcs_get xs i h).2⟩
/-- Two cells of a row of fractions are stored: one fraction. -/
theorem fcs_set : ∀ (xs : List (Int × Int)) (k : Nat) (p : Int × Int), ((fcs xs).set (k * 2) (.int .i64 p.1)).set (k * 2 + 1) (.int .i64 p.2) = fcs (xs.set k p)
  | [], k, p => rfl
  | x :: xs, 0, p => rfl
  | x :: xs, k + 1, p => by
    rw [fcs_cons, show (k + 1) * 2 = k * 2 + 1 + 1 by omega, List.set_cons_succ, List.set_cons_succ, List.set_cons_succ, List.set_cons_succ, fcs_set xs k p, List.set_cons_succ, fcs_cons]
theorem fill_rows (rs : List (Int × Int)) (m N : Nat) (p : Int × Int) (h : rs.length = m) (hm : m < N) : (rs ++ List.replicate (N - m) (0, 0)).set m p = (rs ++ [p]) ++ List.replicate (N - (m + 1)) (0, 0) := by
  rw [List.set_append_right _ _ (by omega), h, Nat.sub_self, show N - m = N - (m + 1) + 1 by omega, List.replicate_succ, List.set_cons_zero, List.append_assoc]
  rfl
/-- A row that is made empty, with room for n. -/
theorem mk_fracs0 (n : Nat) (hn : n ≤ 100000) (w : World) : (Instr.makeSlice 26 (.int .i64 0) (.int .i64 n)).run Try.prog w = .ok (.slice (some ⟨w.heap.size, 0, none⟩) 0 n) (w.alloc (.cells (fcs (List.replicate n (0, 0))).toArray 24)) := by
  obtain ⟨i0, hi, hz0, hz1, hz2⟩ := info_parts Try.infoFrac
  have h := run_make w 26 24 i0 (.agg #[.int .i64 0, .int .i64 0]) Try.underlying26 hi hz0 .i64 .i64 (0 : Int) (n : Int) (by omega) (by omega) (by rw [hz2]; omega) (by omega)
  rw [Int.toNat_natCast, hz1, made_fracs] at h
  exact h
theorem owns_made (w : World) (n : Nat) (hn : n ≤ 100000) (T : TypeId) (B : Nat) (hB : B ≤ w.heap.size) : (w.alloc (.cells (fcs (List.replicate n (0, 0))).toArray T)).ownsRow B T 2 (.slice (some ⟨w.heap.size, 0, none⟩) 0 n) 0 (fcs []) :=
  ⟨rfl, .inr ⟨w.heap.size, n, (fcs (List.replicate n (0, 0))).toArray, rfl, hB, heap_alloc_new w _, Nat.zero_le _, by unfold maxLen; omega, by simp [fcs_len], by simp [fcs_nil]⟩⟩
theorem owns_base {w : World} {B B' : Nat} {T : TypeId} {size : Nat} {v : Value} {n : Nat} {cs : List Value} (h : w.ownsRow B T size v n cs) (hB : B' ≤ B) : w.ownsRow B' T size v n cs := by
  obtain ⟨hl, h2⟩ := h
  refine ⟨hl, ?_⟩
  rcases h2 with h2 | ⟨g, cap, cur, h3, hg, r⟩
  · exact .inl h2
  · exact .inr ⟨g, cap, cur, h3, by omega, r⟩
theorem owns_SF {w : World} {B : Nat} {T : TypeId} {v : Value} {xs : List (Int × Int)} (h : w.ownsRow B T 2 v xs.length (fcs xs)) : SF w v xs := by
  refine owns_sl h ?_
  obtain ⟨hl, h2⟩ := h
  rcases h2 with ⟨_, h2⟩ | ⟨g, cap, cur, _, _, _, h4, h5, _⟩
  · omega
  · unfold maxLen at h5; omega
/-- Rows of the call's own, and an error. -/
def rows_own (w : World) (r : List (Int × Int) × Int) (e : Ending) (w' : World) : Prop := ∃ u, e = .returned (.tuple #[u, .int .i64 r.2]) ∧ w'.ownsRow w.heap.size 24 2 u r.1.length (fcs r.1) ∧ Below w.heap.size w w'
def rows_post (w : World) (r : List (Int × Int) × Int) (e : Ending) (w' : World) : Prop := ∃ u, e = .returned (.tuple #[u, .int .i64 r.2]) ∧ SF w' u r.1 ∧ Below w.heap.size w w'
theorem rows_own_post {w : World} {r : List (Int × Int) × Int} {e : Ending} {w' : World} (h : rows_own w r e w') : rows_post w r e w' := by
  obtain ⟨u, h1, h2, h3⟩ := h
  exact ⟨u, h1, owns_SF h2, h3⟩
theorem owns_nil (w w0 : World) : w.ownsRow w0.heap.size 24 2 (.slice none 0 0) ([] : List (Int × Int)).length (fcs []) := World.ownsRow_nil _ _ _ _
end Go.Proofs.Ytpjhiojdnebgoaa
