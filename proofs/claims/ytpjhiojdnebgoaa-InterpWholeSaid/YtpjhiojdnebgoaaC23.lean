/- What is proved here: contracts of functions and plain facts, several texts in one; each one says ahead what it proves, and its conditions. -/
import Derived.Test.YtpjhiojdnebgoaaC18
import Derived.Test.YtpjhiojdnebgoaaC05
/- What is proved here: what Taps and Read of layer 15 come to, in plain Lean: the taps of a part by products of fractions, none of which leaves the range. No program in sight. -/
namespace Go.Proofs.Ytpjhiojdnebgoaa
open Go.RowKit

/-- Whether a fraction is a part. -/
def partB (n d : Int) : Bool := fchk n d == 0 && decide (0 ≤ n) && decide (n < d) && decide (d ≤ 16)
/-- The sum above of the step k. -/
def tapT (n k : Nat) (fn fd : Int) : FR := fadd ((n / 2 : Nat) - (k : Int)) 1 fn fd
/-- The factor of the step k. -/
def tapC (n j k : Nat) (fn fd : Int) : FR := fdiv (tapT n k fn fd).n (tapT n k fn fd).d ((j : Int) - (k : Int)) 1
/-- The product of the first k factors. -/
def tapV (n j : Nat) (fn fd : Int) : Nat → Int × Int
  | 0 => (1, 1)
  | k + 1 => if k = j then tapV n j fn fd k else ((fmul (tapV n j fn fd k).1 (tapV n j fn fd k).2 (tapC n j k fn fd).n (tapC n j k fn fd).d).n, (fmul (tapV n j fn fd k).1 (tapV n j fn fd k).2 (tapC n j k fn fd).n (tapC n j k fn fd).d).d)
def tapM (n j k : Nat) (fn fd : Int) : FR := fmul (tapV n j fn fd k).1 (tapV n j fn fd k).2 (tapC n j k fn fd).n (tapC n j k fn fd).d
def atF (n : Nat) (fn fd : Int) : FR := fadd ((n / 2 : Nat) : Int) 1 fn fd
def tapA (n k : Nat) (fn fd : Int) : FR := fsub (atF n fn fd).n (atF n fn fd).d (k : Int) 1
def tapQ (n j k : Nat) (fn fd : Int) : Bool := k == j || ((tapT n k fn fd).e == 0 && (tapC n j k fn fd).e == 0 && (tapM n j k fn fd).e == 0 && (tapA n k fn fd).n == (tapT n k fn fd).n && (tapA n k fn fd).d == (tapT n k fn fd).d)
set_option maxRecDepth 100000 in
theorem tap_all : ((List.range 17).all fun d => (List.range d).all fun m => !partB m d || (List.range 5).all fun n => (List.range (n + 1)).all fun j => (List.range (n + 1)).all fun k => tapQ n j k m d) = true := by decide +kernel
theorem tap_q {fn fd : Int} (h : partB fn fd = true) {n j k : Nat} (hn : n ≤ 4) (hj : j ≤ n) (hk : k ≤ n) : tapQ n j k fn fd = true := by
  have h0 := h
  unfold partB at h0
  simp only [Bool.and_eq_true, decide_eq_true_eq] at h0
  obtain ⟨⟨⟨_, h1⟩, h2⟩, h3⟩ := h0
  obtain ⟨m, rfl⟩ := Int.eq_ofNat_of_zero_le h1
  obtain ⟨d, rfl⟩ := Int.eq_ofNat_of_zero_le (show 0 ≤ fd by omega)
  have a := List.all_eq_true.1 tap_all d (List.mem_range.2 (by omega))
  have b := List.all_eq_true.1 a m (List.mem_range.2 (by omega))
  rw [h] at b
  simp only [Bool.not_true, Bool.false_or, List.all_eq_true, List.mem_range] at b
  exact b n (by omega) j (by omega) k (by omega)
structure TapOk (n j k : Nat) (fn fd : Int) : Prop where
  t : (tapT n k fn fd).e = 0
  c : (tapC n j k fn fd).e = 0
  m : (tapM n j k fn fd).e = 0
  a1 : (tapA n k fn fd).n = (tapT n k fn fd).n
  a2 : (tapA n k fn fd).d = (tapT n k fn fd).d
theorem tap_ok {fn fd : Int} (h : partB fn fd = true) {n j k : Nat} (hn : n ≤ 4) (hj : j ≤ n) (hk : k ≤ n) (hne : k ≠ j) : TapOk n j k fn fd := by
  have q := tap_q h hn hj hk
  unfold tapQ at q
  simp only [Bool.or_eq_true, Bool.and_eq_true, beq_iff_eq] at q
  rcases q with q | ⟨⟨⟨⟨h1, h2⟩, h3⟩, h4⟩, h5⟩
  · exact absurd q hne
  · exact ⟨h1, h2, h3, h4, h5⟩
theorem tapV_same {n j : Nat} {fn fd : Int} : tapV n j fn fd (j + 1) = tapV n j fn fd j := by show (if j = j then _ else _) = _; rw [if_pos rfl]
theorem tapV_succ {n j k : Nat} {fn fd : Int} (h : k ≠ j) : tapV n j fn fd (k + 1) = ((tapM n j k fn fd).n, (tapM n j k fn fd).d) := by show (if k = j then _ else _) = _; rw [if_neg h]; rfl
theorem i_one : i64 1 := ⟨by decide, by decide⟩
theorem tapV_i64 (n j : Nat) (fn fd : Int) : ∀ k, i64 (tapV n j fn fd k).1 ∧ i64 (tapV n j fn fd k).2
  | 0 => ⟨i_one, i_one⟩
  | k + 1 => by
    by_cases h : k = j
    · subst h; rw [tapV_same]; exact tapV_i64 n k fn fd k
    · rw [tapV_succ h]; exact fmul_i64 _ _ _ _
/-- The first m taps. -/
def tapsN (n : Nat) (fn fd : Int) (m : Nat) : List (Int × Int) := (List.range m).map fun j => tapV n j fn fd (n + 1)
theorem tapsN_len (n : Nat) (fn fd : Int) (m : Nat) : (tapsN n fn fd m).length = m := by simp [tapsN]
theorem tapsN_succ (n : Nat) (fn fd : Int) (m : Nat) : tapsN n fn fd (m + 1) = tapsN n fn fd m ++ [tapV n m fn fd (n + 1)] := by simp [tapsN, List.range_succ]
theorem tapsN_FI (n : Nat) (fn fd : Int) (m : Nat) : FI (tapsN n fn fd m) := by
  intro p hp
  obtain ⟨j, _, rfl⟩ := List.mem_map.1 hp
  exact tapV_i64 n j fn fd (n + 1)
/-- Taps. -/
def ftaps (n fn fd : Int) : List (Int × Int) × Int := if n < 0 ∨ 4 < n then ([], 2) else if partB fn fd = false then ([], 8) else (tapsN n.toNat fn fd (n.toNat + 1), 0)
theorem ftaps_FI (n fn fd : Int) : FI (ftaps n fn fd).1 := by
  unfold ftaps
  split
  · intro p hp; cases hp
  · split
    · intro p hp; cases hp
    · exact tapsN_FI _ _ _ _
def levB (l : List Int) : Bool := l.all fun x => decide (-1000000 ≤ x) && decide (x ≤ 1000000)
theorem lev_take {l : List Int} {k : Nat} (hk : k < l.length) (h : levB (l.take k) = true) (h1 : -1000000 ≤ l[k]) (h2 : l[k] ≤ 1000000) : levB (l.take (k + 1)) = true := by
  unfold levB at *
  rw [List.take_succ_eq_append_getElem hk, List.all_append, h]
  simp [h1, h2]
theorem lev_not {l : List Int} {k : Nat} (hk : k < l.length) (h1 : l[k] < -1000000 ∨ 1000000 < l[k]) : levB l = false := by
  unfold levB
  rw [List.all_eq_false]
  refine ⟨l[k], List.getElem_mem hk, ?_⟩
  simp only [Bool.and_eq_true, decide_eq_true_eq]
  omega
theorem lev_end {l : List Int} {k : Nat} (hk : ¬ k < l.length) (h : levB (l.take k) = true) : levB l = true := by rwa [List.take_of_length_le (by omega)] at h
def levE (l : List Int) : Int := if 256 < l.length then 4 else if levB l = false then 8 else 0
/-- Levels as fractions. -/
def wholes (l : List Int) : List (Int × Int) := l.map fun x => (x, 1)
theorem wholes_len (l : List Int) : (wholes l).length = l.length := by simp [wholes]
theorem wholes_take {l : List Int} {k : Nat} (hk : k < l.length) : wholes (l.take (k + 1)) = wholes (l.take k) ++ [(l[k], 1)] := by
  unfold wholes; rw [List.take_succ_eq_append_getElem hk, List.map_append]; rfl
theorem wholes_FI {l : List Int} (h : ∀ i (h : i < l.length), i64 l[i]) : FI (wholes l) := by
  intro p hp
  obtain ⟨x, hx, rfl⟩ := List.mem_map.1 hp
  obtain ⟨i, hi, rfl⟩ := List.getElem_of_mem hx
  exact ⟨h i hi, i_one⟩
def fread (l : List Int) (n fn fd : Int) : List (Int × Int) × Int := if levE l ≠ 0 then ([], levE l) else if (ftaps n fn fd).2 ≠ 0 then ([], (ftaps n fn fd).2) else ffilt (wholes l) (ftaps n fn fd).1
end Go.Proofs.Ytpjhiojdnebgoaa

/- What is proved here: what making a row of fractions gives, and storing one of them. Condition: at most 100,000 fractions. -/
namespace Go.Proofs.Ytpjhiojdnebgoaa
open Go.RowKit

theorem Try.infoFrac : (Try.prog.info? 24).map (fun i => (i.zero, i.size, i.bytes)) = some (some (.agg #[.int .i64 0, .int .i64 0]), 2, 16) := by kernel_rfl
theorem fcs_zero : ∀ n, fcs (List.replicate n (0, 0)) = List.replicate (n * 2) (.int .i64 0)
  | 0 => rfl
  | n + 1 => by rw [List.replicate_succ, fcs_cons, fcs_zero n, show (n + 1) * 2 = n * 2 + 1 + 1 by omega, List.replicate_succ, List.replicate_succ]
theorem made_fracs (n : Nat) : madeCells (Value.agg #[.int .i64 0, .int .i64 0]).cells (n * 2) = (fcs (List.replicate n (0, 0))).toArray := by
  rw [fcs_zero]
  apply Array.ext
  · simp [size_madeCells]
  · intro i h1 h2
    have : i % 2 = 0 ∨ i % 2 = 1 := by omega
    rcases this with h | h <;> simp [madeCells, Value.cells, h]
theorem mk_fracs (n : Nat) (x : Int) (hx : x = n) (hn : n ≤ 100000) (w : World) : (Instr.makeSlice 26 (.int .i64 x) (.int .i64 x)).run Try.prog w = .ok (.slice (some ⟨w.heap.size, 0, none⟩) n n) (w.alloc (.cells (fcs (List.replicate n (0, 0))).toArray 24)) := by
  subst hx
  obtain ⟨i0, hi, hz0, hz1, hz2⟩ := info_parts Try.infoFrac
  have h := run_make w 26 24 i0 (.agg #[.int .i64 0, .int .i64 0]) Try.underlying26 hi hz0 .i64 .i64 (n : Int) (n : Int) (by omega) (by omega) (by rw [hz2]; omega) (by omega)
  rw [Int.toNat_natCast, hz1, made_fracs] at h
  exact h
theorem fcs_some (xs : List (Int × Int)) (i : Nat) (h : i < xs.length) : ∃ v1 v2, (fcs xs)[i * 2]? = some v1 ∧ (fcs xs)[i * 2 + 1]? = some v2 := ⟨_, _, (fcs_get xs i h).1, (fcs_get xs i h).2⟩
/-- Two cells of a row of fractions are stored: one fraction. -/
theorem fcs_set : ∀ (xs : List (Int × Int)) (k : Nat) (p : Int × Int), ((fcs xs).set (k * 2) (.int .i64 p.1)).set (k * 2 + 1) (.int .i64 p.2) = fcs (xs.set k p)
  | [], k, p => rfl
  | x :: xs, 0, p => rfl
  | x :: xs, k + 1, p => by
    rw [fcs_cons, show (k + 1) * 2 = k * 2 + 1 + 1 by omega, List.set_cons_succ, List.set_cons_succ, List.set_cons_succ, List.set_cons_succ, fcs_set xs k p, List.set_cons_succ, fcs_cons]
theorem fill_rows (rs : List (Int × Int)) (m N : Nat) (p : Int × Int) (h : rs.length = m) (hm : m < N) : (rs ++ List.replicate (N - m) (0, 0)).set m p = (rs ++ [p]) ++ List.replicate (N - (m + 1)) (0, 0) := by
  rw [List.set_append_right _ _ (by omega), h, Nat.sub_self, show N - m = N - (m + 1) + 1 by omega, List.replicate_succ, List.set_cons_zero, List.append_assoc]
  rfl
/-- A row that is made empty, with room for n. -/
theorem mk_fracs0 (n : Nat) (hn : n ≤ 100000) (w : World) : (Instr.makeSlice 26 (.int .i64 0) (.int .i64 n)).run Try.prog w = .ok (.slice (some ⟨w.heap.size, 0, none⟩) 0 n) (w.alloc (.cells (fcs (List.replicate n (0, 0))).toArray 24)) := by
  obtain ⟨i0, hi, hz0, hz1, hz2⟩ := info_parts Try.infoFrac
  have h := run_make w 26 24 i0 (.agg #[.int .i64 0, .int .i64 0]) Try.underlying26 hi hz0 .i64 .i64 (0 : Int) (n : Int) (by omega) (by omega) (by rw [hz2]; omega) (by omega)
  rw [Int.toNat_natCast, hz1, made_fracs] at h
  exact h
theorem owns_made (w : World) (n : Nat) (hn : n ≤ 100000) (T : TypeId) (B : Nat) (hB : B ≤ w.heap.size) : (w.alloc (.cells (fcs (List.replicate n (0, 0))).toArray T)).ownsRow B T 2 (.slice (some ⟨w.heap.size, 0, none⟩) 0 n) 0 (fcs []) :=
  ⟨rfl, .inr ⟨w.heap.size, n, (fcs (List.replicate n (0, 0))).toArray, rfl, hB, heap_alloc_new w _, Nat.zero_le _, by unfold maxLen; omega, by simp [fcs_len], by simp [fcs_nil]⟩⟩
theorem owns_base {w : World} {B B' : Nat} {T : TypeId} {size : Nat} {v : Value} {n : Nat} {cs : List Value} (h : w.ownsRow B T size v n cs) (hB : B' ≤ B) : w.ownsRow B' T size v n cs := by
  obtain ⟨hl, h2⟩ := h
  refine ⟨hl, ?_⟩
  rcases h2 with h2 | ⟨g, cap, cur, h3, hg, r⟩
  · exact .inl h2
  · exact .inr ⟨g, cap, cur, h3, by omega, r⟩
theorem owns_SF {w : World} {B : Nat} {T : TypeId} {v : Value} {xs : List (Int × Int)} (h : w.ownsRow B T 2 v xs.length (fcs xs)) : SF w v xs := by
  refine owns_sl h ?_
  obtain ⟨hl, h2⟩ := h
  rcases h2 with ⟨_, h2⟩ | ⟨g, cap, cur, _, _, _, h4, h5, _⟩
  · omega
  · unfold maxLen at h5; omega
/-- Rows of the call's own, and an error. -/
def rows_own (w : World) (r : List (Int × Int) × Int) (e : Ending) (w' : World) : Prop := ∃ u, e = .returned (.tuple #[u, .int .i64 r.2]) ∧ w'.ownsRow w.heap.size 24 2 u r.1.length (fcs r.1) ∧ Below w.heap.size w w'
def rows_post (w : World) (r : List (Int × Int) × Int) (e : Ending) (w' : World) : Prop := ∃ u, e = .returned (.tuple #[u, .int .i64 r.2]) ∧ SF w' u r.1 ∧ Below w.heap.size w w'
theorem rows_own_post {w : World} {r : List (Int × Int) × Int} {e : Ending} {w' : World} (h : rows_own w r e w') : rows_post w r e w' := by
  obtain ⟨u, h1, h2, h3⟩ := h
  exact ⟨u, h1, owns_SF h2, h3⟩
theorem owns_nil (w w0 : World) : w.ownsRow w0.heap.size 24 2 (.slice none 0 0) ([] : List (Int × Int)).length (fcs []) := World.ownsRow_nil _ _ _ _
end Go.Proofs.Ytpjhiojdnebgoaa

/- What is proved here: the degree of levels in plain Lean: the differences again and again, and by binomial coefficients. No program in sight. -/
namespace Go.Proofs.Ytpjhiojdnebgoaa
open Go.RowKit

/-- The differences of a list. -/
def dif (l : List Int) : List Int := (List.range (l.length - 1)).map fun i => l.getD (i + 1) 0 - l.getD i 0
theorem dif_len (l : List Int) : (dif l).length = l.length - 1 := by simp [dif]
theorem dif_get {l : List Int} {i : Nat} (h : i + 1 < l.length) : (dif l).getD i 0 = l.getD (i + 1) 0 - l.getD i 0 := by
  simp [dif, List.getD, show i < l.length - 1 by omega]
/-- The differences of the order m. -/
def difN : Nat → List Int → List Int
  | 0, l => l
  | m + 1, l => dif (difN m l)
theorem difN_len (l : List Int) : ∀ m, (difN m l).length = l.length - m
  | 0 => rfl
  | m + 1 => by rw [difN, dif_len, difN_len l m]; omega
/-- Whether all numbers are 0. -/
def zers (l : List Int) : Bool := l.all fun x => x == 0
theorem zers_iff {l : List Int} : zers l = true ↔ ∀ i, i < l.length → l.getD i 0 = 0 := by
  unfold zers
  rw [List.all_eq_true]
  constructor
  · intro h i hi
    have := h l[i] (List.getElem_mem hi)
    simp only [beq_iff_eq] at this
    simp [List.getD, hi, this]
  · intro h x hx
    obtain ⟨i, hi, rfl⟩ := List.getElem_of_mem hx
    have := h i hi
    simp [List.getD, hi] at this
    simp [this]
theorem zers_take {l : List Int} {k : Nat} (hk : k < l.length) (h : zers (l.take k) = true) (h1 : l[k] = 0) : zers (l.take (k + 1)) = true := by
  unfold zers at *
  rw [List.take_succ_eq_append_getElem hk, List.all_append, h]
  simp [h1]
theorem zers_not {l : List Int} {k : Nat} (hk : k < l.length) (h1 : l[k] ≠ 0) : zers l = false := by
  unfold zers
  rw [List.all_eq_false]
  exact ⟨l[k], List.getElem_mem hk, by simpa using h1⟩
theorem zers_end {l : List Int} {k : Nat} (hk : ¬ k < l.length) (h : zers (l.take k) = true) : zers l = true := by rwa [List.take_of_length_le (by omega)] at h
/-- No difference of a lesser order is 0 everywhere. -/
def upTo (l : List Int) (m : Nat) : Prop := ∀ j, j < m → zers (difN j l) = false
theorem upTo_zero (l : List Int) : upTo l 0 := fun j hj => by omega
theorem upTo_succ {l : List Int} {m : Nat} (h : upTo l m) (h1 : zers (difN m l) = false) : upTo l (m + 1) := fun j hj => by
  rcases Nat.lt_or_ge j m with h2 | h2
  · exact h j h2
  · obtain rfl : j = m := by omega
    exact h1
theorem upTo_le {l : List Int} {m : Nat} (h : upTo l m) : m ≤ l.length := by
  apply Classical.byContradiction
  intro hn
  have := h l.length (by omega)
  have h2 : (difN l.length l).length = 0 := by rw [difN_len]; omega
  rw [List.eq_nil_of_length_eq_zero h2] at this
  cases this
/-- The number of orders up to the first one whose differences are all 0. -/
def degN (l : List Int) : Nat → Nat
  | 0 => 0
  | k + 1 => if zers (difN (l.length - (k + 1)) l) = true then l.length - (k + 1) else degN l k
def degM (l : List Int) : Nat := if zers (difN l.length l) = true ∧ ∀ j, j < l.length → zers (difN j l) = false then l.length else degN l l.length
theorem degN_eq {l : List Int} {m : Nat} (h : upTo l m) (hz : zers (difN m l) = true) : ∀ k, k ≤ l.length → l.length - k ≤ m → m < l.length → degN l k = m
  | 0, _, h1, h2 => by omega
  | k + 1, h0, h1, h2 => by
    rw [degN]
    by_cases hm : l.length - (k + 1) = m
    · rw [hm, if_pos hz]
    · rw [if_neg (by rw [h _ (by omega)]; decide)]
      exact degN_eq h hz k (by omega) (by omega) h2
theorem degM_eq {l : List Int} {m : Nat} (h : upTo l m) (hz : zers (difN m l) = true) : degM l = m := by
  have hl := upTo_le h
  unfold degM
  rcases Nat.lt_or_ge m l.length with h1 | h1
  · rw [if_neg]
    · exact degN_eq h hz l.length (Nat.le_refl _) (by omega) h1
    · rintro ⟨_, h2⟩
      have := h2 m h1
      rw [hz] at this
      cases this
  · obtain rfl : m = l.length := by omega
    rw [if_pos ⟨hz, h⟩]
/-- The degree, and an error. -/
def fdeg (l : List Int) : Int × Int := if 24 < l.length then (0, 4) else if levB l = false then (0, 8) else ((degM l : Int) - 1, 0)

/-- The first k differences in place of the numbers. -/
theorem dif_put {l : List Int} {k : Nat} (h : k + 1 < l.length) : ((dif l).take k ++ l.drop k).set k (l.getD (k + 1) 0 - l.getD k 0) = (dif l).take (k + 1) ++ l.drop (k + 1) := by
  have hl : ((dif l).take k).length = k := by rw [List.length_take, dif_len]; omega
  rw [List.set_append_right _ _ (by omega), hl, Nat.sub_self, List.drop_eq_getElem_cons (show k < l.length by omega), List.set_cons_zero]
  rw [List.take_succ_eq_append_getElem (show k < (dif l).length by rw [dif_len]; omega), List.append_assoc]
  have : (dif l)[k]'(by rw [dif_len]; omega) = l.getD (k + 1) 0 - l.getD k 0 := by
    rw [← dif_get h]; simp [List.getD, dif_len, show k < l.length - 1 by omega]
  rw [this]; rfl
theorem dif_at0 {l : List Int} {k : Nat} (h : k < l.length) : ((dif l).take k ++ l.drop k)[k]? = some (l.getD k 0) := by
  have hl : ((dif l).take k).length ≤ k := by rw [List.length_take]; omega
  have hl2 : ((dif l).take k).length = k := by rw [List.length_take, dif_len]; omega
  rw [List.getElem?_append_right hl, hl2, Nat.sub_self, List.getElem?_drop, Nat.add_zero]
  simp [List.getD, h]
theorem dif_at1 {l : List Int} {k : Nat} (h : k + 1 < l.length) : ((dif l).take k ++ l.drop k)[k + 1]? = some (l.getD (k + 1) 0) := by
  have hl2 : ((dif l).take k).length = k := by rw [List.length_take, dif_len]; omega
  rw [List.getElem?_append_right (by omega), hl2, show k + 1 - k = 1 by omega, List.getElem?_drop]
  simp [List.getD, h]
theorem dif_done {l : List Int} {k : Nat} (h : l.length ≤ k + 1) : (dif l).take k ++ l.drop k = dif l ++ l.drop k := by
  rw [List.take_of_length_le (by rw [dif_len]; omega)]

/-- All numbers are at most M in size. -/
def lim (M : Int) (l : List Int) : Prop := ∀ i, i < l.length → -M ≤ l.getD i 0 ∧ l.getD i 0 ≤ M
theorem lim_dif {M : Int} {l : List Int} (h : lim M l) : lim (2 * M) (dif l) := fun i hi => by
  rw [dif_len] at hi
  rw [dif_get (by omega)]
  have h1 := h i (by omega)
  have h2 := h (i + 1) (by omega)
  omega
theorem lim_lev {l : List Int} (h : levB l = true) : lim 1000000 l := fun i hi => by
  unfold levB at h
  have := List.all_eq_true.1 h l[i] (List.getElem_mem hi)
  simp only [Bool.and_eq_true, decide_eq_true_eq] at this
  simp only [List.getD, List.getElem?_eq_getElem hi, Option.getD_some]
  omega
def pw : Nat → Int
  | 0 => 1000000
  | m + 1 => 2 * pw m
theorem pw_all : ((List.range 25).all fun m => decide (0 ≤ pw m) && decide (pw m ≤ 16777216000000)) = true := by decide +kernel
theorem pw_le {m : Nat} (h : m ≤ 24) : 0 ≤ pw m ∧ pw m ≤ 16777216000000 := by
  have := List.all_eq_true.1 pw_all m (List.mem_range.2 (by omega))
  simpa only [Bool.and_eq_true, decide_eq_true_eq] using this
theorem lim_difN {l : List Int} (h : levB l = true) : ∀ m, lim (pw m) (difN m l)
  | 0 => lim_lev h
  | m + 1 => lim_dif (lim_difN h m)
theorem dif_bound {l : List Int} (h : levB l = true) {m i : Nat} (hm : m ≤ 24) (hi : i < (difN m l).length) : -16777216000000 ≤ (difN m l).getD i 0 ∧ (difN m l).getD i 0 ≤ 16777216000000 := by
  have h1 := lim_difN h m i hi
  have h2 := pw_le hm
  omega

/-- Choices of k out of n. -/
def chs : Nat → Nat → Nat
  | _, 0 => 1
  | 0, _ + 1 => 0
  | n + 1, k + 1 => chs n k + chs n (k + 1)
theorem chs_0 (n : Nat) : chs n 0 = 1 := by cases n <;> rfl
theorem chs_out : ∀ (n k : Nat), n < k → chs n k = 0
  | 0, 0, h => by omega
  | 0, _ + 1, _ => rfl
  | n + 1, 0, h => by omega
  | n + 1, k + 1, h => by rw [chs, chs_out n k (by omega), chs_out n (k + 1) (by omega)]
theorem chs_next : ∀ (n k : Nat), chs n k * (n - k) = chs n (k + 1) * (k + 1)
  | 0, k => by rw [show chs 0 (k + 1) = 0 from rfl]; simp
  | n + 1, 0 => by
    have := chs_next n 0
    rw [chs_0] at this ⊢
    rw [chs, chs_0]
    omega
  | n + 1, k + 1 => by
    have h1 := chs_next n k
    have h2 := chs_next n (k + 1)
    rw [chs, chs]
    rcases Nat.lt_or_ge k n with h | h
    · obtain ⟨d, rfl⟩ : ∃ d, n = k + 1 + d := ⟨n - k - 1, by omega⟩
      rw [show k + 1 + d - k = d + 1 by omega] at h1
      rw [show k + 1 + d - (k + 1) = d by omega] at h2
      rw [show k + 1 + d + 1 - (k + 1) = d + 1 by omega]
      generalize chs (k + 1 + d) k = a at *
      generalize chs (k + 1 + d) (k + 1) = b at *
      generalize chs (k + 1 + d) (k + 1 + 1) = c at *
      grind
    · rw [chs_out n (k + 1) (by omega), chs_out n (k + 1 + 1) (by omega), show n + 1 - (k + 1) = n - k by omega, show n - k = 0 by omega]
      simp
theorem chs_le : ∀ (n k : Nat), chs n k ≤ 2 ^ n
  | n, 0 => by rw [chs_0]; exact Nat.one_le_two_pow
  | 0, _ + 1 => Nat.zero_le _
  | n + 1, k + 1 => by
    have h1 := chs_le n k
    have h2 := chs_le n (k + 1)
    rw [chs, Nat.pow_succ]; omega
theorem chs_24 {n k : Nat} (h : n ≤ 24) : chs n k ≤ 16777216 := by
  have h1 := chs_le n k
  have h2 : 2 ^ n ≤ 2 ^ 24 := Nat.pow_le_pow_right (by decide) h
  have h3 : (2 : Nat) ^ 24 = 16777216 := by decide
  omega
/-- The number of the step k of a difference. -/
def rterm (l : List Int) (at_ n k : Nat) : Int := if k % 2 = 1 then -((chs n k : Int) * l.getD (at_ + n - k) 0) else (chs n k : Int) * l.getD (at_ + n - k) 0
/-- The sum of the first k of them. -/
def ris (l : List Int) (at_ n : Nat) : Nat → Int
  | 0 => 0
  | k + 1 => ris l at_ n k + rterm l at_ n k
theorem rterm_0 (l : List Int) (at_ n : Nat) : rterm l at_ (n + 1) 0 = rterm l (at_ + 1) n 0 := by
  unfold rterm
  rw [chs_0, chs_0, show at_ + (n + 1) - 0 = at_ + 1 + n - 0 by omega]
theorem rterm_succ (l : List Int) (at_ n k : Nat) : rterm l at_ (n + 1) (k + 1) = rterm l (at_ + 1) n (k + 1) - rterm l at_ n k := by
  unfold rterm
  rw [chs, show at_ + (n + 1) - (k + 1) = at_ + n - k by omega, show at_ + 1 + n - (k + 1) = at_ + n - k by omega]
  rcases Nat.mod_two_eq_zero_or_one k with h | h
  · rw [if_pos (by omega), if_pos (by omega), if_neg (by omega)]; grind
  · rw [if_neg (by omega), if_neg (by omega), if_pos (by omega)]; grind
theorem ris_succ (l : List Int) (at_ n : Nat) : ∀ k, ris l at_ (n + 1) (k + 1) = ris l (at_ + 1) n (k + 1) - ris l at_ n k
  | 0 => by
    have := rterm_0 l at_ n
    show ris l at_ (n + 1) 0 + rterm l at_ (n + 1) 0 = ris l (at_ + 1) n 0 + rterm l (at_ + 1) n 0 - ris l at_ n 0
    simp only [ris]; omega
  | k + 1 => by
    have ih := ris_succ l at_ n k
    have := rterm_succ l at_ n k
    rw [ris, ih, this, ris.eq_2 l (at_ + 1) n (k + 1), ris.eq_2 l at_ n k]
    omega
theorem ris_end (l : List Int) (at_ n : Nat) : ris l at_ n (n + 2) = ris l at_ n (n + 1) := by
  rw [ris.eq_2 l at_ n (n + 1)]
  have : rterm l at_ n (n + 1) = 0 := by unfold rterm; rw [chs_out n (n + 1) (by omega)]; simp
  omega
theorem ris_full (l : List Int) : ∀ (n at_ : Nat), at_ + n < l.length → ris l at_ n (n + 1) = (difN n l).getD at_ 0
  | 0, at_, h => by
    show 0 + rterm l at_ 0 0 = l.getD at_ 0
    unfold rterm
    simp [chs_0]
  | n + 1, at_, h => by
    rw [ris_succ, ris_end, ris_full l n (at_ + 1) (by omega), ris_full l n at_ (by omega), difN, dif_get (by rw [difN_len]; omega)]
theorem rterm_le {l : List Int} (h : levB l = true) {at_ n k : Nat} (hn : n ≤ 24) : -16777216000000 ≤ rterm l at_ n k ∧ rterm l at_ n k ≤ 16777216000000 ∧ -16777216000000 ≤ (chs n k : Int) * l.getD (at_ + n - k) 0 ∧ (chs n k : Int) * l.getD (at_ + n - k) 0 ≤ 16777216000000 := by
  have h1 := chs_24 (k := k) hn
  have h2 : -1000000 ≤ l.getD (at_ + n - k) 0 ∧ l.getD (at_ + n - k) 0 ≤ 1000000 := by
    rcases Nat.lt_or_ge (at_ + n - k) l.length with hi | hi
    · exact lim_lev h _ hi
    · simp [List.getD, List.getElem?_eq_none hi]
  have h3 : -16777216000000 ≤ (chs n k : Int) * l.getD (at_ + n - k) 0 ∧ (chs n k : Int) * l.getD (at_ + n - k) 0 ≤ 16777216000000 := by
    generalize l.getD (at_ + n - k) 0 = x at *
    have a0 : (0 : Int) ≤ chs n k := by omega
    have a1 : (chs n k : Int) ≤ 16777216 := by omega
    generalize (chs n k : Int) = c at *
    have b1 := Int.mul_le_mul_of_nonneg_left h2.2 a0
    have b2 := Int.mul_le_mul_of_nonneg_left h2.1 a0
    omega
  refine ⟨?_, ?_, h3.1, h3.2⟩
  · unfold rterm; split <;> omega
  · unfold rterm; split <;> omega
theorem ris_le {l : List Int} (h : levB l = true) {at_ n : Nat} (hn : n ≤ 24) : ∀ k : Nat, k ≤ 25 → -((k : Int) * 16777216000000) ≤ ris l at_ n k ∧ ris l at_ n k ≤ (k : Int) * 16777216000000
  | 0, _ => by simp [ris]
  | k + 1, hk => by
    have ih := ris_le h (at_ := at_) hn k (by omega)
    have := rterm_le h (at_ := at_) (n := n) (k := k) hn
    rw [ris]; omega
/-- Whether all differences of an order are 0, one after the other. -/
theorem flat_iff {l : List Int} {n : Nat} : zers (difN n l) = true ↔ ∀ i, i + n < l.length → ris l i n (n + 1) = 0 := by
  rw [zers_iff, difN_len]
  constructor
  · intro h i hi
    rw [ris_full l n i hi]; exact h i (by omega)
  · intro h i hi
    rw [← ris_full l n i (by omega)]; exact h i (by omega)
theorem flat_no {l : List Int} {n i : Nat} (hi : i + n < l.length) (h : ris l i n (n + 1) ≠ 0) : zers (difN n l) = false := by
  cases hz : zers (difN n l) with
  | false => rfl
  | true => exact absurd (flat_iff.1 hz i hi) h
end Go.Proofs.Ytpjhiojdnebgoaa

/- What is proved here: the contract of a comparison of two lists of fractions. Condition: two slices of fractions. -/
namespace Go.Proofs.Ytpjhiojdnebgoaa
open Go.RowKit

theorem take_eq {xs ys : List (Int × Int)} {k : Nat} (h1 : k < xs.length) (h2 : k < ys.length) (h : xs.take k = ys.take k) (e1 : xs[k].1 = ys[k].1) (e2 : xs[k].2 = ys[k].2) : xs.take (k + 1) = ys.take (k + 1) := by
  rw [List.take_succ_eq_append_getElem h1, List.take_succ_eq_append_getElem h2, h]
  rw [Prod.ext e1 e2]
theorem take_ne {xs ys : List (Int × Int)} {k : Nat} (h1 : k < xs.length) (h2 : k < ys.length) (e : ¬ (xs[k].1 = ys[k].1 ∧ xs[k].2 = ys[k].2)) : decide (xs = ys) = false := by
  refine decide_eq_false fun h => e ?_
  subst h
  exact ⟨rfl, rfl⟩
set_option maxRecDepth 100000 in
set_option maxHeartbeats 4000000 in
theorem rsame_any (xs ys : List (Int × Int)) (u v : Value) (w : World) (hs : SF w u xs) (ht : SF w v ys) :
    Calls Try.prog 17 #[u, v] w fun e w' => e = .returned (.bool (decide (xs = ys))) ∧ Below w.heap.size w w' := by
  have hs0 := Lib.hid hs
  have ht0 := Lib.hid ht
  obtain ⟨ad, cap, rfl, h1, h2, _⟩ := hs.open
  obtain ⟨ad', cap', rfl, h1', h2', _⟩ := ht.open
  clear hs ht
  by_cases hl : xs.length = ys.length
  case neg =>
    have b1 : ((xs.length : Int) != (ys.length : Int)) = true := by simp; omega
    have HV : Hid (decide (xs = ys) = false) := decide_eq_false fun h => hl (by rw [h])
    clear hl
    go_enter Try.func17, Try.ntmps17
    go_wp2
    go_ret
    exact ⟨by rw [HV.out]; try rfl, Below.refl _ _⟩
  have b1 : ((xs.length : Int) != (ys.length : Int)) = false := by simp; omega
  have HL := Lib.hid hl
  have hl' : ys.length ≤ xs.length := by omega
  have hl'' : xs.length ≤ ys.length := by omega
  clear hl
  go_enter Try.func17, Try.ntmps17
  go_wp2
  go_loopw [5] (fun i wr => ∃ k : Nat, k ≤ xs.length ∧ i = .int .i64 k ∧ Hid (xs.take k = ys.take k) ∧ Below w.heap.size w wr) (fun i _ => xs.length - (intOf i).toNat)
  case atStart => exact ⟨0, Nat.zero_le _, rfl, rfl, Below.refl _ _⟩
  case round =>
    obtain ⟨k, hk, rfl, hv, hB⟩ := hrel
    by_cases hlt : k < xs.length
    · have hlt' : k < ys.length := by omega
      obtain ⟨_, _, e, _, _, H⟩ := (hs0.out.below hB).open
      cases e
      obtain ⟨b, off, rfl, c1, c2⟩ := H.out k hlt
      obtain ⟨_, _, e, _, _, H'⟩ := (ht0.out.below hB).open
      cases e
      obtain ⟨b', off', rfl, c1', c2'⟩ := H'.out k hlt'
      clear H H'
      have TE := Lib.hid (take_eq hlt hlt' hv.out)
      have TN := Lib.hid (take_ne hlt hlt')
      generalize xs[k].1 = n at *
      generalize xs[k].2 = d at *
      generalize ys[k].1 = n' at *
      generalize ys[k].2 = d' at *
      by_cases e1 : n = n'
      · by_cases e2 : d = d'
        · have HV := Lib.hid (TE.out e1 e2)
          subst e1 e2
          clear TE TN
          go_wp2
          go_quiet (fail)
          go_wp2
          go_roundw
          case rel => exact ⟨k + 1, by omega, by go_num, HV, bd hB _⟩
          case measure => simp [intOf]; try omega
        · have HV := Lib.hid (TN.out fun h => e2 h.2)
          have q2 : (d == d') = false := by simpa using e2
          subst e1
          clear TE TN e2
          go_wp2
          go_quiet (fail)
          go_wp2
          go_ret
          exact ⟨by rw [HV.out]; try rfl, bd hB _⟩
      · have HV := Lib.hid (TN.out fun h => e1 h.1)
        have q1 : (n == n') = false := by simpa using e1
        clear TE TN e1
        go_wp2
        go_quiet (fail)
        go_wp2
        go_ret
        exact ⟨by rw [HV.out]; try rfl, bd hB _⟩
    · have HV : Hid (decide (xs = ys) = true) := by
        have := hv.out
        have hl := HL.out
        rw [List.take_of_length_le (by omega), List.take_of_length_le (by omega)] at this
        exact decide_eq_true this
      go_wp2
      go_ret
      exact ⟨by rw [HV.out]; try rfl, hB⟩
end Go.Proofs.Ytpjhiojdnebgoaa
