/- What is proved here: contracts of functions and plain facts, several texts in one; each one says ahead what it proves, and its conditions. -/
import Derived.Test.YthlcmlngmcoknaaC05
import Derived.Test.YthlcmlngmcoknaaC01
/- What is proved here: slices of known numbers and fractions that were just made. No condition but the sizes. -/
namespace Go.Proofs.Ythlcmlngmcoknaa
open Go.RowKit

theorem si_of_own {w : World} {g : Nat} {T : TypeId} (xs : List Int) (n : Nat) (hn : xs.length = n) (hm : n ≤ 1000) (h : Own w g T (xs.map (Value.int .i64))) : SI w (.slice (some ⟨g, 0, none⟩) n n) xs := by
  unfold SI; rw [hn]
  exact h.sl n (Nat.le_refl _) (by omega) _ ⟨[], by simp⟩
theorem sf_of_own {w : World} {g : Nat} {T : TypeId} (xs : List (Int × Int)) (n : Nat) (hn : xs.length = n) (hm : n ≤ 1000) (h : Own w g T (fcs xs)) : SF w (.slice (some ⟨g, 0, none⟩) n n) xs := by
  unfold SF; rw [hn]
  exact h.sl n (Nat.le_refl _) (by omega) _ ⟨[], by simp⟩
theorem ss_nil (w : World) : SS w (.slice none 0 0) [] := ⟨[], rfl, ⟨none, 0, rfl, Nat.le_refl _, by decide, fun i x hx => by simp at hx⟩, fun i h => by simp at h⟩
theorem si_nil (w : World) : SI w (.slice none 0 0) [] := ⟨none, 0, rfl, Nat.le_refl _, by decide, fun i x hx => by simp at hx⟩
theorem ss_of_own {w : World} {g : Nat} {T : TypeId} (xss : List (List Int)) (vs : List Value) (n : Nat) (hn : xss.length = n) (hv : vs.length = n) (hm : n ≤ 1000) (h : Own w g T vs) (hr : ∀ i (h : i < xss.length) (h' : i < vs.length), SI w vs[i] xss[i]) : SS w (.slice (some ⟨g, 0, none⟩) n n) xss := by
  refine ⟨vs, by omega, ?_, hr⟩
  rw [hn]
  exact h.sl n (Nat.le_refl _) (by omega) _ ⟨[], by simp⟩
theorem fi_of (xs : List (Int × Int)) (h : (xs.all fun p => decide (-9223372036854775808 ≤ p.1) && decide (p.1 ≤ 9223372036854775807) && (decide (-9223372036854775808 ≤ p.2) && decide (p.2 ≤ 9223372036854775807))) = true) : FI xs := by
  intro p hp
  have := List.all_eq_true.1 h p hp
  simp only [Bool.and_eq_true, decide_eq_true_eq] at this
  exact ⟨⟨this.1.1, this.1.2⟩, ⟨this.2.1, this.2.2⟩⟩
theorem own_4th (w : World) (T : TypeId) (cs : List Value) (o1 o2 o3 : Obj) : Own ((((w.alloc o1).alloc o2).alloc o3).alloc (.cells cs.toArray T (0, 0))) (w.heap.size + 1 + 1 + 1) T cs := by
  have h := own_third (w.alloc o1) T cs o2 o3
  rw [show (w.alloc o1).heap.size = w.heap.size + 1 from by simp] at h
  exact h
theorem own_fifth (w : World) (T : TypeId) (cs : List Value) (o1 o2 o3 o4 : Obj) : Own (((((w.alloc o1).alloc o2).alloc o3).alloc o4).alloc (.cells cs.toArray T (0, 0))) (w.heap.size + 1 + 1 + 1 + 1) T cs := by
  have h := own_4th (w.alloc o1) T cs o2 o3 o4
  rw [show (w.alloc o1).heap.size = w.heap.size + 1 from by simp] at h
  exact h
theorem own_sixth (w : World) (T : TypeId) (cs : List Value) (o1 o2 o3 o4 o5 : Obj) : Own ((((((w.alloc o1).alloc o2).alloc o3).alloc o4).alloc o5).alloc (.cells cs.toArray T (0, 0))) (w.heap.size + 1 + 1 + 1 + 1 + 1) T cs := by
  have h := own_fifth (w.alloc o1) T cs o2 o3 o4 o5
  rw [show (w.alloc o1).heap.size = w.heap.size + 1 from by simp] at h
  exact h
theorem ba5 (w : World) (o1 o2 o3 o4 o5 : Obj) : Below w.heap.size w (((((w.alloc o1).alloc o2).alloc o3).alloc o4).alloc o5) := (ba4 w o1 o2 o3 o4).alloc (by simp; omega) _
theorem ba6 (w : World) (o1 o2 o3 o4 o5 o6 : Obj) : Below w.heap.size w ((((((w.alloc o1).alloc o2).alloc o3).alloc o4).alloc o5).alloc o6) := (ba5 w o1 o2 o3 o4 o5).alloc (by simp; omega) _
theorem fr_is {a : FR} {x y z : Int} (h : a.n = x ∧ a.d = y ∧ a.e = z) : a = ⟨x, y, z⟩ := by
  obtain ⟨h1, h2, h3⟩ := h
  cases a; simp_all
/-- A system that a call returns. -/
def sys_post (w : World) (A : List (List Int)) (B : List Int) (e : Ending) (w' : World) : Prop := ∃ va vb, e = .returned (.agg #[va, vb]) ∧ SS w' va A ∧ SI w' vb B ∧ Below w.heap.size w w'
/-- Fractions that a call returns. -/
def fracs_post (w : World) (xs : List (Int × Int)) (e : Ending) (w' : World) : Prop := ∃ u, e = .returned u ∧ SF w' u xs ∧ Below w.heap.size w w'
end Go.Proofs.Ythlcmlngmcoknaa

/- What is proved here: the contract of fringeref01.Of. No condition. -/
namespace Go.Proofs.Ythlcmlngmcoknaa
open Go.RowKit

theorem rof_any (n : Int) (w : World) : Calls Try.prog 45 #[.int .i64 n] w fun e w' => e = .returned (.agg #[.int .i64 n, .int .i64 1]) ∧ Below w.heap.size w w' := by
  go_enter Try.func45, Try.ntmps45
  go_wp2
  have oR := Own.new w 78 [.int .i64 n, .int .i64 1]
  have hB := ba1 w (.cells #[.int .i64 n, .int .i64 1] 78)
  refine bp_gen' (fun W => Own W _ _ _ ∧ Below w.heap.size w W) ⟨oR, hB⟩ ?_
  rintro wz ⟨oz, bz⟩
  obtain ⟨rz, fz⟩ := oz.rules
  clear oz
  refine bodyPost_ret (v := .agg #[.int .i64 n, .int .i64 1]) (by simp [results, Try.results45, go_sem, rz]) rfl ⟨rfl, ?_⟩
  exact bz
end Go.Proofs.Ythlcmlngmcoknaa

/- What is proved here: what making a row of fractions gives, and storing one of them. Condition: at most 100,000 fractions. -/
namespace Go.Proofs.Ythlcmlngmcoknaa
open Go.RowKit

theorem Try.infoFrac : (Try.prog.info? 78).map (fun i => (i.zero, i.size, i.bytes)) = some (some (.agg #[.int .i64 0, .int .i64 0]), 2, 16) := by kernel_rfl
theorem fcs_zero : ∀ n, fcs (List.replicate n (0, 0)) = List.replicate (n * 2) (.int .i64 0)
  | 0 => rfl
  | n + 1 => by rw [List.replicate_succ, fcs_cons, fcs_zero n, show (n + 1) * 2 = n * 2 + 1 + 1 by omega, List.replicate_succ, List.replicate_succ]
theorem made_fracs (n : Nat) : madeCells (Value.agg #[.int .i64 0, .int .i64 0]).cells (n * 2) = (fcs (List.replicate n (0, 0))).toArray := by
  rw [fcs_zero]
  apply Array.ext
  · simp [size_madeCells]
  · intro i h1 h2
    have : i % 2 = 0 ∨ i % 2 = 1 := by omega
    rcases this with h | h <;> simp [madeCells, Value.cells, h]
theorem mk_fracs (n : Nat) (x : Int) (hx : x = n) (hn : n ≤ 100000) (w : World) : (Instr.makeSlice 28 (.int .i64 x) (.int .i64 x)).run Try.prog w = .ok (.slice (some ⟨w.heap.size, 0, none⟩) n n) (w.alloc (.cells (fcs (List.replicate n (0, 0))).toArray 78)) := by
  subst hx
  obtain ⟨i0, hi, hz0, hz1, hz2⟩ := info_parts Try.infoFrac
  have h := run_make w 28 78 i0 (.agg #[.int .i64 0, .int .i64 0]) Try.underlying28 hi hz0 .i64 .i64 (n : Int) (n : Int) (by omega) (by omega) (by rw [hz2]; omega) (by omega)
  rw [Int.toNat_natCast, hz1, made_fracs] at h
  exact h
theorem fcs_some (xs : List (Int × Int)) (i : Nat) (h : i < xs.length) : ∃ v1 v2, (fcs xs)[i * 2]? = some v1 ∧ (fcs xs)[i * 2 + 1]? = some v2 := ⟨_, _, (fcs_get xs i h).1, (fcs_get xs i h).2⟩
/-- Two cells of a row of fractions are stored: one fraction. -/
theorem fcs_set : ∀ (xs : List (Int × Int)) (k : Nat) (p : Int × Int), ((fcs xs).set (k * 2) (.int .i64 p.1)).set (k * 2 + 1) (.int .i64 p.2) = fcs (xs.set k p)
  | [], k, p => rfl
  | x :: xs, 0, p => rfl
  | x :: xs, k + 1, p => by
    rw [fcs_cons, show (k + 1) * 2 = k * 2 + 1 + 1 by omega, List.set_cons_succ, List.set_cons_succ, List.set_cons_succ, List.set_cons_succ, fcs_set xs k p, List.set_cons_succ, fcs_cons]
theorem fill_rows (rs : List (Int × Int)) (m N : Nat) (p : Int × Int) (h : rs.length = m) (hm : m < N) : (rs ++ List.replicate (N - m) (0, 0)).set m p = (rs ++ [p]) ++ List.replicate (N - (m + 1)) (0, 0) := by
  rw [List.set_append_right _ _ (by omega), h, Nat.sub_self, show N - m = N - (m + 1) + 1 by omega, List.replicate_succ, List.set_cons_zero, List.append_assoc]
  rfl
/-- A row that is made empty, with room for n. -/
theorem mk_fracs0 (n : Nat) (hn : n ≤ 100000) (w : World) : (Instr.makeSlice 28 (.int .i64 0) (.int .i64 n)).run Try.prog w = .ok (.slice (some ⟨w.heap.size, 0, none⟩) 0 n) (w.alloc (.cells (fcs (List.replicate n (0, 0))).toArray 78)) := by
  obtain ⟨i0, hi, hz0, hz1, hz2⟩ := info_parts Try.infoFrac
  have h := run_make w 28 78 i0 (.agg #[.int .i64 0, .int .i64 0]) Try.underlying28 hi hz0 .i64 .i64 (0 : Int) (n : Int) (by omega) (by omega) (by rw [hz2]; omega) (by omega)
  rw [Int.toNat_natCast, hz1, made_fracs] at h
  exact h
theorem owns_made (w : World) (n : Nat) (hn : n ≤ 100000) (T : TypeId) (B : Nat) (hB : B ≤ w.heap.size) : (w.alloc (.cells (fcs (List.replicate n (0, 0))).toArray T)).ownsRow B T 2 (.slice (some ⟨w.heap.size, 0, none⟩) 0 n) 0 (fcs []) :=
  ⟨rfl, .inr ⟨w.heap.size, n, (fcs (List.replicate n (0, 0))).toArray, rfl, hB, heap_alloc_new w _, Nat.zero_le _, by unfold maxLen; omega, by simp [fcs_len], by simp [fcs_nil]⟩⟩
theorem owns_base {w : World} {B B' : Nat} {T : TypeId} {size : Nat} {v : Value} {n : Nat} {cs : List Value} (h : w.ownsRow B T size v n cs) (hB : B' ≤ B) : w.ownsRow B' T size v n cs := by
  obtain ⟨hl, h2⟩ := h
  refine ⟨hl, ?_⟩
  rcases h2 with h2 | ⟨g, cap, cur, h3, hg, r⟩
  · exact .inl h2
  · exact .inr ⟨g, cap, cur, h3, by omega, r⟩
theorem owns_SF {w : World} {B : Nat} {T : TypeId} {v : Value} {xs : List (Int × Int)} (h : w.ownsRow B T 2 v xs.length (fcs xs)) : SF w v xs := by
  refine owns_sl h ?_
  obtain ⟨hl, h2⟩ := h
  rcases h2 with ⟨_, h2⟩ | ⟨g, cap, cur, _, _, _, h4, h5, _⟩
  · omega
  · unfold maxLen at h5; omega
/-- Rows of the call's own, and an error. -/
def rows_own (w : World) (r : List (Int × Int) × Int) (e : Ending) (w' : World) : Prop := ∃ u, e = .returned (.tuple #[u, .int .i64 r.2]) ∧ w'.ownsRow w.heap.size 78 2 u r.1.length (fcs r.1) ∧ Below w.heap.size w w'
def rows_post (w : World) (r : List (Int × Int) × Int) (e : Ending) (w' : World) : Prop := ∃ u, e = .returned (.tuple #[u, .int .i64 r.2]) ∧ SF w' u r.1 ∧ Below w.heap.size w w'
theorem rows_own_post {w : World} {r : List (Int × Int) × Int} {e : Ending} {w' : World} (h : rows_own w r e w') : rows_post w r e w' := by
  obtain ⟨u, h1, h2, h3⟩ := h
  exact ⟨u, h1, owns_SF h2, h3⟩
theorem owns_nil (w w0 : World) : w.ownsRow w0.heap.size 78 2 (.slice none 0 0) ([] : List (Int × Int)).length (fcs []) := World.ownsRow_nil _ _ _ _
end Go.Proofs.Ythlcmlngmcoknaa

/- What is proved here: the contract of fringelaw37.ints. Condition: a slice of 64-bit numbers, at most 100. -/
namespace Go.Proofs.Ythlcmlngmcoknaa
open Go.RowKit

set_option maxRecDepth 100000 in
set_option maxHeartbeats 4000000 in
theorem ints37_any (l : List Int) (v : Value) (w : World) (hs : SI w v l) (hl : l.length ≤ 100) : Calls Try.prog 52 #[v] w (fracs_post w (l.map fun n => (n, 1))) := by
  have hs0 := Lib.hid hs
  obtain ⟨ad, cap, rfl, h1, h2, _⟩ := hs.open
  clear hs
  go_enter Try.func52, Try.ntmps52
  go_wp2
  go_loopw [3, 4] (fun ov i wr => ∃ m : Nat, m ≤ l.length ∧ i = .int .i64 m ∧ wr.ownsRow w.heap.size 78 2 ov m (fcs ((l.take m).map fun n => (n, 1))) ∧ Below w.heap.size w wr) (fun _ i _ => l.length - (intOf i).toNat)
  case atStart => exact ⟨0, Nat.zero_le _, rfl, World.ownsRow_nil _ _ _ _, Below.refl _ _⟩
  case round =>
    obtain ⟨m, hm, rfl, ow, hW⟩ := hrel
    rename World => W
    by_cases hlt : m < l.length
    · obtain ⟨_, _, e, _, _, H⟩ := (hs0.out.below hW).open
      cases e
      obtain ⟨b, off, rfl, c1⟩ := H.out m hlt
      clear H
      have HE : Hid (((l.take (m + 1)).map fun n => ((n, 1) : Int × Int)) = ((l.take m).map fun n => ((n, 1) : Int × Int)) ++ [(l[m], 1)]) := by
        show _ = _
        rw [List.take_succ_eq_append_getElem hlt, List.map_append]; rfl
      generalize l[m] = lm at *
      go_wp2_with fail
      refine (rof_any lm _).mono ?_
      rintro e y2 ⟨rfl, hq⟩
      replace ow := owns_at ow hq
      replace hW := below_to hW hq
      clear hq c1
      have zr := hW.size
      go_wp2_with (at_builtin; refine wpList_app _ rfl _ _ _ rfl w.heap.size 78 2 16 (.agg #[.int .i64 0, .int .i64 0]) Try.underlying28 Try.infoFrac rfl (by omega) (by omega) _ m _ rfl (ow.alloc _) (by omega) (by simp; omega) y2.heap.size [.int .i64 lm, .int .i64 1] (0, 0) rfl (heap_alloc_new y2 _) rfl (by simp [Value.oneCell']) ?_; intro g cap2 w9 hown hg hbw)
      go_roundw
      case rel =>
        refine ⟨m + 1, by omega, by go_num, ?_, ?_⟩
        · rw [HE.out, fcs_append]; exact hown
        · exact (below_to hW (ba1 y2 _)).trans (hbw.mono (Nat.le_refl _))
      case measure => simp [intOf]; try omega
    · obtain rfl : m = l.length := by omega
      have hsl : SF W u3 (l.map fun n => (n, 1)) := by
        have h9 := owns_sl ow (by omega)
        rw [List.take_of_length_le (Nat.le_refl _)] at h9
        unfold SF
        rw [List.length_map]
        exact h9
      clear ow
      go_wp2
      go_ret
      exact ⟨u3, rfl, hsl, hW⟩
end Go.Proofs.Ythlcmlngmcoknaa
