/- What is proved here: contracts of functions and plain facts, several texts in one; each one says ahead what it proves, and its conditions. -/
import Derived.Test.YtfbigmjlppdlhaaC05
import Derived.Test.YtfbigmjlppdlhaaC01
import Derived.Test.YtfbigmjlppdlhaaC04
/- What is proved here: slices of known numbers and fractions that were just made. No condition but the sizes. -/
namespace Go.Proofs.Ytfbigmjlppdlhaa
open Go.RowKit

theorem si_of_own {w : World} {g : Nat} {T : TypeId} (xs : List Int) (n : Nat) (hn : xs.length = n) (hm : n ≤ 1000) (h : Own w g T (xs.map (Value.int .i64))) : SI w (.slice (some ⟨g, 0, none⟩) n n) xs := by
  unfold SI; rw [hn]
  exact h.sl n (Nat.le_refl _) (by omega) _ ⟨[], by simp⟩
theorem sf_of_own {w : World} {g : Nat} {T : TypeId} (xs : List (Int × Int)) (n : Nat) (hn : xs.length = n) (hm : n ≤ 1000) (h : Own w g T (fcs xs)) : SF w (.slice (some ⟨g, 0, none⟩) n n) xs := by
  unfold SF; rw [hn]
  exact h.sl n (Nat.le_refl _) (by omega) _ ⟨[], by simp⟩
theorem ss_nil (w : World) : SS w (.slice none 0 0) [] := ⟨[], rfl, ⟨none, 0, rfl, Nat.le_refl _, by decide, fun i x hx => by simp at hx⟩, fun i h => by simp at h⟩
theorem si_nil (w : World) : SI w (.slice none 0 0) [] := ⟨none, 0, rfl, Nat.le_refl _, by decide, fun i x hx => by simp at hx⟩
theorem ss_of_own {w : World} {g : Nat} {T : TypeId} (xss : List (List Int)) (vs : List Value) (n : Nat) (hn : xss.length = n) (hv : vs.length = n) (hm : n ≤ 1000) (h : Own w g T vs) (hr : ∀ i (h : i < xss.length) (h' : i < vs.length), SI w vs[i] xss[i]) : SS w (.slice (some ⟨g, 0, none⟩) n n) xss := by
  refine ⟨vs, by omega, ?_, hr⟩
  rw [hn]
  exact h.sl n (Nat.le_refl _) (by omega) _ ⟨[], by simp⟩
theorem fi_of (xs : List (Int × Int)) (h : (xs.all fun p => decide (-9223372036854775808 ≤ p.1) && decide (p.1 ≤ 9223372036854775807) && (decide (-9223372036854775808 ≤ p.2) && decide (p.2 ≤ 9223372036854775807))) = true) : FI xs := by
  intro p hp
  have := List.all_eq_true.1 h p hp
  simp only [Bool.and_eq_true, decide_eq_true_eq] at this
  exact ⟨⟨this.1.1, this.1.2⟩, ⟨this.2.1, this.2.2⟩⟩
theorem own_4th (w : World) (T : TypeId) (cs : List Value) (o1 o2 o3 : Obj) : Own ((((w.alloc o1).alloc o2).alloc o3).alloc (.cells cs.toArray T (0, 0))) (w.heap.size + 1 + 1 + 1) T cs := by
  have h := own_third (w.alloc o1) T cs o2 o3
  rw [show (w.alloc o1).heap.size = w.heap.size + 1 from by simp] at h
  exact h
theorem own_fifth (w : World) (T : TypeId) (cs : List Value) (o1 o2 o3 o4 : Obj) : Own (((((w.alloc o1).alloc o2).alloc o3).alloc o4).alloc (.cells cs.toArray T (0, 0))) (w.heap.size + 1 + 1 + 1 + 1) T cs := by
  have h := own_4th (w.alloc o1) T cs o2 o3 o4
  rw [show (w.alloc o1).heap.size = w.heap.size + 1 from by simp] at h
  exact h
theorem own_sixth (w : World) (T : TypeId) (cs : List Value) (o1 o2 o3 o4 o5 : Obj) : Own ((((((w.alloc o1).alloc o2).alloc o3).alloc o4).alloc o5).alloc (.cells cs.toArray T (0, 0))) (w.heap.size + 1 + 1 + 1 + 1 + 1) T cs := by
  have h := own_fifth (w.alloc o1) T cs o2 o3 o4 o5
  rw [show (w.alloc o1).heap.size = w.heap.size + 1 from by simp] at h
  exact h
theorem ba5 (w : World) (o1 o2 o3 o4 o5 : Obj) : Below w.heap.size w (((((w.alloc o1).alloc o2).alloc o3).alloc o4).alloc o5) := (ba4 w o1 o2 o3 o4).alloc (by simp; omega) _
theorem ba6 (w : World) (o1 o2 o3 o4 o5 o6 : Obj) : Below w.heap.size w ((((((w.alloc o1).alloc o2).alloc o3).alloc o4).alloc o5).alloc o6) := (ba5 w o1 o2 o3 o4 o5).alloc (by simp; omega) _
theorem fr_is {a : FR} {x y z : Int} (h : a.n = x ∧ a.d = y ∧ a.e = z) : a = ⟨x, y, z⟩ := by
  obtain ⟨h1, h2, h3⟩ := h
  cases a; simp_all
/-- A system that a call returns. -/
def sys_post (w : World) (A : List (List Int)) (B : List Int) (e : Ending) (w' : World) : Prop := ∃ va vb, e = .returned (.agg #[va, vb]) ∧ SS w' va A ∧ SI w' vb B ∧ Below w.heap.size w w'
/-- Fractions that a call returns. -/
def fracs_post (w : World) (xs : List (Int × Int)) (e : Ending) (w' : World) : Prop := ∃ u, e = .returned u ∧ SF w' u xs ∧ Below w.heap.size w w'
end Go.Proofs.Ytfbigmjlppdlhaa

/- What is proved here: the contract of fringeref01.Of. No condition. -/
namespace Go.Proofs.Ytfbigmjlppdlhaa
open Go.RowKit

theorem rof_any (n : Int) (w : World) : Calls Try.prog 55 #[.int .i64 n] w fun e w' => e = .returned (.agg #[.int .i64 n, .int .i64 1]) ∧ Below w.heap.size w w' := by
  go_enter Try.func55, Try.ntmps55
  go_wp2
  have oR := Own.new w 34 [.int .i64 n, .int .i64 1]
  have hB := ba1 w (.cells #[.int .i64 n, .int .i64 1] 34)
  refine bp_gen' (fun W => Own W _ _ _ ∧ Below w.heap.size w W) ⟨oR, hB⟩ ?_
  rintro wz ⟨oz, bz⟩
  obtain ⟨rz, fz⟩ := oz.rules
  clear oz
  refine bodyPost_ret (v := .agg #[.int .i64 n, .int .i64 1]) (by simp [results, Try.results55, go_sem, rz]) rfl ⟨rfl, ?_⟩
  exact bz
end Go.Proofs.Ytfbigmjlppdlhaa

/- What is proved here: what making a row of fractions gives, and storing one of them. Condition: at most 100,000 fractions. -/
namespace Go.Proofs.Ytfbigmjlppdlhaa
open Go.RowKit

theorem Try.infoFrac : (Try.prog.info? 34).map (fun i => (i.zero, i.size, i.bytes)) = some (some (.agg #[.int .i64 0, .int .i64 0]), 2, 16) := by kernel_rfl
theorem fcs_zero : ∀ n, fcs (List.replicate n (0, 0)) = List.replicate (n * 2) (.int .i64 0)
  | 0 => rfl
  | n + 1 => by rw [List.replicate_succ, fcs_cons, fcs_zero n, show (n + 1) * 2 = n * 2 + 1 + 1 by omega, List.replicate_succ, List.replicate_succ]
theorem made_fracs (n : Nat) : madeCells (Value.agg #[.int .i64 0, .int .i64 0]).cells (n * 2) = (fcs (List.replicate n (0, 0))).toArray := by
  rw [fcs_zero]
  apply Array.ext
  · simp [size_madeCells]
  · intro i h1 h2
    have : i % 2 = 0 ∨ i % 2 = 1 := by omega
    rcases this with h | h <;> simp [madeCells, Value.cells, h]
theorem mk_fracs (n : Nat) (x : Int) (hx : x = n) (hn : n ≤ 100000) (w : World) : (Instr.makeSlice 26 (.int .i64 x) (.int .i64 x)).run Try.prog w = .ok (.slice (some ⟨w.heap.size, 0, none⟩) n n) (w.alloc (.cells (fcs (List.replicate n (0, 0))).toArray 34)) := by
  subst hx
  obtain ⟨i0, hi, hz0, hz1, hz2⟩ := info_parts Try.infoFrac
  have h := run_make w 26 34 i0 (.agg #[.int .i64 0, .int .i64 0]) Try.underlying26 hi hz0 .i64 .i64 (n : Int) (n : Int) (by omega) (by omega) (by rw [hz2]; omega) (by omega)
  rw [Int.toNat_natCast, hz1, made_fracs] at h
  exact h
theorem fcs_some (xs : List (Int × Int)) (i : Nat) (h : i < xs.length) : ∃ v1 v2, (fcs xs)[i * 2]? = some v1 ∧ (fcs xs)[i * 2 + 1]? = some v2 := ⟨_, _, (fcs_get xs i h).1, (fcs_get xs i h).2⟩
/-- Two cells of a row of fractions are stored: one fraction. -/
theorem fcs_set : ∀ (xs : List (Int × Int)) (k : Nat) (p : Int × Int), ((fcs xs).set (k * 2) (.int .i64 p.1)).set (k * 2 + 1) (.int .i64 p.2) = fcs (xs.set k p)
  | [], k, p => rfl
  | x :: xs, 0, p => rfl
  | x :: xs, k + 1, p => by
    rw [fcs_cons, show (k + 1) * 2 = k * 2 + 1 + 1 by omega, List.set_cons_succ, List.set_cons_succ, List.set_cons_succ, List.set_cons_succ, fcs_set xs k p, List.set_cons_succ, fcs_cons]
theorem fill_rows (rs : List (Int × Int)) (m N : Nat) (p : Int × Int) (h : rs.length = m) (hm : m < N) : (rs ++ List.replicate (N - m) (0, 0)).set m p = (rs ++ [p]) ++ List.replicate (N - (m + 1)) (0, 0) := by
  rw [List.set_append_right _ _ (by omega), h, Nat.sub_self, show N - m = N - (m + 1) + 1 by omega, List.replicate_succ, List.set_cons_zero, List.append_assoc]
  rfl
/-- A row that is made empty, with room for n. -/
theorem mk_fracs0 (n : Nat) (hn : n ≤ 100000) (w : World) : (Instr.makeSlice 26 (.int .i64 0) (.int .i64 n)).run Try.prog w = .ok (.slice (some ⟨w.heap.size, 0, none⟩) 0 n) (w.alloc (.cells (fcs (List.replicate n (0, 0))).toArray 34)) := by
  obtain ⟨i0, hi, hz0, hz1, hz2⟩ := info_parts Try.infoFrac
  have h := run_make w 26 34 i0 (.agg #[.int .i64 0, .int .i64 0]) Try.underlying26 hi hz0 .i64 .i64 (0 : Int) (n : Int) (by omega) (by omega) (by rw [hz2]; omega) (by omega)
  rw [Int.toNat_natCast, hz1, made_fracs] at h
  exact h
theorem owns_made (w : World) (n : Nat) (hn : n ≤ 100000) (T : TypeId) (B : Nat) (hB : B ≤ w.heap.size) : (w.alloc (.cells (fcs (List.replicate n (0, 0))).toArray T)).ownsRow B T 2 (.slice (some ⟨w.heap.size, 0, none⟩) 0 n) 0 (fcs []) :=
  ⟨rfl, .inr ⟨w.heap.size, n, (fcs (List.replicate n (0, 0))).toArray, rfl, hB, heap_alloc_new w _, Nat.zero_le _, by unfold maxLen; omega, by simp [fcs_len], by simp [fcs_nil]⟩⟩
theorem owns_base {w : World} {B B' : Nat} {T : TypeId} {size : Nat} {v : Value} {n : Nat} {cs : List Value} (h : w.ownsRow B T size v n cs) (hB : B' ≤ B) : w.ownsRow B' T size v n cs := by
  obtain ⟨hl, h2⟩ := h
  refine ⟨hl, ?_⟩
  rcases h2 with h2 | ⟨g, cap, cur, h3, hg, r⟩
  · exact .inl h2
  · exact .inr ⟨g, cap, cur, h3, by omega, r⟩
theorem owns_SF {w : World} {B : Nat} {T : TypeId} {v : Value} {xs : List (Int × Int)} (h : w.ownsRow B T 2 v xs.length (fcs xs)) : SF w v xs := by
  refine owns_sl h ?_
  obtain ⟨hl, h2⟩ := h
  rcases h2 with ⟨_, h2⟩ | ⟨g, cap, cur, _, _, _, h4, h5, _⟩
  · omega
  · unfold maxLen at h5; omega
/-- Rows of the call's own, and an error. -/
def rows_own (w : World) (r : List (Int × Int) × Int) (e : Ending) (w' : World) : Prop := ∃ u, e = .returned (.tuple #[u, .int .i64 r.2]) ∧ w'.ownsRow w.heap.size 34 2 u r.1.length (fcs r.1) ∧ Below w.heap.size w w'
def rows_post (w : World) (r : List (Int × Int) × Int) (e : Ending) (w' : World) : Prop := ∃ u, e = .returned (.tuple #[u, .int .i64 r.2]) ∧ SF w' u r.1 ∧ Below w.heap.size w w'
theorem rows_own_post {w : World} {r : List (Int × Int) × Int} {e : Ending} {w' : World} (h : rows_own w r e w') : rows_post w r e w' := by
  obtain ⟨u, h1, h2, h3⟩ := h
  exact ⟨u, h1, owns_SF h2, h3⟩
theorem owns_nil (w w0 : World) : w.ownsRow w0.heap.size 34 2 (.slice none 0 0) ([] : List (Int × Int)).length (fcs []) := World.ownsRow_nil _ _ _ _
end Go.Proofs.Ytfbigmjlppdlhaa

/- What is proved here: the contracts of fringelaw39.given and ints. Condition: ints: a slice of 64-bit numbers, at most 100. -/
namespace Go.Proofs.Ytfbigmjlppdlhaa
open Go.RowKit

set_option maxRecDepth 100000 in
set_option maxHeartbeats 4000000 in
theorem given39_any (w : World) : Calls Try.prog 57 #[] w (sys_post w [[1, 0], [0, 1]] [3, 1]) := by
  go_enter Try.func57, Try.ntmps57
  go_wp2
  have oR := ((((Own.new w 25 [.slice (some ⟨w.heap.size + 1 + 1 + 1, 0, none⟩) 2 2, .slice (some ⟨w.heap.size + 1 + 1 + 1 + 1, 0, none⟩) 2 2]).alloc (.cells #[.int .i64 1, .int .i64 0] 3)).alloc (.cells #[.int .i64 0, .int .i64 1] 3)).alloc (.cells #[.slice (some ⟨w.heap.size + 1, 0, none⟩) 2 2, .slice (some ⟨w.heap.size + 1 + 1, 0, none⟩) 2 2] 23)).alloc (.cells #[.int .i64 3, .int .i64 1] 3)
  have o1 := (((own_second w 3 [.int .i64 1, .int .i64 0] (.cells #[.slice (some ⟨w.heap.size + 1 + 1 + 1, 0, none⟩) 2 2, .slice (some ⟨w.heap.size + 1 + 1 + 1 + 1, 0, none⟩) 2 2] 25)).alloc (.cells #[.int .i64 0, .int .i64 1] 3)).alloc (.cells #[.slice (some ⟨w.heap.size + 1, 0, none⟩) 2 2, .slice (some ⟨w.heap.size + 1 + 1, 0, none⟩) 2 2] 23)).alloc (.cells #[.int .i64 3, .int .i64 1] 3)
  have o2 := ((own_third w 3 [.int .i64 0, .int .i64 1] (.cells #[.slice (some ⟨w.heap.size + 1 + 1 + 1, 0, none⟩) 2 2, .slice (some ⟨w.heap.size + 1 + 1 + 1 + 1, 0, none⟩) 2 2] 25) (.cells #[.int .i64 1, .int .i64 0] 3)).alloc (.cells #[.slice (some ⟨w.heap.size + 1, 0, none⟩) 2 2, .slice (some ⟨w.heap.size + 1 + 1, 0, none⟩) 2 2] 23)).alloc (.cells #[.int .i64 3, .int .i64 1] 3)
  have o3 := (own_4th w 23 [.slice (some ⟨w.heap.size + 1, 0, none⟩) 2 2, .slice (some ⟨w.heap.size + 1 + 1, 0, none⟩) 2 2] (.cells #[.slice (some ⟨w.heap.size + 1 + 1 + 1, 0, none⟩) 2 2, .slice (some ⟨w.heap.size + 1 + 1 + 1 + 1, 0, none⟩) 2 2] 25) (.cells #[.int .i64 1, .int .i64 0] 3) (.cells #[.int .i64 0, .int .i64 1] 3)).alloc (.cells #[.int .i64 3, .int .i64 1] 3)
  have o4 := own_fifth w 3 [.int .i64 3, .int .i64 1] (.cells #[.slice (some ⟨w.heap.size + 1 + 1 + 1, 0, none⟩) 2 2, .slice (some ⟨w.heap.size + 1 + 1 + 1 + 1, 0, none⟩) 2 2] 25) (.cells #[.int .i64 1, .int .i64 0] 3) (.cells #[.int .i64 0, .int .i64 1] 3) (.cells #[.slice (some ⟨w.heap.size + 1, 0, none⟩) 2 2, .slice (some ⟨w.heap.size + 1 + 1, 0, none⟩) 2 2] 23)
  have hB := ba5 w (.cells #[.slice (some ⟨w.heap.size + 1 + 1 + 1, 0, none⟩) 2 2, .slice (some ⟨w.heap.size + 1 + 1 + 1 + 1, 0, none⟩) 2 2] 25) (.cells #[.int .i64 1, .int .i64 0] 3) (.cells #[.int .i64 0, .int .i64 1] 3) (.cells #[.slice (some ⟨w.heap.size + 1, 0, none⟩) 2 2, .slice (some ⟨w.heap.size + 1 + 1, 0, none⟩) 2 2] 23) (.cells #[.int .i64 3, .int .i64 1] 3)
  have s1 := si_of_own [1, 0] 2 rfl (by decide) o1
  have s2 := si_of_own [0, 1] 2 rfl (by decide) o2
  have s4 := si_of_own [3, 1] 2 rfl (by decide) o4
  have s3 := ss_of_own [[1, 0], [0, 1]] [.slice (some ⟨w.heap.size + 1, 0, none⟩) 2 2, .slice (some ⟨w.heap.size + 1 + 1, 0, none⟩) 2 2] 2 rfl rfl (by decide) o3 (fun i h h' => by
    match i, h with
    | 0, _ => exact s1
    | 1, _ => exact s2)
  refine bp_gen' (fun W => Own W w.heap.size 25 [.slice (some ⟨w.heap.size + 1 + 1 + 1, 0, none⟩) 2 2, .slice (some ⟨w.heap.size + 1 + 1 + 1 + 1, 0, none⟩) 2 2] ∧ SS W (.slice (some ⟨w.heap.size + 1 + 1 + 1, 0, none⟩) 2 2) [[1, 0], [0, 1]] ∧ SI W (.slice (some ⟨w.heap.size + 1 + 1 + 1 + 1, 0, none⟩) 2 2) [3, 1] ∧ Below w.heap.size w W) ⟨oR, s3, s4, hB⟩ ?_
  rintro wz ⟨oz, sa, sb, bz⟩
  obtain ⟨rz, fz⟩ := oz.rules
  clear oz oR o1 o2 o3 o4 s1 s2 s3 s4 hB
  refine bodyPost_ret (v := .agg #[.slice (some ⟨w.heap.size + 1 + 1 + 1, 0, none⟩) 2 2, .slice (some ⟨w.heap.size + 1 + 1 + 1 + 1, 0, none⟩) 2 2]) (by simp [results, Try.results57, go_sem, rz]) rfl ⟨_, _, rfl, sa, sb, bz⟩
set_option maxRecDepth 100000 in
set_option maxHeartbeats 4000000 in
theorem ints39_any (l : List Int) (v : Value) (w : World) (hs : SI w v l) (hl : l.length ≤ 100) : Calls Try.prog 58 #[v] w (fracs_post w (l.map fun n => (n, 1))) := by
  have hs0 := Lib.hid hs
  obtain ⟨ad, cap, rfl, h1, h2, _⟩ := hs.open
  clear hs
  go_enter Try.func58, Try.ntmps58
  go_wp2
  go_loopw [3, 4] (fun ov i wr => ∃ m : Nat, m ≤ l.length ∧ i = .int .i64 m ∧ wr.ownsRow w.heap.size 34 2 ov m (fcs ((l.take m).map fun n => (n, 1))) ∧ Below w.heap.size w wr) (fun _ i _ => l.length - (intOf i).toNat)
  case atStart => exact ⟨0, Nat.zero_le _, rfl, World.ownsRow_nil _ _ _ _, Below.refl _ _⟩
  case round =>
    obtain ⟨m, hm, rfl, ow, hW⟩ := hrel
    rename World => W
    by_cases hlt : m < l.length
    · obtain ⟨_, _, e, _, _, H⟩ := (hs0.out.below hW).open
      cases e
      obtain ⟨b, off, rfl, c1⟩ := H.out m hlt
      clear H
      have HE : Hid (((l.take (m + 1)).map fun n => ((n, 1) : Int × Int)) = ((l.take m).map fun n => ((n, 1) : Int × Int)) ++ [(l[m], 1)]) := by
        show _ = _
        rw [List.take_succ_eq_append_getElem hlt, List.map_append]; rfl
      generalize l[m] = lm at *
      go_wp2_with fail
      refine (rof_any lm _).mono ?_
      rintro e y2 ⟨rfl, hq⟩
      replace ow := owns_at ow hq
      replace hW := below_to hW hq
      clear hq c1
      have zr := hW.size
      go_wp2_with (at_builtin; refine wpList_app _ rfl _ _ _ rfl w.heap.size 34 2 16 (.agg #[.int .i64 0, .int .i64 0]) Try.underlying26 Try.infoFrac rfl (by omega) (by omega) _ m _ rfl (ow.alloc _) (by omega) (by simp; omega) y2.heap.size [.int .i64 lm, .int .i64 1] (0, 0) rfl (heap_alloc_new y2 _) rfl (by simp [Value.oneCell']) ?_; intro g cap2 w9 hown hg hbw)
      go_roundw
      case rel =>
        refine ⟨m + 1, by omega, by go_num, ?_, ?_⟩
        · rw [HE.out, fcs_append]; exact hown
        · exact (below_to hW (ba1 y2 _)).trans (hbw.mono (Nat.le_refl _))
      case measure => simp [intOf]; try omega
    · obtain rfl : m = l.length := by omega
      have hsl : SF W u3 (l.map fun n => (n, 1)) := by
        have h9 := owns_sl ow (by omega)
        rw [List.take_of_length_le (Nat.le_refl _)] at h9
        unfold SF
        rw [List.length_map]
        exact h9
      clear ow
      go_wp2
      go_ret
      exact ⟨u3, rfl, hsl, hW⟩
end Go.Proofs.Ytfbigmjlppdlhaa

/- What is proved here: what feasible witnesses, their worth, gaps and certificates come to. No program in sight. -/
namespace Go.Proofs.Ytfbigmjlppdlhaa
open Go.RowKit

/-- Whether a list is a witness for a fit with m equations. -/
def witB (m : Nat) (y : List (Int × Int)) : Bool := fvalid y && decide (y.length = m)
theorem witB_len {m : Nat} {y : List (Int × Int)} (h : ¬ y.length = m) : witB m y = false := by simp [witB, h]
theorem witB_bad {m : Nat} {y : List (Int × Int)} (h : fvalid y = false) : witB m y = false := by simp [witB, h]
theorem witB_ok {m : Nat} {y : List (Int × Int)} (h : fvalid y = true) : witB m y = decide (y.length = m) := by simp [witB, h]
theorem witB_of {m : Nat} {y : List (Int × Int)} (h : witB m y = true) : y.length = m ∧ ∀ i (h : i < y.length), fchk y[i].1 y[i].2 = 0 := by
  simp only [witB, Bool.and_eq_true, decide_eq_true_eq] at h
  exact ⟨h.2, fun i hi => fvalid_get h.1 i hi⟩
/-- The error of a fit, a cost and a witness. -/
def dcheck (A : List (List Int)) (B : List Int) (c : Int) (y : List (Int × Int)) : Int := if scheck A B c = 0 then (if witB A.length y = true then 0 else 2) else scheck A B c
theorem dcheck_c {A : List (List Int)} {B : List Int} {c : Int} {y : List (Int × Int)} (h : ¬ scheck A B c = 0) : dcheck A B c y = scheck A B c := if_neg h
theorem dcheck_2 {A : List (List Int)} {B : List Int} {c : Int} {y : List (Int × Int)} (h : scheck A B c = 0) (h' : witB A.length y = false) : dcheck A B c y = 2 := by unfold dcheck; rw [if_pos h, if_neg (by rw [h']; decide)]
theorem dcheck_0 {A : List (List Int)} {B : List Int} {c : Int} {y : List (Int × Int)} (h : scheck A B c = 0) (h' : witB A.length y = true) : dcheck A B c y = 0 := by unfold dcheck; rw [if_pos h, if_pos h']
theorem dcheck_of {A : List (List Int)} {B : List Int} {c : Int} {y : List (Int × Int)} (h : dcheck A B c y = 0) : scheck A B c = 0 ∧ witB A.length y = true := by
  unfold dcheck at h
  split at h
  · rename_i h1
    split at h
    · rename_i h2; exact ⟨h1, h2⟩
    · cases h
  · rename_i h1; exact absurd h h1
theorem FitY.ofC {A : List (List Int)} {B : List Int} {y : List (Int × Int)} (h : ncheck A B = 0) (hw : witB A.length y = true) : FitY A y (A.getD 0 []).length := by
  have f := fit_of h
  obtain ⟨h1, h2⟩ := witB_of hw
  exact ⟨f.rows.1, ⟨by have := f.rows; omega, by have := f.cols; omega⟩, h1, f.wide, fun i hi k hk => by have := f.coef i hi k hk; omega, h2⟩
/-- Whether no sum is greater than the cost. -/
def feasB (l : List (Int × Int)) (c : Int) (k : Nat) : Bool := (List.range k).all fun j => !decide (fcmp c 1 (l.getD j (0, 0)).1 (l.getD j (0, 0)).2 = -1)
theorem feasB_succ {l : List (Int × Int)} {c : Int} {k : Nat} (h1 : k < l.length) (h : feasB l c k = true) (hn : ¬ fcmp c 1 l[k].1 l[k].2 = -1) : feasB l c (k + 1) = true := by
  unfold feasB at *
  rw [List.range_succ, List.all_append, h]
  simp only [List.all_cons, List.all_nil, getD_get h1, hn]
  rfl
theorem feasB_not {l : List (Int × Int)} {c : Int} {k n : Nat} (hk : k < n) (h1 : k < l.length) (hn : fcmp c 1 l[k].1 l[k].2 = -1) : feasB l c n = false := by
  unfold feasB
  rw [List.all_eq_false]
  refine ⟨k, List.mem_range.2 hk, ?_⟩
  simp only [getD_get h1, hn]
  decide
def dfeas (A : List (List Int)) (B : List Int) (c : Int) (y : List (Int × Int)) : Bool × Int :=
  if dcheck A B c y = 0 then (if (dsums A y (A.getD 0 []).length).2 = 0 then (feasB (dsums A y (A.getD 0 []).length).1 c (dsums A y (A.getD 0 []).length).1.length, 0) else (false, (dsums A y (A.getD 0 []).length).2)) else (false, dcheck A B c y)
theorem dfeas_c {A : List (List Int)} {B : List Int} {c : Int} {y : List (Int × Int)} (h : ¬ dcheck A B c y = 0) : dfeas A B c y = (false, dcheck A B c y) := if_neg h
theorem dfeas_1 {A : List (List Int)} {B : List Int} {c : Int} {y : List (Int × Int)} (h : dcheck A B c y = 0) (h' : ¬ (dsums A y (A.getD 0 []).length).2 = 0) : dfeas A B c y = (false, (dsums A y (A.getD 0 []).length).2) := by unfold dfeas; rw [if_pos h, if_neg h']
theorem dfeas_0 {A : List (List Int)} {B : List Int} {c : Int} {y : List (Int × Int)} (h : dcheck A B c y = 0) (h' : (dsums A y (A.getD 0 []).length).2 = 0) : dfeas A B c y = (feasB (dsums A y (A.getD 0 []).length).1 c (dsums A y (A.getD 0 []).length).1.length, 0) := by unfold dfeas; rw [if_pos h, if_pos h']
/-- What the sum of the products of two lists adds up. -/
def prodT (a b : List (Int × Int)) (i : Nat) : (Int × Int) × (Int × Int) := (a.getD i (0, 0), b.getD i (0, 0))
theorem prod_succ {a b : List (Int × Int)} {k : Nat} (ha : k < a.length) (hb : k < b.length) (h : (gsum (prodT a b) k).e = 0) : gsum (prodT a b) (k + 1) = fplus (gsum (prodT a b) k).n (gsum (prodT a b) k).d a[k].1 a[k].2 b[k].1 b[k].2 := by
  rw [gsum_succ h]; simp [prodT, List.getD, ha, hb]
theorem prod_ok {a b : List (Int × Int)} {k : Nat} (hk : k ≤ a.length) (hb : a.length ≤ b.length) (va : ∀ i (h : i < a.length), fchk a[i].1 a[i].2 = 0) (vb : ∀ i (h : i < b.length), fchk b[i].1 b[i].2 = 0) : FOk (gsum (prodT a b) k) :=
  gsum_FOk k fun j hj => by
    have h1 : j < a.length := by omega
    have h2 : j < b.length := by omega
    simp only [prodT, getD_get h1, getD_get h2]
    exact ⟨va j h1, vb j h2⟩
/-- Right sides as fractions. -/
def rights (B : List Int) : List (Int × Int) := B.map fun b => (b, 1)
theorem rights_len (B : List Int) : (rights B).length = B.length := by simp [rights]
theorem rights_get {B : List Int} {i : Nat} (h : i < B.length) : (rights B)[i]? = some (B[i], 1) := by simp [rights, h]
theorem rights_val {B : List Int} (hB : ∀ i (h : i < B.length), -1000 ≤ B[i] ∧ B[i] ≤ 1000) : ∀ i (h : i < (rights B).length), fchk (rights B)[i].1 (rights B)[i].2 = 0 := by
  intro i hi
  have h1 : i < B.length := by rw [rights_len] at hi; exact hi
  have e : (rights B)[i] = (B[i], 1) := by
    have := rights_get h1
    simpa [hi] using this
  rw [e]; exact fchk_small (hB i h1).1 (hB i h1).2
/-- The worth: g is the sum with the right sides, s that of the squares. -/
def dval (g s : FR) : FR := if g.e = 0 then (if s.e = 0 then (if (fmul s.n s.d 1 2).e = 0 then fsub g.n g.d (fmul s.n s.d 1 2).n (fmul s.n s.d 1 2).d else ⟨0, 0, 16⟩) else ⟨0, 0, s.e⟩) else ⟨0, 0, g.e⟩
theorem dval_g {g s : FR} (h : ¬ g.e = 0) : dval g s = ⟨0, 0, g.e⟩ := if_neg h
theorem dval_s {g s : FR} (h : g.e = 0) (h' : ¬ s.e = 0) : dval g s = ⟨0, 0, s.e⟩ := by unfold dval; rw [if_pos h, if_neg h']
theorem dval_h {g s : FR} (h : g.e = 0) (h' : s.e = 0) (h2 : ¬ (fmul s.n s.d 1 2).e = 0) : dval g s = ⟨0, 0, 16⟩ := by unfold dval; rw [if_pos h, if_pos h', if_neg h2]
theorem dval_0 {g s : FR} (h : g.e = 0) (h' : s.e = 0) (h2 : (fmul s.n s.d 1 2).e = 0) : dval g s = fsub g.n g.d (fmul s.n s.d 1 2).n (fmul s.n s.d 1 2).d := by unfold dval; rw [if_pos h, if_pos h', if_pos h2]
def dworth (A : List (List Int)) (B : List Int) (y : List (Int × Int)) : FR := if dcheck A B 0 y = 0 then dval (gsum (prodT y (rights B)) y.length) (gsum (prodT y y) y.length) else ⟨0, 0, dcheck A B 0 y⟩
theorem dworth_c {A : List (List Int)} {B : List Int} {y : List (Int × Int)} (h : ¬ dcheck A B 0 y = 0) : dworth A B y = ⟨0, 0, dcheck A B 0 y⟩ := if_neg h
theorem dworth_0 {A : List (List Int)} {B : List Int} {y : List (Int × Int)} (h : dcheck A B 0 y = 0) : dworth A B y = dval (gsum (prodT y (rights B)) y.length) (gsum (prodT y y) y.length) := if_pos h
theorem dworth_ok {A : List (List Int)} {B : List Int} {y : List (Int × Int)} (h : (dworth A B y).e = 0) : fchk (dworth A B y).n (dworth A B y).d = 0 := by
  by_cases hc : dcheck A B 0 y = 0
  · obtain ⟨hs, hw⟩ := dcheck_of hc
    obtain ⟨hn, _⟩ := scheck_of hs
    have f := fit_of hn
    obtain ⟨wl, wv⟩ := witB_of hw
    have rv := rights_val (B := B) fun i hi => by have := f.side i hi; omega
    have g1 := prod_ok (a := y) (b := rights B) (k := y.length) (Nat.le_refl _) (by rw [rights_len, f.right, wl]; exact Nat.le_refl _) wv rv
    have s1 := prod_ok (a := y) (b := y) (k := y.length) (Nat.le_refl _) (Nat.le_refl _) wv wv
    rw [dworth_0 hc] at h ⊢
    by_cases h1 : (gsum (prodT y (rights B)) y.length).e = 0
    · by_cases h2 : (gsum (prodT y y) y.length).e = 0
      · have m1 := fmul_FOk (s1.v h2) (show fchk 1 2 = 0 by decide)
        by_cases h3 : (fmul (gsum (prodT y y) y.length).n (gsum (prodT y y) y.length).d 1 2).e = 0
        · rw [dval_0 h1 h2 h3] at h ⊢
          exact (fsub_FOk (g1.v h1) (m1.v h3)).v h
        · rw [dval_h h1 h2 h3] at h; cases h
      · rw [dval_s h1 h2] at h; exact absurd h h2
    · rw [dval_g h1] at h; exact absurd h h1
  · rw [dworth_c hc] at h; exact absurd h hc
theorem sCost_ok {A : List (List Int)} {B : List Int} {c : Int} {x : List (Int × Int)} (h : (sCost A B c x).e = 0) : fchk (sCost A B c x).n (sCost A B c x).d = 0 := by
  by_cases hc : scheck A B c = 0
  · obtain ⟨_, c1, c2⟩ := scheck_of hc
    rw [sCost_0 hc] at h ⊢
    by_cases h1 : (nValue A B x).e = 0
    · by_cases h2 : (sBright x).e = 0
      · have m1 := fmul_FOk (nValue_ok h1).2 (show fchk 1 2 = 0 by decide)
        have m2 := fmul_FOk (fchk_small (a := c) (by omega) c2) (sBright_ok h2)
        by_cases h3 : (fmul (nValue A B x).n (nValue A B x).d 1 2).e = 0
        · by_cases h4 : (fmul c 1 (sBright x).n (sBright x).d).e = 0
          · rw [price_0 h1 h2 h3 h4] at h ⊢
            exact (fadd_FOk (m1.v h3) (m2.v h4)).v h
          · rw [price_m h1 h2 h3 h4] at h; cases h
        · rw [price_h h1 h2 h3] at h; cases h
      · rw [price_b h1 h2] at h; exact absurd h h2
    · rw [price_v h1] at h; exact absurd h h1
  · rw [sCost_c hc] at h; exact absurd h hc
/-- A point and a witness. -/
def bothB (A : List (List Int)) (x y : List (Int × Int)) : Bool := pointB (A.getD 0 []).length x && witB A.length y
def dgap (A : List (List Int)) (B : List Int) (c : Int) (x y : List (Int × Int)) : FR :=
  if scheck A B c = 0 then (if bothB A x y = true then (if (sCost A B c x).e = 0 then (if (dworth A B y).e = 0 then fsub (sCost A B c x).n (sCost A B c x).d (dworth A B y).n (dworth A B y).d else ⟨0, 0, (dworth A B y).e⟩) else ⟨0, 0, (sCost A B c x).e⟩) else ⟨0, 0, 2⟩) else ⟨0, 0, scheck A B c⟩
section
variable {A : List (List Int)} {B : List Int} {c : Int} {x y : List (Int × Int)}
theorem dgap_c (h : ¬ scheck A B c = 0) : dgap A B c x y = ⟨0, 0, scheck A B c⟩ := if_neg h
theorem dgap_2 (h : scheck A B c = 0) (h' : bothB A x y = false) : dgap A B c x y = ⟨0, 0, 2⟩ := by unfold dgap; rw [if_pos h, if_neg (by rw [h']; decide)]
theorem dgap_p (h : scheck A B c = 0) (h' : bothB A x y = true) (h1 : ¬ (sCost A B c x).e = 0) : dgap A B c x y = ⟨0, 0, (sCost A B c x).e⟩ := by unfold dgap; rw [if_pos h, if_pos h', if_neg h1]
theorem dgap_w (h : scheck A B c = 0) (h' : bothB A x y = true) (h1 : (sCost A B c x).e = 0) (h2 : ¬ (dworth A B y).e = 0) : dgap A B c x y = ⟨0, 0, (dworth A B y).e⟩ := by unfold dgap; rw [if_pos h, if_pos h', if_pos h1, if_neg h2]
theorem dgap_0 (h : scheck A B c = 0) (h' : bothB A x y = true) (h1 : (sCost A B c x).e = 0) (h2 : (dworth A B y).e = 0) : dgap A B c x y = fsub (sCost A B c x).n (sCost A B c x).d (dworth A B y).n (dworth A B y).d := by unfold dgap; rw [if_pos h, if_pos h', if_pos h1, if_pos h2]
def daccept (A : List (List Int)) (B : List Int) (c : Int) (x y : List (Int × Int)) (gn gd : Int) : Bool × Int :=
  if scheck A B c = 0 then (if bothB A x y = true then (if fchk gn gd = 0 then (if (dfeas A B c y).2 = 0 then (if (dgap A B c x y).e = 0 then ((dfeas A B c y).1 && (decide ((dgap A B c x y).n = gn) && decide ((dgap A B c x y).d = gd)), 0) else (false, (dgap A B c x y).e)) else (false, (dfeas A B c y).2)) else (false, 8)) else (false, 2)) else (false, scheck A B c)
variable {gn gd : Int}
theorem dacc_c (h : ¬ scheck A B c = 0) : daccept A B c x y gn gd = (false, scheck A B c) := if_neg h
theorem dacc_2 (h : scheck A B c = 0) (h' : bothB A x y = false) : daccept A B c x y gn gd = (false, 2) := by unfold daccept; rw [if_pos h, if_neg (by rw [h']; decide)]
theorem dacc_8 (h : scheck A B c = 0) (h' : bothB A x y = true) (h1 : ¬ fchk gn gd = 0) : daccept A B c x y gn gd = (false, 8) := by unfold daccept; rw [if_pos h, if_pos h', if_neg h1]
theorem dacc_f (h : scheck A B c = 0) (h' : bothB A x y = true) (h1 : fchk gn gd = 0) (h2 : ¬ (dfeas A B c y).2 = 0) : daccept A B c x y gn gd = (false, (dfeas A B c y).2) := by unfold daccept; rw [if_pos h, if_pos h', if_pos h1, if_neg h2]
theorem dacc_g (h : scheck A B c = 0) (h' : bothB A x y = true) (h1 : fchk gn gd = 0) (h2 : (dfeas A B c y).2 = 0) (h3 : ¬ (dgap A B c x y).e = 0) : daccept A B c x y gn gd = (false, (dgap A B c x y).e) := by unfold daccept; rw [if_pos h, if_pos h', if_pos h1, if_pos h2, if_neg h3]
theorem dacc_0 (h : scheck A B c = 0) (h' : bothB A x y = true) (h1 : fchk gn gd = 0) (h2 : (dfeas A B c y).2 = 0) (h3 : (dgap A B c x y).e = 0) : daccept A B c x y gn gd = ((dfeas A B c y).1 && (decide ((dgap A B c x y).n = gn) && decide ((dgap A B c x y).d = gd)), 0) := by unfold daccept; rw [if_pos h, if_pos h', if_pos h1, if_pos h2, if_pos h3]
end
end Go.Proofs.Ytfbigmjlppdlhaa

/- What is proved here: a row of fractions of the call's own that is written over. No condition. -/
namespace Go.Proofs.Ytfbigmjlppdlhaa
open Go.RowKit

/-- A row of the call's own that is not empty, as a block. -/
theorem owns_open {w : World} {B : Nat} {T : TypeId} {u : Value} {xs : List (Int × Int)} (h : w.ownsRow B T 2 u xs.length (fcs xs)) (h0 : 0 < xs.length) :
    ∃ G cap rest, u = .slice (some ⟨G, 0, none⟩) xs.length cap ∧ B ≤ G ∧ Own w G T (fcs xs ++ rest) ∧ xs.length ≤ cap ∧ cap ≤ maxLen ∧ (fcs xs ++ rest).length = cap * 2 := by
  obtain ⟨hl, h2⟩ := h
  rcases h2 with ⟨_, h2⟩ | ⟨g, cap, cur, h3, hg, hh, h4, h5, h6, h7⟩
  · omega
  · refine ⟨g, cap, cur.toList.drop (xs.length * 2), h3, hg, ?_, h4, h5, ?_⟩
    · unfold Own; rw [hh, ← h7, List.take_append_drop]
    · rw [← h7, List.take_append_drop]; simpa using h6
theorem owns_shut {w : World} {B : Nat} {T : TypeId} {xs : List (Int × Int)} {rest : List Value} {G cap : Nat} (h : Own w G T (fcs xs ++ rest)) (hB : B ≤ G) (h4 : xs.length ≤ cap) (h5 : cap ≤ maxLen) (h6 : (fcs xs ++ rest).length = cap * 2) :
    w.ownsRow B T 2 (.slice (some ⟨G, 0, none⟩) xs.length cap) xs.length (fcs xs) :=
  ⟨fcs_len xs, .inr ⟨G, cap, (fcs xs ++ rest).toArray, rfl, hB, h, h4, h5, by simpa using h6, by rw [List.toList_toArray, ← fcs_len, List.take_left']; rfl⟩⟩
theorem fcs_at {xs : List (Int × Int)} {k : Nat} (rest : List Value) (h : k < xs.length) : (fcs xs ++ rest)[k * 2]? = some (.int .i64 xs[k].1) ∧ (fcs xs ++ rest)[k * 2 + 1]? = some (.int .i64 xs[k].2) := by
  obtain ⟨h1, h2⟩ := fcs_get xs k h
  have hl := fcs_len xs
  rw [List.getElem?_append_left (by omega), List.getElem?_append_left (by omega)]
  exact ⟨h1, h2⟩
theorem fcs_put {xs : List (Int × Int)} {k : Nat} (rest : List Value) (h : k < xs.length) (p : Int × Int) : ((fcs xs ++ rest).set (k * 2) (.int .i64 p.1)).set (k * 2 + 1) (.int .i64 p.2) = fcs (xs.set k p) ++ rest := by
  have hl := fcs_len xs
  rw [List.set_append_left _ _ (by omega), List.set_append_left _ _ (by rw [List.length_set]; omega), fcs_set]
/-- A row that is written over from the left. -/
theorem over_set {rs g : List (Int × Int)} {m : Nat} (p : Int × Int) (h : rs.length = m) (hm : m < g.length) : (rs ++ g.drop m).set m p = (rs ++ [p]) ++ g.drop (m + 1) := by
  rw [List.set_append_right _ _ (by omega), h, Nat.sub_self, List.drop_eq_getElem_cons hm, List.set_cons_zero, List.append_assoc]
  rfl
theorem over_get {rs g : List (Int × Int)} {m : Nat} (h : rs.length = m) (hm : m < g.length) : (rs ++ g.drop m)[m]'(by simp; omega) = g[m] := by
  rw [List.getElem_append_right (by omega)]
  simp [h]
theorem over_len {rs g : List (Int × Int)} {m : Nat} (h : rs.length = m) (hm : m ≤ g.length) : (rs ++ g.drop m).length = g.length := by simp; omega
end Go.Proofs.Ytfbigmjlppdlhaa

/- What is proved here: plain facts on rows that are written over. No program in sight. -/
namespace Go.Proofs.Ytfbigmjlppdlhaa
open Go.RowKit

theorem fr_neg {n d : Int} (h : fchk n d = 0) : -9223372036854775807 ≤ n ∧ n ≤ 9223372036854775807 := by
  have h2 := (Q_ok h).2.2.1
  have h3 := (Q_ok h).1
  rw [h3] at h2
  omega
/-- A row that is written over from the left by another one. -/
theorem neg_set {r : List (Int × Int)} {m : Nat} (hm : m < r.length) : ((negs r).take m ++ r.drop m).set m (-r[m].1, r[m].2) = (negs r).take (m + 1) ++ r.drop (m + 1) := by
  have h1 : ((negs r).take m).length = m := by simp [negs]; omega
  rw [over_set _ h1 hm]
  congr 1
  rw [List.take_add_one, negs_get hm]
  rfl
theorem neg_get {r : List (Int × Int)} {m : Nat} (hm : m < r.length) : ((negs r).take m ++ r.drop m)[m]'(by simp [negs]; omega) = r[m] := by
  have h1 : ((negs r).take m).length = m := by simp [negs]; omega
  exact over_get h1 hm
theorem neg_len {r : List (Int × Int)} {m : Nat} (hm : m ≤ r.length) : ((negs r).take m ++ r.drop m).length = r.length := by simp [negs]; omega
/-- The first number of a fraction of a row is stored. -/
theorem fcs_put1 {xs : List (Int × Int)} {k : Nat} (rest : List Value) (h : k < xs.length) (v : Int) : (fcs xs ++ rest).set (k * 2) (.int .i64 v) = fcs (xs.set k (v, xs[k].2)) ++ rest := by
  rw [← fcs_put rest h (v, xs[k].2)]
  have hl := fcs_len xs
  have h2 := (fcs_at rest h).2
  have h3 : ((fcs xs ++ rest).set (k * 2) (.int .i64 v))[k * 2 + 1]? = some (.int .i64 xs[k].2) := by
    rw [List.getElem?_set_ne (by omega)]; exact h2
  obtain ⟨h4, h5⟩ := List.getElem?_eq_some_iff.1 h3
  rw [← h5, List.set_getElem_self]
end Go.Proofs.Ytfbigmjlppdlhaa

/- What is proved here: the contracts of frac.compare, order and Cmp. Condition: the numbers are 64-bit integers. -/
namespace Go.Proofs.Ytfbigmjlppdlhaa
open Go.RowKit

theorem compare_any (a b c d : Nat) (w : World) (ha : a ≤ 18446744073709551615) (hb : b ≤ 18446744073709551615) (hc : c ≤ 18446744073709551615) (hd : d ≤ 18446744073709551615) :
    Calls Try.prog 124 #[.int .u64 a, .int .u64 b, .int .u64 c, .int .u64 d] w fun e w' => e = .returned (.int .i64 (cmpN (a * b) (c * d))) ∧ w = w' := by
  have H := Lib.hid (wid_cmp (a * b) (c * d))
  go_enter Try.func124, Try.ntmps124
  go_wp2_with fail
  refine (mul64_any _ _ ha hb _).mono ?_
  rintro e _ ⟨rfl, rfl⟩
  generalize a * b / 18446744073709551616 = p at *
  generalize a * b % 18446744073709551616 = q at *
  go_wp2_with fail
  refine (mul64_any _ _ hc hd _).mono ?_
  rintro e _ ⟨rfl, rfl⟩
  generalize c * d / 18446744073709551616 = r at *
  generalize c * d % 18446744073709551616 = s at *
  go_wp2_with fail
  refine (wider_any _ _ _ _ _).mono ?_
  rintro e _ ⟨rfl, rfl⟩
  go_wp2
  go_ret
  exact ⟨by rw [H.out]; try rfl, rfl⟩

set_option maxHeartbeats 1600000 in
theorem order_any (an ad bn bd : Int) (w : World) (h1 : i64 an) (h2 : 1 ≤ ad) (h3 : ad ≤ 9223372036854775807) (h4 : i64 bn) (h5 : 1 ≤ bd) (h6 : bd ≤ 9223372036854775807) :
    Calls Try.prog 106 #[.agg #[.int .i64 an, .int .i64 ad], .agg #[.int .i64 bn, .int .i64 bd]] w fun e w' => e = .returned (.int .i64 (fcmp an ad bn bd)) ∧ Below w.heap.size w w' := by
  obtain ⟨a1, a2⟩ := h1
  obtain ⟨b1, b2⟩ := h4
  by_cases p : an < 0
  · by_cases q : bn < 0
    · have H := Lib.hid (fcmp_neg p q h2 h5)
      have hc := cmpN_bd (an.natAbs * bd.natAbs) (bn.natAbs * ad.natAbs)
      go_enter Try.func106, Try.ntmps106
      go_wp2
      go_quiet (first | (go_at_call 117; exact Calls.quiet_same (size_any _ _ (by omega) (by omega))) | (go_at_call 124; exact Calls.quiet_same (compare_any _ _ _ _ _ (by omega) (by omega) (by omega) (by omega))))
      go_wp2
      go_ret
      exact ⟨by rw [H.out]; try rfl, below_to (ba2 _ _ _) (below_drewN _ _)⟩
    · have H := Lib.hid (fcmp_lt (bn := bn) p (by omega) h2 h5)
      go_enter Try.func106, Try.ntmps106
      go_wp2
      go_ret
      exact ⟨by rw [H.out]; try rfl, ba2 _ _ _⟩
  · by_cases q : bn < 0
    · have H := Lib.hid (fcmp_gt (an := an) (by omega) q h2 h5)
      go_enter Try.func106, Try.ntmps106
      go_wp2
      go_ret
      exact ⟨by rw [H.out]; try rfl, ba2 _ _ _⟩
    · have H := Lib.hid (fcmp_nn (an := an) (bn := bn) (by omega) (by omega) h2 h5)
      go_enter Try.func106, Try.ntmps106
      go_wp2
      go_quiet (first | (go_at_call 117; exact Calls.quiet_same (size_any _ _ (by omega) (by omega))) | (go_at_call 124; exact Calls.quiet_same (compare_any _ _ _ _ _ (by omega) (by omega) (by omega) (by omega))))
      go_wp2
      go_ret
      exact ⟨by rw [H.out]; try rfl, below_to (ba2 _ _ _) (below_drewN _ _)⟩

theorem cmp_any (an ad bn bd : Int) (w : World) (h1 : i64 an) (h2 : i64 ad) (h3 : i64 bn) (h4 : i64 bd) :
    Calls Try.prog 62 #[.agg #[.int .i64 an, .int .i64 ad], .agg #[.int .i64 bn, .int .i64 bd]] w fun e w' => e = .returned (.tuple #[.int .i64 (fcmpZ an ad bn bd), .int .i64 (fboth an ad bn bd)]) ∧ Below w.heap.size w w' := by
  by_cases p : fboth an ad bn bd = 0
  · have H : Hid (fcmpZ an ad bn bd = fcmp an ad bn bd) := if_pos p
    have b1 : (fboth an ad bn bd != 0) = false := by simp [p]
    obtain ⟨p1, p2⟩ := fboth_ok p
    obtain ⟨u1, u2, u3, u4, _⟩ := fok_of p1
    obtain ⟨v1, v2, v3, v4, _⟩ := fok_of p2
    have P := Lib.hid p
    clear p p1 p2
    go_enter Try.func62, Try.ntmps62
    go_wp2_with fail
    refine (frboth_any _ _ _ _ _ h1 h2 h3 h4).mono ?_
    rintro e w1 ⟨rfl, hb1⟩
    obtain ⟨c1, f1⟩ := bcell hb1
    have z1 := (hb1).size
    try simp at z1
    try simp at c1
    try simp at f1
    go_wp2_with fail
    refine (order_any _ _ _ _ _ h1 (by omega) (by omega) h3 (by omega) (by omega)).mono ?_
    rintro e w2 ⟨rfl, hb2⟩
    go_wp2
    go_ret2
    exact ⟨by rw [H.out, P.out]; try rfl, below_to (below_to (ba2 _ _ _) hb1) hb2⟩
  · have H : Hid (fcmpZ an ad bn bd = 0) := if_neg p
    have b1 : (fboth an ad bn bd != 0) = true := by simp [p]
    clear p
    go_enter Try.func62, Try.ntmps62
    go_wp2_with fail
    refine (frboth_any _ _ _ _ _ h1 h2 h3 h4).mono ?_
    rintro e w1 ⟨rfl, hb1⟩
    go_wp2
    go_ret2
    exact ⟨by rw [H.out]; try rfl, below_to (ba2 _ _ _) hb1⟩

end Go.Proofs.Ytfbigmjlppdlhaa
