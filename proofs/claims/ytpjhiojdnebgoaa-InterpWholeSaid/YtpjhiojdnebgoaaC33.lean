/- What is proved here: contracts of functions and plain facts, several texts in one; each one says ahead what it proves, and its conditions. -/
import Derived.Test.YtpjhiojdnebgoaaC18
import Derived.Test.YtpjhiojdnebgoaaC32
import Derived.Test.YtpjhiojdnebgoaaC23
import Derived.Test.YtpjhiojdnebgoaaC02
/- What is proved here: slices of known numbers and fractions that were just made. No condition but the sizes. -/
namespace Go.Proofs.Ytpjhiojdnebgoaa
open Go.RowKit

theorem si_of_own {w : World} {g : Nat} {T : TypeId} (xs : List Int) (n : Nat) (hn : xs.length = n) (hm : n ≤ 1000) (h : Own w g T (xs.map (Value.int .i64))) : SI w (.slice (some ⟨g, 0, none⟩) n n) xs := by
  unfold SI; rw [hn]
  exact h.sl n (Nat.le_refl _) (by omega) _ ⟨[], by simp⟩
theorem sf_of_own {w : World} {g : Nat} {T : TypeId} (xs : List (Int × Int)) (n : Nat) (hn : xs.length = n) (hm : n ≤ 1000) (h : Own w g T (fcs xs)) : SF w (.slice (some ⟨g, 0, none⟩) n n) xs := by
  unfold SF; rw [hn]
  exact h.sl n (Nat.le_refl _) (by omega) _ ⟨[], by simp⟩
theorem ss_nil (w : World) : SS w (.slice none 0 0) [] := ⟨[], rfl, ⟨none, 0, rfl, Nat.le_refl _, by decide, fun i x hx => by simp at hx⟩, fun i h => by simp at h⟩
theorem si_nil (w : World) : SI w (.slice none 0 0) [] := ⟨none, 0, rfl, Nat.le_refl _, by decide, fun i x hx => by simp at hx⟩
theorem ss_of_own {w : World} {g : Nat} {T : TypeId} (xss : List (List Int)) (vs : List Value) (n : Nat) (hn : xss.length = n) (hv : vs.length = n) (hm : n ≤ 1000) (h : Own w g T vs) (hr : ∀ i (h : i < xss.length) (h' : i < vs.length), SI w vs[i] xss[i]) : SS w (.slice (some ⟨g, 0, none⟩) n n) xss := by
  refine ⟨vs, by omega, ?_, hr⟩
  rw [hn]
  exact h.sl n (Nat.le_refl _) (by omega) _ ⟨[], by simp⟩
theorem fi_of (xs : List (Int × Int)) (h : (xs.all fun p => decide (-9223372036854775808 ≤ p.1) && decide (p.1 ≤ 9223372036854775807) && (decide (-9223372036854775808 ≤ p.2) && decide (p.2 ≤ 9223372036854775807))) = true) : FI xs := by
  intro p hp
  have := List.all_eq_true.1 h p hp
  simp only [Bool.and_eq_true, decide_eq_true_eq] at this
  exact ⟨⟨this.1.1, this.1.2⟩, ⟨this.2.1, this.2.2⟩⟩
theorem own_4th (w : World) (T : TypeId) (cs : List Value) (o1 o2 o3 : Obj) : Own ((((w.alloc o1).alloc o2).alloc o3).alloc (.cells cs.toArray T (0, 0))) (w.heap.size + 1 + 1 + 1) T cs := by
  have h := own_third (w.alloc o1) T cs o2 o3
  rw [show (w.alloc o1).heap.size = w.heap.size + 1 from by simp] at h
  exact h
theorem own_fifth (w : World) (T : TypeId) (cs : List Value) (o1 o2 o3 o4 : Obj) : Own (((((w.alloc o1).alloc o2).alloc o3).alloc o4).alloc (.cells cs.toArray T (0, 0))) (w.heap.size + 1 + 1 + 1 + 1) T cs := by
  have h := own_4th (w.alloc o1) T cs o2 o3 o4
  rw [show (w.alloc o1).heap.size = w.heap.size + 1 from by simp] at h
  exact h
theorem own_sixth (w : World) (T : TypeId) (cs : List Value) (o1 o2 o3 o4 o5 : Obj) : Own ((((((w.alloc o1).alloc o2).alloc o3).alloc o4).alloc o5).alloc (.cells cs.toArray T (0, 0))) (w.heap.size + 1 + 1 + 1 + 1 + 1) T cs := by
  have h := own_fifth (w.alloc o1) T cs o2 o3 o4 o5
  rw [show (w.alloc o1).heap.size = w.heap.size + 1 from by simp] at h
  exact h
theorem ba5 (w : World) (o1 o2 o3 o4 o5 : Obj) : Below w.heap.size w (((((w.alloc o1).alloc o2).alloc o3).alloc o4).alloc o5) := (ba4 w o1 o2 o3 o4).alloc (by simp; omega) _
theorem ba6 (w : World) (o1 o2 o3 o4 o5 o6 : Obj) : Below w.heap.size w ((((((w.alloc o1).alloc o2).alloc o3).alloc o4).alloc o5).alloc o6) := (ba5 w o1 o2 o3 o4 o5).alloc (by simp; omega) _
theorem fr_is {a : FR} {x y z : Int} (h : a.n = x ∧ a.d = y ∧ a.e = z) : a = ⟨x, y, z⟩ := by
  obtain ⟨h1, h2, h3⟩ := h
  cases a; simp_all
/-- A system that a call returns. -/
def sys_post (w : World) (A : List (List Int)) (B : List Int) (e : Ending) (w' : World) : Prop := ∃ va vb, e = .returned (.agg #[va, vb]) ∧ SS w' va A ∧ SI w' vb B ∧ Below w.heap.size w w'
/-- Fractions that a call returns. -/
def fracs_post (w : World) (xs : List (Int × Int)) (e : Ending) (w' : World) : Prop := ∃ u, e = .returned u ∧ SF w' u xs ∧ Below w.heap.size w w'
end Go.Proofs.Ytpjhiojdnebgoaa

/- What is proved here: the contract of fringelaw15.of, the reference's Same of equal lists, and facts on lists of known numbers. No condition. -/
namespace Go.Proofs.Ytpjhiojdnebgoaa
open Go.RowKit

theorem of15_any (a b : Int) (w : World) : Calls Try.prog 24 #[.int .i64 a, .int .i64 b] w fun e w' => e = .returned (.agg #[.int .i64 a, .int .i64 b]) ∧ Below w.heap.size w w' := by
  go_enter Try.func24, Try.ntmps24
  go_wp2
  have oR := Own.new w 24 [.int .i64 a, .int .i64 b]
  have hB := ba1 w (.cells #[.int .i64 a, .int .i64 b] 24)
  refine bp_gen' (fun W => Own W _ _ _ ∧ Below w.heap.size w W) ⟨oR, hB⟩ ?_
  rintro wz ⟨oz, bz⟩
  obtain ⟨rz, fz⟩ := oz.rules
  clear oz
  refine bodyPost_ret (v := .agg #[.int .i64 a, .int .i64 b]) (by simp [results, Try.results24, go_sem, rz]) rfl ⟨rfl, ?_⟩
  exact bz
theorem rsame_true (xs : List (Int × Int)) (u v : Value) (w : World) (hs : SF w u xs) (ht : SF w v xs) :
    Calls Try.prog 17 #[u, v] w fun e w' => e = .returned (.bool true) ∧ Below w.heap.size w w' :=
  (rsame_any xs xs u v w hs ht).mono fun e w' ⟨he, hb⟩ => ⟨by rw [he, decide_eq_true rfl], hb⟩
theorem il_of (l : List Int) (h : (l.all fun x => decide (-9223372036854775808 ≤ x) && decide (x ≤ 9223372036854775807)) = true) : ∀ i (h : i < l.length), i64 l[i] := fun i hi => by
  have := List.all_eq_true.1 h l[i] (List.getElem_mem hi)
  simp only [Bool.and_eq_true, decide_eq_true_eq] at this
  exact this
end Go.Proofs.Ytpjhiojdnebgoaa

/- What is proved here: the contracts of interp.valid and of the reference's valid. Condition: a slice of fractions of 64-bit numbers. -/
namespace Go.Proofs.Ytpjhiojdnebgoaa
open Go.RowKit

set_option maxRecDepth 100000 in
set_option maxHeartbeats 4000000 in
theorem ivalid_any (xs : List (Int × Int)) (v : Value) (w : World) (hs : SF w v xs) (hi : FI xs) :
    Calls Try.prog 59 #[v] w fun e w' => e = .returned (.bool (fvalid xs)) ∧ Below w.heap.size w w' := by
  have hs0 := Lib.hid hs
  obtain ⟨ad, cap, rfl, h1, h2, _⟩ := hs.open
  have HI := Lib.hid hi
  clear hi hs
  go_enter Try.func59, Try.ntmps59
  go_wp2
  go_loopw [7] (fun i wr => ∃ k : Nat, k ≤ xs.length ∧ i = .int .i64 k ∧ Hid (fvalid (xs.take k) = true) ∧ Below w.heap.size w wr) (fun i _ => xs.length - (intOf i).toNat)
  case atStart => exact ⟨0, Nat.zero_le _, rfl, rfl, Below.refl _ _⟩
  case round =>
    obtain ⟨k, hk, rfl, hv, hB⟩ := hrel
    by_cases hlt : k < xs.length
    · obtain ⟨ad', cap', e, _, _, H⟩ := (hs0.out.below hB).open
      cases e
      obtain ⟨b, off, rfl, c1, c2⟩ := H.out k hlt
      obtain ⟨i1, i2⟩ := HI.out.get k hlt
      clear H
      by_cases hz : fchk xs[k].1 xs[k].2 = 0
      · have b1 : (fchk xs[k].1 xs[k].2 != 0) = false := by simp [hz]
        have HV := Lib.hid (fvalid_take hlt hv.out hz)
        clear hz
        generalize xs[k].1 = n at *
        generalize xs[k].2 = d at *
        go_wp2_with fail
        refine (check_any n d _ i1 i2).mono ?_
        rintro e w1 ⟨rfl, hb1⟩
        go_wp2
        go_roundw
        case rel => exact ⟨k + 1, by omega, by go_num, HV, below_to (below_to hB (ba1 _ _)) hb1⟩
        case measure => simp [intOf]; try omega
      · have b1 : (fchk xs[k].1 xs[k].2 != 0) = true := by simp [hz]
        have HV := Lib.hid (fvalid_not hlt hz)
        clear hz
        generalize xs[k].1 = n at *
        generalize xs[k].2 = d at *
        go_wp2_with fail
        refine (check_any n d _ i1 i2).mono ?_
        rintro e w1 ⟨rfl, hb1⟩
        go_wp2
        go_ret
        exact ⟨by rw [HV.out]; try rfl, below_to (below_to hB (ba1 _ _)) hb1⟩
    · have HV : Hid (fvalid xs = true) := by
        have := hv.out
        rw [List.take_of_length_le (by omega)] at this
        exact this
      go_wp2
      go_ret
      exact ⟨by rw [HV.out]; try rfl, hB⟩
set_option maxRecDepth 100000 in
set_option maxHeartbeats 4000000 in
theorem rivalid_any (xs : List (Int × Int)) (v : Value) (w : World) (hs : SF w v xs) (hi : FI xs) :
    Calls Try.prog 87 #[v] w fun e w' => e = .returned (.bool (fvalid xs)) ∧ Below w.heap.size w w' := by
  have hs0 := Lib.hid hs
  obtain ⟨ad, cap, rfl, h1, h2, _⟩ := hs.open
  have HI := Lib.hid hi
  clear hi hs
  go_enter Try.func87, Try.ntmps87
  go_wp2
  go_loopw [3] (fun i wr => ∃ k : Nat, k ≤ xs.length ∧ i = .int .i64 k ∧ Hid (fvalid (xs.take k) = true) ∧ Below w.heap.size w wr) (fun i _ => xs.length - (intOf i).toNat)
  case atStart => exact ⟨0, Nat.zero_le _, rfl, rfl, Below.refl _ _⟩
  case round =>
    obtain ⟨k, hk, rfl, hv, hB⟩ := hrel
    by_cases hlt : k < xs.length
    · obtain ⟨ad', cap', e, _, _, H⟩ := (hs0.out.below hB).open
      cases e
      obtain ⟨b, off, rfl, c1, c2⟩ := H.out k hlt
      obtain ⟨i1, i2⟩ := HI.out.get k hlt
      clear H
      by_cases hz : fchk xs[k].1 xs[k].2 = 0
      · have b1 : (fchk xs[k].1 xs[k].2 != 0) = false := by simp [hz]
        have HV := Lib.hid (fvalid_take hlt hv.out hz)
        clear hz
        generalize xs[k].1 = n at *
        generalize xs[k].2 = d at *
        go_wp2_with fail
        refine (rcheck_any n d _ i1 i2).mono ?_
        rintro e w1 ⟨rfl, hb1⟩
        go_wp2
        go_roundw
        case rel => exact ⟨k + 1, by omega, by go_num, HV, below_to hB hb1⟩
        case measure => simp [intOf]; try omega
      · have b1 : (fchk xs[k].1 xs[k].2 != 0) = true := by simp [hz]
        have HV := Lib.hid (fvalid_not hlt hz)
        clear hz
        generalize xs[k].1 = n at *
        generalize xs[k].2 = d at *
        go_wp2_with fail
        refine (rcheck_any n d _ i1 i2).mono ?_
        rintro e w1 ⟨rfl, hb1⟩
        go_wp2
        go_ret
        exact ⟨by rw [HV.out]; try rfl, below_to hB hb1⟩
    · have HV : Hid (fvalid xs = true) := by
        have := hv.out
        rw [List.take_of_length_le (by omega)] at this
        exact this
      go_wp2
      go_ret
      exact ⟨by rw [HV.out]; try rfl, hB⟩
end Go.Proofs.Ytpjhiojdnebgoaa

/- What is proved here: the taps of a part add up to 1, step by step without an error, and for an odd degree those for the rest of a sample are the same ones the other way about: by looking at all parts. No program in sight. -/
namespace Go.Proofs.Ytpjhiojdnebgoaa
open Go.RowKit

/-- The sum of the first taps. -/
def tsum (n : Nat) (fn fd : Int) : Nat → FR
  | 0 => ⟨0, 1, 0⟩
  | j + 1 => fadd (tsum n fn fd j).n (tsum n fn fd j).d (tapV n j fn fd (n + 1)).1 (tapV n j fn fd (n + 1)).2
theorem tsum_i64 (n : Nat) (fn fd : Int) : ∀ j, i64 (tsum n fn fd j).n ∧ i64 (tsum n fn fd j).d
  | 0 => ⟨i64_0, i_one⟩
  | j + 1 => fadd_i64 _ _ _ _
def sumQ (n : Nat) (fn fd : Int) : Bool := ((List.range (n + 2)).all fun j => (tsum n fn fd j).e == 0) && (tsum n fn fd (n + 1)).n == 1 && (tsum n fn fd (n + 1)).d == 1
def mirQ (n : Nat) (fn fd : Int) : Bool := fn == 0 || n % 2 == 0 || (partB (fsub 1 1 fn fd).n (fsub 1 1 fn fd).d && (List.range (n + 1)).all fun j => tapV n j fn fd (n + 1) == tapV n (n - j) (fsub 1 1 fn fd).n (fsub 1 1 fn fd).d (n + 1))
set_option maxRecDepth 100000 in
theorem sum_all : ((List.range 17).all fun d => (List.range d).all fun m => !partB m d || (List.range 5).all fun n => sumQ n m d && mirQ n m d) = true := by decide +kernel
theorem sum_q {fn fd : Int} (h : partB fn fd = true) {n : Nat} (hn : n ≤ 4) : sumQ n fn fd = true ∧ mirQ n fn fd = true := by
  have h0 := h
  unfold partB at h0
  simp only [Bool.and_eq_true, decide_eq_true_eq] at h0
  obtain ⟨⟨⟨_, h1⟩, h2⟩, h3⟩ := h0
  obtain ⟨m, rfl⟩ := Int.eq_ofNat_of_zero_le h1
  obtain ⟨d, rfl⟩ := Int.eq_ofNat_of_zero_le (show 0 ≤ fd by omega)
  have a := List.all_eq_true.1 sum_all d (List.mem_range.2 (by omega))
  have b := List.all_eq_true.1 a m (List.mem_range.2 (by omega))
  rw [h] at b
  simp only [Bool.not_true, Bool.false_or, List.all_eq_true, List.mem_range, Bool.and_eq_true] at b
  exact b n (by omega)
theorem tsum_ok {fn fd : Int} (h : partB fn fd = true) {n : Nat} (hn : n ≤ 4) : (∀ j, j ≤ n + 1 → (tsum n fn fd j).e = 0) ∧ (tsum n fn fd (n + 1)).n = 1 ∧ (tsum n fn fd (n + 1)).d = 1 := by
  have q := (sum_q h hn).1
  unfold sumQ at q
  simp only [Bool.and_eq_true, List.all_eq_true, List.mem_range, beq_iff_eq] at q
  exact ⟨fun j hj => q.1.1 j (by omega), q.1.2, q.2⟩
theorem mir_ok {fn fd : Int} (h : partB fn fd = true) {n : Nat} (hn : n ≤ 4) (h0 : fn ≠ 0) (h2 : n % 2 = 1) : partB (fsub 1 1 fn fd).n (fsub 1 1 fn fd).d = true ∧ ∀ j, j ≤ n → tapV n j fn fd (n + 1) = tapV n (n - j) (fsub 1 1 fn fd).n (fsub 1 1 fn fd).d (n + 1) := by
  have q := (sum_q h hn).2
  unfold mirQ at q
  simp only [Bool.or_eq_true, Bool.and_eq_true, List.all_eq_true, List.mem_range, beq_iff_eq] at q
  rcases q with (q | q) | q
  · exact absurd q h0
  · omega
  · exact ⟨q.1, fun j hj => q.2 j (by omega)⟩
end Go.Proofs.Ytpjhiojdnebgoaa
