/- What is proved here: plain facts: growing, filling and closing keep the order of masks; closing ends, and fills at most as often as there are rows and columns. No program in sight. -/
import Derived.Test.YtpkggglifahioaaFillD
import Derived.Test.YtpkggglifahioaaGrowP
namespace Go.Proofs.Ytpkggglifahioaa
/-- Each flag of the first mask is one of the second. -/
def LeM (xs ys : List Bool) : Prop := xs.length = ys.length ∧ ∀ i, xs.getD i false = true → ys.getD i false = true
theorem LeM.refl (xs : List Bool) : LeM xs xs := ⟨rfl, fun _ h => h⟩
theorem LeM.trans {xs ys zs : List Bool} (h : LeM xs ys) (h' : LeM ys zs) : LeM xs zs := ⟨h.1.trans h'.1, fun i hi => h'.2 i (h.2 i hi)⟩
theorem cnt_mono {xs ys : List Bool} (h : LeM xs ys) (f : Nat → Nat) (t : Nat) : ∀ k, cnt xs f t k ≤ cnt ys f t k
  | 0 => Nat.le_refl _
  | k + 1 => by
    have := cnt_mono h f t k
    unfold cnt
    by_cases h1 : xs.getD k false = true ∧ f k = t
    · rw [if_pos h1, if_pos ⟨h.2 k h1.1, h1.2⟩]; omega
    · rw [if_neg h1]; omega
theorem fillL_get {T C : Nat} {xs : List Bool} {fn fd : Int} {j : Nat} (h : j < xs.length) : (fillL T C xs fn fd).getD j false = fillB T C xs fn fd j := by
  rw [List.getD_eq_getElem?_getD, fillL, List.getElem?_map, List.getElem?_range h]; rfl
theorem fill_le (T C : Nat) (xs : List Bool) (fn fd : Int) : LeM xs (fillL T C xs fn fd) := ⟨(fillL_len T C xs fn fd).symm, fill_more T C xs fn fd⟩
theorem fill_mono {T C : Nat} {xs ys : List Bool} {fn fd : Int} (hd : 0 ≤ fd) (h : LeM xs ys) : LeM (fillL T C xs fn fd) (fillL T C ys fn fd) := by
  refine ⟨by rw [fillL_len, fillL_len, h.1], fun i hi => ?_⟩
  have hl : i < xs.length := by have := ge_of_true hi; rwa [fillL_len] at this
  rw [fillL_get hl] at hi
  rw [fillL_get (by rw [← h.1]; exact hl)]
  unfold fillB at *
  rw [Bool.or_eq_true, Bool.or_eq_true] at *
  rw [← h.1]
  rcases hi with (hi | hi) | hi
  · exact .inl (.inl (h.2 i hi))
  · exact .inl (.inr (enB_mono hd hi (cnt_mono h _ _ _)))
  · exact .inr (enB_mono hd hi (cnt_mono h _ _ _))
theorem clo_len (T C : Nat) (fn fd : Int) : ∀ f xs, (clo T C fn fd f xs).1.length = xs.length
  | 0, xs => rfl
  | f + 1, xs => by
    unfold clo; split
    · rfl
    · show (clo T C fn fd f (fillL T C xs fn fd)).1.length = _; rw [clo_len, fillL_len]
theorem clo_more (T C : Nat) (fn fd : Int) : ∀ f xs, LeM xs (clo T C fn fd f xs).1
  | 0, xs => LeM.refl _
  | f + 1, xs => by
    unfold clo; split
    · exact LeM.refl _
    · exact (fill_le T C xs fn fd).trans (clo_more T C fn fd f _)
theorem clo_fill (T C : Nat) (fn fd : Int) (f : Nat) (xs : List Bool) : LeM (fillL T C xs fn fd) (clo T C fn fd (f + 1) xs).1 := by
  unfold clo; split
  · rename_i h; rw [h]; exact LeM.refl _
  · exact clo_more T C fn fd f _
theorem clo_below {T C : Nat} {fn fd : Int} (hd : 0 ≤ fd) {z : List Bool} (hz : fillL T C z fn fd = z) : ∀ f xs, LeM xs z → LeM (clo T C fn fd f xs).1 z
  | 0, xs, h => h
  | f + 1, xs, h => by
    unfold clo; split
    · exact h
    · refine clo_below hd hz f _ ?_
      have := fill_mono (T := T) (C := C) (fn := fn) hd h
      rwa [hz] at this
theorem nf_zero {xs ys : List Bool} (h : nf xs = 0) (hl : LeM xs ys) : ys = xs := by
  rcases Classical.em (xs = ys) with e | e
  · exact e.symm
  · have := (nf_lt xs ys hl.1 hl.2).2 e; omega
/-- What closing makes is closed. -/
theorem clo_fix (T C : Nat) (fn fd : Int) : ∀ f xs, nf xs ≤ f → fillL T C (clo T C fn fd f xs).1 fn fd = (clo T C fn fd f xs).1
  | 0, xs, h => by show fillL T C xs fn fd = xs; exact nf_zero (by omega) (fill_le T C xs fn fd)
  | f + 1, xs, h => by
    unfold clo; split
    · assumption
    · rename_i hne
      refine clo_fix T C fn fd f _ ?_
      have := (nf_lt _ _ (fill_le T C xs fn fd).1 (fill_le T C xs fn fd).2).2 (fun e => hne e.symm); omega
theorem clo_mono {T C : Nat} {fn fd : Int} (hd : 0 ≤ fd) {xs ys : List Bool} (h : LeM xs ys) (f : Nat) (hf : nf ys ≤ f) : LeM (clo T C fn fd f xs).1 (clo T C fn fd f ys).1 :=
  clo_below hd (clo_fix T C fn fd f ys hf) f xs (h.trans (clo_more T C fn fd f ys))

/-- All cells with the number t are flagged. -/
def fullF (f : Nat → Nat) (xs : List Bool) (t : Nat) : Bool := (List.range xs.length).all fun j => f j != t || xs.getD j false
theorem fullF_iff {f : Nat → Nat} {xs : List Bool} {t : Nat} : fullF f xs t = true ↔ ∀ j, j < xs.length → f j = t → xs.getD j false = true := by
  unfold fullF
  rw [List.all_eq_true]
  constructor
  · intro h j hj e
    have := h j (List.mem_range.2 hj)
    simpa [e] using this
  · intro h j hj
    by_cases e : f j = t
    · simp only [Bool.or_eq_true]; exact .inr (h j (List.mem_range.1 hj) e)
    · simp [e]
theorem full_mono {f : Nat → Nat} {xs ys : List Bool} {t : Nat} (h : LeM xs ys) (hx : fullF f xs t = true) : fullF f ys t = true := by
  rw [fullF_iff] at *
  intro j hj e
  exact h.2 j (hx j (by rw [h.1]; exact hj) e)
def nfull (f : Nat → Nat) (xs : List Bool) : Nat → Nat
  | 0 => 0
  | t + 1 => nfull f xs t + if fullF f xs t = true then 1 else 0
theorem nfull_le (f : Nat → Nat) (xs : List Bool) : ∀ n, nfull f xs n ≤ n
  | 0 => Nat.le_refl _
  | n + 1 => by have := nfull_le f xs n; unfold nfull; split <;> omega
theorem nfull_mono {f : Nat → Nat} {xs ys : List Bool} (h : LeM xs ys) : ∀ n, nfull f xs n ≤ nfull f ys n
  | 0 => Nat.le_refl _
  | n + 1 => by
    have := nfull_mono (f := f) h n
    unfold nfull
    by_cases h1 : fullF f xs n = true
    · rw [if_pos h1, if_pos (full_mono h h1)]; omega
    · rw [if_neg h1]; omega
theorem nfull_lt {f : Nat → Nat} {xs ys : List Bool} (h : LeM xs ys) {t : Nat} (h1 : ¬ fullF f xs t = true) (h2 : fullF f ys t = true) : ∀ n, t < n → nfull f xs n < nfull f ys n
  | 0, ht => by omega
  | n + 1, ht => by
    unfold nfull
    rcases Nat.lt_or_ge t n with h' | h'
    · have := nfull_lt h h1 h2 n h'
      by_cases h3 : fullF f xs n = true
      · rw [if_pos h3, if_pos (full_mono h h3)]; omega
      · rw [if_neg h3]; omega
    · have e : t = n := by omega
      subst e
      have := nfull_mono (f := f) h t
      rw [if_neg h1, if_pos h2]; omega
/-- The full rows and columns. -/
def fullN (T C : Nat) (xs : List Bool) : Nat := nfull (· / C) xs T + nfull (· % C) xs C
theorem fullN_le (T C : Nat) (xs : List Bool) : fullN T C xs ≤ T + C := by
  have := nfull_le (· / C) xs T
  have := nfull_le (· % C) xs C
  unfold fullN; omega
/-- A filling that changes the mask makes a row or a column full. -/
theorem fill_new {T C : Nat} {xs : List Bool} {fn fd : Int} (hC : 0 < C) (hn : xs.length = T * C) (hne : ¬ fillL T C xs fn fd = xs) : fullN T C xs < fullN T C (fillL T C xs fn fd) := by
  have hl := fill_le T C xs fn fd
  have hj : ∃ j, j < xs.length ∧ xs.getD j false = false ∧ fillB T C xs fn fd j = true := by
    apply Classical.byContradiction
    intro hno
    refine hne (eq_getD hl.1.symm fun j hj => ?_)
    rw [fillL_len] at hj
    rw [fillL_get hj]
    cases e : xs.getD j false with
    | true => have := hl.2 j e; rw [fillL_get hj] at this; exact this
    | false =>
      cases e2 : fillB T C xs fn fd j with
      | false => rfl
      | true => exact absurd ⟨j, hj, e, e2⟩ hno
  obtain ⟨j, hj, e, e2⟩ := hj
  have hjT : j / C < T := Nat.div_lt_of_lt_mul (by rw [Nat.mul_comm, ← hn]; exact hj)
  have hjc : j % C < C := Nat.mod_lt _ hC
  unfold fillB at e2
  rw [e, Bool.false_or, Bool.or_eq_true] at e2
  unfold fullN
  rcases e2 with e2 | e2
  · have a := nfull_lt (f := (· / C)) hl (t := j / C) (fun h => by rw [fullF_iff] at h; have := h j hj rfl; rw [e] at this; cases this) (by
      rw [fullF_iff]; intro i hi hij; rw [fillL_len] at hi
      rw [fillL_get hi]; unfold fillB
      have hij' : i / C = j / C := hij
      rw [hij', e2]; simp) T hjT
    have b := nfull_mono (f := (· % C)) hl C
    omega
  · have a := nfull_lt (f := (· % C)) hl (t := j % C) (fun h => by rw [fullF_iff] at h; have := h j hj rfl; rw [e] at this; cases this) (by
      rw [fullF_iff]; intro i hi hij; rw [fillL_len] at hi
      rw [fillL_get hi]; unfold fillB
      have hij' : i % C = j % C := hij
      rw [hij', e2]; simp) C hjc
    have b := nfull_mono (f := (· / C)) hl T
    omega
theorem clo_num {T C : Nat} {fn fd : Int} (hC : 0 < C) : ∀ f xs, xs.length = T * C → (clo T C fn fd f xs).2 + fullN T C xs ≤ fullN T C (clo T C fn fd f xs).1
  | 0, xs, hn => by show 0 + _ ≤ _; rw [Nat.zero_add]; exact Nat.le_refl _
  | f + 1, xs, hn => by
    unfold clo; split
    · show 0 + _ ≤ _; rw [Nat.zero_add]; exact Nat.le_refl _
    · rename_i hne
      have a := clo_num (fn := fn) (fd := fd) hC f (fillL T C xs fn fd) (by rw [fillL_len, hn])
      have b := fill_new hC hn hne
      show (clo T C fn fd f (fillL T C xs fn fd)).2 + 1 + _ ≤ _
      have c : fullN T C (fillL T C xs fn fd) ≤ fullN T C (fillL T C xs fn fd) := Nat.le_refl _
      dsimp only
      omega
theorem count_nf : ∀ xs : List Bool, xs.count true + nf xs = xs.length
  | [] => rfl
  | x :: xs => by
    have := count_nf xs
    have e : nf (x :: xs) = nf xs + if x then 0 else 1 := by unfold nf; cases x <;> simp
    rw [e, List.count_cons, List.length_cons]
    cases x <;> simp <;> omega
theorem clo_none {T C : Nat} {fn fd : Int} (f : Nat) (hf : 0 < f) (xs : List Bool) : (clo T C fn fd f xs).2 = 0 ↔ (clo T C fn fd f xs).1.count true = xs.count true := by
  obtain ⟨g, rfl⟩ : ∃ g, f = g + 1 := ⟨f - 1, by omega⟩
  rcases Classical.em (fillL T C xs fn fd = xs) with e | e
  · rw [clo_stop _ e]; simp
  · have a := (clo_go (T := T) (C := C) (fn := fn) (fd := fd) (g + 1) hf e)
    have b := (nf_lt _ _ (fill_le T C xs fn fd).1 (fill_le T C xs fn fd).2).2 (fun h => e h.symm)
    have cl := clo_more T C fn fd g (fillL T C xs fn fd)
    have c := (nf_lt _ _ cl.1 cl.2).1
    have d1 := count_nf xs
    have d2 := count_nf (clo T C fn fd (g + 1) xs).1
    have d3 := clo_len T C fn fd (g + 1) xs
    rw [Nat.add_sub_cancel] at a
    rw [a.2, ← a.1] at *
    omega
theorem le_count {xs ys : List Bool} (h : LeM xs ys) : xs.count true ≤ ys.count true := by
  have := (nf_lt xs ys h.1 h.2).1
  have := count_nf xs
  have := count_nf ys
  have := h.1
  omega
theorem grow_le {C : Nat} {xs : List Bool} {dt dc : Int} (h1 : 0 ≤ dt) (h2 : 0 ≤ dc) : LeM xs (growL C xs dt dc) := by
  refine ⟨(growL_len C xs dt dc).symm, fun i hi => ?_⟩
  have hl := ge_of_true hi
  rw [growL_get hl, growB_true]
  exact ⟨i, hl, hi, by rw [nearC_iff]; omega⟩
theorem grow_mono {C : Nat} {xs ys : List Bool} {dt dc : Int} (h : LeM xs ys) : LeM (growL C xs dt dc) (growL C ys dt dc) := by
  refine ⟨by rw [growL_len, growL_len, h.1], fun i hi => ?_⟩
  have hl : i < xs.length := by have := ge_of_true hi; rwa [growL_len] at this
  rw [growL_get hl, growB_true] at hi
  rw [growL_get (by rw [← h.1]; exact hl), growB_true]
  obtain ⟨k, a, b, c⟩ := hi
  exact ⟨k, by rw [← h.1]; exact a, h.2 k b, c⟩
theorem zip_le1 {xs ys : List Bool} (hl : xs.length = ys.length) : LeM xs (List.zipWith (· || ·) xs ys) :=
  ⟨(zip_len hl).symm, fun i hi => by rw [zip_getD hl, hi]; rfl⟩
theorem zip_le2 {xs ys : List Bool} (hl : xs.length = ys.length) : LeM ys (List.zipWith (· || ·) xs ys) :=
  ⟨by rw [zip_len hl, hl], fun i hi => by rw [zip_getD hl, hi, Bool.or_true]⟩
end Go.Proofs.Ytpkggglifahioaa
