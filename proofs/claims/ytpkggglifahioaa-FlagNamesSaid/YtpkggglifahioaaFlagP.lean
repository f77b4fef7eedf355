/- What is proved here: plain facts on growing a mask: cell by cell, or by marking what is near each flagged cell. No program. -/
namespace Go.Proofs.Ytpkggglifahioaa

/-- Cell i is near cell j: at most dt rows and dc columns apart. -/
def nearC (C : Nat) (dt dc : Int) (i j : Nat) : Bool :=
  decide (((i / C : Nat) : Int) - ((j / C : Nat) : Int) ≤ dt) && decide (((j / C : Nat) : Int) - ((i / C : Nat) : Int) ≤ dt) && decide (((i % C : Nat) : Int) - ((j % C : Nat) : Int) ≤ dc) && decide (((j % C : Nat) : Int) - ((i % C : Nat) : Int) ≤ dc)
/-- Cell j is near one of the first k cells that are flagged. -/
def growB (C : Nat) (xs : List Bool) (dt dc : Int) (k j : Nat) : Bool := (List.range k).any fun i => xs.getD i false && nearC C dt dc i j
/-- The grown mask. -/
def growL (C : Nat) (xs : List Bool) (dt dc : Int) : List Bool := (List.range xs.length).map fun j => growB C xs dt dc xs.length j

theorem growB_succ (C : Nat) (xs : List Bool) (dt dc : Int) (k j : Nat) : growB C xs dt dc (k + 1) j = (growB C xs dt dc k j || (xs.getD k false && nearC C dt dc k j)) := by
  unfold growB; rw [List.range_succ, List.any_append]; simp
theorem growB_true {C : Nat} {xs : List Bool} {dt dc : Int} {k j : Nat} : growB C xs dt dc k j = true ↔ ∃ i, i < k ∧ xs.getD i false = true ∧ nearC C dt dc i j = true := by
  unfold growB; simp [List.any_eq_true, List.mem_range]
theorem divmod_eq {C u d j : Nat} (hd : d < C) : j = u * C + d ↔ j / C = u ∧ j % C = d := by
  constructor
  · rintro rfl
    constructor
    · rw [Nat.add_comm, Nat.add_mul_div_right _ _ (by omega), Nat.div_eq_of_lt hd]; omega
    · rw [Nat.mul_comm, Nat.mul_add_mod, Nat.mod_eq_of_lt hd]
  · rintro ⟨rfl, rfl⟩
    rw [Nat.mul_comm]; exact (Nat.div_add_mod j C).symm
theorem nearC_iff {C : Nat} {dt dc : Int} {i j : Nat} : nearC C dt dc i j = true ↔ ((i / C : Nat) : Int) - ((j / C : Nat) : Int) ≤ dt ∧ ((j / C : Nat) : Int) - ((i / C : Nat) : Int) ≤ dt ∧ ((i % C : Nat) : Int) - ((j % C : Nat) : Int) ≤ dc ∧ ((j % C : Nat) : Int) - ((i % C : Nat) : Int) ≤ dc := by
  unfold nearC; simp [and_assoc]

/-- What has been marked when rows below u are done, and in row u the columns below d. -/
def markB (C : Nat) (xs : List Bool) (dt dc : Int) (k : Nat) (u d : Int) (j : Nat) : Bool :=
  growB C xs dt dc k j || (nearC C dt dc k j && (decide (((j / C : Nat) : Int) < u) || (decide (((j / C : Nat) : Int) = u) && decide (((j % C : Nat) : Int) < d))))

theorem map_set (n : Nat) (f g : Nat → Bool) (p : Nat) (hp : p < n) (h : ∀ j, j < n → g j = (f j || j == p)) :
    ((List.range n).map f).set p true = (List.range n).map g := by
  apply List.ext_getElem
  · simp
  · intro i h1 h2
    simp only [List.length_set, List.length_map, List.length_range] at h1
    rw [List.getElem_set]
    split
    · rename_i e; subst e; simp [h _ h1]
    · rename_i e; simp [h _ h1]; intro e2; exact absurd e2.symm e
theorem map_same (n : Nat) (f g : Nat → Bool) (h : ∀ j, j < n → f j = g j) : (List.range n).map f = (List.range n).map g :=
  List.map_congr_left fun j hj => h j (List.mem_range.1 hj)

theorem mark_step {C : Nat} {xs : List Bool} {dt dc : Int} {k u d j : Nat} (hd : d < C) (h1 : ((k / C : Nat) : Int) - dt ≤ u) (h2 : (u : Int) ≤ ((k / C : Nat) : Int) + dt) (h3 : ((k % C : Nat) : Int) - dc ≤ d) (h4 : (d : Int) ≤ ((k % C : Nat) : Int) + dc) :
    markB C xs dt dc k u (d + 1) j = (markB C xs dt dc k u d j || j == u * C + d) := by
  have hj := divmod_eq (C := C) (u := u) (d := d) (j := j) hd
  have hn := nearC_iff (C := C) (dt := dt) (dc := dc) (i := k) (j := j)
  unfold markB
  rw [Bool.eq_iff_iff]
  simp only [Bool.or_eq_true, Bool.and_eq_true, decide_eq_true_eq, beq_iff_eq]
  rw [hj, hn]
  clear hj hn
  generalize growB C xs dt dc k j = G
  generalize j / C = q at *
  generalize j % C = r at *
  generalize k / C = t at *
  generalize k % C = c at *
  cases G
  · simp only [Bool.false_eq_true, false_or]; omega
  · simp
/-- A row is done where its last column is. -/
theorem mark_row {C : Nat} {xs : List Bool} {dt dc : Int} {k j : Nat} {u d : Int} (hC : 0 < C) (h : d = C ∨ ((k % C : Nat) : Int) + dc < d) (lo : Int) (hlo : lo ≤ ((k % C : Nat) : Int) - dc ∨ lo ≤ 0) :
    markB C xs dt dc k u d j = markB C xs dt dc k (u + 1) lo j := by
  have hn := nearC_iff (C := C) (dt := dt) (dc := dc) (i := k) (j := j)
  have hm : j % C < C := Nat.mod_lt _ hC
  unfold markB
  rw [Bool.eq_iff_iff]
  simp only [Bool.or_eq_true, Bool.and_eq_true, decide_eq_true_eq]
  rw [hn]
  clear hn
  generalize growB C xs dt dc k j = G
  generalize j / C = q at *
  generalize j % C = r at *
  generalize k / C = t at *
  generalize k % C = c at *
  cases G
  · simp only [Bool.false_eq_true, false_or]; omega
  · simp
/-- Where a row begins nothing of it is marked. -/
theorem mark_start {C : Nat} {xs : List Bool} {dt dc : Int} {k j : Nat} {u lo lo' : Int} (h : lo ≤ ((k % C : Nat) : Int) - dc ∨ lo ≤ 0) (h' : lo' ≤ ((k % C : Nat) : Int) - dc ∨ lo' ≤ 0) :
    markB C xs dt dc k u lo j = markB C xs dt dc k u lo' j := by
  have hn := nearC_iff (C := C) (dt := dt) (dc := dc) (i := k) (j := j)
  unfold markB
  rw [Bool.eq_iff_iff]
  simp only [Bool.or_eq_true, Bool.and_eq_true, decide_eq_true_eq]
  rw [hn]
  clear hn
  generalize growB C xs dt dc k j = G
  generalize j / C = q at *
  generalize j % C = r at *
  generalize k / C = t at *
  generalize k % C = c at *
  cases G
  · simp only [Bool.false_eq_true, false_or]; omega
  · simp
/-- Before the first row. -/
theorem mark_first {C : Nat} {xs : List Bool} {dt dc : Int} {k j : Nat} {u lo : Int} (hu : u ≤ ((k / C : Nat) : Int) - dt ∨ u ≤ 0) (h : lo ≤ ((k % C : Nat) : Int) - dc ∨ lo ≤ 0) :
    markB C xs dt dc k u lo j = growB C xs dt dc k j := by
  have hn := nearC_iff (C := C) (dt := dt) (dc := dc) (i := k) (j := j)
  unfold markB
  rw [Bool.eq_iff_iff]
  simp only [Bool.or_eq_true, Bool.and_eq_true, decide_eq_true_eq]
  rw [hn]
  clear hn
  generalize growB C xs dt dc k j = G
  generalize j / C = q at *
  generalize j % C = r at *
  generalize k / C = t at *
  generalize k % C = c at *
  cases G
  · simp only [Bool.false_eq_true, false_or, iff_false]; rintro ⟨h1, h2⟩; omega
  · simp
/-- Behind the last row. -/
theorem mark_last {C T : Nat} {xs : List Bool} {dt dc : Int} {k j : Nat} {u lo : Int} (hj : j / C < T) (hx : xs.getD k false = true) (hu : u = T ∨ ((k / C : Nat) : Int) + dt < u) (h : lo ≤ ((k % C : Nat) : Int) - dc ∨ lo ≤ 0) :
    markB C xs dt dc k u lo j = growB C xs dt dc (k + 1) j := by
  have hn := nearC_iff (C := C) (dt := dt) (dc := dc) (i := k) (j := j)
  rw [growB_succ, hx, Bool.true_and]
  unfold markB
  rw [Bool.eq_iff_iff]
  simp only [Bool.or_eq_true, Bool.and_eq_true, decide_eq_true_eq]
  rw [hn]
  clear hn
  generalize growB C xs dt dc k j = G
  generalize j / C = q at *
  generalize j % C = r at *
  generalize k / C = t at *
  generalize k % C = c at *
  cases G
  · simp only [Bool.false_eq_true, false_or]; omega
  · simp

theorem growB_mono {C : Nat} {xs : List Bool} {dt dc : Int} {k n j : Nat} (h : k ≤ n) (hk : growB C xs dt dc k j = true) : growB C xs dt dc n j = true := by
  rw [growB_true] at *
  obtain ⟨i, h1, h2⟩ := hk
  exact ⟨i, by omega, h2⟩
theorem near_at {C : Nat} {dt dc : Int} {u v a b : Nat} (hv : v < C) (hb : b < C) : nearC C dt dc (u * C + v) (a * C + b) = true ↔ (u : Int) - a ≤ dt ∧ (a : Int) - u ≤ dt ∧ (v : Int) - b ≤ dc ∧ (b : Int) - v ≤ dc := by
  rw [nearC_iff]
  have h1 := (divmod_eq (C := C) (u := u) (d := v) (j := u * C + v) hv).1 rfl
  have h2 := (divmod_eq (C := C) (u := a) (d := b) (j := a * C + b) hb).1 rfl
  rw [h1.1, h1.2, h2.1, h2.2]

end Go.Proofs.Ytpkggglifahioaa
