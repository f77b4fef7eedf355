/- What is proved here: plain facts: growing twice is growing by the sums; growing joined masks is joining grown ones. No program. -/
import Derived.Test.YtpkggglifahioaaFlagP
namespace Go.Proofs.Ytpkggglifahioaa
theorem growL_len (C : Nat) (xs : List Bool) (dt dc : Int) : (growL C xs dt dc).length = xs.length := by simp [growL]
theorem growL_get {C : Nat} {xs : List Bool} {dt dc : Int} {j : Nat} (h : j < xs.length) : (growL C xs dt dc).getD j false = growB C xs dt dc xs.length j := by
  rw [List.getD_eq_getElem?_getD, growL, List.getElem?_map, List.getElem?_range h]; rfl
theorem ge_of_true {xs : List Bool} {j : Nat} (h : xs.getD j false = true) : j < xs.length := by
  rcases Nat.lt_or_ge j xs.length with h' | h'
  · exact h'
  · rw [List.getD_eq_getElem?_getD, List.getElem?_eq_none h'] at h; cases h
theorem cell_lt {T C r c : Nat} (hr : r < T) (hc : c < C) : r * C + c < T * C := by
  have : (r + 1) * C ≤ T * C := Nat.mul_le_mul_right C hr
  rw [Nat.add_mul, Nat.one_mul] at this; omega
theorem btw (a b : Nat) (d e : Int) (hd : 0 ≤ d) (he : 0 ≤ e) (h1 : (a : Int) - b ≤ d + e) (h2 : (b : Int) - a ≤ d + e) : ∃ r : Nat, (a : Int) - r ≤ d ∧ (r : Int) - a ≤ d ∧ (r : Int) - b ≤ e ∧ (b : Int) - r ≤ e ∧ (r ≤ a ∨ r ≤ b) := by
  rcases Nat.le_total a b with h | h
  · rcases Int.le_total ((b : Int) - a) d with h' | h'
    · exact ⟨b, by omega, by omega, by omega, by omega, by omega⟩
    · exact ⟨a + d.toNat, by omega, by omega, by omega, by omega, by omega⟩
  · rcases Int.le_total ((a : Int) - b) d with h' | h'
    · exact ⟨b, by omega, by omega, by omega, by omega, by omega⟩
    · exact ⟨a - d.toNat, by omega, by omega, by omega, by omega, by omega⟩
theorem eq_getD {xs ys : List Bool} (hl : xs.length = ys.length) (h : ∀ j, j < xs.length → xs.getD j false = ys.getD j false) : xs = ys := by
  apply List.ext_getElem hl
  intro i h1 h2
  have := h i h1
  rw [List.getD_eq_getElem?_getD, List.getD_eq_getElem?_getD, List.getElem?_eq_getElem h1, List.getElem?_eq_getElem h2] at this
  simpa using this
/-- Growing twice is growing by the sums. -/
theorem grow_grow {T C : Nat} {xs : List Bool} {dt dc et ec : Int} (hn : xs.length = T * C) (hC : 0 < C) (h1 : 0 ≤ dt) (h2 : 0 ≤ dc) (h3 : 0 ≤ et) (h4 : 0 ≤ ec) :
    growL C (growL C xs dt dc) et ec = growL C xs (dt + et) (dc + ec) := by
  apply eq_getD
  · rw [growL_len, growL_len, growL_len]
  intro j hj
  rw [growL_len, growL_len] at hj
  rw [growL_get (by rw [growL_len]; exact hj), growL_get hj, growL_len, Bool.eq_iff_iff, growB_true, growB_true]
  constructor
  · rintro ⟨k, hk, hg, hkj⟩
    rw [growL_get hk, growB_true] at hg
    obtain ⟨i, hi, hx, hik⟩ := hg
    refine ⟨i, hi, hx, ?_⟩
    rw [nearC_iff] at *
    omega
  · rintro ⟨i, hi, hx, hij⟩
    rw [nearC_iff] at hij
    obtain ⟨a1, a2, a3, a4⟩ := hij
    obtain ⟨r, b1, b2, b3, b4, b5⟩ := btw (i / C) (j / C) dt et h1 h3 (by omega) (by omega)
    obtain ⟨c, c1, c2, c3, c4, c5⟩ := btw (i % C) (j % C) dc ec h2 h4 (by omega) (by omega)
    have hiT : i / C < T := Nat.div_lt_of_lt_mul (by rw [Nat.mul_comm, ← hn]; exact hi)
    have hjT : j / C < T := Nat.div_lt_of_lt_mul (by rw [Nat.mul_comm, ← hn]; exact hj)
    have hic : i % C < C := Nat.mod_lt _ hC
    have hjc : j % C < C := Nat.mod_lt _ hC
    have hr : r < T := by omega
    have hc : c < C := by omega
    have hk : r * C + c < xs.length := by rw [hn]; exact cell_lt hr hc
    obtain ⟨d1, d2⟩ := (divmod_eq (C := C) (u := r) (d := c) (j := r * C + c) hc).1 rfl
    refine ⟨r * C + c, hk, ?_, ?_⟩
    · rw [growL_get hk, growB_true]
      refine ⟨i, hi, hx, ?_⟩
      rw [nearC_iff, d1, d2]; omega
    · rw [nearC_iff, d1, d2]; omega
theorem zip_getD {xs ys : List Bool} (hl : xs.length = ys.length) (j : Nat) : (List.zipWith (· || ·) xs ys).getD j false = (xs.getD j false || ys.getD j false) := by
  rw [List.getD_eq_getElem?_getD, List.getD_eq_getElem?_getD, List.getD_eq_getElem?_getD, List.getElem?_zipWith]
  rcases Nat.lt_or_ge j xs.length with h | h
  · rw [List.getElem?_eq_getElem h, List.getElem?_eq_getElem (by omega)]; rfl
  · rw [List.getElem?_eq_none h, List.getElem?_eq_none (by omega)]; rfl
theorem zip_len {xs ys : List Bool} (hl : xs.length = ys.length) : (List.zipWith (· || ·) xs ys).length = xs.length := by
  rw [List.length_zipWith]; omega
/-- Growing joined masks is joining grown ones. -/
theorem grow_join {C : Nat} {xs ys : List Bool} {dt dc : Int} (hl : xs.length = ys.length) :
    growL C (List.zipWith (· || ·) xs ys) dt dc = List.zipWith (· || ·) (growL C xs dt dc) (growL C ys dt dc) := by
  apply eq_getD
  · rw [growL_len, zip_len hl, zip_len (by rw [growL_len, growL_len, hl]), growL_len]
  intro j hj
  rw [growL_len, zip_len hl] at hj
  rw [growL_get (by rw [zip_len hl]; exact hj), zip_getD (by rw [growL_len, growL_len, hl]), growL_get hj, growL_get (by omega), zip_len hl, Bool.eq_iff_iff, Bool.or_eq_true, growB_true, growB_true, growB_true]
  constructor
  · rintro ⟨k, hk, hg, hkj⟩
    rw [zip_getD hl, Bool.or_eq_true] at hg
    rcases hg with hg | hg
    · exact .inl ⟨k, hk, hg, hkj⟩
    · exact .inr ⟨k, by omega, hg, hkj⟩
  · rintro (⟨k, hk, hg, hkj⟩ | ⟨k, hk, hg, hkj⟩)
    · exact ⟨k, hk, by rw [zip_getD hl, hg]; rfl, hkj⟩
    · exact ⟨k, by omega, by rw [zip_getD hl, hg, Bool.or_true], hkj⟩
end Go.Proofs.Ytpkggglifahioaa
