/- What is proved here: contracts of functions and plain facts, several texts in one; each one says ahead what it proves, and its conditions. -/
import Derived.Test.YtpjhiojdnebgoaaC23
import Derived.Test.YtpjhiojdnebgoaaC43
/- What is proved here: the taps of the parts with a denominator of at most 4 as whole numbers over 497664, and that two filters, for a part and for what is left to 1, give the next level where the differences of a greater order are 0. No program in sight. -/
namespace Go.Proofs.Ytpjhiojdnebgoaa
open Go.RowKit

/-- The differences of a function. -/
def dfx (x : Nat → Int) : Nat → Nat → Int
  | 0, s => x s
  | m + 1, s => dfx x m (s + 1) - dfx x m s
/-- The taps of a part, times 497664. -/
def tapI (n : Nat) (a b : Int) : List Int :=
  if n = 0 ∧ a = 1 ∧ b = 2 then [497664]
  else if n = 0 ∧ a = 1 ∧ b = 3 then [497664]
  else if n = 0 ∧ a = 2 ∧ b = 3 then [497664]
  else if n = 0 ∧ a = 1 ∧ b = 4 then [497664]
  else if n = 0 ∧ a = 3 ∧ b = 4 then [497664]
  else if n = 1 ∧ a = 1 ∧ b = 2 then [248832, 248832]
  else if n = 1 ∧ a = 1 ∧ b = 3 then [331776, 165888]
  else if n = 1 ∧ a = 2 ∧ b = 3 then [165888, 331776]
  else if n = 1 ∧ a = 1 ∧ b = 4 then [373248, 124416]
  else if n = 1 ∧ a = 3 ∧ b = 4 then [124416, 373248]
  else if n = 2 ∧ a = 1 ∧ b = 2 then [-62208, 373248, 186624]
  else if n = 2 ∧ a = 1 ∧ b = 3 then [-55296, 442368, 110592]
  else if n = 2 ∧ a = 2 ∧ b = 3 then [-55296, 276480, 276480]
  else if n = 2 ∧ a = 1 ∧ b = 4 then [-46656, 466560, 77760]
  else if n = 2 ∧ a = 3 ∧ b = 4 then [-46656, 217728, 326592]
  else if n = 3 ∧ a = 1 ∧ b = 2 then [-31104, 279936, 279936, -31104]
  else if n = 3 ∧ a = 1 ∧ b = 3 then [-30720, 368640, 184320, -24576]
  else if n = 3 ∧ a = 2 ∧ b = 3 then [-24576, 184320, 368640, -30720]
  else if n = 3 ∧ a = 1 ∧ b = 4 then [-27216, 408240, 136080, -19440]
  else if n = 3 ∧ a = 3 ∧ b = 4 then [-19440, 136080, 408240, -27216]
  else if n = 4 ∧ a = 1 ∧ b = 2 then [11664, -77760, 349920, 233280, -19440]
  else if n = 4 ∧ a = 1 ∧ b = 3 then [10240, -71680, 430080, 143360, -14336]
  else if n = 4 ∧ a = 2 ∧ b = 3 then [10240, -65536, 245760, 327680, -20480]
  else if n = 4 ∧ a = 1 ∧ b = 4 then [8505, -61236, 459270, 102060, -10935]
  else if n = 4 ∧ a = 3 ∧ b = 4 then [8505, -53460, 187110, 374220, -18711]
  else []
def ptab : List (Int × Int) := [(1, 2), (1, 3), (2, 3), (1, 4), (3, 4)]
theorem part4 {a b : Int} (h : partB a b = true) (hb : b ≤ 4) (ha : a ≠ 0) : (a, b) ∈ ptab := by
  have h0 := h
  unfold partB at h0
  simp only [Bool.and_eq_true, decide_eq_true_eq] at h0
  obtain ⟨⟨⟨_, h1⟩, h2⟩, h3⟩ := h0
  obtain ⟨m, rfl⟩ := Int.eq_ofNat_of_zero_le h1
  obtain ⟨d, rfl⟩ := Int.eq_ofNat_of_zero_le (show 0 ≤ b by omega)
  have q : ((List.range 5).all fun d => (List.range d).all fun m => !partB m d || (m == 0) || ptab.contains ((m : Int), (d : Int))) = true := by decide +kernel
  have q1 := List.all_eq_true.1 q d (List.mem_range.2 (by omega))
  have q2 := List.all_eq_true.1 q1 m (List.mem_range.2 (by omega))
  rw [h] at q2
  have hm : (m == 0) = false := by simp; omega
  rw [hm] at q2
  simpa using q2
theorem tapI_all : (ptab.all fun f => (List.range 5).all fun n => (List.range (n + 1)).all fun j => decide ((tapV n j f.1 f.2 (n + 1)).1 * 497664 = (tapI n f.1 f.2).getD j 0 * (tapV n j f.1 f.2 (n + 1)).2) && decide (fchk (tapV n j f.1 f.2 (n + 1)).1 (tapV n j f.1 f.2 (n + 1)).2 = 0) && decide (-497664 ≤ (tapI n f.1 f.2).getD j 0) && decide ((tapI n f.1 f.2).getD j 0 ≤ 497664)) = true := by decide +kernel
theorem rest_all : (ptab.all fun f => ptab.contains ((fsub 1 1 f.1 f.2).n, (fsub 1 1 f.1 f.2).d) && decide ((fsub 1 1 f.1 f.2).e = 0) && decide ((fsub 1 1 f.1 f.2).n = f.2 - f.1) && decide ((fsub 1 1 f.1 f.2).d = f.2)) = true := by decide +kernel
theorem zero_all : ((List.range 5).all fun n => (List.range (n + 1)).all fun j => decide (tapV n j 0 1 (n + 1) = (if j = n / 2 then 1 else 0, 1))) = true := by decide +kernel
/-- Two filters one after the other. -/
def whI (T S : List Int) (n : Nat) (x : Nat → Int) : Int := si (fun i => S.getD i 0 * si (fun j => T.getD j 0 * x (i + j)) (n + 1)) (n + 1)
theorem w0_12 (x : Nat → Int) (hd : ∀ s, s + 1 < 2 → dfx x 1 s = 0) : whI [497664] [497664] 0 x = 247669456896 * x 1 := by
  have h0 := hd 0 (by omega)
  simp only [whI, dfx, si, List.getD_cons_zero, List.getD_cons_succ, Nat.zero_add, Nat.reduceAdd] at *
  omega
theorem w0_13 (x : Nat → Int) (hd : ∀ s, s + 1 < 2 → dfx x 1 s = 0) : whI [497664] [497664] 0 x = 247669456896 * x 1 := by
  have h0 := hd 0 (by omega)
  simp only [whI, dfx, si, List.getD_cons_zero, List.getD_cons_succ, Nat.zero_add, Nat.reduceAdd] at *
  omega
theorem w0_23 (x : Nat → Int) (hd : ∀ s, s + 1 < 2 → dfx x 1 s = 0) : whI [497664] [497664] 0 x = 247669456896 * x 1 := by
  have h0 := hd 0 (by omega)
  simp only [whI, dfx, si, List.getD_cons_zero, List.getD_cons_succ, Nat.zero_add, Nat.reduceAdd] at *
  omega
theorem w0_14 (x : Nat → Int) (hd : ∀ s, s + 1 < 2 → dfx x 1 s = 0) : whI [497664] [497664] 0 x = 247669456896 * x 1 := by
  have h0 := hd 0 (by omega)
  simp only [whI, dfx, si, List.getD_cons_zero, List.getD_cons_succ, Nat.zero_add, Nat.reduceAdd] at *
  omega
theorem w0_34 (x : Nat → Int) (hd : ∀ s, s + 1 < 2 → dfx x 1 s = 0) : whI [497664] [497664] 0 x = 247669456896 * x 1 := by
  have h0 := hd 0 (by omega)
  simp only [whI, dfx, si, List.getD_cons_zero, List.getD_cons_succ, Nat.zero_add, Nat.reduceAdd] at *
  omega
theorem w1_12 (x : Nat → Int) (hd : ∀ s, s + 2 < 3 → dfx x 2 s = 0) : whI [248832, 248832] [248832, 248832] 1 x = 247669456896 * x 1 := by
  have h0 := hd 0 (by omega)
  simp only [whI, dfx, si, List.getD_cons_zero, List.getD_cons_succ, Nat.zero_add, Nat.reduceAdd] at *
  omega
theorem w1_13 (x : Nat → Int) (hd : ∀ s, s + 2 < 3 → dfx x 2 s = 0) : whI [331776, 165888] [165888, 331776] 1 x = 247669456896 * x 1 := by
  have h0 := hd 0 (by omega)
  simp only [whI, dfx, si, List.getD_cons_zero, List.getD_cons_succ, Nat.zero_add, Nat.reduceAdd] at *
  omega
theorem w1_23 (x : Nat → Int) (hd : ∀ s, s + 2 < 3 → dfx x 2 s = 0) : whI [165888, 331776] [331776, 165888] 1 x = 247669456896 * x 1 := by
  have h0 := hd 0 (by omega)
  simp only [whI, dfx, si, List.getD_cons_zero, List.getD_cons_succ, Nat.zero_add, Nat.reduceAdd] at *
  omega
theorem w1_14 (x : Nat → Int) (hd : ∀ s, s + 2 < 3 → dfx x 2 s = 0) : whI [373248, 124416] [124416, 373248] 1 x = 247669456896 * x 1 := by
  have h0 := hd 0 (by omega)
  simp only [whI, dfx, si, List.getD_cons_zero, List.getD_cons_succ, Nat.zero_add, Nat.reduceAdd] at *
  omega
theorem w1_34 (x : Nat → Int) (hd : ∀ s, s + 2 < 3 → dfx x 2 s = 0) : whI [124416, 373248] [373248, 124416] 1 x = 247669456896 * x 1 := by
  have h0 := hd 0 (by omega)
  simp only [whI, dfx, si, List.getD_cons_zero, List.getD_cons_succ, Nat.zero_add, Nat.reduceAdd] at *
  omega
theorem w2_12 (x : Nat → Int) (hd : ∀ s, s + 3 < 5 → dfx x 3 s = 0) : whI [-62208, 373248, 186624] [-62208, 373248, 186624] 2 x = 247669456896 * x 3 := by
  have h0 := hd 0 (by omega)
  have h1 := hd 1 (by omega)
  simp only [whI, dfx, si, List.getD_cons_zero, List.getD_cons_succ, Nat.zero_add, Nat.reduceAdd] at *
  omega
theorem w2_13 (x : Nat → Int) (hd : ∀ s, s + 3 < 5 → dfx x 3 s = 0) : whI [-55296, 442368, 110592] [-55296, 276480, 276480] 2 x = 247669456896 * x 3 := by
  have h0 := hd 0 (by omega)
  have h1 := hd 1 (by omega)
  simp only [whI, dfx, si, List.getD_cons_zero, List.getD_cons_succ, Nat.zero_add, Nat.reduceAdd] at *
  omega
theorem w2_23 (x : Nat → Int) (hd : ∀ s, s + 3 < 5 → dfx x 3 s = 0) : whI [-55296, 276480, 276480] [-55296, 442368, 110592] 2 x = 247669456896 * x 3 := by
  have h0 := hd 0 (by omega)
  have h1 := hd 1 (by omega)
  simp only [whI, dfx, si, List.getD_cons_zero, List.getD_cons_succ, Nat.zero_add, Nat.reduceAdd] at *
  omega
theorem w2_14 (x : Nat → Int) (hd : ∀ s, s + 3 < 5 → dfx x 3 s = 0) : whI [-46656, 466560, 77760] [-46656, 217728, 326592] 2 x = 247669456896 * x 3 := by
  have h0 := hd 0 (by omega)
  have h1 := hd 1 (by omega)
  simp only [whI, dfx, si, List.getD_cons_zero, List.getD_cons_succ, Nat.zero_add, Nat.reduceAdd] at *
  omega
theorem w2_34 (x : Nat → Int) (hd : ∀ s, s + 3 < 5 → dfx x 3 s = 0) : whI [-46656, 217728, 326592] [-46656, 466560, 77760] 2 x = 247669456896 * x 3 := by
  have h0 := hd 0 (by omega)
  have h1 := hd 1 (by omega)
  simp only [whI, dfx, si, List.getD_cons_zero, List.getD_cons_succ, Nat.zero_add, Nat.reduceAdd] at *
  omega
theorem w3_12 (x : Nat → Int) (hd : ∀ s, s + 4 < 7 → dfx x 4 s = 0) : whI [-31104, 279936, 279936, -31104] [-31104, 279936, 279936, -31104] 3 x = 247669456896 * x 3 := by
  have h0 := hd 0 (by omega)
  have h1 := hd 1 (by omega)
  have h2 := hd 2 (by omega)
  simp only [whI, dfx, si, List.getD_cons_zero, List.getD_cons_succ, Nat.zero_add, Nat.reduceAdd] at *
  omega
theorem w3_13 (x : Nat → Int) (hd : ∀ s, s + 4 < 7 → dfx x 4 s = 0) : whI [-30720, 368640, 184320, -24576] [-24576, 184320, 368640, -30720] 3 x = 247669456896 * x 3 := by
  have h0 := hd 0 (by omega)
  have h1 := hd 1 (by omega)
  have h2 := hd 2 (by omega)
  simp only [whI, dfx, si, List.getD_cons_zero, List.getD_cons_succ, Nat.zero_add, Nat.reduceAdd] at *
  omega
theorem w3_23 (x : Nat → Int) (hd : ∀ s, s + 4 < 7 → dfx x 4 s = 0) : whI [-24576, 184320, 368640, -30720] [-30720, 368640, 184320, -24576] 3 x = 247669456896 * x 3 := by
  have h0 := hd 0 (by omega)
  have h1 := hd 1 (by omega)
  have h2 := hd 2 (by omega)
  simp only [whI, dfx, si, List.getD_cons_zero, List.getD_cons_succ, Nat.zero_add, Nat.reduceAdd] at *
  omega
theorem w3_14 (x : Nat → Int) (hd : ∀ s, s + 4 < 7 → dfx x 4 s = 0) : whI [-27216, 408240, 136080, -19440] [-19440, 136080, 408240, -27216] 3 x = 247669456896 * x 3 := by
  have h0 := hd 0 (by omega)
  have h1 := hd 1 (by omega)
  have h2 := hd 2 (by omega)
  simp only [whI, dfx, si, List.getD_cons_zero, List.getD_cons_succ, Nat.zero_add, Nat.reduceAdd] at *
  omega
theorem w3_34 (x : Nat → Int) (hd : ∀ s, s + 4 < 7 → dfx x 4 s = 0) : whI [-19440, 136080, 408240, -27216] [-27216, 408240, 136080, -19440] 3 x = 247669456896 * x 3 := by
  have h0 := hd 0 (by omega)
  have h1 := hd 1 (by omega)
  have h2 := hd 2 (by omega)
  simp only [whI, dfx, si, List.getD_cons_zero, List.getD_cons_succ, Nat.zero_add, Nat.reduceAdd] at *
  omega
theorem w4_12 (x : Nat → Int) (hd : ∀ s, s + 5 < 9 → dfx x 5 s = 0) : whI [11664, -77760, 349920, 233280, -19440] [11664, -77760, 349920, 233280, -19440] 4 x = 247669456896 * x 5 := by
  have h0 := hd 0 (by omega)
  have h1 := hd 1 (by omega)
  have h2 := hd 2 (by omega)
  have h3 := hd 3 (by omega)
  simp only [whI, dfx, si, List.getD_cons_zero, List.getD_cons_succ, Nat.zero_add, Nat.reduceAdd] at *
  omega
theorem w4_13 (x : Nat → Int) (hd : ∀ s, s + 5 < 9 → dfx x 5 s = 0) : whI [10240, -71680, 430080, 143360, -14336] [10240, -65536, 245760, 327680, -20480] 4 x = 247669456896 * x 5 := by
  have h0 := hd 0 (by omega)
  have h1 := hd 1 (by omega)
  have h2 := hd 2 (by omega)
  have h3 := hd 3 (by omega)
  simp only [whI, dfx, si, List.getD_cons_zero, List.getD_cons_succ, Nat.zero_add, Nat.reduceAdd] at *
  omega
theorem w4_23 (x : Nat → Int) (hd : ∀ s, s + 5 < 9 → dfx x 5 s = 0) : whI [10240, -65536, 245760, 327680, -20480] [10240, -71680, 430080, 143360, -14336] 4 x = 247669456896 * x 5 := by
  have h0 := hd 0 (by omega)
  have h1 := hd 1 (by omega)
  have h2 := hd 2 (by omega)
  have h3 := hd 3 (by omega)
  simp only [whI, dfx, si, List.getD_cons_zero, List.getD_cons_succ, Nat.zero_add, Nat.reduceAdd] at *
  omega
theorem w4_14 (x : Nat → Int) (hd : ∀ s, s + 5 < 9 → dfx x 5 s = 0) : whI [8505, -61236, 459270, 102060, -10935] [8505, -53460, 187110, 374220, -18711] 4 x = 247669456896 * x 5 := by
  have h0 := hd 0 (by omega)
  have h1 := hd 1 (by omega)
  have h2 := hd 2 (by omega)
  have h3 := hd 3 (by omega)
  simp only [whI, dfx, si, List.getD_cons_zero, List.getD_cons_succ, Nat.zero_add, Nat.reduceAdd] at *
  omega
theorem w4_34 (x : Nat → Int) (hd : ∀ s, s + 5 < 9 → dfx x 5 s = 0) : whI [8505, -53460, 187110, 374220, -18711] [8505, -61236, 459270, 102060, -10935] 4 x = 247669456896 * x 5 := by
  have h0 := hd 0 (by omega)
  have h1 := hd 1 (by omega)
  have h2 := hd 2 (by omega)
  have h3 := hd 3 (by omega)
  simp only [whI, dfx, si, List.getD_cons_zero, List.getD_cons_succ, Nat.zero_add, Nat.reduceAdd] at *
  omega
theorem w_all {n : Nat} {a b : Int} (hn : n ≤ 4) (hp : (a, b) ∈ ptab) (x : Nat → Int) (hd : ∀ s, s + (n + 1) < max (2 * n + 1) (2 * (n / 2) + 2) → dfx x (n + 1) s = 0) : whI (tapI n a b) (tapI n (b - a) b) n x = 247669456896 * x (2 * (n / 2) + 1) := by
  simp only [ptab, List.mem_cons, Prod.mk.injEq, List.not_mem_nil, or_false] at hp
  obtain rfl | rfl | rfl | rfl | rfl : n = 0 ∨ n = 1 ∨ n = 2 ∨ n = 3 ∨ n = 4 := by omega
  all_goals rcases hp with ⟨rfl, rfl⟩ | ⟨rfl, rfl⟩ | ⟨rfl, rfl⟩ | ⟨rfl, rfl⟩ | ⟨rfl, rfl⟩
  · exact w0_12 x hd
  · exact w0_13 x hd
  · exact w0_23 x hd
  · exact w0_14 x hd
  · exact w0_34 x hd
  · exact w1_12 x hd
  · exact w1_13 x hd
  · exact w1_23 x hd
  · exact w1_14 x hd
  · exact w1_34 x hd
  · exact w2_12 x hd
  · exact w2_13 x hd
  · exact w2_23 x hd
  · exact w2_14 x hd
  · exact w2_34 x hd
  · exact w3_12 x hd
  · exact w3_13 x hd
  · exact w3_23 x hd
  · exact w3_14 x hd
  · exact w3_34 x hd
  · exact w4_12 x hd
  · exact w4_13 x hd
  · exact w4_23 x hd
  · exact w4_14 x hd
  · exact w4_34 x hd
end Go.Proofs.Ytpjhiojdnebgoaa

/- What is proved here: for levels whose degree is at most that of the filter, reading with a part, and filtering with the taps for what is left to 1, gives the next levels, and reading with the part 0 gives the levels. No program in sight. Condition: at most 24 levels from -1000 to 1000, a degree of at most 4, a part with a denominator of at most 4. -/
namespace Go.Proofs.Ytpjhiojdnebgoaa
open Go.RowKit

theorem fvalid_of {l : List (Int × Int)} (h : ∀ i (h : i < l.length), fchk l[i].1 l[i].2 = 0) : fvalid l = true := by
  cases hv : fvalid l with
  | true => rfl
  | false =>
    exfalso
    unfold fvalid at hv
    rw [List.all_eq_false] at hv
    obtain ⟨p, hp, hn⟩ := hv
    obtain ⟨i, hi, rfl⟩ := List.getElem_of_mem hp
    exact hn (by simpa using h i hi)
theorem si_bd {f : Nat → Int} {B : Int} : ∀ n, (∀ i, i < n → -B ≤ f i ∧ f i ≤ B) → -((n : Int) * B) ≤ si f n ∧ si f n ≤ (n : Int) * B
  | 0, _ => by simp [si]
  | n + 1, h => by
    have ih := si_bd n fun i hi => h i (by omega)
    have h1 := h n (by omega)
    have e : ((n + 1 : Nat) : Int) * B = (n : Int) * B + B := by rw [Int.natCast_add, Int.add_mul]; simp
    rw [si_succ, e]
    generalize (n : Int) * B = X at *
    omega
theorem si_bd20 {f : Nat → Int} {B : Int} {n : Nat} (hn : n ≤ 20) (h0 : 0 ≤ B) (h : ∀ i, i < n → -B ≤ f i ∧ f i ≤ B) : -(20 * B) ≤ si f n ∧ si f n ≤ 20 * B := by
  have h1 := si_bd n h
  have h2 : (n : Int) * B ≤ 20 * B := Int.mul_le_mul_of_nonneg_right (by omega) h0
  generalize (n : Int) * B = X at *
  omega
theorem div_mul_div' (a b c d : Int) : ((a : Rat) / (b : Rat)) * ((c : Rat) / (d : Rat)) = ((a * c : Int) : Rat) / ((b * d : Int) : Rat) := by
  rw [Rat.intCast_mul, Rat.intCast_mul, Rat.div_def, Rat.div_def, Rat.div_def, Rat.inv_mul_rev]; grind
theorem FiltOk.valid {l t r : List (Int × Int)} (h : FiltOk l t r) : fvalid r = true := fvalid_of fun i hi => by
  obtain ⟨h1, h2⟩ := h.val i hi
  rw [h2]; exact up_chk h1
/-- A filter of numbers over known denominators has no error. -/
theorem filt_go {l t : List (Int × Int)} {D1 D2 B : Int} {T N : Nat → Int} (h1 : 0 < t.length) (h2 : t.length ≤ 20) (h3 : l.length ≤ 256) (vl : fvalid l = true) (vt : fvalid t = true)
    (dp : 0 < D1 * D2) (dd : D1 * D2 ≤ 1000000000000000000) (ht : ∀ j, j < t.length → nq t j = (T j : Rat) / (D1 : Rat)) (hl : ∀ i, i < l.length → nq l i = (N i : Rat) / (D2 : Rat))
    (hb : ∀ j i, j < t.length → i < l.length → -B ≤ T j * N i ∧ T j * N i ≤ B) (h0 : 0 ≤ B) (hB : 20 * B ≤ 1000000000000000000) :
    FiltOk l t (ffilt l t).1 ∧ (ffilt l t).2 = 0 ∧ ∀ i, i < (ffilt l t).1.length → nq (ffilt l t).1 i = ((si (fun j => T j * N (i + j)) t.length : Int) : Rat) / ((D1 * D2 : Int) : Rat) := by
  have row : ∀ i, i + t.length ≤ l.length → ∀ k, k ≤ t.length → sm (tq (filtT l t i)) k = ((si (fun j => T j * N (i + j)) k : Int) : Rat) / ((D1 * D2 : Int) : Rat) := fun i hi k hk => by
    rw [← sm_div]
    refine sm_congr k fun j hj => ?_
    show nq t j * nq l (i + j) = _
    rw [ht j (by omega), hl (i + j) (by omega), div_mul_div']
  have big : ∀ i, i + t.length ≤ l.length → ∀ k, k ≤ t.length → inr (sm (tq (filtT l t i)) k) := fun i hi k hk => by
    rw [row i hi k hk]
    have := si_bd20 (f := fun j => T j * N (i + j)) (n := k) (by omega) h0 fun j hj => hb j (i + j) (by omega) (by omega)
    exact inr_frac dp dd (by omega) (by omega)
  have one : ∀ i, i + t.length ≤ l.length → ∀ j, j < t.length → inr (tq (filtT l t i) j) := fun i hi j hj => by
    show inr (nq t j * nq l (i + j))
    rw [ht j hj, hl (i + j) (by omega), div_mul_div']
    have := hb j (i + j) hj (by omega)
    exact inr_frac dp dd (by omega) (by omega)
  have e0 : ffilt l t = rowsOf (fun i => fsumN l t i t.length) (l.length + 1 - t.length) := by
    rw [← frows_rows]
    unfold ffilt
    rw [if_neg (by omega), if_neg (fun h => by
      rcases h with h | h | h
      · omega
      · rw [vl] at h; cases h
      · rw [vt] at h; cases h)]
  have e1 : (ffilt l t).2 = 0 := by
    rw [e0]
    refine rows_go _ fun i hi => ?_
    have tv : tval (filtT l t i) t.length := fun j hj => ⟨fvalid_at vt hj, fvalid_at vl (by omega)⟩
    have g := gsum_go (t := filtT l t i) t.length tv (fun j hj => one i (by omega) j hj) (fun j hj => big i (by omega) j hj)
    show (fsumN l t i t.length).e = 0
    rw [fsumN_g, g]; rfl
  have ok := ffilt_ok e1
  refine ⟨ok, e1, fun i hi => ?_⟩
  have hlen := ok.len
  rw [ok.nq hi]
  exact row i (by omega) t.length (Nat.le_refl _)

section
variable {l : List Int} {n : Nat} {a b : Int}
theorem ptab_part (h : (a, b) ∈ ptab) : partB a b = true := by
  have q : (ptab.all fun f => partB f.1 f.2) = true := by decide +kernel
  have q1 := List.all_eq_true.1 q (a, b) h
  dsimp only at q1
  exact q1
theorem tapI_ok (h : (a, b) ∈ ptab) (hn : n ≤ 4) {j : Nat} (hj : j ≤ n) :
    (tapV n j a b (n + 1)).1 * 497664 = (tapI n a b).getD j 0 * (tapV n j a b (n + 1)).2 ∧ fchk (tapV n j a b (n + 1)).1 (tapV n j a b (n + 1)).2 = 0 ∧ -497664 ≤ (tapI n a b).getD j 0 ∧ (tapI n a b).getD j 0 ≤ 497664 := by
  have q1 := List.all_eq_true.1 tapI_all (a, b) h
  have q2 := List.all_eq_true.1 q1 n (List.mem_range.2 (by omega))
  have q3 := List.all_eq_true.1 q2 j (List.mem_range.2 (by omega))
  simp only [Bool.and_eq_true, decide_eq_true_eq] at q3
  exact ⟨q3.1.1.1, q3.1.1.2, q3.1.2, q3.2⟩
theorem rest_ok (h : (a, b) ∈ ptab) : (b - a, b) ∈ ptab ∧ (fsub 1 1 a b).e = 0 ∧ (fsub 1 1 a b).n = b - a ∧ (fsub 1 1 a b).d = b := by
  have q := List.all_eq_true.1 rest_all (a, b) h
  simp only [Bool.and_eq_true, decide_eq_true_eq, List.contains_iff_mem] at q
  obtain ⟨⟨⟨q1, q2⟩, q3⟩, q4⟩ := q
  rw [q3, q4] at q1
  exact ⟨q1, q2, q3, q4⟩
theorem zero_ok (hn : n ≤ 4) {j : Nat} (hj : j ≤ n) : tapV n j 0 1 (n + 1) = (if j = n / 2 then 1 else 0, 1) := by
  have q2 := List.all_eq_true.1 zero_all n (List.mem_range.2 (by omega))
  have q3 := List.all_eq_true.1 q2 j (List.mem_range.2 (by omega))
  simpa using q3
theorem ftaps_nat (hn : n ≤ 4) (hp : partB a b = true) : ftaps n a b = (tapsN n a b (n + 1), 0) := by
  unfold ftaps
  rw [if_neg (by omega), if_neg (by rw [hp]; decide), Int.toNat_natCast]
theorem taps_get {m j : Nat} (hj : j < m) : (tapsN n a b m).getD j (0, 0) = tapV n j a b (n + 1) := by simp [tapsN, List.getD, hj]
theorem taps_valid (h : (a, b) ∈ ptab) (hn : n ≤ 4) : fvalid (tapsN n a b (n + 1)) = true := fvalid_of fun i hi => by
  rw [tapsN_len] at hi
  have e : (tapsN n a b (n + 1))[i]'(by rw [tapsN_len]; exact hi) = tapV n i a b (n + 1) := by simp [tapsN]
  rw [e]; exact (tapI_ok h hn (by omega)).2.1
theorem taps_nq (h : (a, b) ∈ ptab) (hn : n ≤ 4) {j : Nat} (hj : j < n + 1) : nq (tapsN n a b (n + 1)) j = (((tapI n a b).getD j 0 : Int) : Rat) / ((497664 : Int) : Rat) := by
  unfold nq
  rw [taps_get hj]
  obtain ⟨h1, h2, _⟩ := tapI_ok h hn (show j ≤ n by omega)
  obtain ⟨u1, _⟩ := fok_of h2
  unfold qq
  rw [← Rat.divInt_eq_div]
  exact (Rat.divInt_eq_divInt_iff (by omega) (by omega)).2 h1
def small (l : List Int) : Prop := ∀ i, i < l.length → -1000 ≤ l.getD i 0 ∧ l.getD i 0 ≤ 1000
theorem small_lev (h : small l) : levB l = true := by
  unfold levB
  rw [List.all_eq_true]
  intro x hx
  obtain ⟨i, hi, rfl⟩ := List.getElem_of_mem hx
  have := h i hi
  simp only [List.getD, List.getElem?_eq_getElem hi, Option.getD_some] at this
  simp only [Bool.and_eq_true, decide_eq_true_eq]
  omega
theorem wholes_get {i : Nat} (hi : i < l.length) : (wholes l).getD i (0, 0) = (l.getD i 0, 1) := by simp [wholes, List.getD, hi]
theorem wholes_valid (h : small l) : fvalid (wholes l) = true := fvalid_of fun i hi => by
  rw [wholes_len] at hi
  have e : (wholes l)[i]'(by rw [wholes_len]; exact hi) = (l.getD i 0, 1) := by simp [wholes, List.getD, hi]
  rw [e]
  exact fchk_small (h i hi).1 (h i hi).2
theorem wholes_nq {i : Nat} (hi : i < l.length) : nq (wholes l) i = ((l.getD i 0 : Int) : Rat) / ((1 : Int) : Rat) := by
  unfold nq
  rw [wholes_get hi, qq_int]; grind
theorem fread_small (hl : l.length ≤ 24) (h : small l) (hn : n ≤ 4) (hp : partB a b = true) : fread l n a b = ffilt (wholes l) (tapsN n a b (n + 1)) := by
  have h1 : levE l = 0 := by unfold levE; rw [if_neg (by omega), small_lev h]; simp
  unfold fread
  rw [h1, ftaps_nat hn hp]
  rw [if_neg (by simp), if_neg (by simp)]
theorem small_mul {x y : Int} (h1 : -497664 ≤ x) (h2 : x ≤ 497664) (h3 : -1000 ≤ y) (h4 : y ≤ 1000) : -497664000 ≤ x * y ∧ x * y ≤ 497664000 := by
  have b1 := Int.mul_le_mul_of_nonneg_left h2 (show (0 : Int) ≤ 1000 by decide)
  rcases Int.le_total 0 x with hx | hx
  · have c1 := Int.mul_le_mul_of_nonneg_left h4 hx
    have c2 := Int.mul_le_mul_of_nonneg_left h3 hx
    omega
  · have c1 := Int.mul_le_mul_of_nonpos_left hx h4
    have c2 := Int.mul_le_mul_of_nonpos_left hx h3
    omega
theorem big_mul {x y : Int} (h1 : -497664 ≤ x) (h2 : x ≤ 497664) (h3 : -9953280000 ≤ y) (h4 : y ≤ 9953280000) : -4953389137920000 ≤ x * y ∧ x * y ≤ 4953389137920000 := by
  rcases Int.le_total 0 x with hx | hx
  · have c1 := Int.mul_le_mul_of_nonneg_left h4 hx
    have c2 := Int.mul_le_mul_of_nonneg_left h3 hx
    omega
  · have c1 := Int.mul_le_mul_of_nonpos_left hx h4
    have c2 := Int.mul_le_mul_of_nonpos_left hx h3
    omega
/-- What reading with a part gives. -/
def rdI (l : List Int) (n : Nat) (a b : Int) (i : Nat) : Int := si (fun j => (tapI n a b).getD j 0 * l.getD (i + j) 0) (n + 1)
theorem read_go (hl : l.length ≤ 24) (h : small l) (hn : n ≤ 4) (hp : (a, b) ∈ ptab) :
    FiltOk (wholes l) (tapsN n a b (n + 1)) (fread l n a b).1 ∧ (fread l n a b).2 = 0 ∧ ∀ i, i < (fread l n a b).1.length → nq (fread l n a b).1 i = ((rdI l n a b i : Int) : Rat) / ((497664 : Int) : Rat) := by
  rw [fread_small hl h hn (ptab_part hp)]
  have := filt_go (l := wholes l) (t := tapsN n a b (n + 1)) (D1 := 497664) (D2 := 1) (B := 497664000) (T := fun j => (tapI n a b).getD j 0) (N := fun i => l.getD i 0)
    (by rw [tapsN_len]; omega) (by rw [tapsN_len]; omega) (by rw [wholes_len]; omega) (wholes_valid h) (taps_valid hp hn) (by decide) (by decide)
    (fun j hj => taps_nq hp hn (by rw [tapsN_len] at hj; exact hj)) (fun i hi => wholes_nq (by rw [wholes_len] at hi; exact hi))
    (fun j i hj hi => by
      rw [tapsN_len] at hj; rw [wholes_len] at hi
      obtain ⟨_, _, q1, q2⟩ := tapI_ok hp hn (show j ≤ n by omega)
      exact small_mul q1 q2 (h i hi).1 (h i hi).2) (by decide) (by decide)
  rw [tapsN_len] at this
  exact this
theorem rdI_le (h : small l) (hn : n ≤ 4) (hp : (a, b) ∈ ptab) {i : Nat} (hi : i + n < l.length) : -9953280000 ≤ rdI l n a b i ∧ rdI l n a b i ≤ 9953280000 :=
  si_bd20 (B := 497664000) (n := n + 1) (by omega) (by decide) fun j hj => by
    obtain ⟨_, _, q1, q2⟩ := tapI_ok hp hn (show j ≤ n by omega)
    exact small_mul q1 q2 (h (i + j) (by omega)).1 (h (i + j) (by omega)).2
theorem up_int (x : Int) : up (x : Rat) = (x, 1) := rfl
theorem dfx_dif (l : List Int) : ∀ (m s : Nat), s + m < l.length → (difN m l).getD s 0 = dfx (fun i => l.getD i 0) m s
  | 0, s, _ => rfl
  | m + 1, s, h => by rw [difN, dif_get (by rw [difN_len]; omega), dfx_dif l m (s + 1) (by omega), dfx_dif l m s (by omega)]; rfl
theorem dfx_shift (x : Nat → Int) (k : Nat) : ∀ (m s : Nat), dfx (fun i => x (k + i)) m s = dfx x m (k + s)
  | 0, s => rfl
  | m + 1, s => by
    show dfx _ m (s + 1) - dfx _ m s = dfx x m (k + s + 1) - dfx x m (k + s)
    rw [dfx_shift x k m (s + 1), dfx_shift x k m s]; rfl
theorem zers_dif {l : List Int} (h : zers l = true) : zers (dif l) = true := zers_iff.2 fun i hi => by
  rw [dif_len] at hi
  rw [dif_get (by omega), zers_iff.1 h (i + 1) (by omega), zers_iff.1 h i (by omega)]; rfl
theorem zers_more {l : List Int} {m : Nat} (h : zers (difN m l) = true) : ∀ d, zers (difN (m + d) l) = true
  | 0 => h
  | d + 1 => zers_dif (zers_more h d)
theorem deg_exists (l : List Int) : ∃ m, upTo l m ∧ zers (difN m l) = true := by
  have hend : zers (difN l.length l) = true := by
    have h2 : (difN l.length l).length = 0 := by rw [difN_len]; omega
    rw [List.eq_nil_of_length_eq_zero h2]; rfl
  have : ∀ k, (∃ m, upTo l m ∧ zers (difN m l) = true) ∨ upTo l k := fun k => by
    induction k with
    | zero => exact .inr (upTo_zero l)
    | succ k ih =>
      rcases ih with ih | ih
      · exact .inl ih
      · cases hz : zers (difN k l) with
        | true => exact .inl ⟨k, ih, hz⟩
        | false => exact .inr (upTo_succ ih hz)
  rcases this (l.length + 1) with h | h
  · exact h
  · have := upTo_le h; omega
theorem degM_zers (l : List Int) : zers (difN (degM l) l) = true := by
  obtain ⟨m, h1, h2⟩ := deg_exists l
  rw [degM_eq h1 h2]; exact h2
/-- The differences of an order above the degree. -/
theorem deg_zero (hd : degM l ≤ n + 1) {s : Nat} (hs : s + (n + 1) < l.length) : dfx (fun i => l.getD i 0) (n + 1) s = 0 := by
  rw [← dfx_dif l (n + 1) s hs]
  have := zers_more (degM_zers l) (n + 1 - degM l)
  rw [show degM l + (n + 1 - degM l) = n + 1 by omega] at this
  exact zers_iff.1 this s (by rw [difN_len]; omega)
structure WholeOk (l : List Int) (n : Nat) (a b : Int) : Prop where
  x : (fread l n a b).2 = 0
  r1 : (fsub 1 1 a b).e = 0
  t : (ftaps n (b - a) b).2 = 0
  y : (ffilt (fread l n a b).1 (ftaps n (b - a) b).1).2 = 0
  z : (fread l n 0 1).2 = 0
  ylen : (ffilt (fread l n a b).1 (ftaps n (b - a) b).1).1.length = l.length - 2 * n
  zlen : (fread l n 0 1).1.length = l.length - n
  yval : ∀ k (h : k < (ffilt (fread l n a b).1 (ftaps n (b - a) b).1).1.length), k + 2 * (n / 2) + 1 < l.length → (ffilt (fread l n a b).1 (ftaps n (b - a) b).1).1[k] = (l.getD (k + 2 * (n / 2) + 1) 0, 1)
  zval : ∀ k (h : k < (fread l n 0 1).1.length), (fread l n 0 1).1[k] = (l.getD (k + n / 2) 0, 1)
theorem up_self {r : List (Int × Int)} (hv : fvalid r = true) {k : Nat} (hk : k < r.length) {x : Int} (h : nq r k = (x : Rat)) : r[k] = (x, 1) := by
  rw [nq_get hk] at h
  rw [← up_qq (fvalid_get hv k hk), h, up_int]
theorem div_self' (x : Int) : ((497664 * 497664 * x : Int) : Rat) / ((497664 * 497664 : Int) : Rat) = (x : Rat) := by
  rw [Rat.intCast_mul, Rat.intCast_mul, Rat.div_def]
  have e : ((497664 : Int) : Rat) * ((497664 : Int) : Rat) = 247669456896 := by decide +kernel
  rw [e]; grind
theorem si_one (f : Nat → Int) (c : Nat) : ∀ n, si (fun j => (if j = c then 1 else 0) * f j) n = if c < n then f c else 0
  | 0 => rfl
  | n + 1 => by
    rw [si_succ, si_one f c n]
    by_cases h : n = c
    · subst h; rw [if_pos rfl, if_neg (by omega), if_pos (by omega)]; omega
    · rw [if_neg h]
      by_cases h2 : c < n
      · rw [if_pos h2, if_pos (by omega)]; omega
      · rw [if_neg h2, if_neg (by omega)]; omega
theorem whole_ok (hl : l.length ≤ 24) (h : small l) (hn : n ≤ 4) (hp : (a, b) ∈ ptab) (hd : degM l ≤ n + 1) : WholeOk l n a b := by
  obtain ⟨x1, x2, x3⟩ := read_go hl h hn hp
  obtain ⟨hp', r1, r2, r3⟩ := rest_ok hp
  have xl := x1.len
  rw [wholes_len, tapsN_len] at xl
  have et := ftaps_nat hn (ptab_part hp')
  have y := filt_go (l := (fread l n a b).1) (t := tapsN n (b - a) b (n + 1)) (D1 := 497664) (D2 := 497664) (B := 4953389137920000) (T := fun j => (tapI n (b - a) b).getD j 0) (N := rdI l n a b)
    (by rw [tapsN_len]; omega) (by rw [tapsN_len]; omega) (by omega) x1.valid (taps_valid hp' hn) (by decide) (by decide)
    (fun j hj => taps_nq hp' hn (by rw [tapsN_len] at hj; exact hj)) x3
    (fun j i hj hi => by
      rw [tapsN_len] at hj
      obtain ⟨_, _, q1, q2⟩ := tapI_ok hp' hn (show j ≤ n by omega)
      have := rdI_le h hn hp (i := i) (by omega)
      exact big_mul q1 q2 this.1 this.2) (by decide) (by decide)
  rw [tapsN_len] at y
  obtain ⟨y1, y2, y3⟩ := y
  have yl := y1.len
  rw [tapsN_len] at yl
  have hz : partB 0 1 = true := by decide
  have tz : fvalid (tapsN n 0 1 (n + 1)) = true := fvalid_of fun i hi => by
    rw [tapsN_len] at hi
    have e : (tapsN n 0 1 (n + 1))[i]'(by rw [tapsN_len]; exact hi) = tapV n i 0 1 (n + 1) := by simp [tapsN]
    rw [e, zero_ok hn (by omega)]
    show fchk (if i = n / 2 then 1 else 0) 1 = 0
    split <;> decide
  have z := filt_go (l := wholes l) (t := tapsN n 0 1 (n + 1)) (D1 := 1) (D2 := 1) (B := 1000) (T := fun j => if j = n / 2 then 1 else 0) (N := fun i => l.getD i 0)
    (by rw [tapsN_len]; omega) (by rw [tapsN_len]; omega) (by rw [wholes_len]; omega) (wholes_valid h) tz (by decide) (by decide)
    (fun j hj => by
      rw [tapsN_len] at hj
      unfold nq
      rw [taps_get hj, zero_ok hn (by omega), qq_int]; grind) (fun i hi => wholes_nq (by rw [wholes_len] at hi; exact hi))
    (fun j i hj hi => by
      rw [wholes_len] at hi
      have := h i hi
      show -1000 ≤ (if j = n / 2 then (1 : Int) else 0) * l.getD i 0 ∧ (if j = n / 2 then (1 : Int) else 0) * l.getD i 0 ≤ 1000
      split <;> omega) (by decide) (by decide)
  rw [tapsN_len] at z
  obtain ⟨z1, z2, z3⟩ := z
  have zl := z1.len
  rw [wholes_len, tapsN_len] at zl
  rw [← fread_small hl h hn hz] at z1 z2 z3 zl
  have yv : ∀ k, k < (ffilt (fread l n a b).1 (tapsN n (b - a) b (n + 1))).1.length → k + 2 * (n / 2) + 1 < l.length → nq (ffilt (fread l n a b).1 (tapsN n (b - a) b (n + 1))).1 k = ((l.getD (k + 2 * (n / 2) + 1) 0 : Int) : Rat) := fun k hk hk2 => by
    rw [y3 k hk]
    have e : si (fun j => (tapI n (b - a) b).getD j 0 * rdI l n a b (k + j)) (n + 1) = whI (tapI n a b) (tapI n (b - a) b) n (fun i => l.getD (k + i) 0) := by
      unfold whI rdI
      refine si_congr (n + 1) fun i _ => ?_
      congr 1
      exact si_congr (n + 1) fun j _ => by rw [Nat.add_assoc]
    have w := w_all hn hp (fun i => l.getD (k + i) 0) fun s hs => by
      rw [dfx_shift (fun i => l.getD i 0)]
      exact deg_zero hd (by omega)
    rw [e, w]
    have := div_self' (l.getD (k + (2 * (n / 2) + 1)) 0)
    rw [← Nat.add_assoc] at this
    exact this
  refine ⟨x2, r1, by rw [et], ?_, z2, ?_, ?_, ?_, ?_⟩
  · rw [et]; exact y2
  · rw [et]; show (ffilt _ (tapsN n (b - a) b (n + 1))).1.length = _; omega
  · omega
  · rw [et]
    intro k hk hk2
    exact up_self y1.valid hk (yv k hk hk2)
  · intro k hk
    refine up_self z1.valid hk ?_
    rw [z3 k hk]
    have e : si (fun j => (if j = n / 2 then 1 else 0) * l.getD (k + j) 0) (n + 1) = l.getD (k + n / 2) 0 := by
      rw [si_one (fun j => l.getD (k + j) 0) (n / 2) (n + 1), if_pos (by omega)]
    rw [e]; grind
end
end Go.Proofs.Ytpjhiojdnebgoaa
