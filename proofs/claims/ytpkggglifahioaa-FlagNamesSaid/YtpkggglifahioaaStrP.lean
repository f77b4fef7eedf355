/- What is proved here: plain laws of a mask's string: its letters, row by row, and what reading them gives back. No condition. -/
import Derived.Test.YtpkggglifahioaaFlagC
namespace Go.Proofs.Ytpkggglifahioaa

def chB (b : Bool) : UInt8 := if b then 120 else 46
/-- The letters of the first n cells. -/
def txtN (xs : List Bool) (C : Nat) : Nat → List UInt8
  | 0 => []
  | n + 1 => txtN xs C n ++ (chB (xs.getD n false) :: if n % C = C - 1 then [10] else [])
def rowN (xs : List Bool) (o : Nat) : Nat → List UInt8
  | 0 => []
  | n + 1 => rowN xs o n ++ [chB (xs.getD (o + n) false)]
theorem mul_add_mod_lt {t C c : Nat} (h : c < C) : (t * C + c) % C = c := by
  rw [Nat.mul_comm, Nat.mul_add_mod]; exact Nat.mod_eq_of_lt h
theorem mul_add_div_lt {t C c : Nat} (h : c < C) : (t * C + c) / C = t := by
  rw [Nat.mul_comm, Nat.mul_add_div (by omega), Nat.div_eq_of_lt h, Nat.add_zero]
theorem txt_row (xs : List Bool) (C t : Nat) : ∀ c, c < C → txtN xs C (t * C + c) = txtN xs C (t * C) ++ rowN xs (t * C) c
  | 0, _ => by simp [rowN]
  | c + 1, h => by
    rw [← Nat.add_assoc, txtN, txt_row xs C t c (by omega), mul_add_mod_lt (by omega), if_neg (by omega), rowN, List.append_assoc]
theorem txt_full (xs : List Bool) (C t : Nat) (hC : 0 < C) : txtN xs C ((t + 1) * C) = txtN xs C (t * C) ++ rowN xs (t * C) C ++ [10] := by
  obtain ⟨c, rfl⟩ : ∃ c, C = c + 1 := ⟨C - 1, by omega⟩
  rw [show (t + 1) * (c + 1) = t * (c + 1) + c + 1 by rw [Nat.add_mul]; omega, txtN, txt_row xs (c + 1) t c (by omega), mul_add_mod_lt (by omega), if_pos (by omega), rowN]
  simp
theorem rowN_len (xs : List Bool) (o : Nat) : ∀ n, (rowN xs o n).length = n
  | 0 => rfl
  | n + 1 => by simp [rowN, rowN_len xs o n]
theorem rowN_get (xs : List Bool) (o : Nat) : ∀ n i, i < n → (rowN xs o n)[i]? = some (chB (xs.getD (o + i) false))
  | 0, i, h => by omega
  | n + 1, i, h => by
    rw [rowN]
    rcases Nat.lt_or_ge i n with h1 | h1
    · rw [List.getElem?_append_left (by rw [rowN_len]; exact h1), rowN_get xs o n i h1]
    · have : i = n := by omega
      subst this
      rw [List.getElem?_append_right (by rw [rowN_len]; exact Nat.le_refl _), rowN_len]; simp
theorem txt_len (xs : List Bool) (C : Nat) (hC : 0 < C) : ∀ t, (txtN xs C (t * C)).length = t * (C + 1)
  | 0 => by simp [txtN]
  | t + 1 => by rw [txt_full xs C t hC]; simp [txt_len xs C hC t, rowN_len]; rw [Nat.add_mul]; omega
theorem txt_get (xs : List Bool) (C : Nat) (hC : 0 < C) : ∀ T t r, t < T → r ≤ C → (txtN xs C (T * C))[t * (C + 1) + r]? = some (if r = C then 10 else chB (xs.getD (t * C + r) false))
  | 0, t, r, h, _ => by omega
  | T + 1, t, r, h, hr => by
    rw [txt_full xs C T hC]
    have hl := txt_len xs C hC T
    rcases Nat.lt_or_ge t T with h1 | h1
    · have : (t + 1) * (C + 1) ≤ T * (C + 1) := Nat.mul_le_mul_right _ h1
      rw [Nat.add_mul] at this
      rw [List.append_assoc, List.getElem?_append_left (by rw [hl]; omega), txt_get xs C hC T t r h1 hr]
    · have : t = T := by omega
      subst this
      rw [List.append_assoc, List.getElem?_append_right (by rw [hl]; omega), hl, show t * (C + 1) + r - t * (C + 1) = r by omega]
      split
      · rename_i hc; subst hc
        rw [List.getElem?_append_right (by rw [rowN_len]; exact Nat.le_refl _), rowN_len]; simp
      · rw [List.getElem?_append_left (by rw [rowN_len]; omega), rowN_get _ _ _ _ (by omega)]
def mtext (t c : Int) (xs : List Bool) : List UInt8 := if mchk t c xs.length = 0 then txtN xs c.toNat xs.length else []
theorem txt_bd (xs : List Bool) (C : Nat) : ∀ n, (txtN xs C n).length ≤ 2 * n
  | 0 => by simp [txtN]
  | n + 1 => by
    have := txt_bd xs C n
    rw [txtN]; simp; split <;> simp <;> omega

/-- The bits of the first n letters. -/
def bitN (s : List UInt8) (C : Nat) : Nat → List Bool
  | 0 => []
  | n + 1 => if n % (C + 1) < C then bitN s C n ++ [s.getD n 0 == 120] else bitN s C n
theorem bit_spec (s : List UInt8) (C : Nat) : ∀ t r, r ≤ C → (bitN s C (t * (C + 1) + r)).length = t * C + r ∧ ∀ u i, i < C → u * C + i < t * C + r → (bitN s C (t * (C + 1) + r))[u * C + i]? = some (s.getD (u * (C + 1) + i) 0 == 120) := by
  suffices h : ∀ n t r, n = t * (C + 1) + r → r ≤ C → (bitN s C n).length = t * C + r ∧ ∀ u i, i < C → u * C + i < t * C + r → (bitN s C n)[u * C + i]? = some (s.getD (u * (C + 1) + i) 0 == 120) from fun t r hr => h _ t r rfl hr
  intro n
  induction n with
  | zero =>
    intro t r h hr
    have : r = 0 := by omega
    subst this
    have : t = 0 := by
      rcases Nat.eq_zero_or_pos t with h' | h'
      · exact h'
      · have := Nat.mul_le_mul_right (C + 1) h'; omega
    subst this
    simp [bitN]
  | succ n ih =>
    intro t r h hr
    rcases Nat.eq_zero_or_pos r with h0 | h0
    · subst h0
      obtain ⟨t', rfl⟩ : ∃ t', t = t' + 1 := ⟨t - 1, by
        rcases Nat.eq_zero_or_pos t with h' | h'
        · subst h'; omega
        · omega⟩
      have e : n = t' * (C + 1) + C := by rw [Nat.add_mul] at h; omega
      obtain ⟨h1, h2⟩ := ih t' C e (Nat.le_refl _)
      have hm : n % (C + 1) = C := by rw [e]; exact mul_add_mod_lt (by omega)
      rw [bitN, if_neg (by omega), Nat.add_mul]
      refine ⟨by omega, fun u i hi hu => h2 u i hi (by omega)⟩
    · obtain ⟨r', rfl⟩ : ∃ r', r = r' + 1 := ⟨r - 1, by omega⟩
      have e : n = t * (C + 1) + r' := by omega
      obtain ⟨h1, h2⟩ := ih t r' e (by omega)
      have hm : n % (C + 1) = r' := by rw [e]; exact mul_add_mod_lt (by omega)
      rw [bitN, if_pos (by omega)]
      refine ⟨by simp [h1]; omega, fun u i hi hu => ?_⟩
      rcases Nat.lt_or_ge (u * C + i) (t * C + r') with h3 | h3
      · rw [List.getElem?_append_left (by omega)]; exact h2 u i hi h3
      · have he : u * C + i = t * C + r' := by omega
        rw [List.getElem?_append_right (by omega), he, h1, Nat.sub_self]
        have hu' : u = t := by
          have a1 : (u * C + i) / C = u := mul_add_div_lt hi
          have a2 : (t * C + r') / C = t := mul_add_div_lt (by omega)
          rw [he] at a1; omega
        subst hu'
        have : i = r' := by omega
        subst this
        rw [e]; simp
/-- The letter k is one that stands there. -/
def okAt (s : List UInt8) (C k : Nat) : Bool := if k % (C + 1) = C then s.getD k 0 == 10 else s.getD k 0 == 120 || s.getD k 0 == 46
def okN (s : List UInt8) (C : Nat) : Nat → Bool
  | 0 => true
  | n + 1 => okN s C n && okAt s C n
theorem okN_all {s : List UInt8} {C : Nat} : ∀ {n}, okN s C n = true ↔ ∀ k < n, okAt s C k = true
  | 0 => by simp [okN]
  | n + 1 => by
    rw [okN, Bool.and_eq_true, okN_all]
    exact ⟨fun ⟨a, b⟩ k hk => by rcases Nat.lt_or_ge k n with h | h; exact a k h; have : k = n := by omega
                                 subst this; exact b, fun h => ⟨fun k hk => h k (by omega), h n (by omega)⟩⟩
theorem ch_ne (b : Bool) : chB b ≠ 10 := by cases b <;> decide
theorem ch_120 (b : Bool) : (chB b == 120) = b := by cases b <;> decide
theorem ch_ok (b : Bool) : (chB b == 120 || chB b == 46) = true := by cases b <;> decide
theorem split_k {C k T : Nat} (h : k < T * (C + 1)) : k = k / (C + 1) * (C + 1) + k % (C + 1) ∧ k / (C + 1) < T ∧ k % (C + 1) ≤ C := by
  have h1 := Nat.div_add_mod k (C + 1)
  rw [Nat.mul_comm] at h1
  have h2 := Nat.mod_lt k (show 0 < C + 1 by omega)
  exact ⟨h1.symm, (Nat.div_lt_iff_lt_mul (by omega)).2 h, by omega⟩
/-- Reading the letters, and writing them again. -/
theorem txt_bit {s : List UInt8} {C T : Nat} (hC : 0 < C) (hs : s.length = T * (C + 1)) : txtN (bitN s C s.length) C (T * C) = s ↔ okN s C s.length = true := by
  have hsp := bit_spec s C T 0 (Nat.zero_le _)
  rw [Nat.add_zero, Nat.add_zero, ← hs] at hsp
  obtain ⟨hbl, hbg⟩ := hsp
  have hg : ∀ t r, t < T → r ≤ C → (txtN (bitN s C s.length) C (T * C))[t * (C + 1) + r]? = some (if r = C then 10 else chB (s.getD (t * (C + 1) + r) 0 == 120)) := by
    intro t r ht hr
    rw [txt_get _ C hC T t r ht hr]
    split
    · rfl
    · have := hbg t r (by omega) (idx_lt ht (by omega))
      rw [List.getD_eq_getElem?_getD, this]; rfl
  constructor
  · intro e
    rw [okN_all]
    intro k hk
    obtain ⟨e1, e2, e3⟩ := split_k (hs ▸ hk)
    have h := hg _ _ e2 e3
    rw [e, ← e1] at h
    unfold okAt
    rw [List.getD_eq_getElem?_getD, h]
    by_cases hr : k % (C + 1) = C
    · simp [hr]
    · simp only [hr, if_false, Option.getD_some]; exact ch_ok _
  · intro h
    rw [okN_all] at h
    apply List.ext_getElem?
    intro k
    rcases Nat.lt_or_ge k s.length with hk | hk
    · obtain ⟨e1, e2, e3⟩ := split_k (hs ▸ hk)
      have h1 := hg _ _ e2 e3
      rw [← e1] at h1
      rw [h1]
      have h2 := h k hk
      unfold okAt at h2
      rw [List.getElem?_eq_getElem hk]
      have hd : s.getD k 0 = s[k] := by simp [List.getD_eq_getElem?_getD, hk]
      rw [hd] at h2 ⊢
      by_cases hr : k % (C + 1) = C
      · simp only [hr, if_true] at h2 ⊢; have := beq_iff_eq.1 h2; rw [this]
      · simp only [hr, if_false] at h2 ⊢
        rcases (Bool.or_eq_true_iff.1 h2) with h3 | h3
        · have := beq_iff_eq.1 h3; rw [this]; rfl
        · have := beq_iff_eq.1 h3; rw [this]; rfl
    · rw [List.getElem?_eq_none hk, List.getElem?_eq_none (by rw [txt_len _ C hC T]; omega)]
/-- Writing the letters, and reading them again. -/
theorem bit_txt {xs : List Bool} {C T : Nat} (hC : 0 < C) (hx : xs.length = T * C) : bitN (txtN xs C (T * C)) C (T * (C + 1)) = xs ∧ okN (txtN xs C (T * C)) C (T * (C + 1)) = true := by
  have hl := txt_len xs C hC T
  constructor
  · have hsp := bit_spec (txtN xs C (T * C)) C T 0 (Nat.zero_le _)
    rw [Nat.add_zero, Nat.add_zero] at hsp
    obtain ⟨hbl, hbg⟩ := hsp
    apply List.ext_getElem?
    intro k
    rcases Nat.lt_or_ge k (T * C) with hk | hk
    · have e1 : k / C * C + k % C = k := by have := Nat.div_add_mod k C; rw [Nat.mul_comm] at this; exact this
      have e2 : k % C < C := Nat.mod_lt _ hC
      have e3 : k / C < T := (Nat.div_lt_iff_lt_mul hC).2 hk
      have h := hbg (k / C) (k % C) e2 (by omega)
      rw [e1] at h
      rw [h, List.getD_eq_getElem?_getD, txt_get xs C hC T _ _ e3 (by omega), if_neg (by omega), e1, Option.getD_some, ch_120, List.getD_eq_getElem?_getD, List.getElem?_eq_getElem (by omega)]
      simp
    · rw [List.getElem?_eq_none (by omega), List.getElem?_eq_none (by omega)]
  · rw [okN_all]
    intro k hk
    obtain ⟨e1, e2, e3⟩ := split_k hk
    have h := txt_get xs C hC T _ _ e2 e3
    rw [← e1] at h
    unfold okAt
    rw [List.getD_eq_getElem?_getD, h]
    by_cases hr : k % (C + 1) = C
    · simp [hr]
    · simp only [hr, if_false, Option.getD_some]; exact ch_ok _

end Go.Proofs.Ytpkggglifahioaa
