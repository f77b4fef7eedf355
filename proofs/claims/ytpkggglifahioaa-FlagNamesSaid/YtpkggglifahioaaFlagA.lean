/- What is proved here: the contracts of flag.Check, flag.Count and of the reference's Check, At, Count, pair, Same, Great, Within. Condition: the arguments are slices of bools that can be read, and 64-bit integers. -/
import Derived.Test.YtpkggglifahioaaProg
import Derived.Test.YtpkggglifahioaaFracA
namespace Go.Proofs.Ytpkggglifahioaa
open Go.RowKit

/-- The error of a mask: 4, 8 or 0. -/
def mchk (t c : Int) (n : Nat) : Int := if 32 < t ∨ 16 < c then 4 else if t < 1 ∨ c < 1 ∨ (n : Int) ≠ t * c then 8 else 0
theorem mchk_4 {t c : Int} {n : Nat} (h : 32 < t ∨ 16 < c) : mchk t c n = 4 := by unfold mchk; rw [if_pos h]
theorem mchk_8 {t c : Int} {n : Nat} (h : ¬ (32 < t ∨ 16 < c)) (h2 : t < 1 ∨ c < 1 ∨ (n : Int) ≠ t * c) : mchk t c n = 8 := by unfold mchk; rw [if_neg h, if_pos h2]
theorem mchk_0 {t c : Int} {n : Nat} (h : ¬ (32 < t ∨ 16 < c)) (h2 : ¬ (t < 1 ∨ c < 1 ∨ (n : Int) ≠ t * c)) : mchk t c n = 0 := by unfold mchk; rw [if_neg h, if_neg h2]
theorem mchk_ok {t c : Int} {n : Nat} (h : mchk t c n = 0) : 1 ≤ t ∧ t ≤ 32 ∧ 1 ≤ c ∧ c ≤ 16 ∧ (n : Int) = t * c := by
  unfold mchk at h; split at h
  · cases h
  · split at h
    · cases h
    · omega
theorem mchk_cases (t c : Int) (n : Nat) : mchk t c n = 0 ∨ mchk t c n = 4 ∨ mchk t c n = 8 := by
  unfold mchk; split
  · simp
  · split <;> simp
theorem prod_bd {t c : Int} (h1 : 1 ≤ t) (h2 : t ≤ 32) (h3 : 1 ≤ c) (h4 : c ≤ 16) : 1 ≤ t * c ∧ t * c ≤ 512 := by
  constructor
  · have := Int.mul_le_mul h1 h3 (by omega) (by omega); omega
  · have := Int.mul_le_mul h2 h4 (by omega) (by omega); omega

theorem great_any (t c : Int) (v : Value) (xs : List Bool) (w : World) (h : SB w v xs) :
    Calls Try.prog 10 #[.agg #[.int .i64 t, .int .i64 c, v]] w fun e w' => e = .returned (.bool (decide (600 < xs.length))) ∧ Below w.heap.size w w' := by
  obtain ⟨ad, cap, rfl, h1, h2, h3⟩ := h.open
  clear h
  go_enter Try.func10, Try.ntmps10
  go_wp2
  go_ret
  refine ⟨?_, (Below.refl _ _).alloc (Nat.le_refl _) _⟩
  exact ret_bool (decide_eq_decide.2 (by omega))

set_option maxHeartbeats 800000 in
theorem mcheck_any (t c : Int) (v : Value) (xs : List Bool) (w : World) (h : SB w v xs) :
    Calls Try.prog 15 #[.agg #[.int .i64 t, .int .i64 c, v]] w fun e w' => e = .returned (.int .i64 (mchk t c xs.length)) ∧ Below w.heap.size w w' := by
  obtain ⟨ad, cap, rfl, h1, h2, h3⟩ := h.open
  clear h
  by_cases hm : 32 < t ∨ 16 < c
  · have H := Lib.hid (mchk_4 (n := xs.length) hm)
    go_enter Try.func15, Try.ntmps15
    go_wp2
    all_goals first | (exfalso; omega) | skip
    all_goals
      go_ret
      exact ⟨by rw [H.out]; rfl, (Below.refl _ _).alloc (Nat.le_refl _) _⟩
  · by_cases hb : t < 1 ∨ c < 1
    · have H := Lib.hid (mchk_8 (n := xs.length) hm (by omega))
      go_enter Try.func15, Try.ntmps15
      go_wp2
      all_goals first | (exfalso; omega) | skip
      all_goals
        go_ret
        exact ⟨by rw [H.out]; rfl, (Below.refl _ _).alloc (Nat.le_refl _) _⟩
    · have hp := prod_bd (t := t) (c := c) (by omega) (by omega) (by omega) (by omega)
      by_cases hn : (xs.length : Int) = t * c
      · have H := Lib.hid (mchk_0 (n := xs.length) hm (by omega))
        have b1 : (((xs.length : Nat) : Int) != t * c) = false := by simp [hn]
        have HN := Lib.hid hn
        clear hn
        go_enter Try.func15, Try.ntmps15
        go_wp2
        all_goals first | (exfalso; omega) | skip
        all_goals
          go_ret
          exact ⟨by rw [H.out]; rfl, (Below.refl _ _).alloc (Nat.le_refl _) _⟩
      · have H := Lib.hid (mchk_8 (n := xs.length) hm (by omega))
        have b1 : (((xs.length : Nat) : Int) != t * c) = true := by simp [hn]
        go_enter Try.func15, Try.ntmps15
        go_wp2
        all_goals first | (exfalso; omega) | skip
        all_goals
          go_ret
          exact ⟨by rw [H.out]; rfl, (Below.refl _ _).alloc (Nat.le_refl _) _⟩

set_option maxHeartbeats 800000 in
theorem rmcheck_any (t c : Int) (v : Value) (xs : List Bool) (w : World) (h : SB w v xs) :
    Calls Try.prog 16 #[.agg #[.int .i64 t, .int .i64 c, v]] w fun e w' => e = .returned (.int .i64 (mchk t c xs.length)) ∧ Below w.heap.size w w' := by
  obtain ⟨ad, cap, rfl, h1, h2, h3⟩ := h.open
  clear h
  by_cases hm : 32 < t ∨ 16 < c
  · have H := Lib.hid (mchk_4 (n := xs.length) hm)
    go_enter Try.func16, Try.ntmps16
    go_wp2
    all_goals first | (exfalso; omega) | skip
    all_goals
      go_ret
      exact ⟨by rw [H.out]; rfl, (Below.refl _ _).alloc (Nat.le_refl _) _⟩
  · by_cases hb : t < 1 ∨ c < 1
    · have H := Lib.hid (mchk_8 (n := xs.length) hm (by omega))
      go_enter Try.func16, Try.ntmps16
      go_wp2
      all_goals first | (exfalso; omega) | skip
      all_goals
        go_ret
        exact ⟨by rw [H.out]; rfl, (Below.refl _ _).alloc (Nat.le_refl _) _⟩
    · have hp := prod_bd (t := t) (c := c) (by omega) (by omega) (by omega) (by omega)
      by_cases hn : (xs.length : Int) = t * c
      · have H := Lib.hid (mchk_0 (n := xs.length) hm (by omega))
        have b1 : (((xs.length : Nat) : Int) != t * c) = false := by simp [hn]
        have HN := Lib.hid hn
        clear hn
        go_enter Try.func16, Try.ntmps16
        go_wp2
        all_goals first | (exfalso; omega) | skip
        all_goals
          go_ret
          exact ⟨by rw [H.out]; rfl, (Below.refl _ _).alloc (Nat.le_refl _) _⟩
      · have H := Lib.hid (mchk_8 (n := xs.length) hm (by omega))
        have b1 : (((xs.length : Nat) : Int) != t * c) = true := by simp [hn]
        go_enter Try.func16, Try.ntmps16
        go_wp2
        all_goals first | (exfalso; omega) | skip
        all_goals
          go_ret
          exact ⟨by rw [H.out]; rfl, (Below.refl _ _).alloc (Nat.le_refl _) _⟩


set_option maxHeartbeats 800000 in
theorem at_any (t c i j : Int) (k : Nat) (v : Value) (xs : List Bool) (w : World) (h : SB w v xs) (hi : 0 ≤ i * c) (hi2 : i * c ≤ 1000000) (hj : 0 ≤ j) (hj2 : j ≤ 1000000) (hk : i * c + j = k) (hlt : k < xs.length) :
    Calls Try.prog 37 #[.agg #[.int .i64 t, .int .i64 c, v], .int .i64 i, .int .i64 j] w fun e w' => e = .returned (.bool xs[k]) ∧ Below w.heap.size w w' := by
  obtain ⟨ad, cap, rfl, h1, h2, h3⟩ := h.open
  clear h
  obtain ⟨b, off, rfl, hc⟩ := h3.out k hlt
  have hbl := World.block_lt_of_cell? w _ hc
  simp at hbl
  have hne : ¬ b = w.heap.size := by omega
  have hc' : (w.alloc (.cells #[.int .i64 t, .int .i64 c, .slice (some ⟨b, off, none⟩) xs.length cap] 24)).cell? ⟨b, off + k, none⟩ = some (.bool xs[k]) := below_cell ((Below.refl _ _).alloc (Nat.le_refl _) _) hc
  go_enter Try.func37, Try.ntmps37
  go_wp2
  go_ret
  exact ⟨rfl, (Below.refl _ _).alloc (Nat.le_refl _) _⟩

/-- Two masks are the same. -/
def msame (t c t' c' : Int) (xs ys : List Bool) : Bool := decide (t = t' ∧ c = c' ∧ xs = ys)
set_option maxHeartbeats 1600000 in
theorem same_any (t c t' c' : Int) (v v' : Value) (xs ys : List Bool) (w : World) (h : SB w v xs) (h' : SB w v' ys) :
    Calls Try.prog 17 #[.agg #[.int .i64 t, .int .i64 c, v], .agg #[.int .i64 t', .int .i64 c', v']] w fun e w' => e = .returned (.bool (msame t c t' c' xs ys)) ∧ Below w.heap.size w w' := by
  obtain ⟨ad, cap, rfl, h1, h2, h3⟩ := h.open
  obtain ⟨ad', cap', rfl, h1', h2', h3'⟩ := h'.open
  clear h h'
  by_cases e1 : t = t' ∧ c = c' ∧ xs.length = ys.length
  · obtain ⟨rfl, rfl, hl⟩ := e1
    have HL := Lib.hid hl
    have b1 : (t != t) = false := by simp
    have b2 : (c != c) = false := by simp
    have b3 : (((xs.length : Nat) : Int) != ((ys.length : Nat) : Int)) = false := by simp [hl]
    have l1 : xs.length ≤ ys.length := by omega
    have l2 : ys.length ≤ xs.length := by omega
    clear hl
    have hF : ∀ i (_ : i < xs.length), ∃ b off, ad = some ⟨b, off, none⟩ ∧ ((w.alloc (.cells #[.int .i64 t, .int .i64 c, .slice ad xs.length cap] 24)).alloc (.cells #[.int .i64 t, .int .i64 c, .slice ad' ys.length cap'] 24)).cell? ⟨b, off + i, none⟩ = some (.bool xs[i]) := fun i hi => by
      obtain ⟨b, off, e, hc⟩ := h3.out i hi
      exact ⟨b, off, e, below_cell (((Below.refl _ _).alloc (Nat.le_refl _) _).alloc (by simp) _) hc⟩
    have hF' : ∀ i (_ : i < ys.length), ∃ b off, ad' = some ⟨b, off, none⟩ ∧ ((w.alloc (.cells #[.int .i64 t, .int .i64 c, .slice ad xs.length cap] 24)).alloc (.cells #[.int .i64 t, .int .i64 c, .slice ad' ys.length cap'] 24)).cell? ⟨b, off + i, none⟩ = some (.bool ys[i]) := fun i hi => by
      obtain ⟨b, off, e, hc⟩ := h3'.out i hi
      exact ⟨b, off, e, below_cell (((Below.refl _ _).alloc (Nat.le_refl _) _).alloc (by simp) _) hc⟩
    have HF := Lib.hid hF
    have HF' := Lib.hid hF'
    clear hF hF' h3 h3'
    go_enter Try.func17, Try.ntmps17
    go_wp2
    go_loopw [5] (fun i wr => ∃ k m : Nat, k ≤ xs.length ∧ i = .int .i64 k ∧ Hid (xs.take k = ys.take k) ∧ wr = ((w.alloc (.cells #[.int .i64 t, .int .i64 c, .slice ad xs.length cap] 24)).alloc (.cells #[.int .i64 t, .int .i64 c, .slice ad' ys.length cap'] 24)).drewN m) (fun i _ => xs.length - (intOf i).toNat)
    case atStart => exact ⟨0, 0, Nat.zero_le _, rfl, rfl, rfl⟩
    case round =>
      obtain ⟨k, m, hk, rfl, hp, rfl⟩ := hrel
      by_cases hlt : k < xs.length
      · obtain ⟨b, off, rfl, hc⟩ := HF.out k hlt
        obtain ⟨b', off', rfl, hc'⟩ := HF'.out k (by omega)
        have hlt' : k < ys.length := by omega
        clear HF HF'
        by_cases hx : xs[k] = ys[k]
        · have hb : (xs[k] != ys[k]) = false := by simp [hx]
          have hb2 : (!xs[k] == ys[k]) = false := hb
          have HP : Hid (xs.take (k + 1) = ys.take (k + 1)) := by
            show xs.take (k + 1) = ys.take (k + 1)
            rw [List.take_succ_eq_append_getElem hlt, List.take_succ_eq_append_getElem hlt', hp.out, hx]
          clear hx
          go_wp2
          go_quiet (fail)
          go_wp2
          go_roundw
          case rel => exact ⟨k + 1, m + nq, by omega, by go_num, HP, by simp⟩
          case measure => simp [intOf]; omega
        · have hb : (xs[k] != ys[k]) = true := by simp [hx]
          have hb2 : (!xs[k] == ys[k]) = true := hb
          have HV : Hid (msame t c t c xs ys = false) := by
            show decide _ = false
            rw [decide_eq_false_iff_not]; rintro ⟨_, _, e⟩; subst e; exact hx rfl
          clear hx
          go_wp2
          go_quiet (fail)
          go_wp2
          go_ret
          exact ⟨by rw [HV.out]; rfl, bd (bd (ba2 _ _ _) _) _⟩
      · have HV : Hid (msame t c t c xs ys = true) := by
          show decide _ = true
          have e : k = xs.length := by omega
          have := hp.out
          rw [List.take_of_length_le (by omega), List.take_of_length_le (by omega)] at this
          simp [this]
        go_wp2
        go_ret
        exact ⟨by rw [HV.out]; rfl, bd (ba2 _ _ _) _⟩
  · have HV : Hid (msame t c t' c' xs ys = false) := by
      show decide _ = false
      rw [decide_eq_false_iff_not]; rintro ⟨h1, h2, h3⟩; exact e1 ⟨h1, h2, by rw [h3]⟩
    by_cases a1 : t = t'
    · subst a1
      by_cases a2 : c = c'
      · subst a2
        have a3 : ¬ xs.length = ys.length := fun h => e1 ⟨rfl, rfl, h⟩
        have b1 : (t != t) = false := by simp
        have b2 : (c != c) = false := by simp
        have b3 : (((xs.length : Nat) : Int) != ((ys.length : Nat) : Int)) = true := by simp; omega
        go_enter Try.func17, Try.ntmps17
        go_wp2
        go_ret
        exact ⟨by rw [HV.out]; rfl, ba2 _ _ _⟩
      · have b1 : (t != t) = false := by simp
        have b2 : (c != c') = true := by simp [a2]
        go_enter Try.func17, Try.ntmps17
        go_wp2
        go_ret
        exact ⟨by rw [HV.out]; rfl, ba2 _ _ _⟩
    · have b1 : (t != t') = true := by simp [a1]
      go_enter Try.func17, Try.ntmps17
      go_wp2
      go_ret
      exact ⟨by rw [HV.out]; rfl, ba2 _ _ _⟩


/-- How many cells are flagged. -/
def mcount (t c : Int) (xs : List Bool) : Int := if mchk t c xs.length = 0 then (xs.count true : Int) else 0
theorem count_snoc (xs : List Bool) (k : Nat) (h : k < xs.length) : (xs.take (k + 1)).count true = (xs.take k).count true + if xs[k] = true then 1 else 0 := by
  rw [List.take_succ_eq_append_getElem h, List.count_append]
  cases xs[k] <;> simp
theorem count_le (xs : List Bool) (k : Nat) : (xs.take k).count true ≤ k := by
  have := List.count_le_length (l := xs.take k) (a := true)
  have := List.length_take_le k xs
  omega

set_option maxHeartbeats 1600000 in
theorem count_any (t c : Int) (v : Value) (xs : List Bool) (w : World) (h : SB w v xs) :
    Calls Try.prog 11 #[.agg #[.int .i64 t, .int .i64 c, v]] w fun e w' => e = .returned (.tuple #[.int .i64 (mcount t c xs), .int .i64 (mchk t c xs.length)]) ∧ Below w.heap.size w w' := by
  have hs := h
  obtain ⟨ad, cap, rfl, h1, h2, h3⟩ := h.open
  clear h
  rcases mchk_cases t c xs.length with hz | hz
  · have HM : Hid (mcount t c xs = xs.count true) := by show mcount t c xs = _; unfold mcount; rw [if_pos hz]
    obtain ⟨t1, t2, c1, c2, hn⟩ := mchk_ok hz
    have hp := prod_bd t1 t2 c1 c2
    have hl : xs.length ≤ 512 := by omega
    clear hn hp
    have b0 : (mchk t c xs.length != 0) = false := by simp [hz]
    have HZ := Lib.hid hz
    clear hz
    go_enter Try.func11, Try.ntmps11
    go_wp2_with fail
    refine (mcheck_any _ _ _ xs _ (hs.below (ba1 _ _))).mono ?_
    rintro e w1 ⟨rfl, hb1⟩
    have hb := below_to (ba1 _ _) hb1
    have hF : ∀ i (_ : i < xs.length), ∃ b off, ad = some ⟨b, off, none⟩ ∧ w1.cell? ⟨b, off + i, none⟩ = some (.bool xs[i]) := fun i hi => by
      obtain ⟨b, off, e, hc⟩ := h3.out i hi
      exact ⟨b, off, e, below_cell hb hc⟩
    have HF := Lib.hid hF
    have c2 : w1.cell? ⟨w.heap.size, 2, none⟩ = some (.slice ad xs.length cap) := below_cell hb1 (by simp)
    clear hF h3 hb1
    go_wp2
    go_loop [5, 16] (fun n i => ∃ k : Nat, k ≤ xs.length ∧ i = .int .i64 k ∧ n = .int .i64 ((xs.take k).count true : Nat)) (fun _ i => xs.length - (intOf i).toNat)
    case atStart => exact ⟨0, Nat.zero_le _, rfl, rfl⟩
    case round =>
      obtain ⟨k, hk, rfl, rfl⟩ := hrel
      have hle := count_le xs k
      by_cases hlt : k < xs.length
      · obtain ⟨b, off, rfl, hc⟩ := HF.out k hlt
        have HC := Lib.hid (count_snoc xs k hlt)
        by_cases hx : xs[k] = true
        · have HS : Hid ((xs.take (k + 1)).count true = (xs.take k).count true + 1) := by show _ = _; rw [HC.out, if_pos hx]
          go_wp2
          go_round
          case rel => exact ⟨k + 1, by omega, by go_num, by rw [HS.out]; go_num⟩
          case measure => simp [intOf]; omega
        · have HS : Hid ((xs.take (k + 1)).count true = (xs.take k).count true) := by show _ = _; rw [HC.out, if_neg hx]; rfl
          have hx' : xs[k] = false := by simpa using hx
          clear hx
          go_wp2
          go_round
          case rel => exact ⟨k + 1, by omega, by go_num, by rw [HS.out]⟩
          case measure => simp [intOf]; omega
      · have hkl : xs.take k = xs := List.take_of_length_le (by omega)
        have HK := Lib.hid hkl
        clear hkl
        go_wp2
        go_ret2
        refine ⟨?_, hb⟩
        rw [HM.out, HZ.out]
        simp only [HK.out]
        rfl
  · have HM : Hid (mcount t c xs = 0) := by show mcount t c xs = _; unfold mcount; rw [if_neg (by omega)]
    have b0 : (mchk t c xs.length != 0) = true := by simp; omega
    clear hz
    go_enter Try.func11, Try.ntmps11
    go_wp2_with fail
    refine (mcheck_any _ _ _ xs _ (hs.below (ba1 _ _))).mono ?_
    rintro e w1 ⟨rfl, hb1⟩
    go_wp2
    go_ret2
    exact ⟨by rw [HM.out]; rfl, below_to (ba1 _ _) hb1⟩

end Go.Proofs.Ytpkggglifahioaa
