/- What is proved here: the contracts of flag.Fill, slices.Equal at bools, and flag.Close. Condition: slices that can be read, 64-bit integers. -/
import Derived.Test.YtpkggglifahioaaFillB
namespace Go.Proofs.Ytpkggglifahioaa
open Go.RowKit

theorem fill_len (T C : Nat) (xs : List Bool) (fn fd : Int) : (fillL T C xs fn fd).length = xs.length := by simp [fillL]
/-- A slice of bools lies in no block that holds no bool. -/
theorem SB.box {w : World} {u : Value} {xs : List Bool} {b : Nat} {T : TypeId} {zs : List Value} (h : SB w u xs) (o : Own w b T zs) (hz : ∀ y, Value.bool y ∉ zs) (k : Nat) (x : Value) : SB (w.setCell ⟨b, k, none⟩ x) u xs := by
  obtain ⟨ad, cap, h1, h2, h3, h4⟩ := h
  refine ⟨ad, cap, h1, h2, h3, fun i y hy => ?_⟩
  obtain ⟨b', off, e, hc⟩ := h4 i y hy
  refine ⟨b', off, e, cell_set hc ?_ x⟩
  show b' ≠ b
  rintro rfl
  rw [o.rules.1] at hc
  obtain ⟨z, _, rfl⟩ := List.mem_map.1 (List.mem_of_getElem? hy)
  exact hz z (List.mem_of_getElem? hc)

set_option maxHeartbeats 3200000 in
theorem mfill_any (t c : Int) (v : Value) (xs : List Bool) (fn fd : Int) (w : World) (h : SB w v xs) (h1 : i64 fn) (h2 : i64 fd) :
    Calls Try.prog 26 #[.agg #[.int .i64 t, .int .i64 c, v], .agg #[.int .i64 fn, .int .i64 fd]] w fun e w' =>
      ∃ u, e = .returned (.tuple #[.agg #[.int .i64 (zt (ferr t c xs.length fn fd) t), .int .i64 (zt (ferr t c xs.length fn fd) c), u], .int .i64 (ferr t c xs.length fn fd)]) ∧
        SB w' u (zl (ferr t c xs.length fn fd) (fillL t.toNat c.toNat xs fn fd)) ∧ Frv w.heap.size u ∧ Below w.heap.size w w' := by
  have hs := h
  obtain ⟨ad, cap, rfl, q1, q2, q3⟩ := h.open
  clear h q3
  by_cases p : ferr t c xs.length fn fd = 0
  · have b1 : (ferr t c xs.length fn fd != 0) = false := by simp [p]
    have p0 : mchk t c xs.length = 0 ∧ prtB fn fd = true := by
      by_cases p1 : mchk t c xs.length = 0
      · by_cases p2 : prtB fn fd = true
        · exact ⟨p1, p2⟩
        · rw [ferr_8 p1 p2] at p; omega
      · rw [ferr_1 p1] at p; exact absurd p p1
    obtain ⟨p1, p2⟩ := p0
    have P := Lib.hid p
    obtain ⟨t1, t2, c1', c2', hn⟩ := mchk_ok p1
    clear p p1
    obtain ⟨T, rfl⟩ := Int.eq_ofNat_of_zero_le (show 0 ≤ t by omega)
    obtain ⟨C, rfl⟩ := Int.eq_ofNat_of_zero_le (show 0 ≤ c by omega)
    rw [cast_mul] at hn
    have hn' : xs.length = T * C := by exact_mod_cast hn
    rw [Int.toNat_natCast, Int.toNat_natCast]
    have HN := Lib.hid hn'
    clear hn hn'
    go_enter Try.func26, Try.ntmps26
    go_wp2_with fail
    refine (checkFill_any _ _ _ xs _ _ _ (hs.below (ba3 _ _ _ _)) h1 h2).mono ?_
    rintro e w1 ⟨rfl, hb1⟩
    obtain ⟨c1, f1⟩ := bcell hb1
    have z1 := (hb1).size
    try simp at z1
    try simp at c1
    try simp at f1
    have z1a : w.heap.size < w1.heap.size := by omega
    have z1b : w.heap.size + 1 < w1.heap.size := by omega
    have z1c : w.heap.size + 1 + 1 < w1.heap.size := by omega
    have hb := below_to (ba3 _ _ _ _) hb1
    go_wp2_with fail
    refine (fill_any T C _ xs fn fd _ (hs.below hb) (by omega) (by omega) (by omega) (by omega) HN.out p2).mono ?_
    rintro e w2 ⟨u, rfl, su, fu, hb2⟩
    obtain ⟨c2, f2⟩ := bcell hb2
    have z2 := (hb2).size
    try simp at z2
    try simp at c2
    try simp at f2
    have z2a : w.heap.size < w2.heap.size := by omega
    have z2b : w.heap.size + 1 < w2.heap.size := by omega
    have z2c : w.heap.size + 1 + 1 < w2.heap.size := by omega
    have su' := su
    obtain ⟨ua, uc, rfl, _, _, _⟩ := su.open
    have hfr : ¬ Frv (w.heap.size + 1 + 1 + 1) (.slice ua (fillL T C xs fn fd).length uc) → False := fun h => h (fu.mono (by omega))
    go_wp2
    refine bodyPost_ret (v := .tuple #[.agg #[.int .i64 T, .int .i64 C, .slice ua (fillL T C xs fn fd).length uc], .int .i64 0]) (by simp [results, Try.results26, go_sem, c2, c1, z1c]) rfl ⟨.slice ua (fillL T C xs fn fd).length uc, ?_, ?_, fu.mono hb.size, ?_⟩
    · rw [P.out, zt_eq rfl, zt_eq rfl]
    · rw [P.out, zl_eq rfl]
      exact ((su'.low (fu.mono (B' := w.heap.size + 1 + 1 + 1) (by omega)) (by simp) _).low (fu.mono (B' := w.heap.size + 1 + 1 + 1) (by omega)) (by simp) _).low (fu.mono (B' := w.heap.size + 1 + 1 + 1) (by omega)) (by simp) _
    · repeat (refine Below.setCell ?_ (by first | omega | (simp; omega)) _)
      exact below_to hb hb2
  · have b1 : (ferr t c xs.length fn fd != 0) = true := by simp [p]
    have P := Lib.hid p
    clear p
    go_enter Try.func26, Try.ntmps26
    go_wp2_with fail
    refine (checkFill_any _ _ _ xs _ _ _ (hs.below (ba3 _ _ _ _)) h1 h2).mono ?_
    rintro e w1 ⟨rfl, hb1⟩
    obtain ⟨c1, f1⟩ := bcell hb1
    have z1 := (hb1).size
    try simp at z1
    try simp at c1
    try simp at f1
    have z1a : w.heap.size < w1.heap.size := by omega
    have z1b : w.heap.size + 1 < w1.heap.size := by omega
    have z1c : w.heap.size + 1 + 1 < w1.heap.size := by omega
    have hb := below_to (ba3 _ _ _ _) hb1
    go_wp2
    refine bodyPost_ret (v := .tuple #[.agg #[.int .i64 0, .int .i64 0, .slice none 0 0], .int .i64 (ferr t c xs.length fn fd)]) (by simp [results, Try.results26, go_sem, c1, z1c]) rfl ⟨.slice none 0 0, ?_, ?_, trivial, ?_⟩
    · rw [zt_ne P.out, zt_ne P.out]
    · rw [zl_ne P.out]; exact sb_nil _
    · repeat (refine Below.setCell ?_ (by first | omega | (simp; omega)) _)
      exact hb

set_option maxHeartbeats 3200000 in
theorem equal_any (v v' : Value) (xs ys : List Bool) (w : World) (h : SB w v xs) (h' : SB w v' ys) :
    Calls Try.prog 50 #[v, v'] w fun e w' => e = .returned (.bool (decide (xs = ys))) ∧ Below w.heap.size w w' := by
  obtain ⟨ad, cap, rfl, h1, h2, h3⟩ := h.open
  obtain ⟨ad', cap', rfl, h1', h2', h3'⟩ := h'.open
  clear h h'
  by_cases hl : xs.length = ys.length
  · have HL := Lib.hid hl
    have b3 : (((xs.length : Nat) : Int) != ((ys.length : Nat) : Int)) = false := by simp [hl]
    have hl2 : ys.length ≤ xs.length := by omega
    have hl3 : xs.length ≤ ys.length := by omega
    clear hl
    go_enter Try.func50, Try.ntmps50
    go_wp2
    go_loopw [13] (fun i wr => ∃ k : Nat, k ≤ xs.length ∧ i = .int .i64 k ∧ Hid (xs.take k = ys.take k) ∧ Below w.heap.size w wr) (fun i _ => xs.length - (intOf i).toNat)
    case atStart => exact ⟨0, Nat.zero_le _, rfl, Lib.hid rfl, Below.refl _ _⟩
    case round =>
      obtain ⟨k, hk, rfl, hT, hbr⟩ := hrel
      by_cases hlt : k < xs.length
      · have hlt' : k < ys.length := by omega
        obtain ⟨b, off, rfl, hc⟩ := h3.out k hlt
        obtain ⟨b', off', rfl, hc'⟩ := h3'.out k hlt'
        have hc := below_cell hbr hc
        have hc' := below_cell hbr hc'
        have i1 : (0 : Int) ≤ (k : Int) := by omega
        have i2 : (k : Int) < (xs.length : Int) := by omega
        have i3 : (k : Int) < (ys.length : Int) := by omega
        by_cases he : xs[k] = ys[k]
        · have b4 : (xs[k] != ys[k]) = false := by simp [he]
          have b5 : (!(xs[k] == ys[k])) = false := by simp [he]
          have HT : Hid (xs.take (k + 1) = ys.take (k + 1)) := by
            show _ = _
            rw [List.take_succ_eq_append_getElem hlt, List.take_succ_eq_append_getElem hlt', hT.out, he]
          clear he hT
          go_wp2
          go_quiet (fail)
          go_wp2
          go_roundw
          case rel => exact ⟨k + 1, by omega, by go_num, HT, bd hbr _⟩
          case measure => simp [intOf]; omega
        · have b4 : (xs[k] != ys[k]) = true := by simpa using he
          have b5 : (!(xs[k] == ys[k])) = true := by simpa using he
          have HE : Hid (decide (xs = ys) = false) := by
            show _ = _
            simp only [decide_eq_false_iff_not]
            rintro rfl
            exact he rfl
          clear he hT
          go_wp2
          go_quiet (fail)
          go_wp2
          go_ret
          exact ⟨by rw [HE.out]; try rfl, bd hbr _⟩
      · have HE : Hid (decide (xs = ys) = true) := by
          show _ = _
          have := hT.out
          rw [List.take_of_length_le (by omega), List.take_of_length_le (by omega)] at this
          simpa using this
        go_wp2
        go_ret
        exact ⟨by rw [HE.out]; try rfl, hbr⟩
  · have b3 : (((xs.length : Nat) : Int) != ((ys.length : Nat) : Int)) = true := by simp; omega
    have HE : Hid (decide (xs = ys) = false) := by show _ = _; simp only [decide_eq_false_iff_not]; rintro rfl; exact hl rfl
    clear hl
    go_enter Try.func50, Try.ntmps50
    go_wp2
    go_ret
    exact ⟨by rw [HE.out]; try rfl, Below.refl _ _⟩

end Go.Proofs.Ytpkggglifahioaa
