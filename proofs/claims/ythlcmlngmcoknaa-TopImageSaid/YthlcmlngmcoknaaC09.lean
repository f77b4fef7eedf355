/- What is proved here: contracts of functions and plain facts, several texts in one; each one says ahead what it proves, and its conditions. -/
import Derived.Test.YthlcmlngmcoknaaC07
import Derived.Test.YthlcmlngmcoknaaC08
/- What is proved here: the contracts of sky.quarters and sky.turn. Condition: places that can be read, indices within them, cells near the first one. -/
namespace Go.Proofs.Ythlcmlngmcoknaa
open Go.RowKit

theorem Qq_at {p : List (Int × Int)} {i j : Nat} (hi : i < p.length) (hj : j < p.length) (x y : Int) : Qq p i j x y = x * (p[j].1 - p[i].1) + y * (p[j].2 - p[i].2) := by
  unfold Qq; simp [List.getD, hi, hj]
/-- Places within the bounds. -/
def Near (p : List (Int × Int)) : Prop := ∀ a ∈ p, -100 ≤ a.1 ∧ a.1 ≤ 100 ∧ -100 ≤ a.2 ∧ a.2 ≤ 100
theorem Near.get {p : List (Int × Int)} (h : Near p) {i : Nat} (hi : i < p.length) : -100 ≤ p[i].1 ∧ p[i].1 ≤ 100 ∧ -100 ≤ p[i].2 ∧ p[i].2 ≤ 100 := h _ (List.getElem_mem hi)
theorem Qq_bd {p : List (Int × Int)} (h : Near p) {i j : Nat} (hi : i < p.length) (hj : j < p.length) {x y : Int} (hx : -16 ≤ x ∧ x ≤ 16) (hy : -16 ≤ y ∧ y ≤ 16) : -6400 ≤ Qq p i j x y ∧ Qq p i j x y ≤ 6400 := by
  rw [Qq_at hi hj]
  have a := h.get hi
  have b := h.get hj
  have h1 := wr_mulbd (x := x) (y := p[j].1 - p[i].1) (X := 16) (Y := 200) hx (by omega)
  have h2 := wr_mulbd (x := y) (y := p[j].2 - p[i].2) (X := 16) (Y := 200) hy (by omega)
  omega
set_option maxRecDepth 100000 in
set_option maxHeartbeats 4000000 in
theorem quarters_any (p : List (Int × Int)) (i j : Nat) (x y : Int) (v : Value) (w : World) (hs : SF w v p) (hp : Near p) (hi : i < p.length) (hj : j < p.length) (hx : -16 ≤ x ∧ x ≤ 16) (hy : -16 ≤ y ∧ y ≤ 16) :
    Calls Try.prog 81 #[v, .int .i64 i, .int .i64 j, .int .i64 x, .int .i64 y] w fun e w' => e = .returned (.int .i64 (Qq p i j x y)) ∧ ∃ n, w' = w.drewN n := by
  have HB := Qq_bd hp hi hj hx hy
  rw [Qq_at hi hj] at HB ⊢
  obtain ⟨ad, cap, rfl, h1, h2, H⟩ := hs.open
  clear hs
  obtain ⟨b, off, rfl, ci0, ci1⟩ := H.out i hi
  obtain ⟨_, _, e, cj0, cj1⟩ := H.out j hj
  cases e
  clear H
  have E : Hid (wrap64 (wrap64 (x * wrap64 (p[j].1 - p[i].1)) + wrap64 (y * wrap64 (p[j].2 - p[i].2))) = x * (p[j].1 - p[i].1) + y * (p[j].2 - p[i].2)) := by
    show _ = _
    simp only [wr_add_l, wr_add_r, wr_mul_r]
    exact Go.IntWalk.wrap64_in _ (by omega)
  clear HB hp hx hy
  generalize p[i] = a at *
  generalize p[j] = c at *
  go_enter Try.func81, Try.ntmps81
  go_wp2
  go_quiet (fail)
  go_wp2
  go_ret
  exact ⟨by first | (show Ending.returned (.int .i64 _) = Ending.returned (.int .i64 _); rw [E.out]) | rfl | simp, _, rfl⟩
theorem tqc_at {k : Int} {r : Nat} (h : k % 4 = r) : tqc k = tqc r := by unfold tqc; rw [show ((r : Nat) : Int) % 4 = k % 4 by omega]
theorem tqs_at {k : Int} {r : Nat} (h : k % 4 = r) : tqs k = tqs r := by unfold tqs; rw [show ((r : Nat) : Int) % 4 = k % 4 by omega]
/-- The parts of a number after so many quarters of a turn. -/
def ture (a b k : Int) : Int := a * tqc k - b * tqs k
def tuim (a b k : Int) : Int := a * tqs k + b * tqc k
theorem tu_at {a b k : Int} {r : Nat} (h : k % 4 = r) : ture a b k = ture a b r ∧ tuim a b k = tuim a b r := by unfold ture tuim; rw [tqc_at h, tqs_at h]; exact ⟨rfl, rfl⟩
theorem tu_0 (a b : Int) : ture a b (0 : Nat) = a ∧ tuim a b (0 : Nat) = b := by unfold ture tuim; rw [show tqc ((0 : Nat) : Int) = 1 from rfl, show tqs ((0 : Nat) : Int) = 0 from rfl]; omega
theorem tu_succ (a b : Int) (m : Nat) : ture a b (m + 1 : Nat) = - tuim a b m ∧ tuim a b (m + 1 : Nat) = ture a b m := by
  have h1 : tqc ((m + 1 : Nat) : Int) = - tqs m := by
    unfold tqc tqs
    rcases (by omega : (m : Int) % 4 = 0 ∨ (m : Int) % 4 = 1 ∨ (m : Int) % 4 = 2 ∨ (m : Int) % 4 = 3) with h | h | h | h
    · rw [show ((m + 1 : Nat) : Int) % 4 = 1 by omega, h]; decide
    · rw [show ((m + 1 : Nat) : Int) % 4 = 2 by omega, h]; decide
    · rw [show ((m + 1 : Nat) : Int) % 4 = 3 by omega, h]; decide
    · rw [show ((m + 1 : Nat) : Int) % 4 = 0 by omega, h]; decide
  have h2 : tqs ((m + 1 : Nat) : Int) = tqc m := by
    unfold tqc tqs
    rcases (by omega : (m : Int) % 4 = 0 ∨ (m : Int) % 4 = 1 ∨ (m : Int) % 4 = 2 ∨ (m : Int) % 4 = 3) with h | h | h | h
    · rw [show ((m + 1 : Nat) : Int) % 4 = 1 by omega, h]; decide
    · rw [show ((m + 1 : Nat) : Int) % 4 = 2 by omega, h]; decide
    · rw [show ((m + 1 : Nat) : Int) % 4 = 3 by omega, h]; decide
    · rw [show ((m + 1 : Nat) : Int) % 4 = 0 by omega, h]; decide
  unfold ture tuim
  rw [h1, h2, Int.mul_neg, Int.mul_neg]
  omega
theorem tu_bd {a b X : Int} (ha : -X ≤ a ∧ a ≤ X) (hb : -X ≤ b ∧ b ≤ X) (m : Int) : (-(2 * X) ≤ ture a b m ∧ ture a b m ≤ 2 * X) ∧ (-(2 * X) ≤ tuim a b m ∧ tuim a b m ≤ 2 * X) := by
  have h1 := mul_unit ha.1 ha.2 (tqc_bd m)
  have h2 := mul_unit ha.1 ha.2 (tqs_bd m)
  have h3 := mul_unit hb.1 hb.2 (tqc_bd m)
  have h4 := mul_unit hb.1 hb.2 (tqs_bd m)
  unfold ture tuim
  omega
theorem own_eq {w : World} {g : Nat} {T : TypeId} {cs cs' : List Value} (h : Own w g T cs) (e : cs = cs') : Own w g T cs' := e ▸ h
set_option maxRecDepth 100000 in
set_option maxHeartbeats 4000000 in
theorem turn_any (a b d k : Int) (w : World) (ha : -1000000000 ≤ a ∧ a ≤ 1000000000) (hb : -1000000000 ≤ b ∧ b ≤ 1000000000) :
    Calls Try.prog 80 #[.agg #[.int .i64 a, .int .i64 b, .int .i64 d], .int .i64 k] w fun e w' => e = .returned (.agg #[.int .i64 (ture a b k), .int .i64 (tuim a b k), .int .i64 d]) ∧ Below w.heap.size w w' := by
  obtain ⟨r, hr, hr4⟩ : ∃ r : Nat, k % 4 = r ∧ r < 4 := ⟨(k % 4).toNat, by omega, by omega⟩
  have EW : (wrap64 (k.tmod 4 + 4)).tmod 4 = (r : Int) := by
    have h3 := Int.tmod_def k 4
    have h5 := Int.lt_tmod_of_pos k (show (0 : Int) < 4 by omega)
    have h6 := Int.tmod_lt_of_pos k (show (0 : Int) < 4 by omega)
    rw [Go.IntWalk.wrap64_in _ (by omega), Int.tmod_eq_emod_of_nonneg (by omega)]
    omega
  rw [(tu_at hr).1, (tu_at hr).2]
  clear hr
  go_enter Try.func80, Try.ntmps80
  have oA := own_first w 120 [.int .i64 a, .int .i64 b, .int .i64 d] (.cells #[.int .i64 0, .int .i64 0, .int .i64 0] 120)
  have oR := own_second w 120 [.int .i64 0, .int .i64 0, .int .i64 0] (.cells #[.int .i64 a, .int .i64 b, .int .i64 d] 120)
  have hB := ba2 w (.cells #[.int .i64 a, .int .i64 b, .int .i64 d] 120) (.cells #[.int .i64 0, .int .i64 0, .int .i64 0] 120)
  have t0 := tu_0 a b
  go_wp2
  go_loopw [9] (fun i wr => ∃ m : Nat, m ≤ r ∧ i = .int .i64 m ∧ Own wr w.heap.size 120 [.int .i64 (ture a b m), .int .i64 (tuim a b m), .int .i64 d] ∧ Own wr (w.heap.size + 1) 120 [.int .i64 0, .int .i64 0, .int .i64 0] ∧ Below w.heap.size w wr) (fun i _ => r - (intOf i).toNat)
  case atStart => exact ⟨0, Nat.zero_le _, rfl, by rw [t0.1, t0.2]; exact oA, oR, hB⟩
  case round =>
    clear oA oR hB t0
    obtain ⟨m, hm, rfl, oA, oR, hB⟩ := hrel
    rename World => W
    obtain ⟨rA, fA⟩ := oA.rules
    have zA := oA.lt
    by_cases hmr : m < r
    · have TB := tu_bd (X := 1000000000) ha hb m
      have TS := tu_succ a b m
      have W1 : wrap64 (-(tuim a b m)) = -(tuim a b m) := Go.IntWalk.wrap64_in _ (by omega)
      have HS := Lib.hid TS
      clear TS TB
      generalize tuim a b m = ti at *
      generalize ture a b m = tr at *
      go_wp2
      go_roundw
      case rel =>
        refine ⟨m + 1, by omega, by go_num, ?_, ?_, ?_⟩
        · rw [HS.out.1, HS.out.2]
          refine own_eq ((oA.set 0 _).set 1 _) ?_
          first | rfl | (rw [W1]; rfl)
        · exact (oR.other (by omega) 0 _).other (by omega) 1 _
        · exact (hB.setCell (p := ⟨w.heap.size, 0, none⟩) (by simp) _).setCell (p := ⟨w.heap.size, 1, none⟩) (by simp) _
      case measure => simp [intOf]; try omega
    · obtain rfl : m = r := by omega
      obtain ⟨rR, fR⟩ := oR.rules
      have zR := oR.lt
      go_wp2
      clear rR fR zR rA fA zA
      replace oR := ((oR.set 0 (.int .i64 (ture a b m))).set 1 (.int .i64 (tuim a b m))).set 2 (.int .i64 d)
      replace hB := ((hB.setCell (p := ⟨w.heap.size + 1, 0, none⟩) (by simp) (.int .i64 (ture a b m))).setCell (p := ⟨w.heap.size + 1, 1, none⟩) (by simp) (.int .i64 (tuim a b m))).setCell (p := ⟨w.heap.size + 1, 2, none⟩) (by simp) (.int .i64 d)
      refine bp_gen' (fun W => Own W _ _ _ ∧ Below w.heap.size w W) ⟨oR, hB⟩ ?_
      rintro wz ⟨oz, bz⟩
      obtain ⟨rz, fz⟩ := oz.rules
      clear oz
      refine bodyPost_ret (v := .agg #[.int .i64 (ture a b m), .int .i64 (tuim a b m), .int .i64 d]) (by simp [results, Try.results80, go_sem, rz]) rfl ⟨rfl, ?_⟩
      exact bz
end Go.Proofs.Ythlcmlngmcoknaa
