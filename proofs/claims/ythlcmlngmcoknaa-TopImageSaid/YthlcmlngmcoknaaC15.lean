/- What is proved here: contracts of functions and plain facts, several texts in one; each one says ahead what it proves, and its conditions. -/
import Derived.Test.YthlcmlngmcoknaaC13
import Derived.Test.YthlcmlngmcoknaaC08
/- What is proved here: the contracts of clean.Spread and of its closure. Condition: a model and a beam that can be read. -/
namespace Go.Proofs.Ythlcmlngmcoknaa
open Go.RowKit

/-- A part of the sum of a cell of the spread image. -/
def sterm (N : Nat → Nat → Int) (n : Nat) (M : Nat → Nat → Int) (v u y x : Nat) : Int := M y x * N (v + (n - 1) - y) (u + (n - 1) - x)
def cspart (N : Nat → Nat → Int) (n : Nat) (M : Nat → Nat → Int) (v u y x : Nat) : Int := su (fun y => su (sterm N n M v u y) n) y + su (sterm N n M v u y) x
theorem cspart_0 (N : Nat → Nat → Int) (n : Nat) (M : Nat → Nat → Int) (v u : Nat) : cspart N n M v u 0 0 = 0 := rfl
theorem cspart_x (N : Nat → Nat → Int) (n : Nat) (M : Nat → Nat → Int) (v u y x : Nat) : cspart N n M v u y (x + 1) = cspart N n M v u y x + sterm N n M v u y x := by unfold cspart; simp only [su]; omega
theorem cspart_y (N : Nat → Nat → Int) (n : Nat) (M : Nat → Nat → Int) (v u y : Nat) : cspart N n M v u y n = cspart N n M v u (y + 1) 0 := by unfold cspart; simp only [su]; omega
theorem cspart_end (N : Nat → Nat → Int) (n : Nat) (M : Nat → Nat → Int) (v u : Nat) : cspart N n M v u n 0 = tspr N n M v u := by unfold cspart; simp only [su]; show _ + 0 = _; rw [Int.add_zero]; rfl
theorem sterm_bd {N M : Nat → Nat → Int} {n m v u y x : Nat} (hb : BM n m N) (hr : inR 1000000000 n M) (hv : v < n) (hu : u < n) (hy : y < n) (hx : x < n) : -1000000000000 ≤ sterm N n M v u y x ∧ sterm N n M v u y x ≤ 1000000000000 := by
  have := hb.hm
  exact wr_mulbd' (hr y x hy hx) (hb.rng _ _ (by omega) (by omega)) (by decide)
theorem cspart_bd {N M : Nat → Nat → Int} {n m v u y x : Nat} (hb : BM n m N) (hr : inR 1000000000 n M) (hv : v < n) (hu : u < n) (hy : y ≤ n) (hx : x ≤ n) (hyx : y < n ∨ x = 0) : -72000000000000 ≤ cspart N n M v u y x ∧ cspart N n M v u y x ≤ 72000000000000 := by
  have n8 := hb.n8
  have h1 := su_bd (f := fun y => su (sterm N n M v u y) n) (b := 1000000000000 * n) (n := y) fun i hi => su_bd (n := n) fun j hj => sterm_bd hb hr hv hu (by omega) hj
  have h2 : -(1000000000000 * (x : Int)) ≤ su (sterm N n M v u y) x ∧ su (sterm N n M v u y) x ≤ 1000000000000 * x := by
    rcases hyx with h | h
    · exact su_bd (n := x) fun j hj => sterm_bd hb hr hv hu h (by omega)
    · subst h; simp [su]
  have h3 : 1000000000000 * (n : Int) * y ≤ 64000000000000 := by
    have : 1000000000000 * (n : Int) * y ≤ 8000000000000 * y := Int.mul_le_mul_of_nonneg_right (by omega) (by omega)
    omega
  have h4 : 1000000000000 * (x : Int) ≤ 8000000000000 := by omega
  unfold cspart
  omega
set_option maxRecDepth 100000 in
set_option maxHeartbeats 16000000 in
theorem spr1_any (n m : Nat) (M N : Nat → Nat → Int) (vm vb : Value) (bA bB bN v u : Nat) (w : World) (oA : Own w bA 22 [vm]) (oB : Own w bB 22 [vb]) (oN : Own w bN 3 [.int .i64 n]) (hA : IM w vm n M) (hB : IM w vb m N) (hb : BM n m N) (hr : inR 1000000000 n M) (hv : v < n) (hu : u < n) :
    Calls Try.prog 85 #[.int .i64 u, .int .i64 v, .pointer (some ⟨bA, 0, none⟩), .pointer (some ⟨bB, 0, none⟩), .pointer (some ⟨bN, 0, none⟩)] w fun e w' => e = .returned (.int .i64 (tspr N n M v u)) ∧ Below w.heap.size w w' := by
  have A0 := Lib.hid hA
  have B0 := Lib.hid hB
  have OB := Lib.hid oB
  have ON := Lib.hid oN
  have HB := Lib.hid hb
  have HR := Lib.hid hr
  have n8 := hb.n8
  have HM : Hid (m = 2 * n - 1) := hb.hm
  obtain ⟨ada, capa, rfl, ha1, _, _⟩ := hA.open
  obtain ⟨adb, capb, rfl, hb1, _, _⟩ := hB.open
  clear hA hB oB oN hb hr
  go_enter Try.func85, Try.ntmps85
  obtain ⟨rA, fA⟩ := oA.rules
  have zA := oA.lt
  go_wp2
  clear rA fA zA oA
  go_loopw [8, 15] (fun sv iv wr => ∃ y : Nat, y ≤ n ∧ iv = .int .i64 y ∧ sv = .int .i64 (cspart N n M v u y 0) ∧ Below w.heap.size w wr) (fun _ iv _ => n - (intOf iv).toNat)
  case atStart => exact ⟨0, Nat.zero_le _, rfl, rfl, Below.refl _ _⟩
  case round =>
    obtain ⟨y, hy, rfl, rfl, hC⟩ := hrel
    rename World => V
    by_cases hlt : y < n
    · obtain ⟨_, _, e, _, _, HA⟩ := (A0.out.below hC).open
      cases e
      obtain ⟨ba, oa, ba', oa', ca', rfl, ca1, ca2, HA'⟩ := HA.out y hlt
      clear HA
      obtain ⟨j1, hj1⟩ : ∃ j1, j1 = v + (n - 1) - y := ⟨_, rfl⟩
      have J1 : (v : Int) - y + n - 1 = (j1 : Int) := by omega
      have hj1m : j1 < m := by have := HM.out; omega
      have HJ1 := Lib.hid hj1
      clear hj1
      go_wp2
      go_loopw [8, 22] (fun sv iv wr => ∃ x : Nat, x ≤ n ∧ iv = .int .i64 x ∧ sv = .int .i64 (cspart N n M v u y x) ∧ Below V.heap.size V wr) (fun _ iv _ => n - (intOf iv).toNat)
      case atStart => exact ⟨0, Nat.zero_le _, rfl, rfl, Below.refl _ _⟩
      case round =>
        obtain ⟨x, hx, rfl, rfl, hD⟩ := hrel
        rename World => U
        by_cases hxl : x < n
        · have hU := below_to hC hD
          have ca3 := below_cell hD (HA'.out x hxl)
          obtain ⟨_, _, e, _, _, HBo⟩ := (B0.out.below hU).open
          cases e
          obtain ⟨bb, ob, bb', ob', cb', rfl, cb1, cb2, HB'⟩ := HBo.out j1 hj1m
          clear HBo
          obtain ⟨j2, hj2⟩ : ∃ j2, j2 = u + (n - 1) - x := ⟨_, rfl⟩
          have J2 : (u : Int) - x + n - 1 = (j2 : Int) := by omega
          have hj2m : j2 < m := by have := HM.out; omega
          have cb3 := HB'.out j2 hj2m
          clear HB'
          have SX := cspart_x N n M v u y x
          have SB := cspart_bd HB.out HR.out hv hu (y := y) (x := x + 1) (by omega) (by omega) (.inl hlt)
          have ST1 : sterm N n M v u y x = M y x * N j1 j2 := by unfold sterm; rw [HJ1.out, hj2]
          have E1 : wrap64 (cspart N n M v u y x + wrap64 (M y x * N j1 j2)) = cspart N n M v u y (x + 1) := by
            rw [wr_add_r, ← ST1, ← SX]; exact Go.IntWalk.wrap64_in _ (by omega)
          clear SX SB ST1 hj2
          have oB := OB.out.below hU
          have oN := ON.out.below hU
          generalize cspart N n M v u y x = s0 at *
          generalize M y x = z at *
          generalize N j1 j2 = t at *
          obtain ⟨rB, fB⟩ := oB.rules
          have zB := oB.lt
          obtain ⟨rN, fN⟩ := oN.rules
          have zN := oN.lt
          go_wp2
          go_quiet (fail)
          go_wp2
          go_roundw
          case rel => exact ⟨x + 1, by omega, by go_num, by first | rfl | rw [E1], bd hD _⟩
          case measure => simp [intOf]; try omega
        · obtain rfl : x = n := by omega
          rw [cspart_y]
          go_wp2
          go_roundw
          case rel => exact ⟨y + 1, by omega, by go_num, rfl, below_to hC hD⟩
          case measure => simp [intOf]; try omega
    · obtain rfl : y = n := by omega
      rw [cspart_end]
      go_wp2
      go_ret
      exact ⟨rfl, hC⟩
set_option maxRecDepth 100000 in
set_option maxHeartbeats 16000000 in
theorem spread_any (n m : Nat) (M N : Nat → Nat → Int) (va vb : Value) (w : World) (hA : IM w va n M) (hB : IM w vb m N) (hb : BM n m N) (hr : inR 1000000000 n M) :
    Calls Try.prog 34 #[va, vb] w (cells_post w n (tspr N n M)) := by
  have HB := Lib.hid hb
  have HR := Lib.hid hr
  have n1 := hb.n1
  have n8 := hb.n8
  obtain ⟨ada, capa, rfl, ha1, _, _⟩ := hA.open
  obtain ⟨adb, capb, rfl, hb1, _, _⟩ := hB.open
  clear hb hr
  have oA := own_first w 22 [.slice ada n capa] (.cells #[.slice adb m capb] 22)
  have oB := own_second w 22 [.slice adb m capb] (.cells #[.slice ada n capa] 22)
  have hy := ba2 w (.cells #[.slice ada n capa] 22) (.cells #[.slice adb m capb] 22)
  go_enter Try.func34, Try.ntmps34
  go_upto_region 1 with fail
  obtain ⟨bA, hbA⟩ : ∃ B, B = w.heap.size := ⟨_, rfl⟩
  rw [← hbA] at oA oB ⊢
  have hlA : w.heap.size ≤ bA := by omega
  clear hbA
  obtain ⟨bB, hbB⟩ : ∃ B, B = bA + 1 := ⟨_, rfl⟩
  rw [← hbB] at oB ⊢
  clear hbB
  generalize (w.alloc (.cells #[.slice ada n capa] 22)).alloc (.cells #[.slice adb m capb] 22) = y at *
  replace hA := hA.below hy
  replace hB := hB.below hy
  obtain ⟨rA, fA⟩ := oA.rules
  have zA := oA.lt
  obtain ⟨rB, fB⟩ := oB.rules
  have zB := oB.lt
  go_wp2_with fail
  refine (isImage_any n 1000000000 M _ _ hA n1 n8 (by omega) (by omega) HR.out).mono ?_
  rintro e y1 ⟨rfl, hq⟩
  clear rA fA zA rB fB zB
  replace oA := oA.below hq
  replace oB := oB.below hq
  replace hA := hA.below hq
  replace hB := hB.below hq
  replace hy := below_to hy hq
  clear hq
  obtain ⟨rA, fA⟩ := oA.rules
  have zA := oA.lt
  obtain ⟨rB, fB⟩ := oB.rules
  have zB := oB.lt
  go_upto_region 4 with fail
  have oN := Own.new y1 3 [.int .i64 n]
  have hq := ba1 y1 (.cells #[.int .i64 n] 3)
  obtain ⟨bN, hbN⟩ : ∃ B, B = y1.heap.size := ⟨_, rfl⟩
  rw [← hbN] at oN ⊢
  clear hbN
  generalize y1.alloc (.cells #[.int .i64 n] 3) = y2 at *
  clear rA fA zA rB fB zB
  replace oA := oA.below hq
  replace oB := oB.below hq
  replace hA := hA.below hq
  replace hB := hB.below hq
  replace hy := below_to hy hq
  clear hq
  obtain ⟨rA, fA⟩ := oA.rules
  have zA := oA.lt
  obtain ⟨rB, fB⟩ := oB.rules
  have zB := oB.lt
  obtain ⟨rN, fN⟩ := oN.rules
  have zN := oN.lt
  go_wp2_with fail
  refine (isBeam_any n m N _ _ hB HB.out).mono ?_
  rintro e y3 ⟨rfl, hq⟩
  clear rA fA zA rB fB zB rN fN zN
  replace oA := oA.below hq
  replace oB := oB.below hq
  replace oN := oN.below hq
  replace hA := hA.below hq
  replace hB := hB.below hq
  replace hy := below_to hy hq
  clear hq
  obtain ⟨rA, fA⟩ := oA.rules
  have zA := oA.lt
  obtain ⟨rB, fB⟩ := oB.rules
  have zB := oB.lt
  obtain ⟨rN, fN⟩ := oN.rules
  have zN := oN.lt
  have CS := Lib.hid (fun (v u : Nat) (wr : World) (hv : v < n) (hu : u < n) (hwr : Below y3.heap.size y3 wr) => spr1_any n m M N (.slice ada n capa) (.slice adb m capb) bA bB bN v u wr (oA.below hwr) (oB.below hwr) (oN.below hwr) (hA.below hwr) (hB.below hwr) HB.out HR.out hv hu)
  clear hA hB
  go_wp2_with fail
  refine (cellsS_any n (tspr N n M) _ _ _ _ n1 n8 CS.out).mono ?_
  rintro e y4 ⟨hp, hq⟩
  replace hy := below_to hy hq
  clear hq CS
  rcases hp with ⟨u, rfl, im, ir⟩ | ⟨rfl, ir⟩
  · have IR := Lib.hid ir
    have IMu := Lib.hid im
    obtain ⟨adu, capu, rfl, hu1, _, _⟩ := im.open
    clear ir im
    go_wp2
    refine bodyPost_ret (v := .tuple #[.slice adu n capu, .int .i64 0]) (by simp [results, Try.results34, go_sem]) rfl ⟨.inl ⟨_, rfl, IMu.out, IR.out⟩, hy⟩
  · have IR := Lib.hid ir
    clear ir
    go_wp2
    refine bodyPost_ret (v := .tuple #[.slice none 0 0, .int .i64 16]) (by simp [results, Try.results34, go_sem]) rfl ⟨.inr ⟨rfl, IR.out⟩, hy⟩
end Go.Proofs.Ythlcmlngmcoknaa
