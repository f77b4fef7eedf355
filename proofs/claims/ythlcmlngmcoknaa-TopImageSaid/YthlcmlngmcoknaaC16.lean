/- What is proved here: contracts of functions and plain facts, several texts in one; each one says ahead what it proves, and its conditions. -/
import Derived.Test.YthlcmlngmcoknaaC12
import Derived.Test.YthlcmlngmcoknaaC15
import Derived.Test.YthlcmlngmcoknaaC11
import Derived.Test.YthlcmlngmcoknaaC13
import Derived.Test.YthlcmlngmcoknaaC08
import Derived.Test.YthlcmlngmcoknaaC01
import Derived.Deep.DeepCutAuto
/- What is proved here: alive41 answers true. No condition. -/
namespace Go.Proofs.Ythlcmlngmcoknaa
open Go.RowKit

theorem st_of_own41 {w : World} {g : Nat} {T : TypeId} (xs : List T3) (n : Nat) (hn : xs.length = n) (hm : n ≤ 1000) (h : Own w g T (tcs xs)) : ST w (.slice (some ⟨g, 0, none⟩) n n) xs := by
  unfold ST; rw [hn]
  exact h.sl n (Nat.le_refl _) (by omega) _ ⟨[], by simp⟩
theorem im_of_own {w : World} {g : Nat} {T Ti : TypeId} (n : Nat) (M : Nat → Nat → Int) (b : Nat → Nat) (h : Own w g T ((List.range n).map fun i => .slice (some ⟨b i, 0, none⟩) n n)) (hr : ∀ i, i < n → Own w (b i) Ti ((List.range n).map fun j => .int .i64 (M i j))) (hn : n ≤ 1000) :
    IM w (.slice (some ⟨g, 0, none⟩) n n) n M := by
  obtain ⟨r, _⟩ := h.rules
  refine ⟨_, _, rfl, Nat.le_refl _, hn, fun i hi => ⟨g, 0, b i, 0, n, rfl, ?_, Nat.le_refl _, fun j hj => ?_⟩⟩
  · rw [r, Nat.zero_add]; simp [hi]
  · obtain ⟨r2, _⟩ := (hr i hi).rules
    rw [r2, Nat.zero_add]; simp [hj]
def m22 (a b c d : Int) (i j : Nat) : Int := if i = 0 then (if j = 0 then a else b) else (if j = 0 then c else d)
theorem im22 (y : World) (a b c d : Int) : IM (((y.alloc (.cells #[.int .i64 a, .int .i64 b] 3)).alloc (.cells #[.int .i64 c, .int .i64 d] 3)).alloc (.cells #[.slice (some ⟨y.heap.size, 0, none⟩) 2 2, .slice (some ⟨y.heap.size + 1, 0, none⟩) 2 2] 23)) (.slice (some ⟨y.heap.size + 1 + 1, 0, none⟩) 2 2) 2 (m22 a b c d) := by
  have h3 := own_third y 23 [.slice (some ⟨y.heap.size, 0, none⟩) 2 2, .slice (some ⟨y.heap.size + 1, 0, none⟩) 2 2] (.cells #[.int .i64 a, .int .i64 b] 3) (.cells #[.int .i64 c, .int .i64 d] 3)
  have h1 := (own_first y 3 [.int .i64 a, .int .i64 b] (.cells #[.int .i64 c, .int .i64 d] 3)).alloc (.cells #[.slice (some ⟨y.heap.size, 0, none⟩) 2 2, .slice (some ⟨y.heap.size + 1, 0, none⟩) 2 2] 23)
  have h2 := (own_second y 3 [.int .i64 c, .int .i64 d] (.cells #[.int .i64 a, .int .i64 b] 3)).alloc (.cells #[.slice (some ⟨y.heap.size, 0, none⟩) 2 2, .slice (some ⟨y.heap.size + 1, 0, none⟩) 2 2] 23)
  refine im_of_own (Ti := 3) 2 (m22 a b c d) (fun i => y.heap.size + i) h3 (fun i hi => ?_) (by omega)
  rcases (by omega : i = 0 ∨ i = 1) with rfl | rfl
  · exact h1
  · exact h2
def m33 (a b c : Int) (_i j : Nat) : Int := if j = 0 then a else if j = 1 then b else c
theorem im33 (y : World) (a b c : Int) : IM ((((y.alloc (.cells #[.int .i64 a, .int .i64 b, .int .i64 c] 3)).alloc (.cells #[.int .i64 a, .int .i64 b, .int .i64 c] 3)).alloc (.cells #[.int .i64 a, .int .i64 b, .int .i64 c] 3)).alloc (.cells #[.slice (some ⟨y.heap.size, 0, none⟩) 3 3, .slice (some ⟨y.heap.size + 1, 0, none⟩) 3 3, .slice (some ⟨y.heap.size + 1 + 1, 0, none⟩) 3 3] 23)) (.slice (some ⟨y.heap.size + 1 + 1 + 1, 0, none⟩) 3 3) 3 (m33 a b c) := by
  have h4 := own_4th y 23 [.slice (some ⟨y.heap.size, 0, none⟩) 3 3, .slice (some ⟨y.heap.size + 1, 0, none⟩) 3 3, .slice (some ⟨y.heap.size + 1 + 1, 0, none⟩) 3 3] (.cells #[.int .i64 a, .int .i64 b, .int .i64 c] 3) (.cells #[.int .i64 a, .int .i64 b, .int .i64 c] 3) (.cells #[.int .i64 a, .int .i64 b, .int .i64 c] 3)
  have h1 := ((own_first y 3 [.int .i64 a, .int .i64 b, .int .i64 c] (.cells #[.int .i64 a, .int .i64 b, .int .i64 c] 3)).alloc (.cells #[.int .i64 a, .int .i64 b, .int .i64 c] 3)).alloc (.cells #[.slice (some ⟨y.heap.size, 0, none⟩) 3 3, .slice (some ⟨y.heap.size + 1, 0, none⟩) 3 3, .slice (some ⟨y.heap.size + 1 + 1, 0, none⟩) 3 3] 23)
  have h2 := ((own_second y 3 [.int .i64 a, .int .i64 b, .int .i64 c] (.cells #[.int .i64 a, .int .i64 b, .int .i64 c] 3)).alloc (.cells #[.int .i64 a, .int .i64 b, .int .i64 c] 3)).alloc (.cells #[.slice (some ⟨y.heap.size, 0, none⟩) 3 3, .slice (some ⟨y.heap.size + 1, 0, none⟩) 3 3, .slice (some ⟨y.heap.size + 1 + 1, 0, none⟩) 3 3] 23)
  have h3 := (own_third y 3 [.int .i64 a, .int .i64 b, .int .i64 c] (.cells #[.int .i64 a, .int .i64 b, .int .i64 c] 3) (.cells #[.int .i64 a, .int .i64 b, .int .i64 c] 3)).alloc (.cells #[.slice (some ⟨y.heap.size, 0, none⟩) 3 3, .slice (some ⟨y.heap.size + 1, 0, none⟩) 3 3, .slice (some ⟨y.heap.size + 1 + 1, 0, none⟩) 3 3] 23)
  refine im_of_own (Ti := 3) 3 (m33 a b c) (fun i => y.heap.size + i) h4 (fun i hi => ?_) (by omega)
  rcases (by omega : i = 0 ∨ i = 1 ∨ i = 2) with rfl | rfl | rfl
  · exact h1
  · exact h2
  · exact h3
theorem two_cases {p : Nat → Nat → Prop} (h : p 0 0 ∧ p 0 1 ∧ p 1 0 ∧ p 1 1) : ∀ i j, i < 2 → j < 2 → p i j := by
  intro i j hi hj
  rcases (by omega : i = 0 ∨ i = 1) with rfl | rfl <;> rcases (by omega : j = 0 ∨ j = 1) with rfl | rfl
  · exact h.1
  · exact h.2.1
  · exact h.2.2.1
  · exact h.2.2.2
theorem d41 : ∀ i j : Nat, i < 2 → j < 2 → dcell [(0, 0), (1, 0)] [⟨1, 0, 3⟩] (j : Int) (i : Int) = m22 0 3 0 3 i j := two_cases (p := fun (i j : Nat) => dcell [(0, 0), (1, 0)] [⟨1, 0, 3⟩] (j : Int) (i : Int) = m22 0 3 0 3 i j) (by decide +kernel)
theorem s41 : ∀ i j : Nat, i < 2 → j < 2 → tspr (m33 0 1 0) 2 (m22 0 3 0 0) i j = m22 0 3 0 3 i j := two_cases (p := fun (i j : Nat) => tspr (m33 0 1 0) 2 (m22 0 3 0 0) i j = m22 0 3 0 3 i j) (by decide +kernel)
theorem b41 : BM 2 3 (m33 0 1 0) := ⟨by omega, by omega, rfl, fun v u _ _ => by unfold m33; split <;> (try split) <;> omega, by decide⟩
theorem i41 (a b c d : Int) (h : -1000000000 ≤ a ∧ a ≤ 1000000000 ∧ -1000000000 ≤ b ∧ b ≤ 1000000000 ∧ -1000000000 ≤ c ∧ c ≤ 1000000000 ∧ -1000000000 ≤ d ∧ d ≤ 1000000000) : inR 1000000000 2 (m22 a b c d) := fun v u _ _ => by unfold m22; split <;> split <;> omega
set_option maxRecDepth 100000 in
set_option maxHeartbeats 16000000 in
theorem alive41_any (w : World) : Calls Try.prog 28 #[] w fun e w' => e = .returned (.bool true) ∧ Below w.heap.size w w' := by
  go_enter Try.func28, Try.ntmps28
  have oP := own_first w 113 [.int .i64 0, .int .i64 0, .int .i64 1, .int .i64 0] (.cells #[.int .i64 1, .int .i64 0, .int .i64 3] 62)
  have oL := own_second w 62 [.int .i64 1, .int .i64 0, .int .i64 3] (.cells #[.int .i64 0, .int .i64 0, .int .i64 1, .int .i64 0] 113)
  have hy := ba2 w (.cells #[.int .i64 0, .int .i64 0, .int .i64 1, .int .i64 0] 113) (.cells #[.int .i64 1, .int .i64 0, .int .i64 3] 62)
  have sP := sf_of_own [(0, 0), (1, 0)] 2 rfl (by omega) oP
  have sL := st_of_own41 [⟨1, 0, 3⟩] 1 rfl (by omega) oL
  clear oP oL
  go_wp2_with fail
  refine (dirty_any [(0, 0), (1, 0)] [⟨1, 0, 3⟩] 2 _ _ _ sP sL (by decide +kernel) (by omega) (by omega)).mono ?_
  rintro e y1 ⟨u, rfl, hI, hq⟩
  clear sP sL
  replace hy := below_to hy hq
  clear hq
  replace hI := hI.congr d41
  obtain ⟨ad, cap, rfl, _, _, _⟩ := hI.open
  have hX := im22 y1 0 3 0 0
  have hb := ba3 y1 (.cells #[.int .i64 0, .int .i64 3] 3) (.cells #[.int .i64 0, .int .i64 0] 3) (.cells #[.slice (some ⟨y1.heap.size, 0, none⟩) 2 2, .slice (some ⟨y1.heap.size + 1, 0, none⟩) 2 2] 23)
  have hsz : (((y1.alloc (.cells #[.int .i64 0, .int .i64 3] 3)).alloc (.cells #[.int .i64 0, .int .i64 0] 3)).alloc (.cells #[.slice (some ⟨y1.heap.size, 0, none⟩) 2 2, .slice (some ⟨y1.heap.size + 1, 0, none⟩) 2 2] 23)).heap.size = y1.heap.size + 1 + 1 + 1 := by simp
  have hY := im33 (((y1.alloc (.cells #[.int .i64 0, .int .i64 3] 3)).alloc (.cells #[.int .i64 0, .int .i64 0] 3)).alloc (.cells #[.slice (some ⟨y1.heap.size, 0, none⟩) 2 2, .slice (some ⟨y1.heap.size + 1, 0, none⟩) 2 2] 23)) 0 1 0
  have hb2 := ba4 (((y1.alloc (.cells #[.int .i64 0, .int .i64 3] 3)).alloc (.cells #[.int .i64 0, .int .i64 0] 3)).alloc (.cells #[.slice (some ⟨y1.heap.size, 0, none⟩) 2 2, .slice (some ⟨y1.heap.size + 1, 0, none⟩) 2 2] 23)) (.cells #[.int .i64 0, .int .i64 1, .int .i64 0] 3) (.cells #[.int .i64 0, .int .i64 1, .int .i64 0] 3) (.cells #[.int .i64 0, .int .i64 1, .int .i64 0] 3) (.cells #[.slice (some ⟨y1.heap.size + 1 + 1 + 1, 0, none⟩) 3 3, .slice (some ⟨y1.heap.size + 1 + 1 + 1 + 1, 0, none⟩) 3 3, .slice (some ⟨y1.heap.size + 1 + 1 + 1 + 1 + 1, 0, none⟩) 3 3] 23)
  rw [hsz] at hY
  have hX2 := hX.below hb2
  have hI2 := (hI.below hb).below hb2
  have hy2 := below_to (below_to hy hb) hb2
  go_wp2_with fail
  refine (spread_any 2 3 (m22 0 3 0 0) (m33 0 1 0) _ _ _ hX2 hY b41 (i41 _ _ _ _ (by decide))).mono ?_
  rintro e y2 ⟨(⟨x, rfl, h1, h2⟩ | ⟨rfl, h2⟩), hq⟩
  case inr => exact absurd (fun i j hi hj => by rw [s41 i j hi hj]; exact i41 0 3 0 3 (by decide) i j hi hj) h2
  replace h1 := h1.congr s41
  replace hI := hI2.below hq
  replace hy := below_to hy2 hq
  clear hX hY hX2 hI2 hy2 hb hb2 hsz hq h2
  obtain ⟨adx, capx, rfl, _, _, _⟩ := h1.open
  have hX := im22 y2 0 3 0 3
  have hb := ba3 y2 (.cells #[.int .i64 0, .int .i64 3] 3) (.cells #[.int .i64 0, .int .i64 3] 3) (.cells #[.slice (some ⟨y2.heap.size, 0, none⟩) 2 2, .slice (some ⟨y2.heap.size + 1, 0, none⟩) 2 2] 23)
  go_wp2_with fail
  refine (rsame40_any 2 (m22 0 3 0 3) _ _ _ (hI.below hb) hX).mono ?_
  rintro e y3 ⟨rfl, hq⟩
  replace hI := (hI.below hb).below hq
  replace h1 := (h1.below hb).below hq
  replace hy := below_to (below_to hy hb) hq
  clear hX hb hq
  go_wp2_with fail
  refine (rsame40_any 2 (m22 0 3 0 3) _ _ _ h1 hI).mono ?_
  rintro e y4 ⟨rfl, hq⟩
  replace hy := below_to hy hq
  go_wp2
  go_ret
  exact ⟨rfl, hy⟩
end Go.Proofs.Ythlcmlngmcoknaa

/- What is proved here: the contracts of clean.brightest and clean.subtract. Condition: an image and a beam that can be read, a component within the cells. -/
namespace Go.Proofs.Ythlcmlngmcoknaa
open Go.RowKit

/-- A cell of an image, and its number. -/
def bright_post (w : World) (n : Nat) (M : Nat → Nat → Int) (e : Ending) (w' : World) : Prop :=
  ∃ x y : Nat, x < n ∧ y < n ∧ e = .returned (.tuple #[.int .i64 x, .int .i64 y, .int .i64 (M y x)]) ∧ Below w.heap.size w w'
set_option maxRecDepth 100000 in
set_option maxHeartbeats 16000000 in
theorem brightest_any (n : Nat) (M : Nat → Nat → Int) (v : Value) (w : World) (hA : IM w v n M) (n1 : 1 ≤ n) :
    Calls Try.prog 132 #[v] w (bright_post w n M) := by
  have A0 := Lib.hid hA
  obtain ⟨ada, capa, rfl, ha1, _, HA⟩ := hA.open
  obtain ⟨ba, oa, ba', oa', ca', rfl, ca1, ca2, HA'⟩ := HA.out 0 (by omega)
  have ca3 := HA'.out 0 (by omega)
  rw [Nat.add_zero] at ca1 ca3
  clear hA HA HA'
  have zn : (0 : Int) < n := by omega
  go_enter Try.func132, Try.ntmps132
  go_wp2
  clear ca1 ca3
  go_loopw [2, 3, 4, 16] (fun xv yv zv iv wr => ∃ k : Nat, k ≤ n ∧ iv = .int .i64 k ∧ (∃ a b : Nat, a < n ∧ b < n ∧ xv = .int .i64 a ∧ yv = .int .i64 b ∧ zv = .int .i64 (M b a)) ∧ Below w.heap.size w wr) (fun _ _ _ iv _ => n - (intOf iv).toNat)
  case atStart => exact ⟨0, Nat.zero_le _, rfl, ⟨0, 0, by omega, by omega, rfl, rfl, rfl⟩, Below.refl _ _⟩
  case round =>
    obtain ⟨k, hk, rfl, ⟨a, b, ha, hb, rfl, rfl, rfl⟩, hC⟩ := hrel
    rename World => V
    by_cases hlt : k < n
    · obtain ⟨_, _, e, _, _, HA⟩ := (A0.out.below hC).open
      cases e
      obtain ⟨b1, o1, b2, o2, c2, e, d1, d2, HD⟩ := HA.out k hlt
      cases e
      clear HA
      go_wp2
      go_loopw [2, 3, 4, 23] (fun xv yv zv iv wr => ∃ q : Nat, q ≤ n ∧ iv = .int .i64 q ∧ (∃ a b : Nat, a < n ∧ b < n ∧ xv = .int .i64 a ∧ yv = .int .i64 b ∧ zv = .int .i64 (M b a)) ∧ Below V.heap.size V wr) (fun _ _ _ iv _ => n - (intOf iv).toNat)
      case atStart => exact ⟨0, Nat.zero_le _, rfl, ⟨a, b, ha, hb, rfl, rfl, rfl⟩, Below.refl _ _⟩
      case round =>
        clear ha hb
        obtain ⟨q, hq, rfl, ⟨a, b, ha, hb, rfl, rfl, rfl⟩, hD⟩ := hrel
        rename World => U
        by_cases hql : q < n
        · have d3 := below_cell hD (HD.out q hql)
          obtain ⟨z, hz⟩ : ∃ z, z = M k q := ⟨_, rfl⟩
          rw [← hz] at d3
          have HZ := Lib.hid hz
          clear hz
          by_cases g1 : M b a < z
          · have q1 : decide (M b a < z) = true := by simpa using g1
            go_wp2
            go_roundw
            case rel => exact ⟨q + 1, by omega, by go_num, ⟨q, k, hql, hlt, rfl, rfl, by rw [HZ.out]⟩, hD⟩
            case measure => simp [intOf]; try omega
          · have q1 : decide (M b a < z) = false := by simpa using g1
            go_wp2
            go_roundw
            case rel => exact ⟨q + 1, by omega, by go_num, ⟨a, b, ha, hb, rfl, rfl, rfl⟩, hD⟩
            case measure => simp [intOf]; try omega
        · obtain rfl : q = n := by omega
          go_wp2
          go_roundw
          case rel => exact ⟨k + 1, by omega, by go_num, ⟨a, b, ha, hb, rfl, rfl, rfl⟩, below_to hC hD⟩
          case measure => simp [intOf]; try omega
    · obtain rfl : k = n := by omega
      go_wp2
      refine bodyPost_ret (v := .tuple #[.int .i64 a, .int .i64 b, .int .i64 (M b a)]) (by simp [results, Try.results132, go_sem]) rfl ⟨a, b, ha, hb, rfl, hC⟩

def blks (bb : Nat → Nat) (n : Nat) : List Nat := (List.range n).map bb
theorem blks_mem {bb : Nat → Nat} {n i : Nat} (h : i < n) : bb i ∈ blks bb n := List.mem_map.2 ⟨i, List.mem_range.2 h, rfl⟩
theorem mod_tr {bs : List Nat} {w1 w2 w3 : World} (h1 : Mod bs w1 w2) (h2 : Mod bs w2 w3) : Mod bs w1 w3 :=
  ⟨h2.os.trans h1.os, h2.tape.trans h1.tape, h2.output.trans h1.output, Nat.le_trans h1.size h2.size, fun b hb hn => (h2.block b (by have := h1.size; omega) hn).trans (h1.block b hb hn)⟩
section
variable {w w' : World} {B Lm g : Nat} {Tr Ti : TypeId} {rest : List Value} {bb cp : Nat → Nat} {ex : Nat → List Value} {n W : Nat} {M : Nat → Nat → Int}
theorem MatO.blksB (h : MatO w B Lm g Tr Ti rest bb cp ex n W M) : ∀ b ∈ blks bb n, B ≤ b ∧ b < Lm ∧ b ≠ g := fun b hb => by
  obtain ⟨i, hi, rfl⟩ := List.mem_map.1 hb
  have := h.blk i (List.mem_range.1 hi)
  omega
end
/-- Numbers that are being replaced. -/
def midM (M S : Nat → Nat → Int) (y x : Nat) (r c : Nat) : Int := if r < y ∨ (r = y ∧ c < x) then S r c else M r c
theorem midM_00 (M S : Nat → Nat → Int) (r c : Nat) : midM M S 0 0 r c = M r c := by unfold midM; rw [if_neg (by omega)]
theorem midM_at (M S : Nat → Nat → Int) (y x : Nat) : midM M S y x y x = M y x := by unfold midM; rw [if_neg (by omega)]
theorem midM_put (M S : Nat → Nat → Int) (y x r c : Nat) : tput (midM M S y x) y x (S y x) r c = midM M S y (x + 1) r c := by
  unfold tput midM
  by_cases h : r = y ∧ c = x
  · rw [if_pos h, if_pos (by omega), h.1, h.2]
  · rw [if_neg h]
    by_cases h2 : r < y ∨ (r = y ∧ c < x)
    · rw [if_pos h2, if_pos (by omega)]
    · rw [if_neg h2, if_neg (by omega)]
theorem midM_row (M S : Nat → Nat → Int) (y n r c : Nat) (hc : c < n) : midM M S y n r c = midM M S (y + 1) 0 r c := by
  unfold midM
  by_cases h2 : r < y ∨ (r = y ∧ c < n)
  · rw [if_pos h2, if_pos (by omega)]
  · rw [if_neg h2, if_neg (by omega)]
theorem midM_end (M S : Nat → Nat → Int) (n r c : Nat) (hr : r < n) : midM M S n 0 r c = S r c := by unfold midM; rw [if_pos (by omega)]
/-- What subtract does. -/
def sub_post (w0 w : World) (Lm g : Nat) (Tr Ti : TypeId) (rest : List Value) (bb cp : Nat → Nat) (ex : Nat → List Value) (n : Nat) (S : Nat → Nat → Int) (e : Ending) (w' : World) : Prop :=
  ∃ r : Bool, e = .returned (.bool r) ∧ Mod (blks bb n) w w' ∧ (r = true → inR 1000000000 n S ∧ MatO w' w0.heap.size Lm g Tr Ti rest bb cp ex n n S) ∧ (r = false → ¬ inR 1000000000 n S)
set_option maxRecDepth 100000 in
set_option maxHeartbeats 16000000 in
theorem subtract_any (n m : Nat) (M N : Nat → Nat → Int) (p : T3) (w0 : World) (Lm g cap : Nat) (rest : List Value) (bb cp : Nat → Nat) (ex : Nat → List Value) (vb : Value) (w : World)
    (hM : MatO w w0.heap.size Lm g 23 3 rest bb cp ex n n M) (hw : Below w0.heap.size w0 w) (hB : IM w0 vb m N) (hb : BM n m N) (hr : inR 1000000000 n M) (hp : (0 ≤ p.x ∧ p.x < n ∧ 0 ≤ p.y ∧ p.y < n) ∧ -1000000000 ≤ p.f ∧ p.f ≤ 1000000000) :
    Calls Try.prog 91 #[.slice (some ⟨g, 0, none⟩) n cap, vb, .agg #[.int .i64 p.x, .int .i64 p.y, .int .i64 p.f]] w (sub_post w0 w Lm g 23 3 rest bb cp ex n (subM N n M p)) := by
  have B0 := Lib.hid hB
  have HB := Lib.hid hb
  have HR := Lib.hid hr
  have HP := Lib.hid hp
  have n1 := hb.n1
  have n8 := hb.n8
  have HM : Hid (m = 2 * n - 1) := hb.hm
  obtain ⟨adb, capb, rfl, hb1, _, _⟩ := hB.open
  clear hB hb hr hp
  obtain ⟨px, hpx⟩ : ∃ px : Nat, p.x = px := ⟨p.x.toNat, by have := HP.out; omega⟩
  obtain ⟨py, hpy⟩ : ∃ py : Nat, p.y = py := ⟨p.y.toNat, by have := HP.out; omega⟩
  have hxn : px < n := by have := HP.out; omega
  have hyn : py < n := by have := HP.out; omega
  have SD : Hid (∀ v u, subM N n M p v u = M v u - p.f * N (v + (n - 1) - py) (u + (n - 1) - px)) := fun v u => by unfold subM; rw [hpx, hpy]; simp
  have FB := Lib.hid HP.out.2
  rw [hpx, hpy]
  clear hpx hpy HP
  generalize subM N n M p = S at *
  generalize p.f = f at *
  have oP := Own.new w 132 [.int .i64 px, .int .i64 py, .int .i64 f]
  have hy := ba1 w (.cells #[.int .i64 px, .int .i64 py, .int .i64 f] 132)
  go_enter Try.func91, Try.ntmps91
  go_upto_region 1 with fail
  have BL := Lib.hid hM.blksB
  have hPn : w.heap.size ∉ blks bb n := fun h => by
    have := BL.out _ h
    obtain ⟨i, hi, e⟩ := List.mem_map.1 h
    have := (hM.row i (List.mem_range.1 hi)).lt
    omega
  obtain ⟨bP, hbP⟩ : ∃ B, B = w.heap.size := ⟨_, rfl⟩
  rw [← hbP] at oP hPn ⊢
  clear hbP
  generalize w.alloc (.cells #[.int .i64 px, .int .i64 py, .int .i64 f] 132) = y at *
  replace hM := hM.below hy
  replace hw : Below w0.heap.size w0 y := below_to hw hy
  have OP := Lib.hid oP
  have HN := Lib.hid hPn
  clear oP hPn
  go_wp2
  go_loopw [17] (fun iv wr => ∃ v : Nat, v ≤ n ∧ iv = .int .i64 v ∧ Hid (∀ r c, r < v → c < n → -1000000000 ≤ S r c ∧ S r c ≤ 1000000000) ∧ MatO wr w0.heap.size Lm g 23 3 rest bb cp ex n n (midM M S v 0) ∧ Mod (blks bb n) y wr) (fun iv _ => n - (intOf iv).toNat)
  case atStart => exact ⟨0, Nat.zero_le _, rfl, fun r c h => absurd h (Nat.not_lt_zero _), hM.congr (fun r c _ _ => (midM_00 M S r c).symm), Mod.refl _ _⟩
  case round =>
    clear hM
    obtain ⟨v, hv, rfl, hR, MX, hC⟩ := hrel
    rename World => V
    by_cases hlt : v < n
    · have CO := MX.cell_out hlt
      obtain ⟨j1, hj1⟩ : ∃ j1, j1 = v + (n - 1) - py := ⟨_, rfl⟩
      have J1 : (v : Int) - py + n - 1 = (j1 : Int) := by omega
      have hj1m : j1 < m := by have := HM.out; omega
      have HJ1 := Lib.hid hj1
      clear hj1
      go_wp2
      clear CO
      go_loopw [24] (fun iv wr => ∃ u : Nat, u ≤ n ∧ iv = .int .i64 u ∧ Hid (∀ c, c < u → -1000000000 ≤ S v c ∧ S v c ≤ 1000000000) ∧ MatO wr w0.heap.size Lm g 23 3 rest bb cp ex n n (midM M S v u) ∧ Mod (blks bb n) y wr) (fun iv _ => n - (intOf iv).toNat)
      case atStart => exact ⟨0, Nat.zero_le _, rfl, fun c h => absurd h (Nat.not_lt_zero _), MX, hC⟩
      case round =>
        clear MX hC
        obtain ⟨u, hu, rfl, hX, MX, hC⟩ := hrel
        rename World => U
        by_cases hul : u < n
        · have hU := hC.below hw (fun b hb => (BL.out b hb).1)
          obtain ⟨_, _, e, _, _, HBo⟩ := (B0.out.below hU).open
          cases e
          obtain ⟨ba, ob, ba', ob', cb', rfl, cb1, cb2, HB'⟩ := HBo.out j1 hj1m
          clear HBo
          obtain ⟨j2, hj2⟩ : ∃ j2, j2 = u + (n - 1) - px := ⟨_, rfl⟩
          have J2 : (u : Int) - px + n - 1 = (j2 : Int) := by omega
          have hj2m : j2 < m := by have := HM.out; omega
          have cb3 := HB'.out j2 hj2m
          clear HB'
          have SE := SD.out v u
          rw [← hj2, ← HJ1.out] at SE
          have RM := HR.out v u hlt hul
          have RN := HB.out.rng j1 j2 hj1m hj2m
          have FB' := FB.out
          have PB := wr_mulbd' (x := f) (y := N j1 j2) (X := 1000000000) (Y := 1000) (Z := 1000000000000) FB' RN (by decide)
          have E1 : wrap64 (M v u - wrap64 (f * N j1 j2)) = S v u := by
            rw [wr_sub_r, ← SE]; exact Go.IntWalk.wrap64_in _ (by rw [SE]; omega)
          have CA := MX.cell_at hlt hul
          rw [midM_at] at CA
          have NO : Hid (¬ (-1000000000 ≤ S v u ∧ S v u ≤ 1000000000) → ¬ inR 1000000000 n S) := fun h h2 => h (h2 v u hlt hul)
          have YES : Hid ((-1000000000 ≤ S v u ∧ S v u ≤ 1000000000) → ∀ c, c < u + 1 → -1000000000 ≤ S v c ∧ S v c ≤ 1000000000) := fun h c hc => by
            rcases Nat.lt_or_ge c u with h1 | h1
            · exact hX.out c h1
            · obtain rfl : c = u := by omega
              exact h
          have PD := Lib.hid (midM_put M S v u)
          have oP := hC.own OP.out HN.out
          clear SE RM RN FB' PB hj2
          generalize M v u = z at *
          generalize N j1 j2 = t at *
          generalize S v u = s at *
          obtain ⟨rP, fP⟩ := oP.rules
          have zP := oP.lt
          have FA := MX.free_at hlt u
          by_cases q5 : inB9 s = true
          · have HY := Lib.hid (YES.out ((inB9_iff _).1 q5))
            go_wp2
            go_quiet (fail)
            go_wp2
            go_quiet (fail)
            go_wp2_with fail
            refine (inRange_of _ true _ q5).mono ?_
            rintro e _ ⟨rfl, rfl⟩
            go_wp2
            go_roundw
            case rel => exact ⟨u + 1, by omega, by go_num, HY, ((MX.below (below_drewN _ _)).put hlt hul s).congr (fun r c _ _ => PD.out r c), (mod_tr hC (Mod.of_below (below_drewN _ _))).set (blks_mem hlt) _⟩
            case measure => simp [intOf]; try omega
          · have q6 : inB9 s = false := by simpa using q5
            have HN2 := Lib.hid (NO.out (fun h => q5 ((inB9_iff _).2 h)))
            go_wp2
            go_quiet (fail)
            go_wp2
            go_quiet (fail)
            go_wp2_with fail
            refine (inRange_of _ false _ q6).mono ?_
            rintro e _ ⟨rfl, rfl⟩
            go_wp2
            refine bodyPost_ret (v := .bool false) (by simp [results, Try.results91, go_sem]) rfl ⟨false, rfl, mod_tr (Mod.of_below hy) (mod_tr hC (Mod.of_below (below_drewN _ _))), fun h => (by cases h), fun _ => HN2.out⟩
        · obtain rfl : u = n := by omega
          go_wp2
          go_roundw
          case rel =>
            refine ⟨v + 1, by omega, by go_num, fun r c hr hc => ?_, MX.congr (fun r c _ hc => midM_row M S v u r c hc), hC⟩
            rcases Nat.lt_or_ge r v with h1 | h1
            · exact hR.out r c h1 hc
            · obtain rfl : r = v := by omega
              exact hX.out c hc
          case measure => simp [intOf]; try omega
    · obtain rfl : v = n := by omega
      go_wp2
      refine bodyPost_ret (v := .bool true) (by simp [results, Try.results91, go_sem]) rfl ⟨true, rfl, mod_tr (Mod.of_below hy) hC, fun _ => ⟨hR.out, MX.congr (fun r c hr _ => midM_end M S v r c hr)⟩, fun h => by cases h⟩
end Go.Proofs.Ythlcmlngmcoknaa
