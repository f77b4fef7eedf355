/- What is proved here: contracts of functions and plain facts, several texts in one; each one says ahead what it proves, and its conditions. -/
import Derived.Test.YthlcmlngmcoknaaC01
import Derived.Test.YthlcmlngmcoknaaProg
/- What is proved here: quarters of a turn, the dirty image of a sky, and the spread image of its model with its beam are the same, in plain Lean; and what a log takes off an image. No program in sight. -/
namespace Go.Proofs.Ythlcmlngmcoknaa

/-- A cell with a number: a source of a sky, or a component of a log. -/
structure T3 where
  x : Int
  y : Int
  f : Int
deriving DecidableEq
/-- The two parts of the unit after so many quarters of a turn. -/
def tqc (k : Int) : Int := if k % 4 = 0 then 1 else if k % 4 = 2 then -1 else 0
def tqs (k : Int) : Int := if k % 4 = 1 then 1 else if k % 4 = 3 then -1 else 0
theorem tqc_sub (a b : Int) : tqc (a - b) = tqc a * tqc b + tqs a * tqs b := by
  unfold tqc tqs
  rcases (by omega : a % 4 = 0 ∨ a % 4 = 1 ∨ a % 4 = 2 ∨ a % 4 = 3) with h | h | h | h <;>
  rcases (by omega : b % 4 = 0 ∨ b % 4 = 1 ∨ b % 4 = 2 ∨ b % 4 = 3) with g | g | g | g
  · rw [show (a - b) % 4 = 0 by omega, h, g]; decide
  · rw [show (a - b) % 4 = 3 by omega, h, g]; decide
  · rw [show (a - b) % 4 = 2 by omega, h, g]; decide
  · rw [show (a - b) % 4 = 1 by omega, h, g]; decide
  · rw [show (a - b) % 4 = 1 by omega, h, g]; decide
  · rw [show (a - b) % 4 = 0 by omega, h, g]; decide
  · rw [show (a - b) % 4 = 3 by omega, h, g]; decide
  · rw [show (a - b) % 4 = 2 by omega, h, g]; decide
  · rw [show (a - b) % 4 = 2 by omega, h, g]; decide
  · rw [show (a - b) % 4 = 1 by omega, h, g]; decide
  · rw [show (a - b) % 4 = 0 by omega, h, g]; decide
  · rw [show (a - b) % 4 = 3 by omega, h, g]; decide
  · rw [show (a - b) % 4 = 3 by omega, h, g]; decide
  · rw [show (a - b) % 4 = 2 by omega, h, g]; decide
  · rw [show (a - b) % 4 = 1 by omega, h, g]; decide
  · rw [show (a - b) % 4 = 0 by omega, h, g]; decide
theorem tqc_neg (a : Int) : tqc (-a) = tqc a := by
  unfold tqc
  rcases (by omega : a % 4 = 0 ∨ a % 4 = 1 ∨ a % 4 = 2 ∨ a % 4 = 3) with h | h | h | h
  · rw [show (-a) % 4 = 0 by omega, h]
  · rw [show (-a) % 4 = 3 by omega, h]; decide
  · rw [show (-a) % 4 = 2 by omega, h]
  · rw [show (-a) % 4 = 1 by omega, h]; decide
theorem tqs_neg (a : Int) : tqs (-a) = - tqs a := by
  unfold tqs
  rcases (by omega : a % 4 = 0 ∨ a % 4 = 1 ∨ a % 4 = 2 ∨ a % 4 = 3) with h | h | h | h
  · rw [show (-a) % 4 = 0 by omega, h]; decide
  · rw [show (-a) % 4 = 3 by omega, h]; decide
  · rw [show (-a) % 4 = 2 by omega, h]; decide
  · rw [show (-a) % 4 = 1 by omega, h]; decide
theorem tqc_bd (a : Int) : tqc a = 0 ∨ tqc a = 1 ∨ tqc a = -1 := by
  unfold tqc
  split
  · simp
  · split <;> simp
theorem tqs_bd (a : Int) : tqs a = 0 ∨ tqs a = 1 ∨ tqs a = -1 := by
  unfold tqs
  split
  · simp
  · split <;> simp
theorem tqc_0 : tqc 0 = 1 := rfl
/-- Sums over lists. -/
theorem sum_add {α : Type} (L : List α) (g h : α → Int) : (L.map fun a => g a + h a).sum = (L.map g).sum + (L.map h).sum := by
  induction L with
  | nil => rfl
  | cons a L ih => simp only [List.map_cons, List.sum_cons, ih]; omega
theorem sum_mul {α : Type} (L : List α) (g : α → Int) (c : Int) : (L.map fun a => g a * c).sum = (L.map g).sum * c := by
  induction L with
  | nil => simp
  | cons a L ih => simp only [List.map_cons, List.sum_cons, ih, Int.add_mul]
theorem sum_mul' {α : Type} (L : List α) (g : α → Int) (c : Int) : (L.map fun a => c * g a).sum = c * (L.map g).sum := by
  induction L with
  | nil => simp
  | cons a L ih => simp only [List.map_cons, List.sum_cons, ih, Int.mul_add]
theorem sum_congr {α : Type} {L : List α} {g h : α → Int} (e : ∀ a ∈ L, g a = h a) : (L.map g).sum = (L.map h).sum := by rw [List.map_congr_left e]
theorem sum_exch {α β : Type} (L : List α) (l : List β) (h : α → β → Int) : (L.map fun a => (l.map (h a)).sum).sum = (l.map fun b => (L.map fun a => h a b).sum).sum := by
  induction L with
  | nil =>
    simp only [List.map_nil, List.sum_nil]
    induction l with
    | nil => rfl
    | cons b l ih => simp only [List.map_cons, List.sum_cons, ← ih]; rfl
  | cons a L ih => simp only [List.map_cons, List.sum_cons, ih, sum_add]
theorem sum_bd {α : Type} {L : List α} {g : α → Int} {b : Int} (h : ∀ a ∈ L, -b ≤ g a ∧ g a ≤ b) : -(b * L.length) ≤ (L.map g).sum ∧ (L.map g).sum ≤ b * L.length := by
  induction L with
  | nil => simp
  | cons a L ih =>
    have h1 := h a (by simp)
    have h2 := ih fun x hx => h x (by simp [hx])
    simp only [List.map_cons, List.sum_cons, List.length_cons, Int.natCast_add, Int.mul_add]
    omega
/-- Sums over indices. -/
def su (f : Nat → Int) : Nat → Int
  | 0 => 0
  | k + 1 => su f k + f k
theorem su_add (f g : Nat → Int) (n : Nat) : su (fun i => f i + g i) n = su f n + su g n := by
  induction n with
  | zero => rfl
  | succ n ih => simp only [su, ih]; omega
theorem su_sub (f g : Nat → Int) (n : Nat) : su (fun i => f i - g i) n = su f n - su g n := by
  induction n with
  | zero => rfl
  | succ n ih => simp only [su, ih]; omega
theorem su_zero (n : Nat) : su (fun _ => 0) n = 0 := by
  induction n with
  | zero => rfl
  | succ n ih => simp only [su, ih]; rfl
theorem su_congr {f g : Nat → Int} {n : Nat} (h : ∀ i, i < n → f i = g i) : su f n = su g n := by
  induction n with
  | zero => rfl
  | succ n ih => simp only [su]; rw [ih fun i hi => h i (by omega), h n (by omega)]
theorem su_bd {f : Nat → Int} {b : Int} {n : Nat} (h : ∀ i, i < n → -b ≤ f i ∧ f i ≤ b) : -(b * n) ≤ su f n ∧ su f n ≤ b * n := by
  induction n with
  | zero => simp [su]
  | succ n ih =>
    have h1 := h n (by omega)
    have h2 := ih fun i hi => h i (by omega)
    simp only [su, Int.natCast_add, Int.mul_add]
    omega
theorem su_one (f : Nat → Int) {n k : Nat} (hk : k < n) : su (fun i => if (k : Int) = i then f i else 0) n = f k := by
  induction n with
  | zero => omega
  | succ n ih =>
    simp only [su]
    by_cases h : k = n
    · subst h
      rw [su_congr (g := fun _ => 0) fun i hi => if_neg (by omega), su_zero, if_pos rfl]; omega
    · rw [ih (by omega), if_neg (by omega)]; omega

/-- The quarters of a cell for a baseline. -/
def Qq (p : List (Int × Int)) (i j : Nat) (x y : Int) : Int := x * ((p.getD j (0, 0)).1 - (p.getD i (0, 0)).1) + y * ((p.getD j (0, 0)).2 - (p.getD i (0, 0)).2)
theorem Qq_sub (p : List (Int × Int)) (i j : Nat) (x y u v : Int) : Qq p i j (x - u) (y - v) = Qq p i j x y - Qq p i j u v := by unfold Qq; rw [Int.sub_mul, Int.sub_mul]; omega
theorem Qq_0 (p : List (Int × Int)) (i j : Nat) : Qq p i j 0 0 = 0 := by unfold Qq; omega
/-- The baselines of n stations, in their order. -/
def prs (n : Nat) : List (Nat × Nat) := (List.range n).flatMap fun i => (List.range (n - 1 - i)).map fun d => (i, i + 1 + d)
/-- The value of a baseline. -/
def vre (p : List (Int × Int)) (l : List T3) (ij : Nat × Nat) : Int := (l.map fun s => s.f * tqc (Qq p ij.1 ij.2 s.x s.y)).sum
def vim (p : List (Int × Int)) (l : List T3) (ij : Nat × Nat) : Int := (l.map fun s => s.f * tqs (Qq p ij.1 ij.2 s.x s.y)).sum
/-- What a baseline adds to a cell of the dirty image. -/
def dterm (p : List (Int × Int)) (l : List T3) (x y : Int) (ij : Nat × Nat) : Int := vre p l ij * tqc (-Qq p ij.1 ij.2 x y) - vim p l ij * tqs (-Qq p ij.1 ij.2 x y)
def dcell (p : List (Int × Int)) (l : List T3) (x y : Int) : Int := ((prs p.length).map (dterm p l x y)).sum
def tbsum (p : List (Int × Int)) (x y : Int) : Int := ((prs p.length).map fun ij => tqc (Qq p ij.1 ij.2 x y)).sum
theorem dterm_is (p : List (Int × Int)) (l : List T3) (x y : Int) (ij : Nat × Nat) : dterm p l x y ij = (l.map fun s => s.f * tqc (Qq p ij.1 ij.2 (s.x - x) (s.y - y))).sum := by
  unfold dterm vre vim
  rw [tqc_neg, tqs_neg, Int.mul_neg, Int.sub_neg, ← sum_mul, ← sum_mul, ← sum_add]
  refine sum_congr fun s _ => ?_
  rw [Qq_sub, tqc_sub, Int.mul_add, Int.mul_assoc, Int.mul_assoc]
theorem dcell_is (p : List (Int × Int)) (l : List T3) (x y : Int) : dcell p l x y = (l.map fun s => s.f * tbsum p (s.x - x) (s.y - y)).sum := by
  unfold dcell
  rw [sum_congr fun ij _ => dterm_is p l x y ij, sum_exch]
  refine sum_congr fun s _ => ?_
  unfold tbsum
  rw [sum_mul']
theorem beam_is (p : List (Int × Int)) (m c r : Int) : dcell p [⟨m, m, 1⟩] c r = tbsum p (m - c) (m - r) := by rw [dcell_is]; simp
theorem prs_mem {n : Nat} {ij : Nat × Nat} (h : ij ∈ prs n) : ij.1 < ij.2 ∧ ij.2 < n := by
  unfold prs at h
  simp only [List.mem_flatMap, List.mem_map, List.mem_range] at h
  obtain ⟨i, hi, d, hd, rfl⟩ := h
  exact ⟨by show i < i + 1 + d; omega, by show i + 1 + d < n; omega⟩
theorem prs_len {n : Nat} (h : n ≤ 8) : (prs n).length ≤ 28 := by
  rcases (by omega : n = 0 ∨ n = 1 ∨ n = 2 ∨ n = 3 ∨ n = 4 ∨ n = 5 ∨ n = 6 ∨ n = 7 ∨ n = 8) with rfl | rfl | rfl | rfl | rfl | rfl | rfl | rfl | rfl <;> decide
theorem prs_pos {n : Nat} (h : 2 ≤ n) : 1 ≤ (prs n).length := by
  have : (0, 1) ∈ prs n := by
    unfold prs
    simp only [List.mem_flatMap, List.mem_map, List.mem_range]
    exact ⟨0, by omega, 0, by omega, rfl⟩
  exact List.length_pos_of_mem this
theorem tbsum_0 (p : List (Int × Int)) : tbsum p 0 0 = (prs p.length).length := by
  unfold tbsum
  rw [sum_congr (h := fun _ => 1) fun ij _ => by rw [Qq_0, tqc_0]]
  generalize prs p.length = L
  induction L with
  | nil => rfl
  | cons a L ih => simp only [List.map_cons, List.sum_cons, ih, List.length_cons]; omega
theorem mul_unit {a b q : Int} (h1 : -b ≤ a) (h2 : a ≤ b) (hq : q = 0 ∨ q = 1 ∨ q = -1) : -b ≤ a * q ∧ a * q ≤ b := by
  rcases hq with rfl | rfl | rfl <;> omega
/-- A sky whose sources are not greater than b. -/
def Small (l : List T3) (b : Int) : Prop := ∀ s ∈ l, 0 ≤ s.f ∧ s.f ≤ b
theorem vre_bd {p : List (Int × Int)} {l : List T3} {b : Int} (h : Small l b) (ij : Nat × Nat) : -(b * l.length) ≤ vre p l ij ∧ vre p l ij ≤ b * l.length :=
  sum_bd fun s hs => mul_unit (by have := h s hs; omega) (h s hs).2 (tqc_bd _)
theorem vim_bd {p : List (Int × Int)} {l : List T3} {b : Int} (h : Small l b) (ij : Nat × Nat) : -(b * l.length) ≤ vim p l ij ∧ vim p l ij ≤ b * l.length :=
  sum_bd fun s hs => mul_unit (by have := h s hs; omega) (h s hs).2 (tqs_bd _)
theorem dterm_bd {p : List (Int × Int)} {l : List T3} {b : Int} (h : Small l b) (x y : Int) (ij : Nat × Nat) : -(2 * (b * l.length)) ≤ dterm p l x y ij ∧ dterm p l x y ij ≤ 2 * (b * l.length) := by
  have h1 := vre_bd (p := p) h ij
  have h2 := vim_bd (p := p) h ij
  have h3 := mul_unit h1.1 h1.2 (tqc_bd (-Qq p ij.1 ij.2 x y))
  have h4 := mul_unit h2.1 h2.2 (tqs_bd (-Qq p ij.1 ij.2 x y))
  unfold dterm
  omega
theorem part_bd {p : List (Int × Int)} {l : List T3} {b : Int} (h : Small l b) (hb : 0 ≤ b) (x y : Int) {L : List (Nat × Nat)} (hL : L.length ≤ 28) : -(56 * (b * l.length)) ≤ (L.map (dterm p l x y)).sum ∧ (L.map (dterm p l x y)).sum ≤ 56 * (b * l.length) := by
  have h1 := sum_bd (L := L) fun ij _ => dterm_bd (p := p) h x y ij
  have h0 : 0 ≤ b * (l.length : Int) := Int.mul_nonneg hb (by omega)
  generalize b * (l.length : Int) = c at *
  have h2 : 2 * c * (L.length : Int) ≤ 2 * c * 28 := Int.mul_le_mul_of_nonneg_left (by omega) (by omega)
  omega

/-- What lies in the cells of a model. -/
def cellN (l : List T3) (x y : Int) : Int := (l.map fun s => if s.x = x ∧ s.y = y then s.f else 0).sum
/-- All lie in the first n by n cells. -/
def Inn (l : List T3) (n : Nat) : Prop := ∀ s ∈ l, 0 ≤ s.x ∧ s.x < n ∧ 0 ≤ s.y ∧ s.y < n
/-- The spread image of a model. -/
def tspr (B : Nat → Nat → Int) (n : Nat) (M : Nat → Nat → Int) (v u : Nat) : Int := su (fun y => su (fun x => M y x * B (v + (n - 1) - y) (u + (n - 1) - x)) n) n
theorem tspr_sub (B : Nat → Nat → Int) (n : Nat) (M N : Nat → Nat → Int) (v u : Nat) : tspr B n (fun y x => M y x - N y x) v u = tspr B n M v u - tspr B n N v u := by
  unfold tspr
  rw [← su_sub]
  refine su_congr fun y _ => ?_
  rw [← su_sub]
  exact su_congr fun x _ => Int.sub_mul _ _ _
theorem tspr_add (B : Nat → Nat → Int) (n : Nat) (M N : Nat → Nat → Int) (v u : Nat) : tspr B n (fun y x => M y x + N y x) v u = tspr B n M v u + tspr B n N v u := by
  unfold tspr
  rw [← su_add]
  refine su_congr fun y _ => ?_
  rw [← su_add]
  exact su_congr fun x _ => Int.add_mul _ _ _
theorem tspr_congr {B : Nat → Nat → Int} {n : Nat} {M N : Nat → Nat → Int} (h : ∀ y x, y < n → x < n → M y x = N y x) (v u : Nat) : tspr B n M v u = tspr B n N v u := by
  unfold tspr
  exact su_congr fun y hy => su_congr fun x hx => by rw [h y x hy hx]
theorem tspr_one (B : Nat → Nat → Int) {n : Nat} (s : T3) (h : 0 ≤ s.x ∧ s.x < n ∧ 0 ≤ s.y ∧ s.y < n) (v u : Nat) :
    tspr B n (fun y x => if s.x = (x : Int) ∧ s.y = (y : Int) then s.f else 0) v u = s.f * B (v + (n - 1) - s.y.toNat) (u + (n - 1) - s.x.toNat) := by
  unfold tspr
  rw [su_congr (g := fun y => if (s.y.toNat : Int) = y then s.f * B (v + (n - 1) - y) (u + (n - 1) - s.x.toNat) else 0) fun y _ => ?_]
  · rw [su_one _ (by omega)]
  · by_cases hy : (s.y.toNat : Int) = y
    · rw [if_pos hy, su_congr (g := fun x => if (s.x.toNat : Int) = x then s.f * B (v + (n - 1) - y) (u + (n - 1) - x) else 0) fun x _ => ?_]
      · rw [su_one _ (by omega)]
      · by_cases hx : (s.x.toNat : Int) = x
        · rw [if_pos hx]
          show (if _ then _ else _) * _ = _
          rw [if_pos (by omega)]
        · rw [if_neg hx]
          show (if _ then _ else _) * _ = _
          rw [if_neg (by omega), Int.zero_mul]
    · rw [if_neg hy, su_congr (g := fun _ => 0) fun x _ => by
        show (if _ then _ else _) * _ = _
        rw [if_neg (by omega), Int.zero_mul], su_zero]
/-- The spread image of a list of cells. -/
theorem tspr_list (B : Nat → Nat → Int) {n : Nat} (v u : Nat) : ∀ {l : List T3}, Inn l n → tspr B n (fun y x => cellN l x y) v u = (l.map fun s => s.f * B (v + (n - 1) - s.y.toNat) (u + (n - 1) - s.x.toNat)).sum
  | [], _ => by
    unfold tspr cellN
    rw [su_congr (g := fun _ => 0) fun y _ => by rw [su_congr (g := fun _ => 0) fun x _ => by simp, su_zero], su_zero]; rfl
  | s :: l, h => by
    have h1 := tspr_list B v u (l := l) fun t ht => h t (by simp [ht])
    rw [List.map_cons, List.sum_cons, ← h1, ← tspr_one B s (h s (by simp)), ← tspr_add]
    exact tspr_congr (fun y x _ _ => by unfold cellN; rw [List.map_cons, List.sum_cons]) v u
/-- **The dirty image is the spread image of the model with the beam.** -/
theorem dirty_spread (p : List (Int × Int)) {l : List T3} {n : Nat} (h : Inn l n) {v u : Nat} (hv : v < n) (hu : u < n) :
    dcell p l u v = tspr (fun r c => dcell p [⟨(n : Int) - 1, (n : Int) - 1, 1⟩] c r) n (fun y x => cellN l x y) v u := by
  rw [tspr_list _ v u h, dcell_is]
  refine sum_congr fun s hs => ?_
  have := h s hs
  rw [beam_is, show (n : Int) - 1 - ((u + (n - 1) - s.x.toNat : Nat) : Int) = s.x - u by omega, show (n : Int) - 1 - ((v + (n - 1) - s.y.toNat : Nat) : Int) = s.y - v by omega]
theorem cellN_bd {l : List T3} {b : Int} (h : Small l b) (hb : 0 ≤ b) (x y : Int) : -(b * l.length) ≤ cellN l x y ∧ cellN l x y ≤ b * l.length :=
  sum_bd fun s hs => by have := h s hs; show -b ≤ (if _ then _ else _) ∧ (if _ then _ else _) ≤ b; split <;> omega

/-- A component is taken off an image. -/
def subM (B : Nat → Nat → Int) (n : Nat) (M : Nat → Nat → Int) (p : T3) (v u : Nat) : Int := M v u - p.f * B (v + (n - 1) - p.y.toNat) (u + (n - 1) - p.x.toNat)
def subL (B : Nat → Nat → Int) (n : Nat) : List T3 → (Nat → Nat → Int) → Nat → Nat → Int
  | [], M => M
  | p :: l, M => subL B n l (subM B n M p)
theorem subL_snoc (B : Nat → Nat → Int) (n : Nat) (p : T3) : ∀ (l : List T3) (M : Nat → Nat → Int), subL B n (l ++ [p]) M = subM B n (subL B n l M) p
  | [], _ => rfl
  | q :: l, M => subL_snoc B n p l (subM B n M q)
theorem subL_is (B : Nat → Nat → Int) (n v u : Nat) : ∀ (l : List T3) (M : Nat → Nat → Int), subL B n l M v u = M v u - (l.map fun s => s.f * B (v + (n - 1) - s.y.toNat) (u + (n - 1) - s.x.toNat)).sum
  | [], M => by simp [subL]
  | p :: l, M => by
    rw [subL, subL_is B n v u l]
    simp only [List.map_cons, List.sum_cons, subM]
    omega
/-- **What is left of the spread image of a model is the spread image of what the log lacks.** -/
theorem left_is {B : Nat → Nat → Int} {n : Nat} {I M N : Nat → Nat → Int} {l : List T3} (hl : Inn l n) (hI : ∀ v u, v < n → u < n → I v u = tspr B n M v u) (hN : ∀ y x, y < n → x < n → N y x = cellN l x y) {v u : Nat} (hv : v < n) (hu : u < n) :
    subL B n l I v u = tspr B n (fun y x => M y x - N y x) v u := by
  rw [subL_is, tspr_sub, hI v u hv hu, ← tspr_list B v u hl, tspr_congr hN]
/-- All numbers of the first n by n cells lie within a bound. -/
def inR (b : Int) (n : Nat) (M : Nat → Nat → Int) : Prop := ∀ v u, v < n → u < n → -b ≤ M v u ∧ M v u ≤ b
/-- A log whose components lie in the cells and within the bound, none of which leaves the range. -/
def Logs (B : Nat → Nat → Int) (n : Nat) (I : Nat → Nat → Int) (l : List T3) : Prop := Inn l n ∧ (∀ s ∈ l, -1000000000 ≤ s.f ∧ s.f ≤ 1000000000) ∧ ∀ k, k < l.length → inR 1000000000 n (subL B n (l.take (k + 1)) I)
end Go.Proofs.Ythlcmlngmcoknaa

/- What is proved here: the contracts of frac.size, frac.gcd, frac.Check and of the reference's abs, gcd, Check. Condition: the numbers are 64-bit integers. -/
namespace Go.Proofs.Ythlcmlngmcoknaa
open Go.RowKit

/-- A 64-bit signed number. -/
def i64 (n : Int) : Prop := -9223372036854775808 ≤ n ∧ n ≤ 9223372036854775807

theorem wrap_neg (n : Int) (h1 : -9223372036854775808 ≤ n) (h : n < 0) : IntKind.u64.wrap (-IntKind.u64.wrap n) = (n.natAbs : Int) := by
  simp only [IntKind.wrap, IntKind.bits, IntKind.signed]; simp; omega

theorem size_any (n : Int) (w : World) (h1 : -9223372036854775808 ≤ n) (h2 : n ≤ 9223372036854775807) :
    Calls Try.prog 153 #[.int .i64 n] w fun e w' => e = .returned (.int .u64 (n.natAbs : Int)) ∧ w = w' := by
  by_cases h : n < 0
  · go_enter Try.func153, Try.ntmps153
    go_wp2
    go_ret
    refine ⟨?_, rfl⟩
    show Ending.returned (Value.int IntKind.u64 (IntKind.u64.wrap (-IntKind.u64.wrap n))) = _
    rw [wrap_neg n h1 h]
  · go_enter Try.func153, Try.ntmps153
    go_wp2
    go_ret
    refine ⟨?_, rfl⟩
    show Ending.returned (Value.int IntKind.u64 n) = _
    exact ret_int (by omega)

theorem abs_any (n : Int) (w : World) (h1 : -9223372036854775808 ≤ n) (h2 : n ≤ 9223372036854775807) :
    Calls Try.prog 103 #[.int .i64 n] w fun e w' => e = .returned (.int .u64 (n.natAbs : Int)) ∧ w = w' := by
  by_cases h : n < 0
  · go_enter Try.func103, Try.ntmps103
    go_wp2
    go_ret
    refine ⟨?_, rfl⟩
    exact ret_int (by omega)
  · go_enter Try.func103, Try.ntmps103
    go_wp2
    go_ret
    refine ⟨?_, rfl⟩
    exact ret_int (by omega)

set_option maxHeartbeats 400000 in
theorem gcd_any (a b : Nat) (w : World) (h1 : a ≤ 18446744073709551615) (h2 : b ≤ 18446744073709551615) :
    Calls Try.prog 154 #[.int .u64 a, .int .u64 b] w fun e w' => e = .returned (.int .u64 (Nat.gcd a b : Int)) ∧ ∃ n, w' = w.drewN n := by
  go_enter Try.func154, Try.ntmps154
  go_wp2
  go_loopw [0, 1] (fun x y wr => ∃ a' b' n : Nat, x = .int .u64 a' ∧ y = .int .u64 b' ∧ a' ≤ 18446744073709551615 ∧ b' ≤ 18446744073709551615 ∧ Hid (Nat.gcd a' b' = Nat.gcd a b) ∧ wr = w.drewN n) (fun _ y _ => (intOf y).toNat)
  case atStart => exact ⟨a, b, 0, rfl, rfl, h1, h2, rfl, rfl⟩
  case round =>
    obtain ⟨a', b', n, rfl, rfl, ha, hb, hg, rfl⟩ := hrel
    by_cases hz : b' = 0
    · subst hz
      go_wp2
      go_ret
      exact ⟨ret_int (by have := hg.out; simp at this; simpa using congrArg Int.ofNat this), n, rfl⟩
    · have hz' : ((b' : Int) == 0) = false := by simp; omega
      have hz2 : ((b' : Int) != 0) = true := by simp; omega
      have hm := Nat.mod_lt a' (show b' > 0 by omega)
      have hG : Hid (Nat.gcd b' (a' % b') = Nat.gcd a b) := by
        have := hg.out; rw [Nat.gcd_comm, Nat.gcd_rec] at this; rw [Nat.gcd_comm]; exact this
      go_wp2
      go_quiet (fail)
      go_wp2
      go_roundw
      case rel => exact ⟨b', a' % b', n + nq, rfl, by go_num, hb, by omega, hG, by simp⟩
      case measure => simp [intOf]; omega

set_option maxHeartbeats 400000 in
theorem rgcd_any (a b : Nat) (w : World) (h1 : a ≤ 18446744073709551615) (h2 : b ≤ 18446744073709551615) :
    Calls Try.prog 102 #[.int .u64 a, .int .u64 b] w fun e w' => e = .returned (.int .u64 (Nat.gcd a b : Int)) ∧ ∃ n, w' = w.drewN n := by
  go_enter Try.func102, Try.ntmps102
  go_wp2
  go_loopw [0, 1] (fun x y wr => ∃ a' b' n : Nat, x = .int .u64 a' ∧ y = .int .u64 b' ∧ a' ≤ 18446744073709551615 ∧ b' ≤ 18446744073709551615 ∧ Hid (Nat.gcd a' b' = Nat.gcd a b) ∧ wr = w.drewN n) (fun _ y _ => (intOf y).toNat)
  case atStart => exact ⟨a, b, 0, rfl, rfl, h1, h2, rfl, rfl⟩
  case round =>
    obtain ⟨a', b', n, rfl, rfl, ha, hb, hg, rfl⟩ := hrel
    by_cases hz : b' = 0
    · subst hz
      go_wp2
      go_ret
      exact ⟨ret_int (by have := hg.out; simp at this; simpa using congrArg Int.ofNat this), n, rfl⟩
    · have hz' : ((b' : Int) == 0) = false := by simp; omega
      have hz2 : ((b' : Int) != 0) = true := by simp; omega
      have hm := Nat.mod_lt a' (show b' > 0 by omega)
      have hG : Hid (Nat.gcd b' (a' % b') = Nat.gcd a b) := by
        have := hg.out; rw [Nat.gcd_comm, Nat.gcd_rec] at this; rw [Nat.gcd_comm]; exact this
      go_wp2
      go_quiet (fail)
      go_wp2
      go_roundw
      case rel => exact ⟨b', a' % b', n + nq, rfl, by go_num, hb, by omega, hG, by simp⟩
      case measure => simp [intOf]; omega

theorem gcd_of (a b : Int) (x y : Nat) (w : World) (ha : a = x) (hb : b = y) (h1 : x ≤ 18446744073709551615) (h2 : y ≤ 18446744073709551615) :
    Calls Try.prog 154 #[.int .u64 a, .int .u64 b] w fun e w' => e = .returned (.int .u64 (Nat.gcd x y : Int)) ∧ ∃ n, w' = w.drewN n := by
  subst ha hb; exact gcd_any x y w h1 h2
theorem rgcd_of (a b : Int) (x y : Nat) (w : World) (ha : a = x) (hb : b = y) (h1 : x ≤ 18446744073709551615) (h2 : y ≤ 18446744073709551615) :
    Calls Try.prog 102 #[.int .u64 a, .int .u64 b] w fun e w' => e = .returned (.int .u64 (Nat.gcd x y : Int)) ∧ ∃ n, w' = w.drewN n := by
  subst ha hb; exact rgcd_any x y w h1 h2

/-- A fraction's numbers are valid: in lowest terms, within 10^18. -/
def fokB (n d : Int) : Bool := decide (1 ≤ d) && decide (d ≤ 1000000000000000000) && decide (-1000000000000000000 ≤ n) && decide (n ≤ 1000000000000000000) && Nat.gcd n.natAbs d.natAbs == 1
/-- The error of a fraction: 8 or 0. -/
def fchk (n d : Int) : Int := if fokB n d then 0 else 8

theorem fchk_no {n d : Int} (h : ¬ (1 ≤ d ∧ d ≤ 1000000000000000000 ∧ -1000000000000000000 ≤ n ∧ n ≤ 1000000000000000000)) : fchk n d = 8 := by
  unfold fchk fokB; rw [if_neg]; simp; omega
theorem fchk_gcd {n d : Int} (h1 : 1 ≤ d) (h2 : d ≤ 1000000000000000000) (h3 : -1000000000000000000 ≤ n) (h4 : n ≤ 1000000000000000000) : fchk n d = if Nat.gcd n.natAbs d.natAbs = 1 then 0 else 8 := by
  unfold fchk fokB; simp [h1, h2, h3, h4]

set_option maxHeartbeats 400000 in
theorem check_any (n d : Int) (w : World) (h1 : i64 n) (h2 : i64 d) :
    Calls Try.prog 125 #[.agg #[.int .i64 n, .int .i64 d]] w fun e w' => e = .returned (.int .i64 (fchk n d)) ∧ Below w.heap.size w w' := by
  obtain ⟨n1, n2⟩ := h1
  obtain ⟨d1, d2⟩ := h2
  by_cases hv : 1 ≤ d ∧ d ≤ 1000000000000000000 ∧ -1000000000000000000 ≤ n ∧ n ≤ 1000000000000000000
  · have H := Lib.hid (fchk_gcd hv.1 hv.2.1 hv.2.2.1 hv.2.2.2)
    obtain ⟨v1, v2, v3, v4⟩ := hv
    by_cases hg : Nat.gcd n.natAbs d.natAbs = 1
    · have b1 : (((Nat.gcd n.natAbs d.natAbs : Nat) : Int) != 1) = false := by simp [hg]
      have HV : Hid (fchk n d = 0) := by show fchk n d = 0; rw [H.out, if_pos hg]
      clear hg H
      go_enter Try.func125, Try.ntmps125
      go_wp2
      go_quiet (first | (go_at_call 153; exact Calls.quiet_same (size_any _ _ (by omega) (by omega))) | (go_at_call 154; refine Calls.quiet_of (gcd_any n.natAbs d.natAbs _ (by omega) (by omega))))
      go_wp2
      go_ret
      exact ⟨by rw [HV.out]; rfl, ((Below.refl _ _).alloc (Nat.le_refl _) _).trans ((below_drewN _ _).mono (by simp))⟩
    · have b1 : (((Nat.gcd n.natAbs d.natAbs : Nat) : Int) != 1) = true := by simp; omega
      have HV : Hid (fchk n d = 8) := by show fchk n d = 8; rw [H.out, if_neg hg]
      clear hg H
      go_enter Try.func125, Try.ntmps125
      go_wp2
      go_quiet (first | (go_at_call 153; exact Calls.quiet_same (size_any _ _ (by omega) (by omega))) | (go_at_call 154; refine Calls.quiet_of (gcd_any n.natAbs d.natAbs _ (by omega) (by omega))))
      go_wp2
      go_ret
      exact ⟨by rw [HV.out]; rfl, ((Below.refl _ _).alloc (Nat.le_refl _) _).trans ((below_drewN _ _).mono (by simp))⟩
  · have H := Lib.hid (fchk_no hv)
    go_enter Try.func125, Try.ntmps125
    go_wp2
    all_goals first | (exfalso; omega) | skip
    all_goals
      go_ret
      exact ⟨by rw [H.out]; rfl, (Below.refl _ _).alloc (Nat.le_refl _) _⟩

set_option maxHeartbeats 800000 in
theorem rcheck_any (n d : Int) (w : World) (h1 : i64 n) (h2 : i64 d) :
    Calls Try.prog 46 #[.agg #[.int .i64 n, .int .i64 d]] w fun e w' => e = .returned (.int .i64 (fchk n d)) ∧ Below w.heap.size w w' := by
  obtain ⟨n1, n2⟩ := h1
  obtain ⟨d1, d2⟩ := h2
  by_cases v1 : 1 ≤ d
  · by_cases v2 : d ≤ 1000000000000000000
    · by_cases v3 : -1000000000000000000 ≤ n
      · by_cases v4 : n ≤ 1000000000000000000
        · have H := Lib.hid (fchk_gcd v1 v2 v3 v4)
          have e1 : decide (d < 1) = false := by simp; omega
          have e2 : decide (1000000000000000000 < d) = false := by simp; omega
          have e3 : decide (n < -1000000000000000000) = false := by simp; omega
          have e4 : decide (1000000000000000000 < n) = false := by simp; omega
          by_cases hg : Nat.gcd n.natAbs d.natAbs = 1
          · have b1 : (((Nat.gcd n.natAbs d.natAbs : Nat) : Int) != 1) = false := by simp [hg]
            have HV : Hid (fchk n d = 0) := by show fchk n d = 0; rw [H.out, if_pos hg]
            clear hg H
            go_enter Try.func46, Try.ntmps46
            go_wp2
            go_quiet (first | (go_at_call 103; exact Calls.quiet_same (abs_any _ _ (by omega) (by omega))) | (go_at_call 102; exact Calls.quiet_of (rgcd_of _ _ n.natAbs d.natAbs _ rfl (by omega) (by omega) (by omega))))
            go_wp2
            go_ret
            exact ⟨by rw [HV.out]; rfl, ((Below.refl _ _).alloc (Nat.le_refl _) _).trans ((below_drewN _ _).mono (by simp))⟩
          · have b1 : (((Nat.gcd n.natAbs d.natAbs : Nat) : Int) != 1) = true := by simp; omega
            have HV : Hid (fchk n d = 8) := by show fchk n d = 8; rw [H.out, if_neg hg]
            clear hg H
            go_enter Try.func46, Try.ntmps46
            go_wp2
            go_quiet (first | (go_at_call 103; exact Calls.quiet_same (abs_any _ _ (by omega) (by omega))) | (go_at_call 102; exact Calls.quiet_of (rgcd_of _ _ n.natAbs d.natAbs _ rfl (by omega) (by omega) (by omega))))
            go_wp2
            go_ret
            exact ⟨by rw [HV.out]; rfl, ((Below.refl _ _).alloc (Nat.le_refl _) _).trans ((below_drewN _ _).mono (by simp))⟩
        · have H := Lib.hid (fchk_no (n := n) (d := d) (by omega))
          have e1 : decide (d < 1) = false := by simp; omega
          have e2 : decide (1000000000000000000 < d) = false := by simp; omega
          have e3 : decide (n < -1000000000000000000) = false := by simp; omega
          have e4 : decide (1000000000000000000 < n) = true := by simp; omega
          go_enter Try.func46, Try.ntmps46
          go_wp2
          go_quiet (fail)
          go_wp2
          go_ret
          exact ⟨by rw [H.out]; rfl, ((Below.refl _ _).alloc (Nat.le_refl _) _).trans ((below_drewN _ _).mono (by simp))⟩
      · have H := Lib.hid (fchk_no (n := n) (d := d) (by omega))
        have e1 : decide (d < 1) = false := by simp; omega
        have e2 : decide (1000000000000000000 < d) = false := by simp; omega
        have e3 : decide (n < -1000000000000000000) = true := by simp; omega
        go_enter Try.func46, Try.ntmps46
        go_wp2
        go_quiet (fail)
        go_wp2
        go_ret
        exact ⟨by rw [H.out]; rfl, ((Below.refl _ _).alloc (Nat.le_refl _) _).trans ((below_drewN _ _).mono (by simp))⟩
    · have H := Lib.hid (fchk_no (n := n) (d := d) (by omega))
      have e1 : decide (d < 1) = false := by simp; omega
      have e2 : decide (1000000000000000000 < d) = true := by simp; omega
      go_enter Try.func46, Try.ntmps46
      go_wp2
      go_quiet (fail)
      go_wp2
      go_ret
      exact ⟨by rw [H.out]; rfl, ((Below.refl _ _).alloc (Nat.le_refl _) _).trans ((below_drewN _ _).mono (by simp))⟩
  · have H := Lib.hid (fchk_no (n := n) (d := d) (by omega))
    have e1 : decide (d < 1) = true := by simp; omega
    go_enter Try.func46, Try.ntmps46
    go_wp2
    go_quiet (fail)
    go_wp2
    go_ret
    exact ⟨by rw [H.out]; rfl, ((Below.refl _ _).alloc (Nat.le_refl _) _).trans ((below_drewN _ _).mono (by simp))⟩

end Go.Proofs.Ythlcmlngmcoknaa

/- What is proved here: what making a row of numbers gives. Condition: at most 100,000 numbers. -/
namespace Go.Proofs.Ythlcmlngmcoknaa
open Go.RowKit

theorem Try.infoInt : (Try.prog.info? 3).map (fun i => (i.zero, i.size, i.bytes)) = some (some (.int .i64 0), 1, 8) := by kernel_rfl
/-- The cells of numbers. -/
def ics (xs : List Int) : List Value := xs.map (Value.int .i64)
theorem ics_len (xs : List Int) : (ics xs).length = xs.length := by simp [ics]
theorem made_ints (n : Nat) : madeCells (Value.int .i64 0).cells (n * 1) = (ics (List.replicate n 0)).toArray := by
  apply Array.ext
  · simp [size_madeCells, ics]
  · intro i h1 h2
    simp [madeCells, Value.cells, Nat.mod_one, ics]
theorem mk_ints (n : Nat) (hn : n ≤ 100000) (w : World) : (Instr.makeSlice 23 (.int .i64 (n : Int)) (.int .i64 (n : Int))).run Try.prog w = .ok (.slice (some ⟨w.heap.size, 0, none⟩) n n) (w.alloc (.cells (ics (List.replicate n 0)).toArray 3)) := by
  obtain ⟨i0, hi, hz0, hz1, hz2⟩ := info_parts Try.infoInt
  have h := run_make w 23 3 i0 (.int .i64 0) Try.underlying23 hi hz0 .i64 .i64 (n : Int) (n : Int) (by omega) (by omega) (by rw [hz2]; omega) (by omega)
  rw [Int.toNat_natCast, hz1, made_ints] at h
  exact h
theorem ics_some (xs : List Int) (i : Nat) (h : i < xs.length) : ∃ v, (ics xs)[i]? = some v := ⟨_, by simp [ics, h]; rfl⟩
end Go.Proofs.Ythlcmlngmcoknaa

/- What is proved here: rows of whole numbers in memory, each in a block of its own, and a list of them: reading and storing. No condition. -/
namespace Go.Proofs.Ythlcmlngmcoknaa
open Go.RowKit

def mrc (M : Nat → Nat → Int) (W i : Nat) : List Value := (List.range W).map fun j => .int .i64 (M i j)
def mout (bb cp : Nat → Nat) (n W : Nat) : List Value := (List.range n).map fun i => .slice (some ⟨bb i, 0, none⟩) W (cp i)
theorem mrc_len (M : Nat → Nat → Int) (W i : Nat) : (mrc M W i).length = W := by simp [mrc]
theorem mout_len (bb cp : Nat → Nat) (n W : Nat) : (mout bb cp n W).length = n := by simp [mout]
structure MatO (w : World) (B Lm g : Nat) (Tr Ti : TypeId) (rest : List Value) (bb cp : Nat → Nat) (ex : Nat → List Value) (n W : Nat) (M : Nat → Nat → Int) : Prop where
  out : Own w g Tr (mout bb cp n W ++ rest)
  base : B ≤ g ∧ g < Lm
  row : ∀ i, i < n → Own w (bb i) Ti (mrc M W i ++ ex i)
  blk : ∀ i, i < n → B ≤ bb i ∧ bb i ≠ g ∧ W ≤ cp i ∧ bb i < Lm
  inj : ∀ i j, i < n → j < n → bb i = bb j → i = j
section
variable {w w' : World} {B Lm g : Nat} {Tr Ti : TypeId} {rest : List Value} {bb cp : Nat → Nat} {ex : Nat → List Value} {n W : Nat} {M : Nat → Nat → Int}
theorem MatO.cell_out (h : MatO w B Lm g Tr Ti rest bb cp ex n W M) {i : Nat} (hi : i < n) : w.cell? ⟨g, i, none⟩ = some (.slice (some ⟨bb i, 0, none⟩) W (cp i)) := by
  have hl : i < (mout bb cp n W ++ rest).length := by rw [List.length_append, mout_len]; omega
  rw [h.out.cell i hl]
  congr 1
  rw [List.getElem_append_left (by rw [mout_len]; exact hi)]
  simp [mout]
theorem MatO.cell_at (h : MatO w B Lm g Tr Ti rest bb cp ex n W M) {i j : Nat} (hi : i < n) (hj : j < W) : w.cell? ⟨bb i, j, none⟩ = some (.int .i64 (M i j)) := by
  have hl : j < (mrc M W i ++ ex i).length := by rw [List.length_append, mrc_len]; omega
  rw [(h.row i hi).cell j hl]
  congr 1
  rw [List.getElem_append_left (by rw [mrc_len]; exact hj)]
  simp [mrc]
theorem MatO.free_out (h : MatO w B Lm g Tr Ti rest bb cp ex n W M) (k : Nat) : w.frozen? ⟨g, k, none⟩ = false := h.out.free k
theorem MatO.free_at (h : MatO w B Lm g Tr Ti rest bb cp ex n W M) {i : Nat} (hi : i < n) (k : Nat) : w.frozen? ⟨bb i, k, none⟩ = false := (h.row i hi).free k
theorem MatO.below (h : MatO w B Lm g Tr Ti rest bb cp ex n W M) (hb : Below w.heap.size w w') : MatO w' B Lm g Tr Ti rest bb cp ex n W M :=
  ⟨h.out.below hb, h.base, fun i hi => (h.row i hi).below hb, h.blk, h.inj⟩
theorem MatO.other (h : MatO w B Lm g Tr Ti rest bb cp ex n W M) {b : Nat} (hb : Lm ≤ b) (k : Nat) (v : Value) : MatO (w.setCell ⟨b, k, none⟩ v) B Lm g Tr Ti rest bb cp ex n W M :=
  ⟨h.out.other (by have := h.base; omega) k v, h.base, fun i hi => (h.row i hi).other (by have := h.blk i hi; omega) k v, h.blk, h.inj⟩
theorem MatO.congr {M' : Nat → Nat → Int} (h : MatO w B Lm g Tr Ti rest bb cp ex n W M) (e : ∀ i j, i < n → j < W → M i j = M' i j) : MatO w B Lm g Tr Ti rest bb cp ex n W M' :=
  ⟨h.out, h.base, fun i hi => by
    have : mrc M W i = mrc M' W i := List.map_congr_left fun j hj => by rw [e i j hi (List.mem_range.1 hj)]
    rw [← this]; exact h.row i hi, h.blk, h.inj⟩
def tput (M : Nat → Nat → Int) (i j : Nat) (z : Int) (r c : Nat) : Int := if r = i ∧ c = j then z else M r c
theorem MatO.put (h : MatO w B Lm g Tr Ti rest bb cp ex n W M) {i j : Nat} (hi : i < n) (hj : j < W) (z : Int) : MatO (w.setCell ⟨bb i, j, none⟩ (.int .i64 z)) B Lm g Tr Ti rest bb cp ex n W (tput M i j z) :=
  ⟨h.out.other (by have := h.blk i hi; omega) j _, h.base, fun r hr => by
    by_cases hri : r = i
    · subst hri
      have := (h.row r hr).set j (.int .i64 z)
      rw [List.set_append_left _ _ (by rw [mrc_len]; exact hj)] at this
      have e : (mrc M W r).set j (.int .i64 z) = mrc (tput M r j z) W r := by
        refine List.ext_getElem? fun c => ?_
        rw [List.getElem?_set]
        by_cases hc : c < W
        · by_cases hjc : j = c
          · subst hjc
            rw [if_pos rfl, if_pos (by rw [mrc_len]; exact hc)]
            simp [mrc, tput, hc]
          · rw [if_neg hjc]
            have hcj : ¬ c = j := fun e => hjc e.symm
            simp [mrc, tput, hc, hcj]
        · have : ¬ j = c := by omega
          rw [if_neg this, List.getElem?_eq_none (by rw [mrc_len]; omega), List.getElem?_eq_none (by rw [mrc_len]; omega)]
      rw [e] at this
      exact this
    · have e : mrc (tput M i j z) W r = mrc M W r := List.map_congr_left fun c _ => by unfold tput; rw [if_neg (fun h' => hri h'.1)]
      rw [e]
      exact (h.row r hr).other (fun e' => hri (h.inj r i hr hi e')) j _, h.blk, h.inj⟩
end
end Go.Proofs.Ythlcmlngmcoknaa

/- What is proved here: an append of one element to a row of the call's own leaves the other rows of the call's own as they are. Condition: the rows lie apart; fewer than a million elements of at most 100 bytes. -/
namespace Go.Proofs.Ythlcmlngmcoknaa
open Go.RowKit

/-- Two slices that do not lie in one block. -/
def Apart (v u : Value) : Prop := ∀ b, v.ownBlock = some b → u.ownBlock = some b → False
theorem Apart.symm {v u : Value} (h : Apart v u) : Apart u v := fun b h1 h2 => h b h2 h1
theorem apart_nil (v : Value) : Apart v (.slice none 0 0) := fun b _ h => by cases h
theorem nil_apart (v : Value) : Apart (.slice none 0 0) v := fun b h _ => by cases h
/-- What an append to the row ov, which then lies in block g, leaves of the other rows. -/
structure Keep (B : Nat) (W w2 : World) (ov : Value) (g : Nat) : Prop where
  row : ∀ {T size v n cs}, W.ownsRow B T size v n cs → Apart v ov → w2.ownsRow B T size v n cs
  apart : ∀ {T size v n cs}, W.ownsRow B T size v n cs → Apart v ov → ∀ k cap, Apart v (.slice (some ⟨g, 0, none⟩) k cap)
section
variable {P : Program} {ops : Array Oper} {rest : List Oper} {o : Oper} {a : Act} {Q : Exit → Act → World → Prop}
theorem wpList_app3 (W : World) (hgd : o.guard = none) (s x : Operand) (t : TypeId) (ho : o.op = .call { callee := .builtin .append, args := #[s, x], argTypes := #[t, t] })
    (B : Nat) (T : TypeId) (size bytes : Nat) (z : Value) (ht : P.underlying t = some (.slice T)) (hi : (P.info? T).map (fun i => (i.zero, i.size, i.bytes)) = some (some z, size, bytes)) (hz : z.cells.size = size) (hsz : 0 < size) (hby : bytes ≤ 100)
    (ov : Value) (k : Nat) (cs : List Value) (hs : a.eval s = ov) (ow : W.ownsRow B T size ov k cs) (hk : k < 1000000) (hB : B ≤ W.heap.size)
    (p : Nat) (ys : List Value) (fr : Nat × Nat) (hx : a.eval x = .slice (some ⟨p, 0, none⟩) 1 1) (hp : W.heap[p]? = some (.cells ys.toArray T fr)) (hy : ys.length = size) (h1 : ∀ u ∈ ys, u.oneCell' = true)
    (h : ∀ g cap w2, w2.ownsRow B T size (.slice (some ⟨g, 0, none⟩) (k + 1) cap) (k + 1) (cs ++ ys) → B ≤ g → Below B W w2 → Keep B W w2 ov g → wpList P ops Q rest (a.put o.dst (.slice (some ⟨g, 0, none⟩) (k + 1) cap)) w2) :
    wpList P ops Q (o :: rest) a W := by
  obtain ⟨i0, hi0, hz0, hz1, hz2⟩ := info_parts hi
  refine wpList_append_lies W hgd s x t ho B T i0 z size bytes ht hi0 hz0 hz1 hz2 hz hsz ov k cs hs ow ⟨p, 0, none⟩ 1 1 ys hx (by omega) (World.news_of_block (cs := ys.toArray) (t := T) (fr := fr) hp) h1 (by omega) (by unfold maxLen; omega)
    (by
      have : (k + 1) * bytes ≤ 1000000 * 100 := Nat.mul_le_mul (by omega) hby
      omega) hB _ rfl ?_
  intro g cap w2 hown hgrow hat hlt
  have hov : ∀ b, ov.ownBlock = some b → B ≤ b := fun b hb => by
    obtain ⟨_, h2⟩ := ow
    rcases h2 with ⟨h2, _⟩ | ⟨g', cap', cur, h2, h3, _⟩
    · rw [h2] at hb; cases hb
    · rw [h2] at hb; simp only [Value.ownBlock, Option.some.injEq] at hb; omega
  have hg : B ≤ g := by
    rcases hat with hat | hat
    · exact hov g hat
    · omega
  refine h g cap w2 hown hg ((Below.refl B W).grown hgrow hB hov) ⟨fun {T' size' v' n' cs'} h2 ha => ?_, fun {T' size' v' n' cs'} h2 ha k' cap' b hb hb2 => ?_⟩
  · refine h2.kept hgrow ?_
    cases hv : v'.ownBlock with
    | none => exact .inl rfl
    | some b => exact .inr fun e => ha b hv e.symm
  · simp only [Value.ownBlock, Option.some.injEq] at hb2
    rcases hat with hat | hat
    · exact ha b hb (by rw [hat, hb2])
    · obtain ⟨_, h3⟩ := h2
      rcases h3 with ⟨h4, _⟩ | ⟨g', cap'', cur, h4, _, h5, _⟩
      · rw [h4] at hb; cases hb
      · rw [h4] at hb
        simp only [Value.ownBlock, Option.some.injEq] at hb
        have := (Array.getElem?_eq_some_iff.1 h5).1
        omega
end
end Go.Proofs.Ythlcmlngmcoknaa

/- What is proved here: the cells of a square of three by three numbers, and of three numbers, and storing one of them. No condition. -/
namespace Go.Proofs.Ythlcmlngmcoknaa
open Go.RowKit

/-- The cells of a square. -/
def mcs (f : Nat → Nat → Int) : List Value := (List.range 9).map fun p => .int .i64 (f (p / 3) (p % 3))
/-- The cells of three numbers. -/
def lcs (f : Nat → Int) : List Value := (List.range 3).map fun p => .int .i64 (f p)
theorem mcs_is (f : Nat → Nat → Int) : mcs f = [.int .i64 (f 0 0), .int .i64 (f 0 1), .int .i64 (f 0 2), .int .i64 (f 1 0), .int .i64 (f 1 1), .int .i64 (f 1 2), .int .i64 (f 2 0), .int .i64 (f 2 1), .int .i64 (f 2 2)] := rfl
theorem lcs_is (f : Nat → Int) : lcs f = [.int .i64 (f 0), .int .i64 (f 1), .int .i64 (f 2)] := rfl
theorem mcs_get (f : Nat → Nat → Int) {k l : Nat} (hk : k < 3) (hl : l < 3) : (mcs f)[k * 3 + l]? = some (.int .i64 (f k l)) := by
  rcases (by omega : k = 0 ∨ k = 1 ∨ k = 2) with rfl | rfl | rfl <;> rcases (by omega : l = 0 ∨ l = 1 ∨ l = 2) with rfl | rfl | rfl <;> rfl
theorem lcs_get (f : Nat → Int) {k : Nat} (hk : k < 3) : (lcs f)[k]? = some (.int .i64 (f k)) := by
  rcases (by omega : k = 0 ∨ k = 1 ∨ k = 2) with rfl | rfl | rfl <;> rfl
/-- A square with one number changed. -/
def mput (f : Nat → Nat → Int) (k l : Nat) (v : Int) (i j : Nat) : Int := if i = k ∧ j = l then v else f i j
def lput (f : Nat → Int) (k : Nat) (v : Int) (i : Nat) : Int := if i = k then v else f i
theorem mcs_set (f : Nat → Nat → Int) {k l : Nat} (hk : k < 3) (hl : l < 3) (v : Int) : (mcs f).set (k * 3 + l) (.int .i64 v) = mcs (mput f k l v) := by
  rcases (by omega : k = 0 ∨ k = 1 ∨ k = 2) with rfl | rfl | rfl <;> rcases (by omega : l = 0 ∨ l = 1 ∨ l = 2) with rfl | rfl | rfl <;> rfl
theorem lcs_set (f : Nat → Int) {k : Nat} (hk : k < 3) (v : Int) : (lcs f).set k (.int .i64 v) = lcs (lput f k v) := by
  rcases (by omega : k = 0 ∨ k = 1 ∨ k = 2) with rfl | rfl | rfl <;> rfl
theorem mcs_congr {f g : Nat → Nat → Int} (h : ∀ i, i < 3 → ∀ j, j < 3 → f i j = g i j) : mcs f = mcs g := by
  rw [mcs_is, mcs_is, h 0 (by omega) 0 (by omega), h 0 (by omega) 1 (by omega), h 0 (by omega) 2 (by omega), h 1 (by omega) 0 (by omega), h 1 (by omega) 1 (by omega), h 1 (by omega) 2 (by omega), h 2 (by omega) 0 (by omega), h 2 (by omega) 1 (by omega), h 2 (by omega) 2 (by omega)]
theorem lcs_congr {f g : Nat → Int} (h : ∀ i, i < 3 → f i = g i) : lcs f = lcs g := by
  rw [lcs_is, lcs_is, h 0 (by omega), h 1 (by omega), h 2 (by omega)]
/-- Nine cells of one block and three of another are stored. -/
def refilled (W : World) (G C : Nat) (v0 v1 v2 v3 v4 v5 v6 v7 v8 u0 u1 u2 : Value) : World :=
  (((((((((((W.setCell ⟨G, 0, none⟩ v0).setCell ⟨G, 1, none⟩ v1).setCell ⟨G, 2, none⟩ v2).setCell ⟨G, 3, none⟩ v3).setCell ⟨G, 4, none⟩ v4).setCell ⟨G, 5, none⟩ v5).setCell ⟨G, 6, none⟩ v6).setCell ⟨G, 7, none⟩ v7).setCell ⟨G, 8, none⟩ v8).setCell ⟨C, 0, none⟩ u0).setCell ⟨C, 1, none⟩ u1).setCell ⟨C, 2, none⟩ u2
theorem refill_own {B : Nat} {w W : World} {G C : Nat} {T U : TypeId} {v0 v1 v2 v3 v4 v5 v6 v7 v8 u0 u1 u2 : Value} (hG : Own W G T [v0, v1, v2, v3, v4, v5, v6, v7, v8]) (hC : Own W C U [u0, u1, u2]) (hne : G ≠ C) (h : Below B w W) (h1 : B ≤ G) (h2 : B ≤ C) :
    Own (refilled W G C v0 v1 v2 v3 v4 v5 v6 v7 v8 u0 u1 u2) G T [v0, v1, v2, v3, v4, v5, v6, v7, v8] ∧ Own (refilled W G C v0 v1 v2 v3 v4 v5 v6 v7 v8 u0 u1 u2) C U [u0, u1, u2] ∧ Below B w (refilled W G C v0 v1 v2 v3 v4 v5 v6 v7 v8 u0 u1 u2) :=
  ⟨(((((((((((hG.set 0 v0).set 1 v1).set 2 v2).set 3 v3).set 4 v4).set 5 v5).set 6 v6).set 7 v7).set 8 v8).other hne 0 u0).other hne 1 u1).other hne 2 u2,
   (((((((((((hC.other hne.symm 0 v0).other hne.symm 1 v1).other hne.symm 2 v2).other hne.symm 3 v3).other hne.symm 4 v4).other hne.symm 5 v5).other hne.symm 6 v6).other hne.symm 7 v7).other hne.symm 8 v8).set 0 u0).set 1 u1).set 2 u2,
   (((((((((((h.setCell (p := ⟨G, 0, none⟩) h1 v0).setCell (p := ⟨G, 1, none⟩) h1 v1).setCell (p := ⟨G, 2, none⟩) h1 v2).setCell (p := ⟨G, 3, none⟩) h1 v3).setCell (p := ⟨G, 4, none⟩) h1 v4).setCell (p := ⟨G, 5, none⟩) h1 v5).setCell (p := ⟨G, 6, none⟩) h1 v6).setCell (p := ⟨G, 7, none⟩) h1 v7).setCell (p := ⟨G, 8, none⟩) h1 v8).setCell (p := ⟨C, 0, none⟩) h2 u0).setCell (p := ⟨C, 1, none⟩) h2 u1).setCell (p := ⟨C, 2, none⟩) h2 u2⟩
end Go.Proofs.Ythlcmlngmcoknaa

/- What is proved here: the cells of three rows of four numbers, and storing one of them. No condition. -/
namespace Go.Proofs.Ythlcmlngmcoknaa
open Go.RowKit

/-- The cells of three rows of four numbers. -/
def rcs (f : Nat → Nat → Int) : List Value := (List.range 12).map fun p => .int .i64 (f (p / 4) (p % 4))
theorem rcs_is (f : Nat → Nat → Int) : rcs f = [.int .i64 (f 0 0), .int .i64 (f 0 1), .int .i64 (f 0 2), .int .i64 (f 0 3), .int .i64 (f 1 0), .int .i64 (f 1 1), .int .i64 (f 1 2), .int .i64 (f 1 3), .int .i64 (f 2 0), .int .i64 (f 2 1), .int .i64 (f 2 2), .int .i64 (f 2 3)] := rfl
theorem rcs_get (f : Nat → Nat → Int) {k l : Nat} (hk : k < 3) (hl : l < 4) : (rcs f)[k * 4 + l]? = some (.int .i64 (f k l)) := by
  rcases (by omega : k = 0 ∨ k = 1 ∨ k = 2) with rfl | rfl | rfl <;> rcases (by omega : l = 0 ∨ l = 1 ∨ l = 2 ∨ l = 3) with rfl | rfl | rfl | rfl <;> rfl
/-- Rows with one number changed. -/
def rput (f : Nat → Nat → Int) (k l : Nat) (v : Int) (i j : Nat) : Int := if i = k ∧ j = l then v else f i j
theorem rcs_set (f : Nat → Nat → Int) {k l : Nat} (hk : k < 3) (hl : l < 4) (v : Int) : (rcs f).set (k * 4 + l) (.int .i64 v) = rcs (rput f k l v) := by
  rcases (by omega : k = 0 ∨ k = 1 ∨ k = 2) with rfl | rfl | rfl <;> rcases (by omega : l = 0 ∨ l = 1 ∨ l = 2 ∨ l = 3) with rfl | rfl | rfl | rfl <;> rfl
theorem rcs_congr {f g : Nat → Nat → Int} (h : ∀ i, i < 3 → ∀ j, j < 4 → f i j = g i j) : rcs f = rcs g := by
  rw [rcs_is, rcs_is, h 0 (by omega) 0 (by omega), h 0 (by omega) 1 (by omega), h 0 (by omega) 2 (by omega), h 0 (by omega) 3 (by omega), h 1 (by omega) 0 (by omega), h 1 (by omega) 1 (by omega), h 1 (by omega) 2 (by omega), h 1 (by omega) 3 (by omega), h 2 (by omega) 0 (by omega), h 2 (by omega) 1 (by omega), h 2 (by omega) 2 (by omega), h 2 (by omega) 3 (by omega)]
end Go.Proofs.Ythlcmlngmcoknaa
