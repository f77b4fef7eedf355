/- What is proved here: contracts of functions and plain facts, several texts in one; each one says ahead what it proves, and its conditions. -/
import Derived.Test.YthlcmlngmcoknaaC05
import Derived.Test.YthlcmlngmcoknaaC17
import Derived.Test.YthlcmlngmcoknaaC18
import Derived.Deep.DeepCutAuto
import Derived.Test.YthlcmlngmcoknaaC13
import Derived.Test.YthlcmlngmcoknaaC06
/- What is proved here: the contract of frac.sum. Condition: two valid fractions. -/
namespace Go.Proofs.Ythlcmlngmcoknaa
open Go.RowKit

theorem rem64_as (hi lo y r : Nat) (w : World) (h : 0 < y) (hh : hi < 18446744073709551616) (hy : y < 18446744073709551616) (hlo : lo < 18446744073709551616) (hr : (hi * 18446744073709551616 + lo) % y = r) :
    Calls Try.prog 165 #[.int .u64 hi, .int .u64 lo, .int .u64 y] w fun e w' => e = .returned (.int .u64 (r : Int)) ∧ ∃ n, w' = w.drewN n := by
  subst hr; exact rem64_any hi lo y w h hh hy hlo
theorem div64_as (hi lo y q r : Nat) (w : World) (h : hi < y) (hy : y < 18446744073709551616) (hlo : lo < 18446744073709551616) (hq : (hi * 18446744073709551616 + lo) / y = q) (hr : (hi * 18446744073709551616 + lo) % y = r) :
    Calls Try.prog 166 #[.int .u64 hi, .int .u64 lo, .int .u64 y] w fun e w' => e = .returned (.tuple #[.int .u64 (q : Int), .int .u64 (r : Int)]) ∧ ∃ n, w' = w.drewN n := by
  subst hq hr; exact div64_any hi lo y w h hy hlo
theorem add64_as (x y c s o : Nat) (hc : c ≤ 1) (hs : (x + y + c) % 18446744073709551616 = s) (ho : (x + y + c) / 18446744073709551616 = o) (w : World) :
    (callFunc 162 #[.int .u64 x, .int .u64 y, .int .u64 c]).run Try.prog w = .ok (.value (.tuple #[.int .u64 (s : Int), .int .u64 (o : Int)])) w := by
  subst hs ho; exact Try.run_Add64 x y c hc w
theorem sub64_as (x y c s o : Nat) (hc : c ≤ 1) (hs : (x + 18446744073709551616 - y - c) % 18446744073709551616 = s) (ho : (if x < y + c then 1 else 0) = o) (w : World) :
    (callFunc 164 #[.int .u64 x, .int .u64 y, .int .u64 c]).run Try.prog w = .ok (.value (.tuple #[.int .u64 (s : Int), .int .u64 (o : Int)])) w := by
  subst hs ho; exact Try.run_Sub64 x y c hc w
theorem add64_as0 (x y s o : Nat) (hs : (x + y + 0) % 18446744073709551616 = s) (ho : (x + y + 0) / 18446744073709551616 = o) (w : World) :
    (callFunc 162 #[.int .u64 x, .int .u64 y, .int .u64 0]).run Try.prog w = .ok (.value (.tuple #[.int .u64 (s : Int), .int .u64 (o : Int)])) w := add64_as x y 0 s o (by decide) hs ho w
theorem sub64_as0 (x y s o : Nat) (hs : (x + 18446744073709551616 - y - 0) % 18446744073709551616 = s) (ho : (if x < y + 0 then 1 else 0) = o) (w : World) :
    (callFunc 164 #[.int .u64 x, .int .u64 y, .int .u64 0]).run Try.prog w = .ok (.value (.tuple #[.int .u64 (s : Int), .int .u64 (o : Int)])) w := sub64_as x y 0 s o (by decide) hs ho w
theorem wider_as (ah al bh bl : Nat) (z : Int) (w : World) (hz : wid ah al bh bl = z) :
    Calls Try.prog 163 #[.int .u64 ah, .int .u64 al, .int .u64 bh, .int .u64 bl] w fun e w' => e = .returned (.int .i64 z) ∧ w = w' := by
  subst hz; exact wider_any ah al bh bl w
theorem gcd_as (a b g : Nat) (w : World) (h1 : a ≤ 18446744073709551615) (h2 : b ≤ 18446744073709551615) (hg : Nat.gcd a b = g) :
    Calls Try.prog 154 #[.int .u64 a, .int .u64 b] w fun e w' => e = .returned (.int .u64 (g : Int)) ∧ ∃ n, w' = w.drewN n := by
  subst hg; exact gcd_any a b w h1 h2
theorem gcd_mod' (d S : Nat) : Nat.gcd d (S % d) = Nat.gcd d S := by rw [Nat.gcd_comm, ← Nat.gcd_rec]
theorem halves (S : Nat) : S / 18446744073709551616 * 18446744073709551616 + S % 18446744073709551616 = S := by omega
theorem wid_ge {x y : Nat} (h : y ≤ x) : 0 ≤ wid (x / 18446744073709551616) (x % 18446744073709551616) (y / 18446744073709551616) (y % 18446744073709551616) := by
  rw [wid_cmp]; unfold cmpN; split
  · omega
  · rw [if_pos (by omega)]; omega
theorem wid_lt {x y : Nat} (h : x < y) : wid (x / 18446744073709551616) (x % 18446744073709551616) (y / 18446744073709551616) (y % 18446744073709551616) = -1 := by
  rw [wid_cmp]; unfold cmpN; rw [if_neg (by omega), if_neg (by omega)]
/-- A sum whose high half is too great. -/
theorem sum_high {S g : Nat} {neg : Bool} {v : Int} (hg : 0 < g) (h : g ≤ S / 18446744073709551616) : bld neg ((S / g : Nat) : Int) v = ⟨0, 0, 16⟩ := by
  refine bld_no (.inl ?_)
  have : 18446744073709551616 ≤ S / g := by
    rw [Nat.le_div_iff_mul_le hg]
    have h1 := halves S
    have h2 := Nat.mul_le_mul_right 18446744073709551616 h
    rw [Nat.mul_comm]; omega
  omega
theorem sum_fits {S g : Nat} (hg : 0 < g) (h : S / 18446744073709551616 < g) : S / g ≤ 18446744073709551615 := by
  have : S / g < 18446744073709551616 := by
    rw [Nat.div_lt_iff_lt_mul hg]
    have h1 := halves S
    have h2 := Nat.mul_le_mul_right 18446744073709551616 (show S / 18446744073709551616 + 1 ≤ g from h)
    have h3 := Nat.mod_lt S (show 18446744073709551616 > 0 by decide)
    rw [Nat.mul_comm]; omega
  omega
theorem sgn_same {an bn : Int} {x y : Nat} {s : Bool} (hx : an.natAbs = x) (hy : bn.natAbs = y) (h1 : decide (an < 0) = s) (h2 : decide (bn < 0) = s) (p q : Nat) : an * (p : Int) + bn * (q : Int) = if s then -((x * p + y * q : Nat) : Int) else ((x * p + y * q : Nat) : Int) := by
  cases s
  · have a1 : an = x := by have := of_decide_eq_false h1; omega
    have a2 : bn = y := by have := of_decide_eq_false h2; omega
    subst a1 a2; simp
  · have a1 : an = -(x : Int) := by have := of_decide_eq_true h1; omega
    have a2 : bn = -(y : Int) := by have := of_decide_eq_true h2; omega
    subst a1 a2; simp; grind
theorem sgn_more {an bn : Int} {x y : Nat} {s : Bool} (hx : an.natAbs = x) (hy : bn.natAbs = y) (h1 : decide (an < 0) = s) (h2 : decide (bn < 0) = !s) (p q : Nat) (hl : y * q ≤ x * p) : an * (p : Int) + bn * (q : Int) = if s then -((x * p - y * q : Nat) : Int) else ((x * p - y * q : Nat) : Int) := by
  rw [Int.natCast_sub hl]
  cases s
  · have a1 : an = x := by have := of_decide_eq_false h1; omega
    have a2 : bn = -(y : Int) := by have := of_decide_eq_true h2; omega
    subst a1 a2; simp; grind
  · have a1 : an = -(x : Int) := by have := of_decide_eq_true h1; omega
    have a2 : bn = (y : Int) := by have := of_decide_eq_false h2; omega
    subst a1 a2; simp; grind
theorem sgn_less {an bn : Int} {x y : Nat} {s : Bool} (hx : an.natAbs = x) (hy : bn.natAbs = y) (h1 : decide (an < 0) = s) (h2 : decide (bn < 0) = !s) (p q : Nat) (hl : x * p ≤ y * q) : an * (p : Int) + bn * (q : Int) = if !s then -((y * q - x * p : Nat) : Int) else ((y * q - x * p : Nat) : Int) := by
  rw [Int.natCast_sub hl]
  cases s
  · have a1 : an = x := by have := of_decide_eq_false h1; omega
    have a2 : bn = -(y : Int) := by have := of_decide_eq_true h2; omega
    subst a1 a2; simp; grind
  · have a1 : an = -(x : Int) := by have := of_decide_eq_true h1; omega
    have a2 : bn = (y : Int) := by have := of_decide_eq_false h2; omega
    subst a1 a2; simp; grind

/-- What a sum of two fractions comes to, step by step. -/
structure SumSteps (an bn : Int) (A B : Nat) (d a b xh xl yh yl S hi lo r g num bg dh dl : Nat) (neg : Bool) : Prop where
  gd : Nat.gcd A B = d
  dp : 0 < d
  dle : d ≤ 1000000000000000000
  qa : (A : Int) / (d : Int) = (a : Int)
  qb : (B : Int) / (d : Int) = (b : Int)
  al : a ≤ 1000000000000000000
  bl : b ≤ 1000000000000000000
  mxh : ((an.natAbs * b / 18446744073709551616 : Nat) : Int) = (xh : Int)
  mxl : ((an.natAbs * b % 18446744073709551616 : Nat) : Int) = (xl : Int)
  myh : ((bn.natAbs * a / 18446744073709551616 : Nat) : Int) = (yh : Int)
  myl : ((bn.natAbs * a % 18446744073709551616 : Nat) : Int) = (yl : Int)
  hid : S / 18446744073709551616 = hi
  lod : S % 18446744073709551616 = lo
  Sl : S < 340282366920938463463374607431768211456
  rd : (hi * 18446744073709551616 + lo) % d = r
  gg : Nat.gcd d r = g
  gp : 0 < g
  gle : g ≤ 1000000000000000000
  nd : (hi * 18446744073709551616 + lo) / g = num
  qg : (B : Int) / (g : Int) = (bg : Int)
  bgl : bg ≤ 1000000000000000000
  mdh : ((a * bg / 18446744073709551616 : Nat) : Int) = (dh : Int)
  mdl : ((a * bg % 18446744073709551616 : Nat) : Int) = (dl : Int)
  high : g ≤ hi → pack (Rat.divInt an A + Rat.divInt bn B) = ⟨0, 0, 16⟩
  denHigh : ¬ dh = 0 → pack (Rat.divInt an A + Rat.divInt bn B) = ⟨0, 0, 16⟩
  low : hi < g → num ≤ 18446744073709551615
  out : dh = 0 → pack (Rat.divInt an A + Rat.divInt bn B) = bld neg (num : Int) (dl : Int)
theorem sumSteps {an bn : Int} {A B : Nat} (c1 : fchk an A = 0) (c2 : fchk bn B = 0) (S : Nat) (neg : Bool) (Sl : S < 340282366920938463463374607431768211456)
    (hS : an * ((B / Nat.gcd A B : Nat) : Int) + bn * ((A / Nat.gcd A B : Nat) : Int) = if neg then -(S : Int) else (S : Int)) :
    ∃ xh xl yh yl r g num bg dh dl, SumSteps an bn A B (Nat.gcd A B) (A / Nat.gcd A B) (B / Nat.gcd A B) xh xl yh yl S (S / 18446744073709551616) (S % 18446744073709551616) r g num bg dh dl neg := by
  obtain ⟨k1, k2, k3, k4, _⟩ := fok_of c1
  obtain ⟨l1, l2, l3, l4, _⟩ := fok_of c2
  have hp := sum_pack (ad := A) (bd := B) c1 c2 S (by simpa using hS)
  simp only [Int.natAbs_natCast] at hp
  have dp : 0 < Nat.gcd A B := Nat.gcd_pos_of_pos_right _ (by omega)
  have gp : 0 < Nat.gcd (Nat.gcd A B) S := Nat.gcd_pos_of_pos_left _ dp
  have dle : Nat.gcd A B ≤ B := Nat.gcd_le_right _ (by omega)
  have gle : Nat.gcd (Nat.gcd A B) S ≤ Nat.gcd A B := Nat.gcd_le_left _ dp
  have q1 := Nat.div_le_self A (Nat.gcd A B)
  have q2 := Nat.div_le_self B (Nat.gcd A B)
  have q3 := Nat.div_le_self B (Nat.gcd (Nat.gcd A B) S)
  refine ⟨an.natAbs * (B / Nat.gcd A B) / 18446744073709551616, an.natAbs * (B / Nat.gcd A B) % 18446744073709551616, bn.natAbs * (A / Nat.gcd A B) / 18446744073709551616, bn.natAbs * (A / Nat.gcd A B) % 18446744073709551616, S % Nat.gcd A B, Nat.gcd (Nat.gcd A B) S, S / Nat.gcd (Nat.gcd A B) S, B / Nat.gcd (Nat.gcd A B) S,
    A / Nat.gcd A B * (B / Nat.gcd (Nat.gcd A B) S) / 18446744073709551616, A / Nat.gcd A B * (B / Nat.gcd (Nat.gcd A B) S) % 18446744073709551616, ?_⟩
  exact {
    gd := rfl, dp := dp, dle := by omega
    qa := (Int.natCast_ediv _ _).symm, qb := (Int.natCast_ediv _ _).symm
    al := by omega, bl := by omega
    mxh := rfl, mxl := rfl, myh := rfl, myl := rfl
    hid := rfl, lod := rfl, Sl := Sl
    rd := by rw [halves]
    gg := gcd_mod' _ _
    gp := gp, gle := by omega
    nd := by rw [halves]
    qg := (Int.natCast_ediv _ _).symm
    bgl := by omega
    mdh := rfl, mdl := rfl
    high := fun h => by rw [← hp, sum_high gp h]
    denHigh := fun h => by rw [← hp, bld_no (.inr (by omega))]
    low := fun h => sum_fits gp h
    out := fun h => by
      rw [← hp]
      congr 1
      omega }
theorem mul36 {a b : Nat} (ha : a ≤ 1000000000000000000) (hb : b ≤ 1000000000000000000) : a * b ≤ 1000000000000000000000000000000000000 := Nat.mul_le_mul ha hb

set_option maxRecDepth 100000 in
set_option maxHeartbeats 16000000 in
theorem fsum_same (an bn : Int) (A B : Nat) (w : World) (c1 : fchk an A = 0) (c2 : fchk bn B = 0) (s : Bool) (sa : decide (an < 0) = s) (sb : decide (bn < 0) = s) :
    Calls Try.prog 148 #[.agg #[.int .i64 an, .int .i64 A], .agg #[.int .i64 bn, .int .i64 B]] w fun e w' => e = .returned (.tuple #[.agg #[.int .i64 (pack (Rat.divInt an A + Rat.divInt bn B)).n, .int .i64 (pack (Rat.divInt an A + Rat.divInt bn B)).d], .int .i64 (pack (Rat.divInt an A + Rat.divInt bn B)).e]) ∧ Below w.heap.size w w' := by
  obtain ⟨k1, k2, k3, k4, _⟩ := fok_of c1
  obtain ⟨l1, l2, l3, l4, _⟩ := fok_of c2
  have q1 := Nat.div_le_self A (Nat.gcd A B)
  have q2 := Nat.div_le_self B (Nat.gcd A B)
  have bx := mul36 (show an.natAbs ≤ 1000000000000000000 by omega) (show B / Nat.gcd A B ≤ 1000000000000000000 by omega)
  have bY := mul36 (show bn.natAbs ≤ 1000000000000000000 by omega) (show A / Nat.gcd A B ≤ 1000000000000000000 by omega)
  obtain ⟨xh, xl, yh, yl, r, g, num, bg, dh, dl, H⟩ := sumSteps c1 c2 ((an.natAbs * (B / Nat.gcd A B)) + (bn.natAbs * (A / Nat.gcd A B))) s (by omega) (sgn_same rfl rfl sa sb _ _)
  obtain ⟨t1, t2, t3⟩ := add_halves (an.natAbs * (B / Nat.gcd A B)) (bn.natAbs * (A / Nat.gcd A B)) (by omega)
  have HH := Lib.hid H
  have xh_ : xh = (an.natAbs * (B / Nat.gcd A B)) / 18446744073709551616 := Int.ofNat.inj H.mxh.symm
  have xl_ : xl = (an.natAbs * (B / Nat.gcd A B)) % 18446744073709551616 := Int.ofNat.inj H.mxl.symm
  have yh_ : yh = (bn.natAbs * (A / Nat.gcd A B)) / 18446744073709551616 := Int.ofNat.inj H.myh.symm
  have yl_ : yl = (bn.natAbs * (A / Nat.gcd A B)) % 18446744073709551616 := Int.ofNat.inj H.myl.symm
  rw [← xh_, ← yh_, ← xl_, ← yl_] at t3
  rw [← xl_, ← yl_] at t1 t2
  obtain ⟨co, hco⟩ : ∃ c, c = (xl + yl + 0) / 18446744073709551616 := ⟨_, rfl⟩
  rw [← hco] at t2 t3
  have E1 := add64_as0 xl yl _ co t1 hco.symm
  have E2 := fun c2 hc2 => add64_as xh yh co _ c2 t2 t3 hc2
  replace E2 := E2 _ rfl
  obtain ⟨S, hS⟩ : ∃ S, S = (an.natAbs * (B / Nat.gcd A B)) + (bn.natAbs * (A / Nat.gcd A B)) := ⟨_, rfl⟩
  rw [← hS] at E1 E2 HH
  obtain ⟨hi, hhi⟩ : ∃ h, h = S / 18446744073709551616 := ⟨_, rfl⟩
  obtain ⟨lo, hlo⟩ : ∃ h, h = S % 18446744073709551616 := ⟨_, rfl⟩
  rw [← hlo] at E1 HH
  rw [← hhi] at E2 HH
  have HI : Hid (hi < 18446744073709551616) := by show _ < _; have := HH.out.Sl; omega
  have LO : Hid (lo < 18446744073709551616) := by show _ < _; omega
  obtain ⟨c3, hc3⟩ : ∃ c : Nat, (c : Int) = (((xh + yh + co) / 18446744073709551616 : Nat) : Int) := ⟨_, rfl⟩
  rw [← hc3] at E2
  clear t1 t2 t3 hco hc3 hhi hlo hS xh_ xl_ yh_ yl_ bx bY q1 q2 H
  have gd := Lib.hid HH.out.gd
  obtain ⟨d, hd⟩ : ∃ d, d = Nat.gcd A B := ⟨_, rfl⟩
  rw [← hd] at HH
  obtain ⟨a, ha⟩ : ∃ a, a = A / d := ⟨_, rfl⟩
  obtain ⟨b, hb⟩ : ∃ b, b = B / d := ⟨_, rfl⟩
  rw [← ha, ← hb] at HH
  clear ha hb hd gd
  have qa := HH.out.qa
  have qb := HH.out.qb
  have qg := HH.out.qg
  have d0 := HH.out.dp
  have g0 := HH.out.gp
  have d1 : ((d : Int) == 0) = false := by simp; omega
  have d2 : ¬ ((d : Int) = 0) := by omega
  have g1 : ((g : Int) == 0) = false := by simp; omega
  have g2 : ¬ ((g : Int) = 0) := by omega
  have al : (a : Int) ≤ 1000000000000000000 := by have := HH.out.al; omega
  have bl : (b : Int) ≤ 1000000000000000000 := by have := HH.out.bl; omega
  have bgl : (bg : Int) ≤ 1000000000000000000 := by have := HH.out.bgl; omega
  have wa : IntKind.u64.wrap ((A : Int) / (d : Int)) = (A : Int) / (d : Int) := wrap_quo A d (by omega)
  have wb : IntKind.u64.wrap ((B : Int) / (d : Int)) = (B : Int) / (d : Int) := wrap_quo B d (by omega)
  have wg : IntKind.u64.wrap ((B : Int) / (g : Int)) = (B : Int) / (g : Int) := wrap_quo B g (by omega)
  have rl : Hid (r ≤ 18446744073709551615) := by show _ ≤ _; have h1 := HH.out.rd; have h2 := Nat.mod_lt (hi * 18446744073709551616 + lo) d0; have h3 := HH.out.dle; omega
  clear c1 c2
  go_enter Try.func148, Try.ntmps148
  have oA := (own_first w 78 [.int .i64 an, .int .i64 A] (.cells #[.int .i64 bn, .int .i64 B] 78)).alloc (.cells #[.int .i64 0, .int .i64 0] 78)
  have oB := (own_second w 78 [.int .i64 bn, .int .i64 B] (.cells #[.int .i64 an, .int .i64 A] 78)).alloc (.cells #[.int .i64 0, .int .i64 0] 78)
  have oR := own_third w 78 [.int .i64 0, .int .i64 0] (.cells #[.int .i64 an, .int .i64 A] 78) (.cells #[.int .i64 bn, .int .i64 B] 78)
  have hB := ba3 w (.cells #[.int .i64 an, .int .i64 A] 78) (.cells #[.int .i64 bn, .int .i64 B] 78) (.cells #[.int .i64 0, .int .i64 0] 78)
  go_wp2
  generalize ((w.alloc (.cells #[.int .i64 an, .int .i64 A] 78)).alloc (.cells #[.int .i64 bn, .int .i64 B] 78)).alloc (.cells #[.int .i64 0, .int .i64 0] 78) = y0 at *
  obtain ⟨rA, fA⟩ := oA.rules
  have zA := oA.lt
  obtain ⟨rB, fB⟩ := oB.rules
  have zB := oB.lt
  obtain ⟨rR, fR⟩ := oR.rules
  have zR := oR.lt
  go_quiet ((go_at_call 153; exact Calls.quiet_same (size_any _ _ (by omega) (by omega))))
  rw [Int.natAbs_natCast, Int.natAbs_natCast]
  clear rA fA zA rB fB zB rR fR zR
  replace oA := oA.drewN nq
  replace oB := oB.drewN nq
  replace oR := oR.drewN nq
  replace hB := bd hB nq
  generalize World.drewN y0 nq = y1 at *
  obtain ⟨rA, fA⟩ := oA.rules
  have zA := oA.lt
  obtain ⟨rB, fB⟩ := oB.rules
  have zB := oB.lt
  obtain ⟨rR, fR⟩ := oR.rules
  have zR := oR.lt
  go_wp2_with fail
  refine (gcd_as _ _ d _ (by omega) (by omega) HH.out.gd).mono ?_
  rintro e _ ⟨rfl, nr, rfl⟩
  clear rA fA zA rB fB zB rR fR zR
  replace oA := oA.drewN nr
  replace oB := oB.drewN nr
  replace oR := oR.drewN nr
  replace hB := bd hB nr
  generalize World.drewN y1 nr = y2 at *
  obtain ⟨rA, fA⟩ := oA.rules
  have zA := oA.lt
  obtain ⟨rB, fB⟩ := oB.rules
  have zB := oB.lt
  obtain ⟨rR, fR⟩ := oR.rules
  have zR := oR.lt
  go_wp2
  go_quiet ((first | (go_at_call 153; exact Calls.quiet_same (size_any _ _ (by omega) (by omega))) | (go_at_call 161; exact Calls.quiet_same (mul64_as an.natAbs b xh xl _ (by omega) (by omega) HH.out.mxh HH.out.mxl))))
  clear rA fA zA rB fB zB rR fR zR
  replace oA := oA.drewN nq
  replace oB := oB.drewN nq
  replace oR := oR.drewN nq
  replace hB := bd hB nq
  generalize World.drewN y2 nq = y3 at *
  obtain ⟨rA, fA⟩ := oA.rules
  have zA := oA.lt
  obtain ⟨rB, fB⟩ := oB.rules
  have zB := oB.lt
  obtain ⟨rR, fR⟩ := oR.rules
  have zR := oR.lt
  go_wp2
  go_quiet ((first | (go_at_call 153; exact Calls.quiet_same (size_any _ _ (by omega) (by omega))) | (go_at_call 161; exact Calls.quiet_same (mul64_as bn.natAbs a yh yl _ (by omega) (by omega) HH.out.myh HH.out.myl))))
  clear rA fA zA rB fB zB rR fR zR
  replace oA := oA.drewN nq
  replace oB := oB.drewN nq
  replace oR := oR.drewN nq
  replace hB := bd hB nq
  generalize World.drewN y3 nq = y4 at *
  obtain ⟨rA, fA⟩ := oA.rules
  have zA := oA.lt
  obtain ⟨rB, fB⟩ := oB.rules
  have zB := oB.lt
  obtain ⟨rR, fR⟩ := oR.rules
  have zR := oR.lt
  go_wp2_with fail
  refine (rem64_as hi lo d r _ d0 HI.out (by have := HH.out.dle; omega) LO.out HH.out.rd).mono ?_
  rintro e _ ⟨rfl, nr, rfl⟩
  clear rA fA zA rB fB zB rR fR zR
  replace oA := oA.drewN nr
  replace oB := oB.drewN nr
  replace oR := oR.drewN nr
  replace hB := bd hB nr
  generalize World.drewN y4 nr = y5 at *
  obtain ⟨rA, fA⟩ := oA.rules
  have zA := oA.lt
  obtain ⟨rB, fB⟩ := oB.rules
  have zB := oB.lt
  obtain ⟨rR, fR⟩ := oR.rules
  have zR := oR.lt
  go_wp2_with fail
  refine (gcd_as d r g _ (by have := HH.out.dle; omega) rl.out HH.out.gg).mono ?_
  rintro e _ ⟨rfl, nr, rfl⟩
  clear rA fA zA rB fB zB rR fR zR
  replace oA := oA.drewN nr
  replace oB := oB.drewN nr
  replace oR := oR.drewN nr
  replace hB := bd hB nr
  generalize World.drewN y5 nr = y6 at *
  obtain ⟨rA, fA⟩ := oA.rules
  have zA := oA.lt
  obtain ⟨rB, fB⟩ := oB.rules
  have zB := oB.lt
  obtain ⟨rR, fR⟩ := oR.rules
  have zR := oR.lt
  by_cases hh : g ≤ hi
  · have HN := Lib.hid (HH.out.high hh)
    go_wp2
    refine bp_gen' (fun W => Own W (w.heap.size + 1 + 1) 78 [.int .i64 0, .int .i64 0] ∧ Below w.heap.size w W) ⟨(oR.set 0 (.int .i64 0)).set 1 (.int .i64 0), ?_⟩ ?_
    · repeat (refine Below.setCell ?_ (by first | omega | (simp; done) | (simp; omega)) _)
      exact hB
    rintro wz ⟨oz, bz⟩
    obtain ⟨rz, fz⟩ := oz.rules
    clear oz
    refine bodyPost_ret (v := .tuple #[.agg #[.int .i64 0, .int .i64 0], .int .i64 16]) (by simp [results, Try.results148, go_sem, rz]) rfl ⟨by rw [HN.out], ?_⟩
    repeat (refine Below.setCell ?_ (by first | omega | (simp; done) | (simp; omega)) _)
    exact bz
  have nl : (num : Int) ≤ 18446744073709551615 := by have := HH.out.low (by omega); omega
  go_wp2_with fail
  refine (div64_as hi lo g num _ _ (by omega) (by have := HH.out.gle; omega) LO.out HH.out.nd rfl).mono ?_
  rintro e _ ⟨rfl, nr, rfl⟩
  clear rA fA zA rB fB zB rR fR zR
  replace oA := oA.drewN nr
  replace oB := oB.drewN nr
  replace oR := oR.drewN nr
  replace hB := bd hB nr
  generalize World.drewN y6 nr = y7 at *
  obtain ⟨rA, fA⟩ := oA.rules
  have zA := oA.lt
  obtain ⟨rB, fB⟩ := oB.rules
  have zB := oB.lt
  obtain ⟨rR, fR⟩ := oR.rules
  have zR := oR.lt
  generalize (hi * 18446744073709551616 + lo) % g = rr at *
  go_wp2
  go_quiet ((go_at_call 161; exact Calls.quiet_same (mul64_as a bg dh dl _ (by omega) (by omega) HH.out.mdh HH.out.mdl)))
  clear rA fA zA rB fB zB rR fR zR
  replace oA := oA.drewN nq
  replace oB := oB.drewN nq
  replace oR := oR.drewN nq
  replace hB := bd hB nq
  generalize World.drewN y7 nq = y8 at *
  obtain ⟨rA, fA⟩ := oA.rules
  have zA := oA.lt
  obtain ⟨rB, fB⟩ := oB.rules
  have zB := oB.lt
  obtain ⟨rR, fR⟩ := oR.rules
  have zR := oR.lt
  by_cases hz : dh = 0
  case neg =>
    have HN := Lib.hid (HH.out.denHigh hz)
    have bz : ((dh : Int) != 0) = true := by simp; omega
    clear hz
    go_wp2
    refine bp_gen' (fun W => Own W (w.heap.size + 1 + 1) 78 [.int .i64 0, .int .i64 0] ∧ Below w.heap.size w W) ⟨(oR.set 0 (.int .i64 0)).set 1 (.int .i64 0), ?_⟩ ?_
    · repeat (refine Below.setCell ?_ (by first | omega | (simp; done) | (simp; omega)) _)
      exact hB
    rintro wz ⟨oz, bz⟩
    obtain ⟨rz, fz⟩ := oz.rules
    clear oz
    refine bodyPost_ret (v := .tuple #[.agg #[.int .i64 0, .int .i64 0], .int .i64 16]) (by simp [results, Try.results148, go_sem, rz]) rfl ⟨by rw [HN.out], ?_⟩
    repeat (refine Below.setCell ?_ (by first | omega | (simp; done) | (simp; omega)) _)
    exact bz
  have HV := Lib.hid (HH.out.out hz)
  have dll : (dl : Int) ≤ 18446744073709551615 := by have := HH.out.mdl; omega
  have bz : ((dh : Int) != 0) = false := by simp [hz]
  clear hz
  go_wp2_with fail
  refine (build_any _ _ _ _ (by omega) nl (by omega) dll).mono ?_
  rintro e y9 ⟨rfl, hq⟩
  clear rA fA zA rB fB zB rR fR zR
  replace oA := oA.below hq
  replace oB := oB.below hq
  replace oR := oR.below hq
  replace hB := below_to hB hq
  clear hq
  obtain ⟨rA, fA⟩ := oA.rules
  have zA := oA.lt
  obtain ⟨rB, fB⟩ := oB.rules
  have zB := oB.lt
  obtain ⟨rR, fR⟩ := oR.rules
  have zR := oR.lt
  generalize bld s (num : Int) (dl : Int) = rs at *
  go_wp2
  refine bp_gen' (fun W => Own W (w.heap.size + 1 + 1) 78 [.int .i64 rs.n, .int .i64 rs.d] ∧ Below w.heap.size w W) ⟨(oR.set 0 (.int .i64 rs.n)).set 1 (.int .i64 rs.d), ?_⟩ ?_
  · repeat (refine Below.setCell ?_ (by first | omega | (simp; done) | (simp; omega)) _)
    exact hB
  rintro wz ⟨oz, bz⟩
  obtain ⟨rz, fz⟩ := oz.rules
  clear oz
  refine bodyPost_ret (v := .tuple #[.agg #[.int .i64 rs.n, .int .i64 rs.d], .int .i64 rs.e]) (by simp [results, Try.results148, go_sem, rz]) rfl ⟨by rw [HV.out], ?_⟩
  repeat (refine Below.setCell ?_ (by first | omega | (simp; done) | (simp; omega)) _)
  exact bz
set_option maxRecDepth 100000 in
set_option maxHeartbeats 16000000 in
theorem fsum_more (an bn : Int) (A B : Nat) (w : World) (c1 : fchk an A = 0) (c2 : fchk bn B = 0) (s : Bool) (sa : decide (an < 0) = s) (sb : decide (bn < 0) = !s) (hl : bn.natAbs * (A / Nat.gcd A B) ≤ an.natAbs * (B / Nat.gcd A B)) :
    Calls Try.prog 148 #[.agg #[.int .i64 an, .int .i64 A], .agg #[.int .i64 bn, .int .i64 B]] w fun e w' => e = .returned (.tuple #[.agg #[.int .i64 (pack (Rat.divInt an A + Rat.divInt bn B)).n, .int .i64 (pack (Rat.divInt an A + Rat.divInt bn B)).d], .int .i64 (pack (Rat.divInt an A + Rat.divInt bn B)).e]) ∧ Below w.heap.size w w' := by
  obtain ⟨k1, k2, k3, k4, _⟩ := fok_of c1
  obtain ⟨l1, l2, l3, l4, _⟩ := fok_of c2
  have q1 := Nat.div_le_self A (Nat.gcd A B)
  have q2 := Nat.div_le_self B (Nat.gcd A B)
  have bx := mul36 (show an.natAbs ≤ 1000000000000000000 by omega) (show B / Nat.gcd A B ≤ 1000000000000000000 by omega)
  have bY := mul36 (show bn.natAbs ≤ 1000000000000000000 by omega) (show A / Nat.gcd A B ≤ 1000000000000000000 by omega)
  obtain ⟨xh, xl, yh, yl, r, g, num, bg, dh, dl, H⟩ := sumSteps c1 c2 ((an.natAbs * (B / Nat.gcd A B)) - (bn.natAbs * (A / Nat.gcd A B))) s (by omega) (sgn_more rfl rfl sa sb _ _ hl)
  obtain ⟨t1, t2, t3⟩ := sub_halves (an.natAbs * (B / Nat.gcd A B)) (bn.natAbs * (A / Nat.gcd A B)) hl (by omega)
  have wz := wid_ge hl
  have HH := Lib.hid H
  have xh_ : xh = (an.natAbs * (B / Nat.gcd A B)) / 18446744073709551616 := Int.ofNat.inj H.mxh.symm
  have xl_ : xl = (an.natAbs * (B / Nat.gcd A B)) % 18446744073709551616 := Int.ofNat.inj H.mxl.symm
  have yh_ : yh = (bn.natAbs * (A / Nat.gcd A B)) / 18446744073709551616 := Int.ofNat.inj H.myh.symm
  have yl_ : yl = (bn.natAbs * (A / Nat.gcd A B)) % 18446744073709551616 := Int.ofNat.inj H.myl.symm
  rw [← xh_, ← yh_, ← xl_, ← yl_] at t3
  rw [← xl_, ← yl_] at t1 t2
  rw [← xh_, ← yh_, ← xl_, ← yl_] at wz
  obtain ⟨co, hco⟩ : ∃ c, c = (if xl < yl + 0 then 1 else 0) := ⟨_, rfl⟩
  rw [← hco] at t2 t3
  have E1 := sub64_as0 xl yl _ co t1 hco.symm
  have E2 := fun c2 hc2 => sub64_as xh yh co _ c2 t2 t3 hc2
  replace E2 := E2 _ rfl
  obtain ⟨S, hS⟩ : ∃ S, S = (an.natAbs * (B / Nat.gcd A B)) - (bn.natAbs * (A / Nat.gcd A B)) := ⟨_, rfl⟩
  rw [← hS] at E1 E2 HH
  obtain ⟨hi, hhi⟩ : ∃ h, h = S / 18446744073709551616 := ⟨_, rfl⟩
  obtain ⟨lo, hlo⟩ : ∃ h, h = S % 18446744073709551616 := ⟨_, rfl⟩
  rw [← hlo] at E1 HH
  rw [← hhi] at E2 HH
  have HI : Hid (hi < 18446744073709551616) := by show _ < _; have := HH.out.Sl; omega
  have LO : Hid (lo < 18446744073709551616) := by show _ < _; omega
  obtain ⟨c3, hc3⟩ : ∃ c : Nat, (c : Int) = ((if xh < yh + co then 1 else 0 : Nat) : Int) := ⟨_, rfl⟩
  rw [← hc3] at E2
  obtain ⟨z, hz⟩ : ∃ z, z = wid xh xl yh yl := ⟨_, rfl⟩
  rw [← hz] at wz
  have WZ := Lib.hid hz.symm
  clear hz
  have wz2 : ¬ z < 0 := by omega
  clear t1 t2 t3 hco hc3 hhi hlo hS xh_ xl_ yh_ yl_ bx bY q1 q2 H hl
  have gd := Lib.hid HH.out.gd
  obtain ⟨d, hd⟩ : ∃ d, d = Nat.gcd A B := ⟨_, rfl⟩
  rw [← hd] at HH
  obtain ⟨a, ha⟩ : ∃ a, a = A / d := ⟨_, rfl⟩
  obtain ⟨b, hb⟩ : ∃ b, b = B / d := ⟨_, rfl⟩
  rw [← ha, ← hb] at HH
  clear ha hb hd gd
  have qa := HH.out.qa
  have qb := HH.out.qb
  have qg := HH.out.qg
  have d0 := HH.out.dp
  have g0 := HH.out.gp
  have d1 : ((d : Int) == 0) = false := by simp; omega
  have d2 : ¬ ((d : Int) = 0) := by omega
  have g1 : ((g : Int) == 0) = false := by simp; omega
  have g2 : ¬ ((g : Int) = 0) := by omega
  have al : (a : Int) ≤ 1000000000000000000 := by have := HH.out.al; omega
  have bl : (b : Int) ≤ 1000000000000000000 := by have := HH.out.bl; omega
  have bgl : (bg : Int) ≤ 1000000000000000000 := by have := HH.out.bgl; omega
  have wa : IntKind.u64.wrap ((A : Int) / (d : Int)) = (A : Int) / (d : Int) := wrap_quo A d (by omega)
  have wb : IntKind.u64.wrap ((B : Int) / (d : Int)) = (B : Int) / (d : Int) := wrap_quo B d (by omega)
  have wg : IntKind.u64.wrap ((B : Int) / (g : Int)) = (B : Int) / (g : Int) := wrap_quo B g (by omega)
  have rl : Hid (r ≤ 18446744073709551615) := by show _ ≤ _; have h1 := HH.out.rd; have h2 := Nat.mod_lt (hi * 18446744073709551616 + lo) d0; have h3 := HH.out.dle; omega
  clear c1 c2
  go_enter Try.func148, Try.ntmps148
  have oA := (own_first w 78 [.int .i64 an, .int .i64 A] (.cells #[.int .i64 bn, .int .i64 B] 78)).alloc (.cells #[.int .i64 0, .int .i64 0] 78)
  have oB := (own_second w 78 [.int .i64 bn, .int .i64 B] (.cells #[.int .i64 an, .int .i64 A] 78)).alloc (.cells #[.int .i64 0, .int .i64 0] 78)
  have oR := own_third w 78 [.int .i64 0, .int .i64 0] (.cells #[.int .i64 an, .int .i64 A] 78) (.cells #[.int .i64 bn, .int .i64 B] 78)
  have hB := ba3 w (.cells #[.int .i64 an, .int .i64 A] 78) (.cells #[.int .i64 bn, .int .i64 B] 78) (.cells #[.int .i64 0, .int .i64 0] 78)
  go_wp2
  generalize ((w.alloc (.cells #[.int .i64 an, .int .i64 A] 78)).alloc (.cells #[.int .i64 bn, .int .i64 B] 78)).alloc (.cells #[.int .i64 0, .int .i64 0] 78) = y0 at *
  obtain ⟨rA, fA⟩ := oA.rules
  have zA := oA.lt
  obtain ⟨rB, fB⟩ := oB.rules
  have zB := oB.lt
  obtain ⟨rR, fR⟩ := oR.rules
  have zR := oR.lt
  go_quiet ((go_at_call 153; exact Calls.quiet_same (size_any _ _ (by omega) (by omega))))
  rw [Int.natAbs_natCast, Int.natAbs_natCast]
  clear rA fA zA rB fB zB rR fR zR
  replace oA := oA.drewN nq
  replace oB := oB.drewN nq
  replace oR := oR.drewN nq
  replace hB := bd hB nq
  generalize World.drewN y0 nq = y1 at *
  obtain ⟨rA, fA⟩ := oA.rules
  have zA := oA.lt
  obtain ⟨rB, fB⟩ := oB.rules
  have zB := oB.lt
  obtain ⟨rR, fR⟩ := oR.rules
  have zR := oR.lt
  go_wp2_with fail
  refine (gcd_as _ _ d _ (by omega) (by omega) HH.out.gd).mono ?_
  rintro e _ ⟨rfl, nr, rfl⟩
  clear rA fA zA rB fB zB rR fR zR
  replace oA := oA.drewN nr
  replace oB := oB.drewN nr
  replace oR := oR.drewN nr
  replace hB := bd hB nr
  generalize World.drewN y1 nr = y2 at *
  obtain ⟨rA, fA⟩ := oA.rules
  have zA := oA.lt
  obtain ⟨rB, fB⟩ := oB.rules
  have zB := oB.lt
  obtain ⟨rR, fR⟩ := oR.rules
  have zR := oR.lt
  go_wp2
  go_quiet ((first | (go_at_call 153; exact Calls.quiet_same (size_any _ _ (by omega) (by omega))) | (go_at_call 161; exact Calls.quiet_same (mul64_as an.natAbs b xh xl _ (by omega) (by omega) HH.out.mxh HH.out.mxl))))
  clear rA fA zA rB fB zB rR fR zR
  replace oA := oA.drewN nq
  replace oB := oB.drewN nq
  replace oR := oR.drewN nq
  replace hB := bd hB nq
  generalize World.drewN y2 nq = y3 at *
  obtain ⟨rA, fA⟩ := oA.rules
  have zA := oA.lt
  obtain ⟨rB, fB⟩ := oB.rules
  have zB := oB.lt
  obtain ⟨rR, fR⟩ := oR.rules
  have zR := oR.lt
  go_wp2
  go_quiet ((first | (go_at_call 153; exact Calls.quiet_same (size_any _ _ (by omega) (by omega))) | (go_at_call 161; exact Calls.quiet_same (mul64_as bn.natAbs a yh yl _ (by omega) (by omega) HH.out.myh HH.out.myl))))
  clear rA fA zA rB fB zB rR fR zR
  replace oA := oA.drewN nq
  replace oB := oB.drewN nq
  replace oR := oR.drewN nq
  replace hB := bd hB nq
  generalize World.drewN y3 nq = y4 at *
  obtain ⟨rA, fA⟩ := oA.rules
  have zA := oA.lt
  obtain ⟨rB, fB⟩ := oB.rules
  have zB := oB.lt
  obtain ⟨rR, fR⟩ := oR.rules
  have zR := oR.lt
  go_wp2_with fail
  refine (wider_as _ _ _ _ z _ WZ.out).mono ?_
  rintro e _ ⟨rfl, rfl⟩
  go_wp2_with fail
  refine (rem64_as hi lo d r _ d0 HI.out (by have := HH.out.dle; omega) LO.out HH.out.rd).mono ?_
  rintro e _ ⟨rfl, nr, rfl⟩
  clear rA fA zA rB fB zB rR fR zR
  replace oA := oA.drewN nr
  replace oB := oB.drewN nr
  replace oR := oR.drewN nr
  replace hB := bd hB nr
  generalize World.drewN y4 nr = y5 at *
  obtain ⟨rA, fA⟩ := oA.rules
  have zA := oA.lt
  obtain ⟨rB, fB⟩ := oB.rules
  have zB := oB.lt
  obtain ⟨rR, fR⟩ := oR.rules
  have zR := oR.lt
  go_wp2_with fail
  refine (gcd_as d r g _ (by have := HH.out.dle; omega) rl.out HH.out.gg).mono ?_
  rintro e _ ⟨rfl, nr, rfl⟩
  clear rA fA zA rB fB zB rR fR zR
  replace oA := oA.drewN nr
  replace oB := oB.drewN nr
  replace oR := oR.drewN nr
  replace hB := bd hB nr
  generalize World.drewN y5 nr = y6 at *
  obtain ⟨rA, fA⟩ := oA.rules
  have zA := oA.lt
  obtain ⟨rB, fB⟩ := oB.rules
  have zB := oB.lt
  obtain ⟨rR, fR⟩ := oR.rules
  have zR := oR.lt
  by_cases hh : g ≤ hi
  · have HN := Lib.hid (HH.out.high hh)
    go_wp2
    refine bp_gen' (fun W => Own W (w.heap.size + 1 + 1) 78 [.int .i64 0, .int .i64 0] ∧ Below w.heap.size w W) ⟨(oR.set 0 (.int .i64 0)).set 1 (.int .i64 0), ?_⟩ ?_
    · repeat (refine Below.setCell ?_ (by first | omega | (simp; done) | (simp; omega)) _)
      exact hB
    rintro wz ⟨oz, bz⟩
    obtain ⟨rz, fz⟩ := oz.rules
    clear oz
    refine bodyPost_ret (v := .tuple #[.agg #[.int .i64 0, .int .i64 0], .int .i64 16]) (by simp [results, Try.results148, go_sem, rz]) rfl ⟨by rw [HN.out], ?_⟩
    repeat (refine Below.setCell ?_ (by first | omega | (simp; done) | (simp; omega)) _)
    exact bz
  have nl : (num : Int) ≤ 18446744073709551615 := by have := HH.out.low (by omega); omega
  go_wp2_with fail
  refine (div64_as hi lo g num _ _ (by omega) (by have := HH.out.gle; omega) LO.out HH.out.nd rfl).mono ?_
  rintro e _ ⟨rfl, nr, rfl⟩
  clear rA fA zA rB fB zB rR fR zR
  replace oA := oA.drewN nr
  replace oB := oB.drewN nr
  replace oR := oR.drewN nr
  replace hB := bd hB nr
  generalize World.drewN y6 nr = y7 at *
  obtain ⟨rA, fA⟩ := oA.rules
  have zA := oA.lt
  obtain ⟨rB, fB⟩ := oB.rules
  have zB := oB.lt
  obtain ⟨rR, fR⟩ := oR.rules
  have zR := oR.lt
  generalize (hi * 18446744073709551616 + lo) % g = rr at *
  go_wp2
  go_quiet ((go_at_call 161; exact Calls.quiet_same (mul64_as a bg dh dl _ (by omega) (by omega) HH.out.mdh HH.out.mdl)))
  clear rA fA zA rB fB zB rR fR zR
  replace oA := oA.drewN nq
  replace oB := oB.drewN nq
  replace oR := oR.drewN nq
  replace hB := bd hB nq
  generalize World.drewN y7 nq = y8 at *
  obtain ⟨rA, fA⟩ := oA.rules
  have zA := oA.lt
  obtain ⟨rB, fB⟩ := oB.rules
  have zB := oB.lt
  obtain ⟨rR, fR⟩ := oR.rules
  have zR := oR.lt
  by_cases hz : dh = 0
  case neg =>
    have HN := Lib.hid (HH.out.denHigh hz)
    have bz : ((dh : Int) != 0) = true := by simp; omega
    clear hz
    go_wp2
    refine bp_gen' (fun W => Own W (w.heap.size + 1 + 1) 78 [.int .i64 0, .int .i64 0] ∧ Below w.heap.size w W) ⟨(oR.set 0 (.int .i64 0)).set 1 (.int .i64 0), ?_⟩ ?_
    · repeat (refine Below.setCell ?_ (by first | omega | (simp; done) | (simp; omega)) _)
      exact hB
    rintro wz ⟨oz, bz⟩
    obtain ⟨rz, fz⟩ := oz.rules
    clear oz
    refine bodyPost_ret (v := .tuple #[.agg #[.int .i64 0, .int .i64 0], .int .i64 16]) (by simp [results, Try.results148, go_sem, rz]) rfl ⟨by rw [HN.out], ?_⟩
    repeat (refine Below.setCell ?_ (by first | omega | (simp; done) | (simp; omega)) _)
    exact bz
  have HV := Lib.hid (HH.out.out hz)
  have dll : (dl : Int) ≤ 18446744073709551615 := by have := HH.out.mdl; omega
  have bz : ((dh : Int) != 0) = false := by simp [hz]
  clear hz
  go_wp2_with fail
  refine (build_any _ _ _ _ (by omega) nl (by omega) dll).mono ?_
  rintro e y9 ⟨rfl, hq⟩
  clear rA fA zA rB fB zB rR fR zR
  replace oA := oA.below hq
  replace oB := oB.below hq
  replace oR := oR.below hq
  replace hB := below_to hB hq
  clear hq
  obtain ⟨rA, fA⟩ := oA.rules
  have zA := oA.lt
  obtain ⟨rB, fB⟩ := oB.rules
  have zB := oB.lt
  obtain ⟨rR, fR⟩ := oR.rules
  have zR := oR.lt
  generalize bld s (num : Int) (dl : Int) = rs at *
  go_wp2
  refine bp_gen' (fun W => Own W (w.heap.size + 1 + 1) 78 [.int .i64 rs.n, .int .i64 rs.d] ∧ Below w.heap.size w W) ⟨(oR.set 0 (.int .i64 rs.n)).set 1 (.int .i64 rs.d), ?_⟩ ?_
  · repeat (refine Below.setCell ?_ (by first | omega | (simp; done) | (simp; omega)) _)
    exact hB
  rintro wz ⟨oz, bz⟩
  obtain ⟨rz, fz⟩ := oz.rules
  clear oz
  refine bodyPost_ret (v := .tuple #[.agg #[.int .i64 rs.n, .int .i64 rs.d], .int .i64 rs.e]) (by simp [results, Try.results148, go_sem, rz]) rfl ⟨by rw [HV.out], ?_⟩
  repeat (refine Below.setCell ?_ (by first | omega | (simp; done) | (simp; omega)) _)
  exact bz
set_option maxRecDepth 100000 in
set_option maxHeartbeats 16000000 in
theorem fsum_less (an bn : Int) (A B : Nat) (w : World) (c1 : fchk an A = 0) (c2 : fchk bn B = 0) (s : Bool) (sa : decide (an < 0) = s) (sb : decide (bn < 0) = !s) (hl : an.natAbs * (B / Nat.gcd A B) < bn.natAbs * (A / Nat.gcd A B)) :
    Calls Try.prog 148 #[.agg #[.int .i64 an, .int .i64 A], .agg #[.int .i64 bn, .int .i64 B]] w fun e w' => e = .returned (.tuple #[.agg #[.int .i64 (pack (Rat.divInt an A + Rat.divInt bn B)).n, .int .i64 (pack (Rat.divInt an A + Rat.divInt bn B)).d], .int .i64 (pack (Rat.divInt an A + Rat.divInt bn B)).e]) ∧ Below w.heap.size w w' := by
  obtain ⟨k1, k2, k3, k4, _⟩ := fok_of c1
  obtain ⟨l1, l2, l3, l4, _⟩ := fok_of c2
  have q1 := Nat.div_le_self A (Nat.gcd A B)
  have q2 := Nat.div_le_self B (Nat.gcd A B)
  have bx := mul36 (show an.natAbs ≤ 1000000000000000000 by omega) (show B / Nat.gcd A B ≤ 1000000000000000000 by omega)
  have bY := mul36 (show bn.natAbs ≤ 1000000000000000000 by omega) (show A / Nat.gcd A B ≤ 1000000000000000000 by omega)
  obtain ⟨xh, xl, yh, yl, r, g, num, bg, dh, dl, H⟩ := sumSteps c1 c2 ((bn.natAbs * (A / Nat.gcd A B)) - (an.natAbs * (B / Nat.gcd A B))) (!s) (by omega) (sgn_less rfl rfl sa sb _ _ (Nat.le_of_lt hl))
  obtain ⟨t1, t2, t3⟩ := sub_halves (bn.natAbs * (A / Nat.gcd A B)) (an.natAbs * (B / Nat.gcd A B)) (Nat.le_of_lt hl) (by omega)
  have wz := wid_lt hl
  have HH := Lib.hid H
  have xh_ : xh = (an.natAbs * (B / Nat.gcd A B)) / 18446744073709551616 := Int.ofNat.inj H.mxh.symm
  have xl_ : xl = (an.natAbs * (B / Nat.gcd A B)) % 18446744073709551616 := Int.ofNat.inj H.mxl.symm
  have yh_ : yh = (bn.natAbs * (A / Nat.gcd A B)) / 18446744073709551616 := Int.ofNat.inj H.myh.symm
  have yl_ : yl = (bn.natAbs * (A / Nat.gcd A B)) % 18446744073709551616 := Int.ofNat.inj H.myl.symm
  rw [← xh_, ← yh_, ← xl_, ← yl_] at t3
  rw [← xl_, ← yl_] at t1 t2
  rw [← xh_, ← yh_, ← xl_, ← yl_] at wz
  obtain ⟨co, hco⟩ : ∃ c, c = (if yl < xl + 0 then 1 else 0) := ⟨_, rfl⟩
  rw [← hco] at t2 t3
  have E1 := sub64_as0 yl xl _ co t1 hco.symm
  have E2 := fun c2 hc2 => sub64_as yh xh co _ c2 t2 t3 hc2
  replace E2 := E2 _ rfl
  obtain ⟨S, hS⟩ : ∃ S, S = (bn.natAbs * (A / Nat.gcd A B)) - (an.natAbs * (B / Nat.gcd A B)) := ⟨_, rfl⟩
  rw [← hS] at E1 E2 HH
  obtain ⟨hi, hhi⟩ : ∃ h, h = S / 18446744073709551616 := ⟨_, rfl⟩
  obtain ⟨lo, hlo⟩ : ∃ h, h = S % 18446744073709551616 := ⟨_, rfl⟩
  rw [← hlo] at E1 HH
  rw [← hhi] at E2 HH
  have HI : Hid (hi < 18446744073709551616) := by show _ < _; have := HH.out.Sl; omega
  have LO : Hid (lo < 18446744073709551616) := by show _ < _; omega
  obtain ⟨c3, hc3⟩ : ∃ c : Nat, (c : Int) = ((if yh < xh + co then 1 else 0 : Nat) : Int) := ⟨_, rfl⟩
  rw [← hc3] at E2
  have WZ := Lib.hid wz
  clear wz
  clear t1 t2 t3 hco hc3 hhi hlo hS xh_ xl_ yh_ yl_ bx bY q1 q2 H hl
  have gd := Lib.hid HH.out.gd
  obtain ⟨d, hd⟩ : ∃ d, d = Nat.gcd A B := ⟨_, rfl⟩
  rw [← hd] at HH
  obtain ⟨a, ha⟩ : ∃ a, a = A / d := ⟨_, rfl⟩
  obtain ⟨b, hb⟩ : ∃ b, b = B / d := ⟨_, rfl⟩
  rw [← ha, ← hb] at HH
  clear ha hb hd gd
  have qa := HH.out.qa
  have qb := HH.out.qb
  have qg := HH.out.qg
  have d0 := HH.out.dp
  have g0 := HH.out.gp
  have d1 : ((d : Int) == 0) = false := by simp; omega
  have d2 : ¬ ((d : Int) = 0) := by omega
  have g1 : ((g : Int) == 0) = false := by simp; omega
  have g2 : ¬ ((g : Int) = 0) := by omega
  have al : (a : Int) ≤ 1000000000000000000 := by have := HH.out.al; omega
  have bl : (b : Int) ≤ 1000000000000000000 := by have := HH.out.bl; omega
  have bgl : (bg : Int) ≤ 1000000000000000000 := by have := HH.out.bgl; omega
  have wa : IntKind.u64.wrap ((A : Int) / (d : Int)) = (A : Int) / (d : Int) := wrap_quo A d (by omega)
  have wb : IntKind.u64.wrap ((B : Int) / (d : Int)) = (B : Int) / (d : Int) := wrap_quo B d (by omega)
  have wg : IntKind.u64.wrap ((B : Int) / (g : Int)) = (B : Int) / (g : Int) := wrap_quo B g (by omega)
  have rl : Hid (r ≤ 18446744073709551615) := by show _ ≤ _; have h1 := HH.out.rd; have h2 := Nat.mod_lt (hi * 18446744073709551616 + lo) d0; have h3 := HH.out.dle; omega
  clear c1 c2
  go_enter Try.func148, Try.ntmps148
  have oA := (own_first w 78 [.int .i64 an, .int .i64 A] (.cells #[.int .i64 bn, .int .i64 B] 78)).alloc (.cells #[.int .i64 0, .int .i64 0] 78)
  have oB := (own_second w 78 [.int .i64 bn, .int .i64 B] (.cells #[.int .i64 an, .int .i64 A] 78)).alloc (.cells #[.int .i64 0, .int .i64 0] 78)
  have oR := own_third w 78 [.int .i64 0, .int .i64 0] (.cells #[.int .i64 an, .int .i64 A] 78) (.cells #[.int .i64 bn, .int .i64 B] 78)
  have hB := ba3 w (.cells #[.int .i64 an, .int .i64 A] 78) (.cells #[.int .i64 bn, .int .i64 B] 78) (.cells #[.int .i64 0, .int .i64 0] 78)
  go_wp2
  generalize ((w.alloc (.cells #[.int .i64 an, .int .i64 A] 78)).alloc (.cells #[.int .i64 bn, .int .i64 B] 78)).alloc (.cells #[.int .i64 0, .int .i64 0] 78) = y0 at *
  obtain ⟨rA, fA⟩ := oA.rules
  have zA := oA.lt
  obtain ⟨rB, fB⟩ := oB.rules
  have zB := oB.lt
  obtain ⟨rR, fR⟩ := oR.rules
  have zR := oR.lt
  go_quiet ((go_at_call 153; exact Calls.quiet_same (size_any _ _ (by omega) (by omega))))
  rw [Int.natAbs_natCast, Int.natAbs_natCast]
  clear rA fA zA rB fB zB rR fR zR
  replace oA := oA.drewN nq
  replace oB := oB.drewN nq
  replace oR := oR.drewN nq
  replace hB := bd hB nq
  generalize World.drewN y0 nq = y1 at *
  obtain ⟨rA, fA⟩ := oA.rules
  have zA := oA.lt
  obtain ⟨rB, fB⟩ := oB.rules
  have zB := oB.lt
  obtain ⟨rR, fR⟩ := oR.rules
  have zR := oR.lt
  go_wp2_with fail
  refine (gcd_as _ _ d _ (by omega) (by omega) HH.out.gd).mono ?_
  rintro e _ ⟨rfl, nr, rfl⟩
  clear rA fA zA rB fB zB rR fR zR
  replace oA := oA.drewN nr
  replace oB := oB.drewN nr
  replace oR := oR.drewN nr
  replace hB := bd hB nr
  generalize World.drewN y1 nr = y2 at *
  obtain ⟨rA, fA⟩ := oA.rules
  have zA := oA.lt
  obtain ⟨rB, fB⟩ := oB.rules
  have zB := oB.lt
  obtain ⟨rR, fR⟩ := oR.rules
  have zR := oR.lt
  go_wp2
  go_quiet ((first | (go_at_call 153; exact Calls.quiet_same (size_any _ _ (by omega) (by omega))) | (go_at_call 161; exact Calls.quiet_same (mul64_as an.natAbs b xh xl _ (by omega) (by omega) HH.out.mxh HH.out.mxl))))
  clear rA fA zA rB fB zB rR fR zR
  replace oA := oA.drewN nq
  replace oB := oB.drewN nq
  replace oR := oR.drewN nq
  replace hB := bd hB nq
  generalize World.drewN y2 nq = y3 at *
  obtain ⟨rA, fA⟩ := oA.rules
  have zA := oA.lt
  obtain ⟨rB, fB⟩ := oB.rules
  have zB := oB.lt
  obtain ⟨rR, fR⟩ := oR.rules
  have zR := oR.lt
  go_wp2
  go_quiet ((first | (go_at_call 153; exact Calls.quiet_same (size_any _ _ (by omega) (by omega))) | (go_at_call 161; exact Calls.quiet_same (mul64_as bn.natAbs a yh yl _ (by omega) (by omega) HH.out.myh HH.out.myl))))
  clear rA fA zA rB fB zB rR fR zR
  replace oA := oA.drewN nq
  replace oB := oB.drewN nq
  replace oR := oR.drewN nq
  replace hB := bd hB nq
  generalize World.drewN y3 nq = y4 at *
  obtain ⟨rA, fA⟩ := oA.rules
  have zA := oA.lt
  obtain ⟨rB, fB⟩ := oB.rules
  have zB := oB.lt
  obtain ⟨rR, fR⟩ := oR.rules
  have zR := oR.lt
  go_wp2_with fail
  refine (wider_as _ _ _ _ (-1) _ WZ.out).mono ?_
  rintro e _ ⟨rfl, rfl⟩
  go_wp2_with fail
  refine (rem64_as hi lo d r _ d0 HI.out (by have := HH.out.dle; omega) LO.out HH.out.rd).mono ?_
  rintro e _ ⟨rfl, nr, rfl⟩
  clear rA fA zA rB fB zB rR fR zR
  replace oA := oA.drewN nr
  replace oB := oB.drewN nr
  replace oR := oR.drewN nr
  replace hB := bd hB nr
  generalize World.drewN y4 nr = y5 at *
  obtain ⟨rA, fA⟩ := oA.rules
  have zA := oA.lt
  obtain ⟨rB, fB⟩ := oB.rules
  have zB := oB.lt
  obtain ⟨rR, fR⟩ := oR.rules
  have zR := oR.lt
  go_wp2_with fail
  refine (gcd_as d r g _ (by have := HH.out.dle; omega) rl.out HH.out.gg).mono ?_
  rintro e _ ⟨rfl, nr, rfl⟩
  clear rA fA zA rB fB zB rR fR zR
  replace oA := oA.drewN nr
  replace oB := oB.drewN nr
  replace oR := oR.drewN nr
  replace hB := bd hB nr
  generalize World.drewN y5 nr = y6 at *
  obtain ⟨rA, fA⟩ := oA.rules
  have zA := oA.lt
  obtain ⟨rB, fB⟩ := oB.rules
  have zB := oB.lt
  obtain ⟨rR, fR⟩ := oR.rules
  have zR := oR.lt
  by_cases hh : g ≤ hi
  · have HN := Lib.hid (HH.out.high hh)
    go_wp2
    refine bp_gen' (fun W => Own W (w.heap.size + 1 + 1) 78 [.int .i64 0, .int .i64 0] ∧ Below w.heap.size w W) ⟨(oR.set 0 (.int .i64 0)).set 1 (.int .i64 0), ?_⟩ ?_
    · repeat (refine Below.setCell ?_ (by first | omega | (simp; done) | (simp; omega)) _)
      exact hB
    rintro wz ⟨oz, bz⟩
    obtain ⟨rz, fz⟩ := oz.rules
    clear oz
    refine bodyPost_ret (v := .tuple #[.agg #[.int .i64 0, .int .i64 0], .int .i64 16]) (by simp [results, Try.results148, go_sem, rz]) rfl ⟨by rw [HN.out], ?_⟩
    repeat (refine Below.setCell ?_ (by first | omega | (simp; done) | (simp; omega)) _)
    exact bz
  have nl : (num : Int) ≤ 18446744073709551615 := by have := HH.out.low (by omega); omega
  go_wp2_with fail
  refine (div64_as hi lo g num _ _ (by omega) (by have := HH.out.gle; omega) LO.out HH.out.nd rfl).mono ?_
  rintro e _ ⟨rfl, nr, rfl⟩
  clear rA fA zA rB fB zB rR fR zR
  replace oA := oA.drewN nr
  replace oB := oB.drewN nr
  replace oR := oR.drewN nr
  replace hB := bd hB nr
  generalize World.drewN y6 nr = y7 at *
  obtain ⟨rA, fA⟩ := oA.rules
  have zA := oA.lt
  obtain ⟨rB, fB⟩ := oB.rules
  have zB := oB.lt
  obtain ⟨rR, fR⟩ := oR.rules
  have zR := oR.lt
  generalize (hi * 18446744073709551616 + lo) % g = rr at *
  go_wp2
  go_quiet ((go_at_call 161; exact Calls.quiet_same (mul64_as a bg dh dl _ (by omega) (by omega) HH.out.mdh HH.out.mdl)))
  clear rA fA zA rB fB zB rR fR zR
  replace oA := oA.drewN nq
  replace oB := oB.drewN nq
  replace oR := oR.drewN nq
  replace hB := bd hB nq
  generalize World.drewN y7 nq = y8 at *
  obtain ⟨rA, fA⟩ := oA.rules
  have zA := oA.lt
  obtain ⟨rB, fB⟩ := oB.rules
  have zB := oB.lt
  obtain ⟨rR, fR⟩ := oR.rules
  have zR := oR.lt
  by_cases hz : dh = 0
  case neg =>
    have HN := Lib.hid (HH.out.denHigh hz)
    have bz : ((dh : Int) != 0) = true := by simp; omega
    clear hz
    go_wp2
    refine bp_gen' (fun W => Own W (w.heap.size + 1 + 1) 78 [.int .i64 0, .int .i64 0] ∧ Below w.heap.size w W) ⟨(oR.set 0 (.int .i64 0)).set 1 (.int .i64 0), ?_⟩ ?_
    · repeat (refine Below.setCell ?_ (by first | omega | (simp; done) | (simp; omega)) _)
      exact hB
    rintro wz ⟨oz, bz⟩
    obtain ⟨rz, fz⟩ := oz.rules
    clear oz
    refine bodyPost_ret (v := .tuple #[.agg #[.int .i64 0, .int .i64 0], .int .i64 16]) (by simp [results, Try.results148, go_sem, rz]) rfl ⟨by rw [HN.out], ?_⟩
    repeat (refine Below.setCell ?_ (by first | omega | (simp; done) | (simp; omega)) _)
    exact bz
  have HV := Lib.hid (HH.out.out hz)
  have dll : (dl : Int) ≤ 18446744073709551615 := by have := HH.out.mdl; omega
  have bz : ((dh : Int) != 0) = false := by simp [hz]
  clear hz
  go_wp2_with fail
  refine (build_any _ _ _ _ (by omega) nl (by omega) dll).mono ?_
  rintro e y9 ⟨rfl, hq⟩
  clear rA fA zA rB fB zB rR fR zR
  replace oA := oA.below hq
  replace oB := oB.below hq
  replace oR := oR.below hq
  replace hB := below_to hB hq
  clear hq
  obtain ⟨rA, fA⟩ := oA.rules
  have zA := oA.lt
  obtain ⟨rB, fB⟩ := oB.rules
  have zB := oB.lt
  obtain ⟨rR, fR⟩ := oR.rules
  have zR := oR.lt
  generalize bld (!s) (num : Int) (dl : Int) = rs at *
  go_wp2
  refine bp_gen' (fun W => Own W (w.heap.size + 1 + 1) 78 [.int .i64 rs.n, .int .i64 rs.d] ∧ Below w.heap.size w W) ⟨(oR.set 0 (.int .i64 rs.n)).set 1 (.int .i64 rs.d), ?_⟩ ?_
  · repeat (refine Below.setCell ?_ (by first | omega | (simp; done) | (simp; omega)) _)
    exact hB
  rintro wz ⟨oz, bz⟩
  obtain ⟨rz, fz⟩ := oz.rules
  clear oz
  refine bodyPost_ret (v := .tuple #[.agg #[.int .i64 rs.n, .int .i64 rs.d], .int .i64 rs.e]) (by simp [results, Try.results148, go_sem, rz]) rfl ⟨by rw [HV.out], ?_⟩
  repeat (refine Below.setCell ?_ (by first | omega | (simp; done) | (simp; omega)) _)
  exact bz
theorem fsum_any (an ad bn bd : Int) (w : World) (c1 : fchk an ad = 0) (c2 : fchk bn bd = 0) :
    Calls Try.prog 148 #[.agg #[.int .i64 an, .int .i64 ad], .agg #[.int .i64 bn, .int .i64 bd]] w fun e w' => e = .returned (.tuple #[.agg #[.int .i64 (pack (Rat.divInt an ad + Rat.divInt bn bd)).n, .int .i64 (pack (Rat.divInt an ad + Rat.divInt bn bd)).d], .int .i64 (pack (Rat.divInt an ad + Rat.divInt bn bd)).e]) ∧ Below w.heap.size w w' := by
  obtain ⟨k1, k2, k3, k4, _⟩ := fok_of c1
  obtain ⟨l1, l2, l3, l4, _⟩ := fok_of c2
  obtain ⟨A, rfl⟩ := Int.eq_ofNat_of_zero_le (show 0 ≤ ad by omega)
  obtain ⟨B, rfl⟩ := Int.eq_ofNat_of_zero_le (show 0 ≤ bd by omega)
  by_cases h : decide (bn < 0) = decide (an < 0)
  · exact fsum_same an bn A B w c1 c2 _ rfl h
  · have h' : decide (bn < 0) = !decide (an < 0) := by
      revert h; cases decide (bn < 0) <;> cases decide (an < 0) <;> simp
    rcases Nat.lt_or_ge (an.natAbs * (B / Nat.gcd A B)) (bn.natAbs * (A / Nat.gcd A B)) with hl | hl
    · exact fsum_less an bn A B w c1 c2 _ rfl h' hl
    · exact fsum_more an bn A B w c1 c2 _ rfl h' hl
end Go.Proofs.Ythlcmlngmcoknaa

/- What is proved here: the contract of frac.Add. Condition: 64-bit numbers. -/
namespace Go.Proofs.Ythlcmlngmcoknaa
open Go.RowKit

set_option maxRecDepth 100000 in
set_option maxHeartbeats 4000000 in
theorem fadd_any (an ad bn bd : Int) (w : World) (h1 : i64 an) (h2 : i64 ad) (h3 : i64 bn) (h4 : i64 bd) :
    Calls Try.prog 119 #[.agg #[.int .i64 an, .int .i64 ad], .agg #[.int .i64 bn, .int .i64 bd]] w fun e w' => e = .returned (.tuple #[.agg #[.int .i64 (fadd an ad bn bd).n, .int .i64 (fadd an ad bn bd).d], .int .i64 (fadd an ad bn bd).e]) ∧ Below w.heap.size w w' := by
  by_cases hb : fboth an ad bn bd = 0
  case neg =>
    have HV := Lib.hid (fadd_8 hb)
    have b1 : (fboth an ad bn bd != 0) = true := by simpa using hb
    clear hb
    go_enter Try.func119, Try.ntmps119
    have oA := (own_first w 78 [.int .i64 an, .int .i64 ad] (.cells #[.int .i64 bn, .int .i64 bd] 78)).alloc (.cells #[.int .i64 0, .int .i64 0] 78)
    have oB := (own_second w 78 [.int .i64 bn, .int .i64 bd] (.cells #[.int .i64 an, .int .i64 ad] 78)).alloc (.cells #[.int .i64 0, .int .i64 0] 78)
    have oR := own_third w 78 [.int .i64 0, .int .i64 0] (.cells #[.int .i64 an, .int .i64 ad] 78) (.cells #[.int .i64 bn, .int .i64 bd] 78)
    have hB := ba3 w (.cells #[.int .i64 an, .int .i64 ad] 78) (.cells #[.int .i64 bn, .int .i64 bd] 78) (.cells #[.int .i64 0, .int .i64 0] 78)
    go_wp2_with fail
    generalize ((w.alloc (.cells #[.int .i64 an, .int .i64 ad] 78)).alloc (.cells #[.int .i64 bn, .int .i64 bd] 78)).alloc (.cells #[.int .i64 0, .int .i64 0] 78) = y0 at *
    obtain ⟨rA, fA⟩ := oA.rules
    have zA := oA.lt
    obtain ⟨rB, fB⟩ := oB.rules
    have zB := oB.lt
    obtain ⟨rR, fR⟩ := oR.rules
    have zR := oR.lt
    refine (frboth_any _ _ _ _ _ h1 h2 h3 h4).mono ?_
    rintro e y1 ⟨rfl, hq⟩
    clear rA fA zA rB fB zB rR fR zR
    replace oA := oA.below hq
    replace oB := oB.below hq
    replace oR := oR.below hq
    replace hB := below_to hB hq
    clear hq
    obtain ⟨rA, fA⟩ := oA.rules
    have zA := oA.lt
    obtain ⟨rB, fB⟩ := oB.rules
    have zB := oB.lt
    obtain ⟨rR, fR⟩ := oR.rules
    have zR := oR.lt
    generalize fboth an ad bn bd = fe at *
    go_wp2
    refine bp_gen' (fun W => Own W (w.heap.size + 1 + 1) 78 [.int .i64 0, .int .i64 0] ∧ Below w.heap.size w W) ⟨(oR.set 0 (.int .i64 0)).set 1 (.int .i64 0), ?_⟩ ?_
    · repeat (refine Below.setCell ?_ (by first | omega | (simp; done) | (simp; omega)) _)
      exact hB
    rintro wz ⟨oz, bz⟩
    obtain ⟨rz, fz⟩ := oz.rules
    clear oz
    refine bodyPost_ret (v := .tuple #[.agg #[.int .i64 0, .int .i64 0], .int .i64 fe]) (by simp [results, Try.results119, go_sem, rz]) rfl ⟨by rw [HV.out], ?_⟩
    repeat (refine Below.setCell ?_ (by first | omega | (simp; done) | (simp; omega)) _)
    exact bz
  obtain ⟨c1, c2⟩ := fboth_ok hb
  obtain ⟨k1, k2, k3, k4, _⟩ := fok_of c1
  obtain ⟨l1, l2, l3, l4, _⟩ := fok_of c2
  have HV := Lib.hid (fadd_0 hb)
  have b1 : (fboth an ad bn bd != 0) = false := by simp [hb]
  have C1 := Lib.hid c1
  have C2 := Lib.hid c2
  clear hb c1 c2
  go_enter Try.func119, Try.ntmps119
  have oA := (own_first w 78 [.int .i64 an, .int .i64 ad] (.cells #[.int .i64 bn, .int .i64 bd] 78)).alloc (.cells #[.int .i64 0, .int .i64 0] 78)
  have oB := (own_second w 78 [.int .i64 bn, .int .i64 bd] (.cells #[.int .i64 an, .int .i64 ad] 78)).alloc (.cells #[.int .i64 0, .int .i64 0] 78)
  have oR := own_third w 78 [.int .i64 0, .int .i64 0] (.cells #[.int .i64 an, .int .i64 ad] 78) (.cells #[.int .i64 bn, .int .i64 bd] 78)
  have hB := ba3 w (.cells #[.int .i64 an, .int .i64 ad] 78) (.cells #[.int .i64 bn, .int .i64 bd] 78) (.cells #[.int .i64 0, .int .i64 0] 78)
  go_wp2_with fail
  generalize ((w.alloc (.cells #[.int .i64 an, .int .i64 ad] 78)).alloc (.cells #[.int .i64 bn, .int .i64 bd] 78)).alloc (.cells #[.int .i64 0, .int .i64 0] 78) = y0 at *
  obtain ⟨rA, fA⟩ := oA.rules
  have zA := oA.lt
  obtain ⟨rB, fB⟩ := oB.rules
  have zB := oB.lt
  obtain ⟨rR, fR⟩ := oR.rules
  have zR := oR.lt
  refine (frboth_any _ _ _ _ _ h1 h2 h3 h4).mono ?_
  rintro e y1 ⟨rfl, hq⟩
  clear rA fA zA rB fB zB rR fR zR
  replace oA := oA.below hq
  replace oB := oB.below hq
  replace oR := oR.below hq
  replace hB := below_to hB hq
  clear hq
  obtain ⟨rA, fA⟩ := oA.rules
  have zA := oA.lt
  obtain ⟨rB, fB⟩ := oB.rules
  have zB := oB.lt
  obtain ⟨rR, fR⟩ := oR.rules
  have zR := oR.lt
  go_wp2_with fail
  refine (fsum_any an ad bn bd _ C1.out C2.out).mono ?_
  rintro e y2 ⟨rfl, hq⟩
  clear rA fA zA rB fB zB rR fR zR
  replace oA := oA.below hq
  replace oB := oB.below hq
  replace oR := oR.below hq
  replace hB := below_to hB hq
  clear hq
  obtain ⟨rA, fA⟩ := oA.rules
  have zA := oA.lt
  obtain ⟨rB, fB⟩ := oB.rules
  have zB := oB.lt
  obtain ⟨rR, fR⟩ := oR.rules
  have zR := oR.lt
  generalize pack (Rat.divInt an ad + Rat.divInt bn bd) = r at *
  go_wp2
  refine bp_gen' (fun W => Own W (w.heap.size + 1 + 1) 78 [.int .i64 r.n, .int .i64 r.d] ∧ Below w.heap.size w W) ⟨(oR.set 0 (.int .i64 r.n)).set 1 (.int .i64 r.d), ?_⟩ ?_
  · repeat (refine Below.setCell ?_ (by first | omega | (simp; done) | (simp; omega)) _)
    exact hB
  rintro wz ⟨oz, bz⟩
  obtain ⟨rz, fz⟩ := oz.rules
  clear oz
  refine bodyPost_ret (v := .tuple #[.agg #[.int .i64 r.n, .int .i64 r.d], .int .i64 r.e]) (by simp [results, Try.results119, go_sem, rz]) rfl ⟨by rw [HV.out], ?_⟩
  repeat (refine Below.setCell ?_ (by first | omega | (simp; done) | (simp; omega)) _)
  exact bz
end Go.Proofs.Ythlcmlngmcoknaa

/- What is proved here: the contract of nnls.dot. Condition: small numbers, as many valid fractions. -/
namespace Go.Proofs.Ythlcmlngmcoknaa
open Go.RowKit

theorem i64_1 : i64 1 := ⟨by decide, by decide⟩
theorem i64_small {a : Int} (h1 : -1000 ≤ a) (h2 : a ≤ 1000) : i64 a := ⟨by omega, by omega⟩
set_option maxRecDepth 100000 in
set_option maxHeartbeats 8000000 in
theorem ndot_any (a : List Int) (x : List (Int × Int)) (u v : Value) (w : World) (hu : SI w u a) (hv : SF w v x) (hl : a.length ≤ x.length) (ha : ∀ i (h : i < a.length), -1000 ≤ a[i] ∧ a[i] ≤ 1000) (hx : ∀ i (h : i < x.length), fchk x[i].1 x[i].2 = 0) :
    Calls Try.prog 116 #[u, v] w fun e w' => e = .returned (.tuple #[.agg #[.int .i64 (gsum (dotT a x) a.length).n, .int .i64 (gsum (dotT a x) a.length).d], .int .i64 (gsum (dotT a x) a.length).e]) ∧ Below w.heap.size w w' := by
  have hu0 := Lib.hid hu
  have hv0 := Lib.hid hv
  have HA := Lib.hid ha
  have HX := Lib.hid hx
  obtain ⟨ada, capa, rfl, ha1, ha2, _⟩ := hu.open
  obtain ⟨adx, capx, rfl, hx1, hx2, _⟩ := hv.open
  clear hu hv ha hx
  go_enter Try.func116, Try.ntmps116
  have oR := own_first w 78 [.int .i64 0, .int .i64 0] (.cells #[.int .i64 0, .int .i64 1] 78)
  have oS := own_second w 78 [.int .i64 0, .int .i64 1] (.cells #[.int .i64 0, .int .i64 0] 78)
  have hB := ba2 w (.cells #[.int .i64 0, .int .i64 0] 78) (.cells #[.int .i64 0, .int .i64 1] 78)
  go_wp2_with fail
  go_loopw [14] (fun i wr => ∃ k : Nat, k ≤ a.length ∧ i = .int .i64 k ∧ Hid ((gsum (dotT a x) k).e = 0) ∧ Own wr w.heap.size 78 [.int .i64 0, .int .i64 0] ∧ Own wr (w.heap.size + 1) 78 [.int .i64 (gsum (dotT a x) k).n, .int .i64 (gsum (dotT a x) k).d] ∧ Below w.heap.size w wr) (fun i _ => a.length - (intOf i).toNat)
  case atStart => exact ⟨0, Nat.zero_le _, rfl, rfl, oR, oS, hB⟩
  case round =>
    clear oR oS hB
    obtain ⟨k, hk, rfl, he, oR, oS, hB⟩ := hrel
    rename World => W
    by_cases hlt : k < a.length
    · have hkx : k < x.length := by omega
      obtain ⟨_, _, e, _, _, H⟩ := (hu0.out.below hB).open
      cases e
      obtain ⟨b, off, rfl, c1⟩ := H.out k hlt
      obtain ⟨_, _, e, _, _, H'⟩ := (hv0.out.below hB).open
      cases e
      obtain ⟨b', off', rfl, c2, c3⟩ := H'.out k hkx
      clear H H'
      have J1 := Lib.hid (gsum_i64 (dotT a x) k)
      have J2 := Lib.hid (i64_small (HA.out k hlt).1 (HA.out k hlt).2)
      have J3 := Lib.hid (fr_i64 (HX.out k hkx))
      have F1 := Lib.hid (fmul_FOk (fchk_small (HA.out k hlt).1 (HA.out k hlt).2) (HX.out k hkx))
      have F2 := Lib.hid (dot_ok (a := a) (x := x) (k := k + 1) (by omega) hl HA.out HX.out)
      have HP := Lib.hid (dot_succ hlt hkx he.out)
      have HE := Lib.hid (fun h => gsum_end (t := dotT a x) hlt h F2.out)
      generalize a[k] = c at *
      generalize x[k].1 = xn at *
      generalize x[k].2 = xd at *
      generalize (gsum (dotT a x) k).n = sn at *
      generalize (gsum (dotT a x) k).d = sd at *
      generalize hpp : gsum (dotT a x) (k + 1) = p at *
      have HPP := Lib.hid hpp
      clear hpp
      obtain ⟨rR, fR⟩ := oR.rules
      have zR := oR.lt
      obtain ⟨rS, fS⟩ := oS.rules
      have zS := oS.lt
      go_wp2_with fail
      refine (fmul_any c 1 xn xd _ J2.out i64_1 J3.out.1 J3.out.2).mono ?_
      rintro e y1 ⟨rfl, hq⟩
      clear rR fR zR rS fS zS
      replace oR := oR.below hq
      replace oS := oS.below hq
      replace hB := below_to hB hq
      clear hq
      obtain ⟨rR, fR⟩ := oR.rules
      have zR := oR.lt
      obtain ⟨rS, fS⟩ := oS.rules
      have zS := oS.lt
      have M2 := Lib.hid (fmul_i64 c 1 xn xd)
      have P0 := Lib.hid (fplus_0 (sn := sn) (sd := sd) (an := c) (ad := 1) (bn := xn) (bd := xd))
      have P1 := Lib.hid (fplus_1 (sn := sn) (sd := sd) (an := c) (ad := 1) (bn := xn) (bd := xd))
      generalize fmul c 1 xn xd = m at *
      by_cases h1 : m.e = 0
      · have b1 : (m.e != 0) = false := by simp [h1]
        have HQ : Hid (p = fadd sn sd m.n m.d) := HP.out.trans (P0.out h1)
        clear h1 P0 P1 HP F1
        go_wp2_with fail
        refine (fadd_any sn sd m.n m.d _ J1.out.1 J1.out.2 M2.out.1 M2.out.2).mono ?_
        rintro e y2 ⟨rfl, hq⟩
        replace hq := below_to (ba1 y1 _) hq
        clear rR fR zR rS fS zS
        replace oR := oR.below hq
        replace oS := oS.below hq
        replace hB := below_to hB hq
        clear hq
        obtain ⟨rR, fR⟩ := oR.rules
        have zR := oR.lt
        obtain ⟨rS, fS⟩ := oS.rules
        have zS := oS.lt
        rw [← HQ.out]
        by_cases h2 : p.e = 0
        · have b2 : (p.e != 0) = false := by simp [h2]
          have E2 := Lib.hid h2
          clear h2
          go_wp2
          go_roundw
          replace oR := ((oR).other (g' := w.heap.size + 1) (by first | omega | (simp; done) | (simp; omega)) 0 (.int .i64 p.n)).other (g' := w.heap.size + 1) (by first | omega | (simp; done) | (simp; omega)) 1 (.int .i64 p.d)
          replace oS := ((oS).set 0 (.int .i64 p.n)).set 1 (.int .i64 p.d)
          replace hB := ((hB).setCell (p := ⟨w.heap.size + 1, 0, none⟩) (by first | omega | (simp; done) | (simp; omega)) (.int .i64 p.n)).setCell (p := ⟨w.heap.size + 1, 1, none⟩) (by first | omega | (simp; done) | (simp; omega)) (.int .i64 p.d)
          case rel => exact ⟨k + 1, by omega, by go_num, by rw [HPP.out]; exact E2, oR, by rw [HPP.out]; exact oS, hB⟩
          case measure => simp [intOf]; try omega
        · have b2 : (p.e != 0) = true := by simpa using h2
          have HV := Lib.hid (HE.out h2)
          clear h2
          go_wp2
          replace oR := ((((oR).other (g' := w.heap.size + 1) (by first | omega | (simp; done) | (simp; omega)) 0 (.int .i64 p.n)).other (g' := w.heap.size + 1) (by first | omega | (simp; done) | (simp; omega)) 1 (.int .i64 p.d)).set 0 (.int .i64 0)).set 1 (.int .i64 0)
          replace hB := ((((hB).setCell (p := ⟨w.heap.size + 1, 0, none⟩) (by first | omega | (simp; done) | (simp; omega)) (.int .i64 p.n)).setCell (p := ⟨w.heap.size + 1, 1, none⟩) (by first | omega | (simp; done) | (simp; omega)) (.int .i64 p.d)).setCell (p := ⟨w.heap.size, 0, none⟩) (by first | omega | (simp; done) | (simp; omega)) (.int .i64 0)).setCell (p := ⟨w.heap.size, 1, none⟩) (by first | omega | (simp; done) | (simp; omega)) (.int .i64 0)
          refine bp_gen' (fun W => Own W _ _ _ ∧ Below w.heap.size w W) ⟨oR, hB⟩ ?_
          rintro wz ⟨oz, bz⟩
          obtain ⟨rz, fz⟩ := oz.rules
          clear oz
          refine bodyPost_ret (v := .tuple #[.agg #[.int .i64 0, .int .i64 0], .int .i64 16]) (by simp [results, Try.results116, go_sem, rz]) rfl ⟨by rw [HV.out], ?_⟩
          exact bz
      · have b1 : (m.e != 0) = true := by simpa using h1
        have HV : Hid (gsum (dotT a x) a.length = ⟨0, 0, 16⟩) := by
          have e1 := HP.out.trans (P1.out h1)
          refine HE.out ?_
          rw [e1]; exact h1
        clear h1 P0 P1 HP F1
        go_wp2
        replace oR := (((oR).set 0 (.int .i64 0)).set 1 (.int .i64 0)).alloc (.cells #[.int .i64 m.n, .int .i64 m.d] 78)
        replace hB := (((hB).setCell (p := ⟨w.heap.size, 0, none⟩) (by first | omega | (simp; done) | (simp; omega)) (.int .i64 0)).setCell (p := ⟨w.heap.size, 1, none⟩) (by first | omega | (simp; done) | (simp; omega)) (.int .i64 0)).alloc (by first | omega | (simp; done) | (simp; omega)) (.cells #[.int .i64 m.n, .int .i64 m.d] 78)
        refine bp_gen' (fun W => Own W _ _ _ ∧ Below w.heap.size w W) ⟨oR, hB⟩ ?_
        rintro wz ⟨oz, bz⟩
        obtain ⟨rz, fz⟩ := oz.rules
        clear oz
        refine bodyPost_ret (v := .tuple #[.agg #[.int .i64 0, .int .i64 0], .int .i64 16]) (by simp [results, Try.results116, go_sem, rz]) rfl ⟨by rw [HV.out], ?_⟩
        exact bz
    · obtain rfl : k = a.length := by omega
      obtain ⟨p, hp⟩ : ∃ p, p = gsum (dotT a x) a.length := ⟨_, rfl⟩
      rw [← hp] at he oS
      have HP := Lib.hid hp
      clear hp
      obtain ⟨rR, fR⟩ := oR.rules
      have zR := oR.lt
      obtain ⟨rS, fS⟩ := oS.rules
      have zS := oS.lt
      go_wp2
      replace oR := ((oR).set 0 (.int .i64 p.n)).set 1 (.int .i64 p.d)
      replace hB := ((hB).setCell (p := ⟨w.heap.size, 0, none⟩) (by first | omega | (simp; done) | (simp; omega)) (.int .i64 p.n)).setCell (p := ⟨w.heap.size, 1, none⟩) (by first | omega | (simp; done) | (simp; omega)) (.int .i64 p.d)
      refine bp_gen' (fun W => Own W _ _ _ ∧ Below w.heap.size w W) ⟨oR, hB⟩ ?_
      rintro wz ⟨oz, bz⟩
      obtain ⟨rz, fz⟩ := oz.rules
      clear oz
      refine bodyPost_ret (v := .tuple #[.agg #[.int .i64 p.n, .int .i64 p.d], .int .i64 0]) (by simp [results, Try.results116, go_sem, rz]) rfl ⟨by rw [← HP.out, he.out], ?_⟩
      exact bz
end Go.Proofs.Ythlcmlngmcoknaa

/- What is proved here: the contract of frac.Sub. Condition: 64-bit numbers. -/
namespace Go.Proofs.Ythlcmlngmcoknaa
open Go.RowKit

set_option maxRecDepth 100000 in
set_option maxHeartbeats 4000000 in
theorem fsub_any (an ad bn bd : Int) (w : World) (h1 : i64 an) (h2 : i64 ad) (h3 : i64 bn) (h4 : i64 bd) :
    Calls Try.prog 100 #[.agg #[.int .i64 an, .int .i64 ad], .agg #[.int .i64 bn, .int .i64 bd]] w fun e w' => e = .returned (.tuple #[.agg #[.int .i64 (fsub an ad bn bd).n, .int .i64 (fsub an ad bn bd).d], .int .i64 (fsub an ad bn bd).e]) ∧ Below w.heap.size w w' := by
  by_cases hb : fboth an ad bn bd = 0
  case neg =>
    have HV := Lib.hid (fsub_8 hb)
    have b1 : (fboth an ad bn bd != 0) = true := by simpa using hb
    clear hb
    go_enter Try.func100, Try.ntmps100
    have oA := (own_first w 78 [.int .i64 an, .int .i64 ad] (.cells #[.int .i64 bn, .int .i64 bd] 78)).alloc (.cells #[.int .i64 0, .int .i64 0] 78)
    have oB := (own_second w 78 [.int .i64 bn, .int .i64 bd] (.cells #[.int .i64 an, .int .i64 ad] 78)).alloc (.cells #[.int .i64 0, .int .i64 0] 78)
    have oR := own_third w 78 [.int .i64 0, .int .i64 0] (.cells #[.int .i64 an, .int .i64 ad] 78) (.cells #[.int .i64 bn, .int .i64 bd] 78)
    have hB := ba3 w (.cells #[.int .i64 an, .int .i64 ad] 78) (.cells #[.int .i64 bn, .int .i64 bd] 78) (.cells #[.int .i64 0, .int .i64 0] 78)
    go_wp2_with fail
    generalize ((w.alloc (.cells #[.int .i64 an, .int .i64 ad] 78)).alloc (.cells #[.int .i64 bn, .int .i64 bd] 78)).alloc (.cells #[.int .i64 0, .int .i64 0] 78) = y0 at *
    obtain ⟨rA, fA⟩ := oA.rules
    have zA := oA.lt
    obtain ⟨rB, fB⟩ := oB.rules
    have zB := oB.lt
    obtain ⟨rR, fR⟩ := oR.rules
    have zR := oR.lt
    refine (frboth_any _ _ _ _ _ h1 h2 h3 h4).mono ?_
    rintro e y1 ⟨rfl, hq⟩
    clear rA fA zA rB fB zB rR fR zR
    replace oA := oA.below hq
    replace oB := oB.below hq
    replace oR := oR.below hq
    replace hB := below_to hB hq
    clear hq
    obtain ⟨rA, fA⟩ := oA.rules
    have zA := oA.lt
    obtain ⟨rB, fB⟩ := oB.rules
    have zB := oB.lt
    obtain ⟨rR, fR⟩ := oR.rules
    have zR := oR.lt
    generalize fboth an ad bn bd = fe at *
    go_wp2
    refine bp_gen' (fun W => Own W (w.heap.size + 1 + 1) 78 [.int .i64 0, .int .i64 0] ∧ Below w.heap.size w W) ⟨(oR.set 0 (.int .i64 0)).set 1 (.int .i64 0), ?_⟩ ?_
    · repeat (refine Below.setCell ?_ (by first | omega | (simp; done) | (simp; omega)) _)
      exact hB
    rintro wz ⟨oz, bz⟩
    obtain ⟨rz, fz⟩ := oz.rules
    clear oz
    refine bodyPost_ret (v := .tuple #[.agg #[.int .i64 0, .int .i64 0], .int .i64 fe]) (by simp [results, Try.results100, go_sem, rz]) rfl ⟨by rw [HV.out], ?_⟩
    repeat (refine Below.setCell ?_ (by first | omega | (simp; done) | (simp; omega)) _)
    exact bz
  obtain ⟨c1, c2⟩ := fboth_ok hb
  obtain ⟨k1, k2, k3, k4, _⟩ := fok_of c1
  obtain ⟨l1, l2, l3, l4, _⟩ := fok_of c2
  have HV : Hid (fsub an ad bn bd = pack (Rat.divInt an ad + Rat.divInt (-bn) bd)) := by show _ = _; rw [fsub_0 hb, sub_as_add]
  have b1 : (fboth an ad bn bd != 0) = false := by simp [hb]
  have C1 := Lib.hid c1
  have C2 := Lib.hid (fchk_neg c2)
  clear hb c1 c2
  go_enter Try.func100, Try.ntmps100
  have oA := (own_first w 78 [.int .i64 an, .int .i64 ad] (.cells #[.int .i64 bn, .int .i64 bd] 78)).alloc (.cells #[.int .i64 0, .int .i64 0] 78)
  have oB := (own_second w 78 [.int .i64 bn, .int .i64 bd] (.cells #[.int .i64 an, .int .i64 ad] 78)).alloc (.cells #[.int .i64 0, .int .i64 0] 78)
  have oR := own_third w 78 [.int .i64 0, .int .i64 0] (.cells #[.int .i64 an, .int .i64 ad] 78) (.cells #[.int .i64 bn, .int .i64 bd] 78)
  have hB := ba3 w (.cells #[.int .i64 an, .int .i64 ad] 78) (.cells #[.int .i64 bn, .int .i64 bd] 78) (.cells #[.int .i64 0, .int .i64 0] 78)
  go_wp2_with fail
  generalize ((w.alloc (.cells #[.int .i64 an, .int .i64 ad] 78)).alloc (.cells #[.int .i64 bn, .int .i64 bd] 78)).alloc (.cells #[.int .i64 0, .int .i64 0] 78) = y0 at *
  obtain ⟨rA, fA⟩ := oA.rules
  have zA := oA.lt
  obtain ⟨rB, fB⟩ := oB.rules
  have zB := oB.lt
  obtain ⟨rR, fR⟩ := oR.rules
  have zR := oR.lt
  refine (frboth_any _ _ _ _ _ h1 h2 h3 h4).mono ?_
  rintro e y1 ⟨rfl, hq⟩
  clear rA fA zA rB fB zB rR fR zR
  replace oA := oA.below hq
  replace oB := oB.below hq
  replace oR := oR.below hq
  replace hB := below_to hB hq
  clear hq
  obtain ⟨rA, fA⟩ := oA.rules
  have zA := oA.lt
  obtain ⟨rB, fB⟩ := oB.rules
  have zB := oB.lt
  obtain ⟨rR, fR⟩ := oR.rules
  have zR := oR.lt
  go_wp2_with fail
  refine (fsum_any an ad (-bn) bd _ C1.out C2.out).mono ?_
  rintro e y2 ⟨rfl, hq⟩
  clear rA fA zA rB fB zB rR fR zR
  replace oA := oA.below hq
  replace oB := oB.below hq
  replace oR := oR.below hq
  replace hB := below_to hB hq
  clear hq
  obtain ⟨rA, fA⟩ := oA.rules
  have zA := oA.lt
  obtain ⟨rB, fB⟩ := oB.rules
  have zB := oB.lt
  obtain ⟨rR, fR⟩ := oR.rules
  have zR := oR.lt
  generalize pack (Rat.divInt an ad + Rat.divInt (-bn) bd) = r at *
  go_wp2
  refine bp_gen' (fun W => Own W (w.heap.size + 1 + 1) 78 [.int .i64 r.n, .int .i64 r.d] ∧ Below w.heap.size w W) ⟨(oR.set 0 (.int .i64 r.n)).set 1 (.int .i64 r.d), ?_⟩ ?_
  · repeat (refine Below.setCell ?_ (by first | omega | (simp; done) | (simp; omega)) _)
    exact hB
  rintro wz ⟨oz, bz⟩
  obtain ⟨rz, fz⟩ := oz.rules
  clear oz
  refine bodyPost_ret (v := .tuple #[.agg #[.int .i64 r.n, .int .i64 r.d], .int .i64 r.e]) (by simp [results, Try.results100, go_sem, rz]) rfl ⟨by rw [HV.out], ?_⟩
  repeat (refine Below.setCell ?_ (by first | omega | (simp; done) | (simp; omega)) _)
  exact bz
end Go.Proofs.Ythlcmlngmcoknaa
