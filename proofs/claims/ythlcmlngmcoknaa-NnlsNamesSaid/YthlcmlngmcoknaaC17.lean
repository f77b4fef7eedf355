/- What is proved here: contracts of functions and plain facts, several texts in one; each one says ahead what it proves, and its conditions. -/
import Derived.Test.YthlcmlngmcoknaaC01
import Derived.Test.YthlcmlngmcoknaaC14
import Derived.Test.YthlcmlngmcoknaaC15
import Derived.Test.YthlcmlngmcoknaaC16
import Derived.Deep.DeepCutAuto
/- What is proved here: the contract of math/bits.Div64. Condition: the high half is less than the divisor. -/
namespace Go.Proofs.Ythlcmlngmcoknaa
open Go.RowKit

set_option maxRecDepth 100000 in
set_option maxHeartbeats 8000000 in
theorem div64_0 (lo y : Nat) (w : World) (h : 0 < y) (hy : y < 18446744073709551616) (hlo : lo < 18446744073709551616) :
    Calls Try.prog 166 #[.int .u64 0, .int .u64 lo, .int .u64 y] w fun e w' => e = .returned (.tuple #[.int .u64 ((lo / y : Nat) : Int), .int .u64 ((lo % y : Nat) : Int)]) ∧ ∃ n, w' = w.drewN n := by
  have b1 : ((y : Int) == 0) = false := by simp; omega
  have b3 : ¬ ((y : Int) = 0) := by omega
  have b4 : ((y : Int) != 0) = true := by simp; omega
  have l1 := Nat.div_le_self lo y
  have l2 := Nat.mod_le lo y
  have q1 : (lo : Int) / (y : Int) = ((lo / y : Nat) : Int) := (Int.natCast_ediv _ _).symm
  have q2 : (lo : Int) % (y : Int) = ((lo % y : Nat) : Int) := (Int.natCast_emod _ _).symm
  generalize lo / y = a at *
  generalize lo % y = b at *
  have e1 : IntKind.u64.wrap (a : Int) = (a : Int) := u64_wrap_nat _ (by omega)
  have e2 : IntKind.u64.wrap (b : Int) = (b : Int) := u64_wrap_nat _ (by omega)
  go_enter Try.func166, Try.ntmps166
  go_upto_region 6 with fail
  go_quiet (fail)
  go_wp2
  go_ret2
  exact ⟨by rw [← q2]; rfl, nq, rfl⟩
theorem mul_u64 {q b : Nat} (hq : q ≤ 4294967297) (hb : b < 4294967296) : 0 ≤ (q : Int) * (b : Int) ∧ (q : Int) * (b : Int) ≤ 18446744073709551615 := by
  have h : q * b ≤ 4294967297 * 4294967295 := Nat.mul_le_mul hq (by omega)
  have e : (q : Int) * (b : Int) = ((q * b : Nat) : Int) := (Int.natCast_mul q b).symm
  rw [e]; omega

theorem digit_wrap {U d q Y R : Nat} (h : q * Y + R = U * 4294967296 + d) (hR : R < 18446744073709551616) :
    IntKind.u64.wrap (IntKind.u64.wrap (IntKind.u64.wrap ((U : Int) * 4294967296) + (d : Int)) - IntKind.u64.wrap ((q : Int) * (Y : Int))) = (R : Int) := by
  have e : (q : Int) * (Y : Int) = (U : Int) * 4294967296 + (d : Int) - (R : Int) := by
    rw [← Int.natCast_mul]; omega
  rw [IntKind.wrap_u64, IntKind.wrap_u64, IntKind.wrap_u64, IntKind.wrap_u64, e]
  generalize (U : Int) * 4294967296 = a
  omega

set_option maxRecDepth 100000 in
set_option maxHeartbeats 16000000 in
theorem div64_1 (hi lo y : Nat) (w : World) (h0 : 0 < hi) (h : hi < y) (hy : y < 18446744073709551616) (hlo : lo < 18446744073709551616) :
    Calls Try.prog 166 #[.int .u64 hi, .int .u64 lo, .int .u64 y] w fun e w' => e = .returned (.tuple #[.int .u64 (((hi * 18446744073709551616 + lo) / y : Nat) : Int), .int .u64 (((hi * 18446744073709551616 + lo) % y : Nat) : Int)]) ∧ w' = w := by
  have b1 : ((y : Int) == 0) = false := by simp; omega
  have b2 : ((hi : Int) == 0) = false := by simp; omega
  have l := Lib.bitLen_le y 64 (Nat.le_refl _) hy
  obtain ⟨N1, N2⟩ := norm_bd (by omega) hy
  have es : (64 - (Lib.bitLen y : Int)) = ((64 - Lib.bitLen y : Nat) : Int) := by omega
  generalize hs : 64 - Lib.bitLen y = s at *
  have s64 : s ≤ 64 := by omega
  obtain ⟨o1, o2, o3, o4⟩ := un32_eq s64 h hlo
  have es1 : IntKind.u64.wrap (s : Int) = (s : Int) := u64_wrap_nat s (by omega)
  have es2 : min s 64 = s := Nat.min_eq_left s64
  have HB : Hid ((hi * 18446744073709551616 + lo) / y = (hi * 18446744073709551616 + lo) * 2 ^ s / (y * 2 ^ s) ∧ (hi * 18446744073709551616 + lo) % y = (hi * 18446744073709551616 + lo) * 2 ^ s % (y * 2 ^ s) / 2 ^ s) :=
    ⟨(shift_div _ _ _).1.symm, (shift_div _ _ _).2.symm⟩
  rw [← o2] at HB
  have H1 : hi * 2 ^ s < 18446744073709551616 := Nat.lt_of_le_of_lt (Nat.le_add_right _ _) (Nat.lt_trans o3 N2)
  have L1 : lo * 2 ^ s % 18446744073709551616 < 18446744073709551616 := Nat.mod_lt _ (by decide)
  have eY : (y : Int) * 2 ^ s = ((y * 2 ^ s : Nat) : Int) := by rw [Int.natCast_mul, Int.natCast_pow]; rfl
  have eH : IntKind.u64.wrap ((hi : Int) * 2 ^ s) = ((hi * 2 ^ s : Nat) : Int) := by
    rw [← u64_wrap_nat (hi * 2 ^ s) H1, Int.natCast_mul, Int.natCast_pow]; rfl
  have eL : IntKind.u64.wrap ((lo : Int) * 2 ^ s) = ((lo * 2 ^ s % 18446744073709551616 : Nat) : Int) := by
    rw [IntKind.wrap_u64]
    have : (lo : Int) * 2 ^ s = ((lo * 2 ^ s : Nat) : Int) := by rw [Int.natCast_mul, Int.natCast_pow]; rfl
    rw [this]; omega
  have eS : (lo : Int) / 2 ^ (64 - s) = ((lo / 2 ^ (64 - s) : Nat) : Int) := by rw [Int.natCast_ediv, Int.natCast_pow]; rfl
  have eO : bits BinOp.or IntKind.u64 ((hi * 2 ^ s : Nat) : Int) ((lo / 2 ^ (64 - s) : Nat) : Int) = ((hi * 2 ^ s + lo / 2 ^ (64 - s) : Nat) : Int) := by
    rw [bits_or _ _ H1 (by have := Nat.div_le_self lo (2 ^ (64 - s)); omega), o4]
  have HS := Lib.hid hs
  clear hs
  generalize hi * 2 ^ s + lo / 2 ^ (64 - s) = U at *
  generalize hi * 2 ^ s = H at *
  generalize lo / 2 ^ (64 - s) = T at *
  generalize lo * 2 ^ s % 18446744073709551616 = L at *
  generalize y * 2 ^ s = Y at *
  have E1 := DEst.start (u := U) N1 (show L / 4294967296 < 4294967296 by omega)
  obtain ⟨E2, E3⟩ := DEst.first N1 N2 o3
  have aY : bits BinOp.and IntKind.u64 (Y : Int) 4294967295 = ((Y % 4294967296 : Nat) : Int) := and32 Y N2
  have aL : bits BinOp.and IntKind.u64 (L : Int) 4294967295 = ((L % 4294967296 : Nat) : Int) := and32 L L1
  have dY : (Y : Int) / 4294967296 = ((Y / 4294967296 : Nat) : Int) := by omega
  have dL : (L : Int) / 4294967296 = ((L / 4294967296 : Nat) : Int) := by omega
  have g1 : Y / 4294967296 < 4294967296 := by omega
  have g2 : 2147483648 ≤ Y / 4294967296 := by omega
  have g3 : Y % 4294967296 < 4294967296 := Nat.mod_lt _ (by decide)
  have g4 : L / 4294967296 < 4294967296 := by omega
  have g5 : L % 4294967296 < 4294967296 := Nat.mod_lt _ (by decide)
  generalize hy1 : Y / 4294967296 = y1 at *
  generalize hy0 : Y % 4294967296 = y0 at *
  generalize hd1 : L / 4294967296 = d1 at *
  generalize hd0 : L % 4294967296 = d0 at *
  have HY1 := Lib.hid hy1
  have HY0 := Lib.hid hy0
  have HD1 := Lib.hid hd1
  have HD0 := Lib.hid hd0
  clear hy1 hy0 hd1 hd0
  have z1 : ((y1 : Int) == 0) = false := by simp; omega
  have z2 : ¬ ((y1 : Int) = 0) := by omega
  have Q1e : (U : Int) / (y1 : Int) = ((U / y1 : Nat) : Int) := (Int.natCast_ediv _ _).symm
  have R1e : (U : Int) - ((U / y1 : Nat) : Int) * (y1 : Int) = ((U % y1 : Nat) : Int) := by
    have := Nat.div_add_mod U y1
    rw [← Int.natCast_mul, Nat.mul_comm (U / y1)]; omega
  have M1 : ((U / y1 : Nat) : Int) * (y1 : Int) ≤ U := by
    have := Nat.div_mul_le_self U y1
    rw [← Int.natCast_mul]; omega
  have M0 : 0 ≤ ((U / y1 : Nat) : Int) * (y1 : Int) := by rw [← Int.natCast_mul]; omega
  have W1 : IntKind.u64.wrap ((U : Int) / (y1 : Int)) = (U : Int) / (y1 : Int) := by rw [Q1e]; exact u64_wrap_nat _ (by omega)
  generalize hq0 : U / y1 = q0 at *
  generalize hr0 : U % y1 = r0 at *
  clear hq0 hr0
  have HE := Lib.hid E1
  clear E1
  go_enter Try.func166, Try.ntmps166
  go_wp2_with fail
  refine (Try.bits_LeadingZeros64 y _ (by omega) (by omega)).mono ?_
  rintro e w1 ⟨rfl, rfl⟩
  simp only [Int.toNat_natCast]
  rw [es]
  go_upto_region 17 with fail
  clear Q1e R1e M1 M0 W1 es es1 es2 eH eS eO eL eY aY aL dY dL
  have G1 := Lib.hid g1
  have G2 := Lib.hid g2
  have G3 := Lib.hid g3
  have G4 := Lib.hid g4
  have G5 := Lib.hid g5
  have O2 := Lib.hid o2
  have O3 := Lib.hid o3
  have NN1 := Lib.hid N1
  have NN2 := Lib.hid N2
  have YI : (Y : Int) ≤ 18446744073709551615 := by omega
  have UI : (U : Int) ≤ 18446744073709551615 := by omega
  have g1I : (y1 : Int) ≤ 4294967295 := by omega
  have g3I : (y0 : Int) ≤ 4294967295 := by omega
  have g4I : (d1 : Int) ≤ 4294967295 := by omega
  have g5I : (d0 : Int) ≤ 4294967295 := by omega
  have EE2 := Lib.hid E2
  have EE3 := Lib.hid E3
  clear g1 g2 g3 g4 g5 o2 o3 N1 N2 E2 E3 o1 o4 H1 L1
  go_loopw [15, 16] (fun x z wr => ∃ q r : Nat, x = .int .u64 q ∧ z = .int .u64 r ∧ q ≤ 4294967297 ∧ r < 4294967296 ∧ Hid (DEst Y U d1 q r) ∧ wr = w1) (fun x _ _ => (intOf x).toNat)
  case atStart => exact ⟨q0, r0, rfl, rfl, EE2.out, EE3.out, HE, rfl⟩
  case round =>
    obtain ⟨q, r, rfl, rfl, hq, hr, he, rfl⟩ := hrel
    obtain ⟨m1, m2⟩ := mul_u64 hq G3.out
    have hqI : (q : Int) ≤ 4294967297 := by omega
    have hrI : (r : Int) ≤ 4294967295 := by omega
    have Hq := Lib.hid hq
    have Hr := Lib.hid hr
    clear hq hr
    by_cases c : 4294967296 ≤ q ∨ 4294967296 * r + d1 < q * y0
    case pos =>
      obtain ⟨k1, ks⟩ := he.out.step G4.out O3.out (by rw [HY0.out]; exact c)
      rw [HY1.out] at ks
      generalize hp : q - 1 = p at *
      have pI : (q : Int) - 1 = (p : Int) := by omega
      have pq : (p : Int) ≤ 4294967296 := by omega
      have KS := Lib.hid ks
      have Hp := Lib.hid hp
      have ci : (4294967296 : Int) ≤ (q : Int) ∨ (4294967296 : Int) * (r : Int) + (d1 : Int) < (q : Int) * (y0 : Int) := by
        rcases c with c | c
        · exact .inl (by omega)
        · exact .inr (by rw [← Int.natCast_mul]; omega)
      clear ks hp c k1
      cases hA : decide ((4294967296 : Int) ≤ (q : Int)) with
      | true =>
        clear ci
        go_upto_region 20 with fail
        cases hC : decide ((4294967296 : Int) ≤ (r : Int) + (y1 : Int)) with
        | true =>
          have HQ : Hid (p = (U * 4294967296 + d1) / Y) := KS.out.over (by have := NN1.out; omega) (by omega) (by have := of_decide_eq_true hC; omega)
          have yp : 0 < Y := by have := NN1.out; omega
          have rd := digit_rest (y := Y) (u := U) (d := d1)
          have rl := Nat.mod_lt (U * 4294967296 + d1) yp
          have ql := quo_lt G4.out O3.out
          obtain ⟨td1, td2⟩ := two_digits (x := U * 4294967296 + d1) (d := d0) yp
          rw [← HQ.out] at rd ql td1
          obtain ⟨R, hR⟩ : ∃ R, R = (U * 4294967296 + d1) % Y := ⟨_, rfl⟩
          rw [← hR] at rd rl td1 td2
          have eR := digit_wrap (U := U) (d := d1) (q := p) (Y := Y) (R := R) (by omega) (by have := NN2.out; omega)
          have F1 := DEst.start (u := R) NN1.out G5.out
          obtain ⟨F2, F3⟩ := DEst.first NN1.out NN2.out rl
          rw [HY1.out] at F1 F2 F3
          have HT := Lib.hid (And.intro td1 td2)
          have RL := Lib.hid rl
          have QL := Lib.hid ql
          have RI : (R : Int) ≤ 18446744073709551615 := by have := NN2.out; omega
          have QI : (p : Int) ≤ 4294967295 := by omega
          clear rd td1 td2 rl ql hR
          have z1 : ((y1 : Int) == 0) = false := by simp; have := G2.out; omega
          have z2 : ¬ ((y1 : Int) = 0) := by have := G2.out; omega
          have Q1e : (R : Int) / (y1 : Int) = ((R / y1 : Nat) : Int) := (Int.natCast_ediv _ _).symm
          have R1e : (R : Int) - ((R / y1 : Nat) : Int) * (y1 : Int) = ((R % y1 : Nat) : Int) := by
            have := Nat.div_add_mod R y1
            rw [← Int.natCast_mul, Nat.mul_comm (R / y1)]; omega
          have M1 : ((R / y1 : Nat) : Int) * (y1 : Int) ≤ R := by
            have := Nat.div_mul_le_self R y1
            rw [← Int.natCast_mul]; omega
          have M0 : 0 ≤ ((R / y1 : Nat) : Int) * (y1 : Int) := by rw [← Int.natCast_mul]; omega
          have W1 : IntKind.u64.wrap ((R : Int) / (y1 : Int)) = (R : Int) / (y1 : Int) := by rw [Q1e]; exact u64_wrap_nat _ (by have := Nat.div_le_self R y1; omega)
          generalize hq0 : R / y1 = x0 at *
          generalize hr0 : R % y1 = t0 at *
          clear hq0 hr0
          have x0I : (x0 : Int) ≤ 4294967297 := by omega
          have t0I : (t0 : Int) ≤ 4294967295 := by omega
          have HF := Lib.hid F1
          have FF2 := Lib.hid F2
          have FF3 := Lib.hid F3
          clear F1 F2 F3
          go_upto_region 24 with fail
          clear Q1e R1e M1 M0 W1 eR
          go_loopw [18, 16] (fun x z wq => ∃ a t : Nat, x = .int .u64 a ∧ z = .int .u64 t ∧ a ≤ 4294967297 ∧ t < 4294967296 ∧ Hid (DEst Y R d0 a t) ∧ wq = wr) (fun x _ _ => (intOf x).toNat)
          case atStart => exact ⟨x0, t0, rfl, rfl, FF2.out, FF3.out, HF, rfl⟩
          case round =>
            obtain ⟨a, t, rfl, rfl, ha, ht, hf, rfl⟩ := hrel
            obtain ⟨m3, m4⟩ := mul_u64 ha G3.out
            have haI : (a : Int) ≤ 4294967297 := by omega
            have htI : (t : Int) ≤ 4294967295 := by omega
            have Ha := Lib.hid ha
            have Ht := Lib.hid ht
            clear ha ht
            by_cases cc : 4294967296 ≤ a ∨ 4294967296 * t + d0 < a * y0
            case pos =>
              obtain ⟨k1, ks⟩ := hf.out.step G5.out RL.out (by rw [HY0.out]; exact cc)
              rw [HY1.out] at ks
              generalize hb : a - 1 = b at *
              have bI : (a : Int) - 1 = (b : Int) := by omega
              have bq : (b : Int) ≤ 4294967296 := by omega
              have KS2 := Lib.hid ks
              have Hb := Lib.hid hb
              have ci : (4294967296 : Int) ≤ (a : Int) ∨ (4294967296 : Int) * (t : Int) + (d0 : Int) < (a : Int) * (y0 : Int) := by
                rcases cc with c | c
                · exact .inl (by omega)
                · exact .inr (by rw [← Int.natCast_mul]; omega)
              clear ks hb cc k1
              cases hA2 : decide ((4294967296 : Int) ≤ (a : Int)) with
              | true =>
                clear ci
                go_upto_region 27 with fail
                cases hC2 : decide ((4294967296 : Int) ≤ (t : Int) + (y1 : Int)) with
                | true =>
                  have HQ2 : Hid (b = (R * 4294967296 + d0) / Y) := KS2.out.over (by have := NN1.out; omega) (by omega) (by have := of_decide_eq_true hC2; omega)
                  have yp : 0 < Y := by have := NN1.out; omega
                  obtain ⟨v1, v2⟩ := digit_rest (y := Y) (u := R) (d := d0)
                  have vl := Nat.mod_lt (R * 4294967296 + d0) yp
                  have el := quo_lt G5.out RL.out
                  rw [← HQ2.out] at v1 v2 el
                  obtain ⟨R0, hR0⟩ : ∃ R0, R0 = (R * 4294967296 + d0) % Y := ⟨_, rfl⟩
                  rw [← hR0] at v1 vl
                  have eR0 := digit_wrap (U := R) (d := d0) (q := b) (Y := Y) (R := R0) (by omega) (by have := NN2.out; omega)
                  have EI : (b : Int) ≤ 4294967295 := by omega
                  have LL : U * 18446744073709551616 + L = (U * 4294967296 + d1) * 4294967296 + d0 := by have a := HD1.out; have b := HD0.out; omega
                  have K1 : Hid ((hi * 18446744073709551616 + lo) / y = p * 4294967296 + b) := by show _ = _; rw [HB.out.1, LL, HT.out.1, ← HQ2.out]
                  have K2 : Hid ((hi * 18446744073709551616 + lo) % y = R0 / 2 ^ s) := by show _ = _; rw [HB.out.2, LL, HT.out.2, ← hR0]
                  have es2 : min s 64 = s := Nat.min_eq_left s64
                  clear v1 v2 vl el hR0 LL
                  go_wp2
                  go_ret2
                  exact ⟨by rw [K1.out, K2.out]; simp, rfl⟩
                | false =>
                  go_wp2
                  go_roundw
                  case rel => exact ⟨b, t + y1, rfl, by push_cast; rfl, by omega, by have := of_decide_eq_false hC2; omega, KS2, trivial⟩
                  case measure => simp [intOf]; omega
              | false =>
                have c2d2 : decide ((4294967296 : Int) * (t : Int) + (d0 : Int) < (a : Int) * (y0 : Int)) = true := by
                  rcases ci with c1 | c2
                  · rw [decide_eq_true c1] at hA2; cases hA2
                  · exact decide_eq_true c2
                clear ci
                go_upto_region 27 with fail
                cases hC2 : decide ((4294967296 : Int) ≤ (t : Int) + (y1 : Int)) with
                | true =>
                  have HQ2 : Hid (b = (R * 4294967296 + d0) / Y) := KS2.out.over (by have := NN1.out; omega) (by omega) (by have := of_decide_eq_true hC2; omega)
                  have yp : 0 < Y := by have := NN1.out; omega
                  obtain ⟨v1, v2⟩ := digit_rest (y := Y) (u := R) (d := d0)
                  have vl := Nat.mod_lt (R * 4294967296 + d0) yp
                  have el := quo_lt G5.out RL.out
                  rw [← HQ2.out] at v1 v2 el
                  obtain ⟨R0, hR0⟩ : ∃ R0, R0 = (R * 4294967296 + d0) % Y := ⟨_, rfl⟩
                  rw [← hR0] at v1 vl
                  have eR0 := digit_wrap (U := R) (d := d0) (q := b) (Y := Y) (R := R0) (by omega) (by have := NN2.out; omega)
                  have EI : (b : Int) ≤ 4294967295 := by omega
                  have LL : U * 18446744073709551616 + L = (U * 4294967296 + d1) * 4294967296 + d0 := by have a := HD1.out; have b := HD0.out; omega
                  have K1 : Hid ((hi * 18446744073709551616 + lo) / y = p * 4294967296 + b) := by show _ = _; rw [HB.out.1, LL, HT.out.1, ← HQ2.out]
                  have K2 : Hid ((hi * 18446744073709551616 + lo) % y = R0 / 2 ^ s) := by show _ = _; rw [HB.out.2, LL, HT.out.2, ← hR0]
                  have es2 : min s 64 = s := Nat.min_eq_left s64
                  clear v1 v2 vl el hR0 LL
                  go_wp2
                  go_ret2
                  exact ⟨by rw [K1.out, K2.out]; simp, rfl⟩
                | false =>
                  go_wp2
                  go_roundw
                  case rel => exact ⟨b, t + y1, rfl, by push_cast; rfl, by omega, by have := of_decide_eq_false hC2; omega, KS2, trivial⟩
                  case measure => simp [intOf]; omega
            case neg =>
              have c1 : ¬ (4294967296 : Int) ≤ (a : Int) := fun h => cc (.inl (by omega))
              have c2 : ¬ ((4294967296 : Int) * (t : Int) + (d0 : Int) < (a : Int) * (y0 : Int)) := by
                rw [← Int.natCast_mul]; omega
              have HQ2 : Hid (a = (R * 4294967296 + d0) / Y) := hf.out.stop (by have := NN1.out; omega) (by rw [HY0.out]; omega)
              have c1d2 := decide_eq_false c1
              have c2d2 := decide_eq_false c2
              clear cc c1 c2
              have yp : 0 < Y := by have := NN1.out; omega
              obtain ⟨v1, v2⟩ := digit_rest (y := Y) (u := R) (d := d0)
              have vl := Nat.mod_lt (R * 4294967296 + d0) yp
              have el := quo_lt G5.out RL.out
              rw [← HQ2.out] at v1 v2 el
              obtain ⟨R0, hR0⟩ : ∃ R0, R0 = (R * 4294967296 + d0) % Y := ⟨_, rfl⟩
              rw [← hR0] at v1 vl
              have eR0 := digit_wrap (U := R) (d := d0) (q := a) (Y := Y) (R := R0) (by omega) (by have := NN2.out; omega)
              have EI : (a : Int) ≤ 4294967295 := by omega
              have LL : U * 18446744073709551616 + L = (U * 4294967296 + d1) * 4294967296 + d0 := by have a := HD1.out; have b := HD0.out; omega
              have K1 : Hid ((hi * 18446744073709551616 + lo) / y = p * 4294967296 + a) := by show _ = _; rw [HB.out.1, LL, HT.out.1, ← HQ2.out]
              have K2 : Hid ((hi * 18446744073709551616 + lo) % y = R0 / 2 ^ s) := by show _ = _; rw [HB.out.2, LL, HT.out.2, ← hR0]
              have es2 : min s 64 = s := Nat.min_eq_left s64
              clear v1 v2 vl el hR0 LL
              go_wp2
              go_ret2
              exact ⟨by rw [K1.out, K2.out]; simp, rfl⟩
        | false =>
          go_wp2
          go_roundw
          case rel => exact ⟨p, r + y1, rfl, by push_cast; rfl, by omega, by have := of_decide_eq_false hC; omega, KS, trivial⟩
          case measure => simp [intOf]; omega
      | false =>
        have c2d : decide ((4294967296 : Int) * (r : Int) + (d1 : Int) < (q : Int) * (y0 : Int)) = true := by
          rcases ci with c1 | c2
          · rw [decide_eq_true c1] at hA; cases hA
          · exact decide_eq_true c2
        clear ci
        go_upto_region 20 with fail
        cases hC : decide ((4294967296 : Int) ≤ (r : Int) + (y1 : Int)) with
        | true =>
          have HQ : Hid (p = (U * 4294967296 + d1) / Y) := KS.out.over (by have := NN1.out; omega) (by omega) (by have := of_decide_eq_true hC; omega)
          have yp : 0 < Y := by have := NN1.out; omega
          have rd := digit_rest (y := Y) (u := U) (d := d1)
          have rl := Nat.mod_lt (U * 4294967296 + d1) yp
          have ql := quo_lt G4.out O3.out
          obtain ⟨td1, td2⟩ := two_digits (x := U * 4294967296 + d1) (d := d0) yp
          rw [← HQ.out] at rd ql td1
          obtain ⟨R, hR⟩ : ∃ R, R = (U * 4294967296 + d1) % Y := ⟨_, rfl⟩
          rw [← hR] at rd rl td1 td2
          have eR := digit_wrap (U := U) (d := d1) (q := p) (Y := Y) (R := R) (by omega) (by have := NN2.out; omega)
          have F1 := DEst.start (u := R) NN1.out G5.out
          obtain ⟨F2, F3⟩ := DEst.first NN1.out NN2.out rl
          rw [HY1.out] at F1 F2 F3
          have HT := Lib.hid (And.intro td1 td2)
          have RL := Lib.hid rl
          have QL := Lib.hid ql
          have RI : (R : Int) ≤ 18446744073709551615 := by have := NN2.out; omega
          have QI : (p : Int) ≤ 4294967295 := by omega
          clear rd td1 td2 rl ql hR
          have z1 : ((y1 : Int) == 0) = false := by simp; have := G2.out; omega
          have z2 : ¬ ((y1 : Int) = 0) := by have := G2.out; omega
          have Q1e : (R : Int) / (y1 : Int) = ((R / y1 : Nat) : Int) := (Int.natCast_ediv _ _).symm
          have R1e : (R : Int) - ((R / y1 : Nat) : Int) * (y1 : Int) = ((R % y1 : Nat) : Int) := by
            have := Nat.div_add_mod R y1
            rw [← Int.natCast_mul, Nat.mul_comm (R / y1)]; omega
          have M1 : ((R / y1 : Nat) : Int) * (y1 : Int) ≤ R := by
            have := Nat.div_mul_le_self R y1
            rw [← Int.natCast_mul]; omega
          have M0 : 0 ≤ ((R / y1 : Nat) : Int) * (y1 : Int) := by rw [← Int.natCast_mul]; omega
          have W1 : IntKind.u64.wrap ((R : Int) / (y1 : Int)) = (R : Int) / (y1 : Int) := by rw [Q1e]; exact u64_wrap_nat _ (by have := Nat.div_le_self R y1; omega)
          generalize hq0 : R / y1 = x0 at *
          generalize hr0 : R % y1 = t0 at *
          clear hq0 hr0
          have x0I : (x0 : Int) ≤ 4294967297 := by omega
          have t0I : (t0 : Int) ≤ 4294967295 := by omega
          have HF := Lib.hid F1
          have FF2 := Lib.hid F2
          have FF3 := Lib.hid F3
          clear F1 F2 F3
          go_upto_region 24 with fail
          clear Q1e R1e M1 M0 W1 eR
          go_loopw [18, 16] (fun x z wq => ∃ a t : Nat, x = .int .u64 a ∧ z = .int .u64 t ∧ a ≤ 4294967297 ∧ t < 4294967296 ∧ Hid (DEst Y R d0 a t) ∧ wq = wr) (fun x _ _ => (intOf x).toNat)
          case atStart => exact ⟨x0, t0, rfl, rfl, FF2.out, FF3.out, HF, rfl⟩
          case round =>
            obtain ⟨a, t, rfl, rfl, ha, ht, hf, rfl⟩ := hrel
            obtain ⟨m3, m4⟩ := mul_u64 ha G3.out
            have haI : (a : Int) ≤ 4294967297 := by omega
            have htI : (t : Int) ≤ 4294967295 := by omega
            have Ha := Lib.hid ha
            have Ht := Lib.hid ht
            clear ha ht
            by_cases cc : 4294967296 ≤ a ∨ 4294967296 * t + d0 < a * y0
            case pos =>
              obtain ⟨k1, ks⟩ := hf.out.step G5.out RL.out (by rw [HY0.out]; exact cc)
              rw [HY1.out] at ks
              generalize hb : a - 1 = b at *
              have bI : (a : Int) - 1 = (b : Int) := by omega
              have bq : (b : Int) ≤ 4294967296 := by omega
              have KS2 := Lib.hid ks
              have Hb := Lib.hid hb
              have ci : (4294967296 : Int) ≤ (a : Int) ∨ (4294967296 : Int) * (t : Int) + (d0 : Int) < (a : Int) * (y0 : Int) := by
                rcases cc with c | c
                · exact .inl (by omega)
                · exact .inr (by rw [← Int.natCast_mul]; omega)
              clear ks hb cc k1
              cases hA2 : decide ((4294967296 : Int) ≤ (a : Int)) with
              | true =>
                clear ci
                go_upto_region 27 with fail
                cases hC2 : decide ((4294967296 : Int) ≤ (t : Int) + (y1 : Int)) with
                | true =>
                  have HQ2 : Hid (b = (R * 4294967296 + d0) / Y) := KS2.out.over (by have := NN1.out; omega) (by omega) (by have := of_decide_eq_true hC2; omega)
                  have yp : 0 < Y := by have := NN1.out; omega
                  obtain ⟨v1, v2⟩ := digit_rest (y := Y) (u := R) (d := d0)
                  have vl := Nat.mod_lt (R * 4294967296 + d0) yp
                  have el := quo_lt G5.out RL.out
                  rw [← HQ2.out] at v1 v2 el
                  obtain ⟨R0, hR0⟩ : ∃ R0, R0 = (R * 4294967296 + d0) % Y := ⟨_, rfl⟩
                  rw [← hR0] at v1 vl
                  have eR0 := digit_wrap (U := R) (d := d0) (q := b) (Y := Y) (R := R0) (by omega) (by have := NN2.out; omega)
                  have EI : (b : Int) ≤ 4294967295 := by omega
                  have LL : U * 18446744073709551616 + L = (U * 4294967296 + d1) * 4294967296 + d0 := by have a := HD1.out; have b := HD0.out; omega
                  have K1 : Hid ((hi * 18446744073709551616 + lo) / y = p * 4294967296 + b) := by show _ = _; rw [HB.out.1, LL, HT.out.1, ← HQ2.out]
                  have K2 : Hid ((hi * 18446744073709551616 + lo) % y = R0 / 2 ^ s) := by show _ = _; rw [HB.out.2, LL, HT.out.2, ← hR0]
                  have es2 : min s 64 = s := Nat.min_eq_left s64
                  clear v1 v2 vl el hR0 LL
                  go_wp2
                  go_ret2
                  exact ⟨by rw [K1.out, K2.out]; simp, rfl⟩
                | false =>
                  go_wp2
                  go_roundw
                  case rel => exact ⟨b, t + y1, rfl, by push_cast; rfl, by omega, by have := of_decide_eq_false hC2; omega, KS2, trivial⟩
                  case measure => simp [intOf]; omega
              | false =>
                have c2d2 : decide ((4294967296 : Int) * (t : Int) + (d0 : Int) < (a : Int) * (y0 : Int)) = true := by
                  rcases ci with c1 | c2
                  · rw [decide_eq_true c1] at hA2; cases hA2
                  · exact decide_eq_true c2
                clear ci
                go_upto_region 27 with fail
                cases hC2 : decide ((4294967296 : Int) ≤ (t : Int) + (y1 : Int)) with
                | true =>
                  have HQ2 : Hid (b = (R * 4294967296 + d0) / Y) := KS2.out.over (by have := NN1.out; omega) (by omega) (by have := of_decide_eq_true hC2; omega)
                  have yp : 0 < Y := by have := NN1.out; omega
                  obtain ⟨v1, v2⟩ := digit_rest (y := Y) (u := R) (d := d0)
                  have vl := Nat.mod_lt (R * 4294967296 + d0) yp
                  have el := quo_lt G5.out RL.out
                  rw [← HQ2.out] at v1 v2 el
                  obtain ⟨R0, hR0⟩ : ∃ R0, R0 = (R * 4294967296 + d0) % Y := ⟨_, rfl⟩
                  rw [← hR0] at v1 vl
                  have eR0 := digit_wrap (U := R) (d := d0) (q := b) (Y := Y) (R := R0) (by omega) (by have := NN2.out; omega)
                  have EI : (b : Int) ≤ 4294967295 := by omega
                  have LL : U * 18446744073709551616 + L = (U * 4294967296 + d1) * 4294967296 + d0 := by have a := HD1.out; have b := HD0.out; omega
                  have K1 : Hid ((hi * 18446744073709551616 + lo) / y = p * 4294967296 + b) := by show _ = _; rw [HB.out.1, LL, HT.out.1, ← HQ2.out]
                  have K2 : Hid ((hi * 18446744073709551616 + lo) % y = R0 / 2 ^ s) := by show _ = _; rw [HB.out.2, LL, HT.out.2, ← hR0]
                  have es2 : min s 64 = s := Nat.min_eq_left s64
                  clear v1 v2 vl el hR0 LL
                  go_wp2
                  go_ret2
                  exact ⟨by rw [K1.out, K2.out]; simp, rfl⟩
                | false =>
                  go_wp2
                  go_roundw
                  case rel => exact ⟨b, t + y1, rfl, by push_cast; rfl, by omega, by have := of_decide_eq_false hC2; omega, KS2, trivial⟩
                  case measure => simp [intOf]; omega
            case neg =>
              have c1 : ¬ (4294967296 : Int) ≤ (a : Int) := fun h => cc (.inl (by omega))
              have c2 : ¬ ((4294967296 : Int) * (t : Int) + (d0 : Int) < (a : Int) * (y0 : Int)) := by
                rw [← Int.natCast_mul]; omega
              have HQ2 : Hid (a = (R * 4294967296 + d0) / Y) := hf.out.stop (by have := NN1.out; omega) (by rw [HY0.out]; omega)
              have c1d2 := decide_eq_false c1
              have c2d2 := decide_eq_false c2
              clear cc c1 c2
              have yp : 0 < Y := by have := NN1.out; omega
              obtain ⟨v1, v2⟩ := digit_rest (y := Y) (u := R) (d := d0)
              have vl := Nat.mod_lt (R * 4294967296 + d0) yp
              have el := quo_lt G5.out RL.out
              rw [← HQ2.out] at v1 v2 el
              obtain ⟨R0, hR0⟩ : ∃ R0, R0 = (R * 4294967296 + d0) % Y := ⟨_, rfl⟩
              rw [← hR0] at v1 vl
              have eR0 := digit_wrap (U := R) (d := d0) (q := a) (Y := Y) (R := R0) (by omega) (by have := NN2.out; omega)
              have EI : (a : Int) ≤ 4294967295 := by omega
              have LL : U * 18446744073709551616 + L = (U * 4294967296 + d1) * 4294967296 + d0 := by have a := HD1.out; have b := HD0.out; omega
              have K1 : Hid ((hi * 18446744073709551616 + lo) / y = p * 4294967296 + a) := by show _ = _; rw [HB.out.1, LL, HT.out.1, ← HQ2.out]
              have K2 : Hid ((hi * 18446744073709551616 + lo) % y = R0 / 2 ^ s) := by show _ = _; rw [HB.out.2, LL, HT.out.2, ← hR0]
              have es2 : min s 64 = s := Nat.min_eq_left s64
              clear v1 v2 vl el hR0 LL
              go_wp2
              go_ret2
              exact ⟨by rw [K1.out, K2.out]; simp, rfl⟩
        | false =>
          go_wp2
          go_roundw
          case rel => exact ⟨p, r + y1, rfl, by push_cast; rfl, by omega, by have := of_decide_eq_false hC; omega, KS, trivial⟩
          case measure => simp [intOf]; omega
    case neg =>
      have c1 : ¬ (4294967296 : Int) ≤ (q : Int) := fun h => c (.inl (by omega))
      have c2 : ¬ ((4294967296 : Int) * (r : Int) + (d1 : Int) < (q : Int) * (y0 : Int)) := by
        rw [← Int.natCast_mul]; omega
      have HQ : Hid (q = (U * 4294967296 + d1) / Y) := he.out.stop (by have := NN1.out; omega) (by rw [HY0.out]; omega)
      have c1d := decide_eq_false c1
      have c2d := decide_eq_false c2
      clear c
      clear c1 c2
      have yp : 0 < Y := by have := NN1.out; omega
      have rd := digit_rest (y := Y) (u := U) (d := d1)
      have rl := Nat.mod_lt (U * 4294967296 + d1) yp
      have ql := quo_lt G4.out O3.out
      obtain ⟨td1, td2⟩ := two_digits (x := U * 4294967296 + d1) (d := d0) yp
      rw [← HQ.out] at rd ql td1
      obtain ⟨R, hR⟩ : ∃ R, R = (U * 4294967296 + d1) % Y := ⟨_, rfl⟩
      rw [← hR] at rd rl td1 td2
      have eR := digit_wrap (U := U) (d := d1) (q := q) (Y := Y) (R := R) (by omega) (by have := NN2.out; omega)
      have F1 := DEst.start (u := R) NN1.out G5.out
      obtain ⟨F2, F3⟩ := DEst.first NN1.out NN2.out rl
      rw [HY1.out] at F1 F2 F3
      have HT := Lib.hid (And.intro td1 td2)
      have RL := Lib.hid rl
      have QL := Lib.hid ql
      have RI : (R : Int) ≤ 18446744073709551615 := by have := NN2.out; omega
      have QI : (q : Int) ≤ 4294967295 := by omega
      clear rd td1 td2 rl ql hR
      have z1 : ((y1 : Int) == 0) = false := by simp; have := G2.out; omega
      have z2 : ¬ ((y1 : Int) = 0) := by have := G2.out; omega
      have Q1e : (R : Int) / (y1 : Int) = ((R / y1 : Nat) : Int) := (Int.natCast_ediv _ _).symm
      have R1e : (R : Int) - ((R / y1 : Nat) : Int) * (y1 : Int) = ((R % y1 : Nat) : Int) := by
        have := Nat.div_add_mod R y1
        rw [← Int.natCast_mul, Nat.mul_comm (R / y1)]; omega
      have M1 : ((R / y1 : Nat) : Int) * (y1 : Int) ≤ R := by
        have := Nat.div_mul_le_self R y1
        rw [← Int.natCast_mul]; omega
      have M0 : 0 ≤ ((R / y1 : Nat) : Int) * (y1 : Int) := by rw [← Int.natCast_mul]; omega
      have W1 : IntKind.u64.wrap ((R : Int) / (y1 : Int)) = (R : Int) / (y1 : Int) := by rw [Q1e]; exact u64_wrap_nat _ (by have := Nat.div_le_self R y1; omega)
      generalize hq0 : R / y1 = x0 at *
      generalize hr0 : R % y1 = t0 at *
      clear hq0 hr0
      have x0I : (x0 : Int) ≤ 4294967297 := by omega
      have t0I : (t0 : Int) ≤ 4294967295 := by omega
      have HF := Lib.hid F1
      have FF2 := Lib.hid F2
      have FF3 := Lib.hid F3
      clear F1 F2 F3
      go_upto_region 24 with fail
      clear Q1e R1e M1 M0 W1 eR
      go_loopw [18, 16] (fun x z wq => ∃ a t : Nat, x = .int .u64 a ∧ z = .int .u64 t ∧ a ≤ 4294967297 ∧ t < 4294967296 ∧ Hid (DEst Y R d0 a t) ∧ wq = wr) (fun x _ _ => (intOf x).toNat)
      case atStart => exact ⟨x0, t0, rfl, rfl, FF2.out, FF3.out, HF, rfl⟩
      case round =>
        obtain ⟨a, t, rfl, rfl, ha, ht, hf, rfl⟩ := hrel
        obtain ⟨m3, m4⟩ := mul_u64 ha G3.out
        have haI : (a : Int) ≤ 4294967297 := by omega
        have htI : (t : Int) ≤ 4294967295 := by omega
        have Ha := Lib.hid ha
        have Ht := Lib.hid ht
        clear ha ht
        by_cases cc : 4294967296 ≤ a ∨ 4294967296 * t + d0 < a * y0
        case pos =>
          obtain ⟨k1, ks⟩ := hf.out.step G5.out RL.out (by rw [HY0.out]; exact cc)
          rw [HY1.out] at ks
          generalize hb : a - 1 = b at *
          have bI : (a : Int) - 1 = (b : Int) := by omega
          have bq : (b : Int) ≤ 4294967296 := by omega
          have KS2 := Lib.hid ks
          have Hb := Lib.hid hb
          have ci : (4294967296 : Int) ≤ (a : Int) ∨ (4294967296 : Int) * (t : Int) + (d0 : Int) < (a : Int) * (y0 : Int) := by
            rcases cc with c | c
            · exact .inl (by omega)
            · exact .inr (by rw [← Int.natCast_mul]; omega)
          clear ks hb cc k1
          cases hA2 : decide ((4294967296 : Int) ≤ (a : Int)) with
          | true =>
            clear ci
            go_upto_region 27 with fail
            cases hC2 : decide ((4294967296 : Int) ≤ (t : Int) + (y1 : Int)) with
            | true =>
              have HQ2 : Hid (b = (R * 4294967296 + d0) / Y) := KS2.out.over (by have := NN1.out; omega) (by omega) (by have := of_decide_eq_true hC2; omega)
              have yp : 0 < Y := by have := NN1.out; omega
              obtain ⟨v1, v2⟩ := digit_rest (y := Y) (u := R) (d := d0)
              have vl := Nat.mod_lt (R * 4294967296 + d0) yp
              have el := quo_lt G5.out RL.out
              rw [← HQ2.out] at v1 v2 el
              obtain ⟨R0, hR0⟩ : ∃ R0, R0 = (R * 4294967296 + d0) % Y := ⟨_, rfl⟩
              rw [← hR0] at v1 vl
              have eR0 := digit_wrap (U := R) (d := d0) (q := b) (Y := Y) (R := R0) (by omega) (by have := NN2.out; omega)
              have EI : (b : Int) ≤ 4294967295 := by omega
              have LL : U * 18446744073709551616 + L = (U * 4294967296 + d1) * 4294967296 + d0 := by have a := HD1.out; have b := HD0.out; omega
              have K1 : Hid ((hi * 18446744073709551616 + lo) / y = q * 4294967296 + b) := by show _ = _; rw [HB.out.1, LL, HT.out.1, ← HQ2.out]
              have K2 : Hid ((hi * 18446744073709551616 + lo) % y = R0 / 2 ^ s) := by show _ = _; rw [HB.out.2, LL, HT.out.2, ← hR0]
              have es2 : min s 64 = s := Nat.min_eq_left s64
              clear v1 v2 vl el hR0 LL
              go_wp2
              go_ret2
              exact ⟨by rw [K1.out, K2.out]; simp, rfl⟩
            | false =>
              go_wp2
              go_roundw
              case rel => exact ⟨b, t + y1, rfl, by push_cast; rfl, by omega, by have := of_decide_eq_false hC2; omega, KS2, trivial⟩
              case measure => simp [intOf]; omega
          | false =>
            have c2d2 : decide ((4294967296 : Int) * (t : Int) + (d0 : Int) < (a : Int) * (y0 : Int)) = true := by
              rcases ci with c1 | c2
              · rw [decide_eq_true c1] at hA2; cases hA2
              · exact decide_eq_true c2
            clear ci
            go_upto_region 27 with fail
            cases hC2 : decide ((4294967296 : Int) ≤ (t : Int) + (y1 : Int)) with
            | true =>
              have HQ2 : Hid (b = (R * 4294967296 + d0) / Y) := KS2.out.over (by have := NN1.out; omega) (by omega) (by have := of_decide_eq_true hC2; omega)
              have yp : 0 < Y := by have := NN1.out; omega
              obtain ⟨v1, v2⟩ := digit_rest (y := Y) (u := R) (d := d0)
              have vl := Nat.mod_lt (R * 4294967296 + d0) yp
              have el := quo_lt G5.out RL.out
              rw [← HQ2.out] at v1 v2 el
              obtain ⟨R0, hR0⟩ : ∃ R0, R0 = (R * 4294967296 + d0) % Y := ⟨_, rfl⟩
              rw [← hR0] at v1 vl
              have eR0 := digit_wrap (U := R) (d := d0) (q := b) (Y := Y) (R := R0) (by omega) (by have := NN2.out; omega)
              have EI : (b : Int) ≤ 4294967295 := by omega
              have LL : U * 18446744073709551616 + L = (U * 4294967296 + d1) * 4294967296 + d0 := by have a := HD1.out; have b := HD0.out; omega
              have K1 : Hid ((hi * 18446744073709551616 + lo) / y = q * 4294967296 + b) := by show _ = _; rw [HB.out.1, LL, HT.out.1, ← HQ2.out]
              have K2 : Hid ((hi * 18446744073709551616 + lo) % y = R0 / 2 ^ s) := by show _ = _; rw [HB.out.2, LL, HT.out.2, ← hR0]
              have es2 : min s 64 = s := Nat.min_eq_left s64
              clear v1 v2 vl el hR0 LL
              go_wp2
              go_ret2
              exact ⟨by rw [K1.out, K2.out]; simp, rfl⟩
            | false =>
              go_wp2
              go_roundw
              case rel => exact ⟨b, t + y1, rfl, by push_cast; rfl, by omega, by have := of_decide_eq_false hC2; omega, KS2, trivial⟩
              case measure => simp [intOf]; omega
        case neg =>
          have c1 : ¬ (4294967296 : Int) ≤ (a : Int) := fun h => cc (.inl (by omega))
          have c2 : ¬ ((4294967296 : Int) * (t : Int) + (d0 : Int) < (a : Int) * (y0 : Int)) := by
            rw [← Int.natCast_mul]; omega
          have HQ2 : Hid (a = (R * 4294967296 + d0) / Y) := hf.out.stop (by have := NN1.out; omega) (by rw [HY0.out]; omega)
          have c1d2 := decide_eq_false c1
          have c2d2 := decide_eq_false c2
          clear cc c1 c2
          have yp : 0 < Y := by have := NN1.out; omega
          obtain ⟨v1, v2⟩ := digit_rest (y := Y) (u := R) (d := d0)
          have vl := Nat.mod_lt (R * 4294967296 + d0) yp
          have el := quo_lt G5.out RL.out
          rw [← HQ2.out] at v1 v2 el
          obtain ⟨R0, hR0⟩ : ∃ R0, R0 = (R * 4294967296 + d0) % Y := ⟨_, rfl⟩
          rw [← hR0] at v1 vl
          have eR0 := digit_wrap (U := R) (d := d0) (q := a) (Y := Y) (R := R0) (by omega) (by have := NN2.out; omega)
          have EI : (a : Int) ≤ 4294967295 := by omega
          have LL : U * 18446744073709551616 + L = (U * 4294967296 + d1) * 4294967296 + d0 := by have a := HD1.out; have b := HD0.out; omega
          have K1 : Hid ((hi * 18446744073709551616 + lo) / y = q * 4294967296 + a) := by show _ = _; rw [HB.out.1, LL, HT.out.1, ← HQ2.out]
          have K2 : Hid ((hi * 18446744073709551616 + lo) % y = R0 / 2 ^ s) := by show _ = _; rw [HB.out.2, LL, HT.out.2, ← hR0]
          have es2 : min s 64 = s := Nat.min_eq_left s64
          clear v1 v2 vl el hR0 LL
          go_wp2
          go_ret2
          exact ⟨by rw [K1.out, K2.out]; simp, rfl⟩

theorem div64_any (hi lo y : Nat) (w : World) (h : hi < y) (hy : y < 18446744073709551616) (hlo : lo < 18446744073709551616) :
    Calls Try.prog 166 #[.int .u64 hi, .int .u64 lo, .int .u64 y] w fun e w' => e = .returned (.tuple #[.int .u64 (((hi * 18446744073709551616 + lo) / y : Nat) : Int), .int .u64 (((hi * 18446744073709551616 + lo) % y : Nat) : Int)]) ∧ ∃ n, w' = w.drewN n := by
  by_cases h0 : hi = 0
  · subst h0
    have := div64_0 lo y w h hy hlo
    rw [Nat.zero_mul, Nat.zero_add]
    exact this
  · exact (div64_1 hi lo y w (by omega) h hy hlo).mono fun e w' ⟨a, b⟩ => ⟨a, 0, b⟩
end Go.Proofs.Ythlcmlngmcoknaa

/- What is proved here: the contract of math/bits.Rem64. Condition: 64-bit numbers, the divisor is not 0. -/
namespace Go.Proofs.Ythlcmlngmcoknaa
open Go.RowKit

theorem rem_red (hi lo y M : Nat) : (hi % y * M + lo) % y = (hi * M + lo) % y := by
  rw [Nat.add_mod, Nat.mod_mul_mod, ← Nat.add_mod]
set_option maxRecDepth 100000 in
set_option maxHeartbeats 4000000 in
theorem rem64_any (hi lo y : Nat) (w : World) (h : 0 < y) (hh : hi < 18446744073709551616) (hy : y < 18446744073709551616) (hlo : lo < 18446744073709551616) :
    Calls Try.prog 165 #[.int .u64 hi, .int .u64 lo, .int .u64 y] w fun e w' => e = .returned (.int .u64 (((hi * 18446744073709551616 + lo) % y : Nat) : Int)) ∧ ∃ n, w' = w.drewN n := by
  have b1 : ((y : Int) == 0) = false := by simp; omega
  have b3 : ¬ ((y : Int) = 0) := by omega
  have HR := Lib.hid (rem_red hi lo y 18446744073709551616)
  have lt := Nat.mod_lt hi h
  obtain ⟨r, hr⟩ : ∃ r, r = (hi * 18446744073709551616 + lo) % y := ⟨_, rfl⟩
  rw [← hr] at HR ⊢
  clear hr
  have q2 : (hi : Int) % (y : Int) = ((hi % y : Nat) : Int) := (Int.natCast_emod _ _).symm
  generalize hi % y = b at *
  have e2 : IntKind.u64.wrap (b : Int) = (b : Int) := u64_wrap_nat _ (by omega)
  go_enter Try.func165, Try.ntmps165
  go_wp2_with fail
  rw [q2]
  refine (div64_any b lo y _ lt hy hlo).mono ?_
  rintro e w1 ⟨rfl, n, rfl⟩
  rw [HR.out]
  go_wp2
  go_ret
  exact ⟨rfl, n, rfl⟩
end Go.Proofs.Ythlcmlngmcoknaa
