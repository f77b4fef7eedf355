/- What is proved here: contracts of functions and plain facts, several texts in one; each one says ahead what it proves, and its conditions. -/
import Derived.Test.YthlcmlngmcoknaaC34
import Derived.Test.YthlcmlngmcoknaaC30
import Derived.Test.YthlcmlngmcoknaaC08
import Derived.Test.YthlcmlngmcoknaaC12
/- What is proved here: the contract of the reference's Over: a number of four digits divided by one of at most 62 bits. Condition: the divisor is not 0 and at most 2^62. -/
namespace Go.Proofs.Ythlcmlngmcoknaa
open Go.RowKit

def OvInv (w : World) (x n p : Nat) (wr : World) : Prop := Own wr w.heap.size 151 (dgs x) ∧ Own wr (w.heap.size + 1) 151 [.int .u64 0, .int .u64 0, .int .u64 0, .int .u64 0] ∧ Own wr (w.heap.size + 1 + 1) 151 (dgs (ovQ x n p)) ∧ Below w.heap.size w wr
theorem ovR_lt {x n p : Nat} (hn : 0 < n) : ovR x n p < n := Nat.mod_lt _ hn
theorem ov_and (d m t : Nat) (hd : d < 4294967296) (ht : d / 2 ^ m % 2 = t) : bits BinOp.and IntKind.u64 ((d : Int) / 2 ^ m) 1 = (t : Int) := by
  have e : (d : Int) / 2 ^ m = ((d / 2 ^ m : Nat) : Int) := by rw [Int.natCast_ediv, Int.natCast_pow]; rfl
  rw [e, and1 _ (by have := Nat.div_le_self d (2 ^ m); omega), ht]
theorem ov_or (r t v : Nat) (hr : (r : Int) ≤ 4611686018427387904) (ht : t < 2) (hv : 2 * r + t = v) : bits BinOp.or IntKind.u64 ((r : Int) * 2) (t : Int) = (v : Int) := by
  have h := bits_or (r * 2) t (by omega) (by omega)
  have e : r * 2 ||| t = r * 2 + t := by
    rw [Nat.mul_comm]; exact (Nat.two_pow_add_eq_or_of_lt (i := 1) (by omega) r).symm
  rw [Int.natCast_mul] at h
  rw [show ((2 : Nat) : Int) = 2 from rfl] at h
  rw [h, e]
  omega
theorem ov_bit (d m : Nat) (hd : d < 4294967296) (hm : m < 32) : bits BinOp.or IntKind.u64 (d : Int) (2 ^ m) = ((d ||| 2 ^ m : Nat) : Int) := by
  have h2 : (2 : Nat) ^ m ≤ 2 ^ 31 := Nat.pow_le_pow_right (by decide) (by omega)
  have h := bits_or d (2 ^ m) (by omega) (by omega)
  rw [Int.natCast_pow] at h
  exact h
theorem ov_wrap (m : Nat) (hm : m < 32) : IntKind.u64.wrap (2 ^ m) = 2 ^ m := by
  have h2 : (2 : Nat) ^ m ≤ 2 ^ 31 := Nat.pow_le_pow_right (by decide) (by omega)
  have := u64_wrap_nat (2 ^ m) (by omega)
  rw [Int.natCast_pow] at this
  exact this
set_option maxRecDepth 100000 in
set_option maxHeartbeats 8000000 in
theorem rover_any (x n : Nat) (w : World) (hx : x < 340282366920938463463374607431768211456) (hn : 0 < n) (hn2 : (n : Int) ≤ 4611686018427387904) :
    Calls Try.prog 110 #[.agg #[.int .u64 (dg x 0), .int .u64 (dg x 1), .int .u64 (dg x 2), .int .u64 (dg x 3)], .int .u64 n] w fun e w' => e = .returned (.tuple #[.agg #[.int .u64 (dg (x / n) 0), .int .u64 (dg (x / n) 1), .int .u64 (dg (x / n) 2), .int .u64 (dg (x / n) 3)], .int .u64 ((x % n : Nat) : Int)]) ∧ Below w.heap.size w w' := by
  have HT := Lib.hid (ov_top x n hx)
  have HE := Lib.hid (ov_end x n)
  clear hx
  go_enter Try.func110, Try.ntmps110
  have oA := (own_first w 151 (dgs x) (.cells #[.int .u64 0, .int .u64 0, .int .u64 0, .int .u64 0] 151)).alloc (.cells #[.int .u64 0, .int .u64 0, .int .u64 0, .int .u64 0] 151)
  have oR := (own_second w 151 [.int .u64 0, .int .u64 0, .int .u64 0, .int .u64 0] (.cells (dgs x).toArray 151)).alloc (.cells #[.int .u64 0, .int .u64 0, .int .u64 0, .int .u64 0] 151)
  have oO := own_third w 151 [.int .u64 0, .int .u64 0, .int .u64 0, .int .u64 0] (.cells (dgs x).toArray 151) (.cells #[.int .u64 0, .int .u64 0, .int .u64 0, .int .u64 0] 151)
  have hB := ba3 w (.cells (dgs x).toArray 151) (.cells #[.int .u64 0, .int .u64 0, .int .u64 0, .int .u64 0] 151) (.cells #[.int .u64 0, .int .u64 0, .int .u64 0, .int .u64 0] 151)
  have hI : OvInv w x n 128 (((w.alloc (.cells (dgs x).toArray 151)).alloc (.cells #[.int .u64 0, .int .u64 0, .int .u64 0, .int .u64 0] 151)).alloc (.cells #[.int .u64 0, .int .u64 0, .int .u64 0, .int .u64 0] 151)) := ⟨oA, oR, by rw [HT.out.2]; exact oO, hB⟩
  clear oA oR oO hB
  go_wp2_with fail
  go_loopw [7, 8] (fun r i wr => ∃ k : Int, -1 ≤ k ∧ k ≤ 3 ∧ i = .int .i64 k ∧ r = .int .u64 (ovR x n (32 * (k + 1).toNat)) ∧ OvInv w x n (32 * (k + 1).toNat) wr) (fun _ i _ => (intOf i + 1).toNat)
  case atStart => exact ⟨3, by decide, by decide, rfl, by show _ = Value.int .u64 ((ovR x n 128 : Nat) : Int); rw [HT.out.1]; rfl, hI⟩
  case round =>
    clear hI
    obtain ⟨k, hk1, hk2, rfl, rfl, hI⟩ := hrel
    by_cases hk : k < 0
    · obtain rfl : k = -1 := by omega
      obtain ⟨oA, oR, oO, hB⟩ := hI
      replace oO : Own wr (w.heap.size + 1 + 1) 151 (dgs (x / n)) := by rw [← HE.out.2]; exact oO
      have e7 : Hid (ovR x n (32 * ((-1 : Int) + 1).toNat) = x % n) := HE.out.1
      rw [e7.out]
      obtain ⟨rA, fA⟩ := oA.rules
      have zA := oA.lt
      obtain ⟨rR, fR⟩ := oR.rules
      have zR := oR.lt
      obtain ⟨rO, fO⟩ := oO.rules
      have zO := oO.lt
      generalize hrr : x % n = rr at *
      generalize hqq : x / n = qq at *
      have HQ := Lib.hid hqq
      have HR := Lib.hid hrr
      clear hqq hrr
      unfold dgs at rO
      go_wp2
      refine bp_gen' (fun W => Own W (w.heap.size + 1) 151 [.int .u64 (dg qq 0), .int .u64 (dg qq 1), .int .u64 (dg qq 2), .int .u64 (dg qq 3)] ∧ Below w.heap.size w W) ⟨(((oR.set 0 (.int .u64 (dg qq 0))).set 1 (.int .u64 (dg qq 1))).set 2 (.int .u64 (dg qq 2))).set 3 (.int .u64 (dg qq 3)), ?_⟩ ?_
      · repeat (refine Below.setCell ?_ (by first | omega | (simp; done) | (simp; omega)) _)
        exact hB
      rintro wz ⟨oz, bz⟩
      obtain ⟨rz, fz⟩ := oz.rules
      clear oz
      refine bodyPost_ret (v := .tuple #[.agg #[.int .u64 (dg qq 0), .int .u64 (dg qq 1), .int .u64 (dg qq 2), .int .u64 (dg qq 3)], .int .u64 rr]) (by simp [results, Try.results110, go_sem, rz]) rfl ⟨by rw [HQ.out, HR.out], ?_⟩
      repeat (refine Below.setCell ?_ (by first | omega | (simp; done) | (simp; omega)) _)
      exact bz
    · obtain ⟨K, rfl⟩ := Int.eq_ofNat_of_zero_le (show 0 ≤ k by omega)
      have eK : ((K : Int) + 1).toNat = K + 1 := by omega
      rw [eK] at hI ⊢
      clear eK
      go_wp2_with fail
      go_loopw [7, 9] (fun r i wr => ∃ b : Int, -1 ≤ b ∧ b ≤ 31 ∧ i = .int .i64 b ∧ r = .int .u64 (ovR x n (32 * K + (b + 1).toNat)) ∧ OvInv w x n (32 * K + (b + 1).toNat) wr) (fun _ i _ => (intOf i + 1).toNat)
      case atStart => exact ⟨31, by decide, by decide, rfl, by rfl, hI⟩
      case round =>
        clear hI
        obtain ⟨b, hb1, hb2, rfl, rfl, hI⟩ := hrel
        by_cases hb : b < 0
        · obtain rfl : b = -1 := by omega
          go_wp2
          go_roundw
          case rel => exact ⟨(K : Int) - 1, by omega, by omega, rfl, by rw [show ((K : Int) - 1 + 1).toNat = K by omega]; rfl, by rw [show ((K : Int) - 1 + 1).toNat = K by omega]; exact hI⟩
          case measure => simp [intOf]; try omega
        · obtain ⟨m, rfl⟩ := Int.eq_ofNat_of_zero_le (show 0 ≤ b by omega)
          have em : ((m : Int) + 1).toNat = m + 1 := by omega
          have em2 : ((m : Int) - 1 + 1).toNat = m := by omega
          have EM := Lib.hid em2
          rw [em] at hI ⊢
          clear em em2
          obtain ⟨oA, oR, oO, hB⟩ := hI
          have dA := dgs_get x K (by omega)
          have rl := ovR_lt (x := x) (p := 32 * K + (m + 1)) hn
          obtain ⟨t, ht⟩ : ∃ t, dg x K / 2 ^ m % 2 = t := ⟨_, rfl⟩
          have tl : t < 2 := by rw [← ht]; exact Nat.mod_lt _ (by decide)
          have HL := Lib.hid (fun h => ov_less (x := x) (i := K) (b := m) hn (by omega) h)
          have HM := Lib.hid (fun h => ov_more (x := x) (i := K) (b := m) hn (by omega) (by omega) h)
          have B1 := ov_and (dg x K) m t (dg_lt _ _) ht
          rw [ht] at HL HM
          rw [show 32 * K + m + 1 = 32 * K + (m + 1) from rfl] at HL HM
          clear ht
          obtain ⟨r, hr⟩ : ∃ r, r = ovR x n (32 * K + (m + 1)) := ⟨_, rfl⟩
          rw [← hr] at rl HL HM ⊢
          clear hr
          obtain ⟨v, hv⟩ : ∃ v, 2 * r + t = v := ⟨_, rfl⟩
          have B2 := ov_or r t v (by omega) tl hv
          have vl : (v : Int) ≤ 9223372036854775808 := by omega
          rw [hv] at HL HM
          have rb : (r : Int) ≤ 4611686018427387904 := by omega
          clear hv
          generalize hdx : dg x K = dx at *
          have HX := Lib.hid hdx
          clear hdx
          by_cases hvn : v < n
          · obtain ⟨g1, g2⟩ := HL.out hvn
            clear HL HM
            have G1 := Lib.hid g1
            have G2 := Lib.hid g2
            clear g1 g2
            obtain ⟨rA, fA⟩ := oA.rules
            have zA := oA.lt
            obtain ⟨rR, fR⟩ := oR.rules
            have zR := oR.lt
            obtain ⟨rO, fO⟩ := oO.rules
            have zO := oO.lt
            go_wp2
            go_roundw
            case rel => exact ⟨(m : Int) - 1, by omega, by omega, rfl, by rw [EM.out, G1.out], by rw [EM.out]; exact ⟨oA, oR, by rw [G2.out]; exact oO, hB⟩⟩
            case measure => simp [intOf]; try omega
          · obtain ⟨g1, g2⟩ := HM.out (by omega)
            clear HL HM
            have G1 := Lib.hid g1
            have G2 := Lib.hid g2
            clear g1 g2
            have dO := dgs_get (ovQ x n (32 * K + (m + 1))) K (by omega)
            have B4 := ov_wrap m (by omega)
            have B3 := ov_bit (dg (ovQ x n (32 * K + (m + 1))) K) m (dg_lt _ _) (by omega)
            obtain ⟨rA, fA⟩ := oA.rules
            have zA := oA.lt
            obtain ⟨rR, fR⟩ := oR.rules
            have zR := oR.lt
            obtain ⟨rO, fO⟩ := oO.rules
            have zO := oO.lt
            go_wp2
            have gl := @grow_lt
            go_wp2_with fail
            refine wp_region_st [.t [0, 1, 2, 3, 4, 5, 6, 7, 8]] [9] (by kernel_rfl) (by kernel_rfl) (fun _ _ _ _ _ h => h) ?_
            refine wpX_t ?_
            try simp only [opsAt, List.getElem?_toArray, List.getElem?_cons_zero, List.getElem?_cons_succ, Option.getD_some]
            repeat (go_big_quiet_step (fail))
            refine wpQuiet_nil ?_
            refine wpX_nil ?_
            try simp only [opsAt, List.getElem?_toArray, List.getElem?_cons_zero, List.getElem?_cons_succ, Option.getD_some]
            clear gl
            go_wp2
            go_roundw
            case rel =>
              refine ⟨(m : Int) - 1, by omega, by omega, rfl, by rw [EM.out, G1.out]; congr 1; omega, ?_⟩
              rw [EM.out]
              refine ⟨(oA.drew).other (by omega) _ _, (oR.drew).other (by omega) _ _, ?_, Below.setCell (hB.drew) (by simp; omega) _⟩
              rw [G2.out]
              exact (oO.drew).set K _
            case measure => simp [intOf]; try omega
end Go.Proofs.Ythlcmlngmcoknaa
