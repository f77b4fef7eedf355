/- What is proved here: contracts of functions and plain facts, several texts in one; each one says ahead what it proves, and its conditions. -/
import Derived.Test.YthlcmlngmcoknaaC06
import Derived.Test.YthlcmlngmcoknaaProg
import Derived.WalkKit
import Derived.WalkMore
import Derived.OwnWalkIn
import Derived.IntWalk
/- What is proved here: the contracts of sky.isCell, Check and Places, and of the reference's in, Check, Places, Both and Great of layer 41. Condition: slices that can be read. -/
namespace Go.Proofs.Ythlcmlngmcoknaa
open Go.RowKit

def xyB (x y : Int) : Bool := decide (0 ≤ x) && decide (x < 8) && (decide (0 ≤ y) && decide (y < 8))
theorem isCell_any (x y : Int) (w : World) : Calls Try.prog 157 #[.int .i64 x, .int .i64 y] w fun e w' => e = .returned (.bool (xyB x y)) ∧ w = w' := by
  unfold xyB
  by_cases h1 : 0 ≤ x
  all_goals by_cases h2 : x < 8
  all_goals by_cases h3 : 0 ≤ y
  all_goals by_cases h4 : y < 8
  all_goals
    go_enter Try.func157, Try.ntmps157
    go_wp2
    go_ret
    exact ⟨by simp [h1, h2, h3, h4], rfl⟩
def inB (n a b : Int) : Bool := decide (a ≤ n) && decide (n ≤ b)
theorem rin_any (n a b : Int) (w : World) : Calls Try.prog 126 #[.int .i64 n, .int .i64 a, .int .i64 b] w fun e w' => e = .returned (.bool (inB n a b)) ∧ w = w' := by
  unfold inB
  by_cases h1 : a ≤ n
  all_goals by_cases h2 : n ≤ b
  all_goals
    go_enter Try.func126, Try.ntmps126
    go_wp2
    go_ret
    exact ⟨by simp [h1, h2], rfl⟩
theorem rin_of (n a b : Int) (r : Bool) (w : World) (h : inB n a b = r) : Calls Try.prog 126 #[.int .i64 n, .int .i64 a, .int .i64 b] w fun e w' => e = .returned (.bool r) ∧ w = w' := by
  subst h; exact rin_any n a b w
theorem isCell_of (x y : Int) (r : Bool) (w : World) (h : xyB x y = r) : Calls Try.prog 157 #[.int .i64 x, .int .i64 y] w fun e w' => e = .returned (.bool r) ∧ w = w' := by
  subst h; exact isCell_any x y w
theorem cellB_is (s : T3) : cellB s = (xyB s.x s.y && (decide (0 ≤ s.f) && decide (s.f ≤ 1000))) := rfl
theorem in7 (n : Int) : inB n 0 7 = (decide (0 ≤ n) && decide (n < 8)) := by
  unfold inB
  rw [show decide (n ≤ 7) = decide (n < 8) from decide_eq_decide.2 (by omega)]
set_option maxRecDepth 100000 in
set_option maxHeartbeats 4000000 in
theorem skyCheck_any (l : List T3) (v : Value) (w : World) (hs : ST w v l) :
    Calls Try.prog 128 #[v] w fun e w' => e = .returned (.int .i64 (skyN l)) ∧ Below w.heap.size w w' := by
  have S0 := Lib.hid hs
  obtain ⟨ad, cap, rfl, h1, h2, _⟩ := hs.open
  clear hs
  by_cases g : 16 < l.length
  · have b0 : decide (16 < (l.length : Int)) = true := by simp; omega
    have HV := Lib.hid (skyN_4 g)
    clear g
    go_enter Try.func128, Try.ntmps128
    go_wp2
    go_ret
    exact ⟨by rw [HV.out]; try rfl, Below.refl _ _⟩
  have b0 : decide (16 < (l.length : Int)) = false := by simp; omega
  go_enter Try.func128, Try.ntmps128
  go_wp2
  go_loopw [10] (fun i wr => ∃ k : Nat, k ≤ l.length ∧ i = .int .i64 k ∧ Hid ((l.take k).all cellB = true) ∧ Below w.heap.size w wr) (fun i _ => l.length - (intOf i).toNat)
  case atStart => exact ⟨0, Nat.zero_le _, rfl, rfl, Below.refl _ _⟩
  case round =>
    obtain ⟨k, hk, rfl, hv, hB⟩ := hrel
    by_cases hlt : k < l.length
    · obtain ⟨_, _, e, _, _, H⟩ := (S0.out.below hB).open
      cases e
      obtain ⟨b, off, rfl, c0, c1, c2⟩ := H.out k hlt
      clear H
      have HT := Lib.hid (fun h => tall_take (f := cellB) hlt hv.out h)
      have HN := Lib.hid (fun h => skyN_8 g (tall_not (f := cellB) hlt h))
      have HC := Lib.hid (cellB_is l[k])
      generalize l[k] = x at *
      by_cases g1 : xyB x.x x.y = true
      · by_cases g2 : x.f < 0
        · have HV := Lib.hid (HN.out (by rw [HC.out, g1]; simp; omega))
          go_wp2_with fail
          refine (isCell_of _ _ true _ g1).mono ?_
          rintro e _ ⟨rfl, rfl⟩
          go_wp2
          go_ret
          exact ⟨by rw [HV.out]; try rfl, below_to hB (ba1 _ _)⟩
        · by_cases g3 : 1000 < x.f
          · have HV := Lib.hid (HN.out (by rw [HC.out, g1]; simp; omega))
            go_wp2_with fail
            refine (isCell_of _ _ true _ g1).mono ?_
            rintro e _ ⟨rfl, rfl⟩
            go_wp2
            go_ret
            exact ⟨by rw [HV.out]; try rfl, below_to hB (ba1 _ _)⟩
          · have HV := Lib.hid (HT.out (by rw [HC.out, g1]; simp; omega))
            go_wp2_with fail
            refine (isCell_of _ _ true _ g1).mono ?_
            rintro e _ ⟨rfl, rfl⟩
            go_wp2
            go_roundw
            case rel => exact ⟨k + 1, by omega, by go_num, HV, below_to hB (ba1 _ _)⟩
            case measure => simp [intOf]; try omega
      · rw [Bool.not_eq_true] at g1
        have HV := Lib.hid (HN.out (by rw [HC.out, g1]; rfl))
        go_wp2_with fail
        refine (isCell_of _ _ false _ g1).mono ?_
        rintro e _ ⟨rfl, rfl⟩
        go_wp2
        go_ret
        exact ⟨by rw [HV.out]; try rfl, below_to hB (ba1 _ _)⟩
    · obtain rfl : k = l.length := by omega
      have ha := hv.out
      rw [List.take_length] at ha
      have HV := Lib.hid (skyN_0 g ha)
      go_wp2
      go_ret
      exact ⟨by rw [HV.out]; try rfl, hB⟩
set_option maxRecDepth 100000 in
set_option maxHeartbeats 4000000 in
theorem skyPlaces_any (l : List (Int × Int)) (v : Value) (w : World) (hs : SF w v l) :
    Calls Try.prog 127 #[v] w fun e w' => e = .returned (.int .i64 (plcN l)) ∧ Below w.heap.size w w' := by
  have S0 := Lib.hid hs
  obtain ⟨ad, cap, rfl, h1, h2, _⟩ := hs.open
  clear hs
  by_cases g : 8 < l.length
  · have b0 : decide (8 < (l.length : Int)) = true := by simp; omega
    have HV := Lib.hid (plcN_4 g)
    clear g
    go_enter Try.func127, Try.ntmps127
    go_wp2
    go_ret
    exact ⟨by rw [HV.out]; try rfl, Below.refl _ _⟩
  have b0 : decide (8 < (l.length : Int)) = false := by simp; omega
  by_cases g0 : l.length < 2
  · have b1 : decide ((l.length : Int) < 2) = true := by simp; omega
    have HV := Lib.hid (plcN_2 g g0)
    clear g g0
    go_enter Try.func127, Try.ntmps127
    go_wp2
    go_ret
    exact ⟨by rw [HV.out]; try rfl, Below.refl _ _⟩
  have b1 : decide ((l.length : Int) < 2) = false := by simp; omega
  go_enter Try.func127, Try.ntmps127
  go_wp2
  go_loopw [13] (fun i wr => ∃ k : Nat, k ≤ l.length ∧ i = .int .i64 k ∧ Hid ((l.take k).all plcB = true) ∧ Below w.heap.size w wr) (fun i _ => l.length - (intOf i).toNat)
  case atStart => exact ⟨0, Nat.zero_le _, rfl, rfl, Below.refl _ _⟩
  case round =>
    obtain ⟨k, hk, rfl, hv, hB⟩ := hrel
    by_cases hlt : k < l.length
    · obtain ⟨_, _, e, _, _, H⟩ := (S0.out.below hB).open
      cases e
      obtain ⟨b, off, rfl, c0, c1⟩ := H.out k hlt
      clear H
      have HT := Lib.hid (fun h => tall_take (f := plcB) hlt hv.out h)
      have HN := Lib.hid (fun h => plcN_8 g g0 (tall_not (f := plcB) hlt h))
      have HC : Hid (plcB l[k] = (decide (-100 ≤ l[k].1) && decide (l[k].1 ≤ 100) && (decide (-100 ≤ l[k].2) && decide (l[k].2 ≤ 100)))) := rfl
      generalize l[k] = x at *
      by_cases g1 : x.1 < -100
      · have HV := Lib.hid (HN.out (by rw [HC.out]; simp; omega))
        go_wp2
        go_ret
        exact ⟨by rw [HV.out]; try rfl, below_to hB (ba1 _ _)⟩
      by_cases g2 : 100 < x.1
      · have HV := Lib.hid (HN.out (by rw [HC.out]; simp; omega))
        go_wp2
        go_ret
        exact ⟨by rw [HV.out]; try rfl, below_to hB (ba1 _ _)⟩
      by_cases g3 : x.2 < -100
      · have HV := Lib.hid (HN.out (by rw [HC.out]; simp; omega))
        go_wp2
        go_ret
        exact ⟨by rw [HV.out]; try rfl, below_to hB (ba1 _ _)⟩
      by_cases g4 : 100 < x.2
      · have HV := Lib.hid (HN.out (by rw [HC.out]; simp; omega))
        go_wp2
        go_ret
        exact ⟨by rw [HV.out]; try rfl, below_to hB (ba1 _ _)⟩
      have HV := Lib.hid (HT.out (by rw [HC.out]; simp; omega))
      go_wp2
      go_roundw
      case rel => exact ⟨k + 1, by omega, by go_num, HV, below_to hB (ba1 _ _)⟩
      case measure => simp [intOf]; try omega
    · obtain rfl : k = l.length := by omega
      have ha := hv.out
      rw [List.take_length] at ha
      have HV := Lib.hid (plcN_0 g g0 ha)
      go_wp2
      go_ret
      exact ⟨by rw [HV.out]; try rfl, hB⟩
set_option maxRecDepth 100000 in
set_option maxHeartbeats 4000000 in
theorem rskyCheck_any (l : List T3) (v : Value) (w : World) (hs : ST w v l) :
    Calls Try.prog 78 #[v] w fun e w' => e = .returned (.int .i64 (skyN l)) ∧ Below w.heap.size w w' := by
  have S0 := Lib.hid hs
  obtain ⟨ad, cap, rfl, h1, h2, _⟩ := hs.open
  clear hs
  by_cases g : 16 < l.length
  · have b0 : decide (16 < (l.length : Int)) = true := by simp; omega
    have HV := Lib.hid (skyN_4 g)
    clear g
    go_enter Try.func78, Try.ntmps78
    go_wp2
    go_ret
    exact ⟨by rw [HV.out]; try rfl, Below.refl _ _⟩
  have b0 : decide (16 < (l.length : Int)) = false := by simp; omega
  go_enter Try.func78, Try.ntmps78
  go_wp2
  go_loopw [3] (fun i wr => ∃ k : Nat, k ≤ l.length ∧ i = .int .i64 k ∧ Hid ((l.take k).all cellB = true) ∧ Below w.heap.size w wr) (fun i _ => l.length - (intOf i).toNat)
  case atStart => exact ⟨0, Nat.zero_le _, rfl, rfl, Below.refl _ _⟩
  case round =>
    obtain ⟨k, hk, rfl, hv, hB⟩ := hrel
    by_cases hlt : k < l.length
    · obtain ⟨_, _, e, _, _, H⟩ := (S0.out.below hB).open
      cases e
      obtain ⟨b, off, rfl, c0, c1, c2⟩ := H.out k hlt
      clear H
      have HT := Lib.hid (fun h => tall_take (f := cellB) hlt hv.out h)
      have HN := Lib.hid (fun h => skyN_8 g (tall_not (f := cellB) hlt h))
      have HC : Hid (cellB l[k] = (inB l[k].x 0 7 && inB l[k].y 0 7 && inB l[k].f 0 1000)) := by show _ = _; rw [in7, in7]; rfl
      generalize l[k] = x at *
      by_cases g1 : inB x.x 0 7 = true
      · by_cases g2 : inB x.y 0 7 = true
        · by_cases g3 : inB x.f 0 1000 = true
          · have HV := Lib.hid (HT.out (by rw [HC.out, g1, g2, g3]; rfl))
            go_wp2_with fail
            refine (rin_of _ _ _ true _ g1).mono ?_
            rintro e _ ⟨rfl, rfl⟩
            go_wp2_with fail
            refine (rin_of _ _ _ true _ g2).mono ?_
            rintro e _ ⟨rfl, rfl⟩
            go_wp2_with fail
            refine (rin_of _ _ _ true _ g3).mono ?_
            rintro e _ ⟨rfl, rfl⟩
            go_wp2
            go_roundw
            case rel => exact ⟨k + 1, by omega, by go_num, HV, hB⟩
            case measure => simp [intOf]; try omega
          · rw [Bool.not_eq_true] at g3
            have HV := Lib.hid (HN.out (by rw [HC.out, g1, g2, g3]; rfl))
            go_wp2_with fail
            refine (rin_of _ _ _ true _ g1).mono ?_
            rintro e _ ⟨rfl, rfl⟩
            go_wp2_with fail
            refine (rin_of _ _ _ true _ g2).mono ?_
            rintro e _ ⟨rfl, rfl⟩
            go_wp2_with fail
            refine (rin_of _ _ _ false _ g3).mono ?_
            rintro e _ ⟨rfl, rfl⟩
            go_wp2
            go_ret
            exact ⟨by rw [HV.out]; try rfl, hB⟩
        · rw [Bool.not_eq_true] at g2
          have HV := Lib.hid (HN.out (by rw [HC.out, g1, g2]; rfl))
          go_wp2_with fail
          refine (rin_of _ _ _ true _ g1).mono ?_
          rintro e _ ⟨rfl, rfl⟩
          go_wp2_with fail
          refine (rin_of _ _ _ false _ g2).mono ?_
          rintro e _ ⟨rfl, rfl⟩
          go_wp2
          go_ret
          exact ⟨by rw [HV.out]; try rfl, hB⟩
      · rw [Bool.not_eq_true] at g1
        have HV := Lib.hid (HN.out (by rw [HC.out, g1]; rfl))
        go_wp2_with fail
        refine (rin_of _ _ _ false _ g1).mono ?_
        rintro e _ ⟨rfl, rfl⟩
        go_wp2
        go_ret
        exact ⟨by rw [HV.out]; try rfl, hB⟩
    · obtain rfl : k = l.length := by omega
      have ha := hv.out
      rw [List.take_length] at ha
      have HV := Lib.hid (skyN_0 g ha)
      go_wp2
      go_ret
      exact ⟨by rw [HV.out]; try rfl, hB⟩
set_option maxRecDepth 100000 in
set_option maxHeartbeats 4000000 in
theorem rskyPlaces_any (l : List (Int × Int)) (v : Value) (w : World) (hs : SF w v l) :
    Calls Try.prog 77 #[v] w fun e w' => e = .returned (.int .i64 (plcN l)) ∧ Below w.heap.size w w' := by
  have S0 := Lib.hid hs
  obtain ⟨ad, cap, rfl, h1, h2, _⟩ := hs.open
  clear hs
  by_cases g : 8 < l.length
  · have b0 : decide (8 < (l.length : Int)) = true := by simp; omega
    have HV := Lib.hid (plcN_4 g)
    clear g
    go_enter Try.func77, Try.ntmps77
    go_wp2
    go_ret
    exact ⟨by rw [HV.out]; try rfl, Below.refl _ _⟩
  have b0 : decide (8 < (l.length : Int)) = false := by simp; omega
  by_cases g0 : l.length < 2
  · have b1 : decide ((l.length : Int) < 2) = true := by simp; omega
    have HV := Lib.hid (plcN_2 g g0)
    clear g g0
    go_enter Try.func77, Try.ntmps77
    go_wp2
    go_ret
    exact ⟨by rw [HV.out]; try rfl, Below.refl _ _⟩
  have b1 : decide ((l.length : Int) < 2) = false := by simp; omega
  go_enter Try.func77, Try.ntmps77
  go_wp2
  go_loopw [3] (fun i wr => ∃ k : Nat, k ≤ l.length ∧ i = .int .i64 k ∧ Hid ((l.take k).all plcB = true) ∧ Below w.heap.size w wr) (fun i _ => l.length - (intOf i).toNat)
  case atStart => exact ⟨0, Nat.zero_le _, rfl, rfl, Below.refl _ _⟩
  case round =>
    obtain ⟨k, hk, rfl, hv, hB⟩ := hrel
    by_cases hlt : k < l.length
    · obtain ⟨_, _, e, _, _, H⟩ := (S0.out.below hB).open
      cases e
      obtain ⟨b, off, rfl, c0, c1⟩ := H.out k hlt
      clear H
      have HT := Lib.hid (fun h => tall_take (f := plcB) hlt hv.out h)
      have HN := Lib.hid (fun h => plcN_8 g g0 (tall_not (f := plcB) hlt h))
      have HC : Hid (plcB l[k] = (inB l[k].1 (-100) 100 && inB l[k].2 (-100) 100)) := rfl
      generalize l[k] = x at *
      by_cases g1 : inB x.1 (-100) 100 = true
      · by_cases g2 : inB x.2 (-100) 100 = true
        · have HV := Lib.hid (HT.out (by rw [HC.out, g1, g2]; rfl))
          go_wp2_with fail
          refine (rin_of _ _ _ true _ g1).mono ?_
          rintro e _ ⟨rfl, rfl⟩
          go_wp2_with fail
          refine (rin_of _ _ _ true _ g2).mono ?_
          rintro e _ ⟨rfl, rfl⟩
          go_wp2
          go_roundw
          case rel => exact ⟨k + 1, by omega, by go_num, HV, hB⟩
          case measure => simp [intOf]; try omega
        · rw [Bool.not_eq_true] at g2
          have HV := Lib.hid (HN.out (by rw [HC.out, g1, g2]; rfl))
          go_wp2_with fail
          refine (rin_of _ _ _ true _ g1).mono ?_
          rintro e _ ⟨rfl, rfl⟩
          go_wp2_with fail
          refine (rin_of _ _ _ false _ g2).mono ?_
          rintro e _ ⟨rfl, rfl⟩
          go_wp2
          go_ret
          exact ⟨by rw [HV.out]; try rfl, hB⟩
      · rw [Bool.not_eq_true] at g1
        have HV := Lib.hid (HN.out (by rw [HC.out, g1]; rfl))
        go_wp2_with fail
        refine (rin_of _ _ _ false _ g1).mono ?_
        rintro e _ ⟨rfl, rfl⟩
        go_wp2
        go_ret
        exact ⟨by rw [HV.out]; try rfl, hB⟩
    · obtain rfl : k = l.length := by omega
      have ha := hv.out
      rw [List.take_length] at ha
      have HV := Lib.hid (plcN_0 g g0 ha)
      go_wp2
      go_ret
      exact ⟨by rw [HV.out]; try rfl, hB⟩
set_option maxHeartbeats 4000000 in
theorem rboth41_any (p : List (Int × Int)) (l : List T3) (vp vl : Value) (w : World) (hp : SF w vp p) (hl : ST w vl l) :
    Calls Try.prog 30 #[vp, vl] w fun e w' => e = .returned (.int .i64 (bothN p l)) ∧ Below w.heap.size w w' := by
  unfold bothN
  by_cases g : plcN p = 0
  · rw [if_neg (by simp [g])]
    go_enter Try.func30, Try.ntmps30
    go_wp2_with fail
    refine (rskyPlaces_any p _ _ hp).mono ?_
    rintro e w1 ⟨rfl, hb⟩
    rw [g]
    replace hl := hl.below hb
    go_wp2_with fail
    refine (rskyCheck_any l _ _ hl).mono ?_
    rintro e w2 ⟨rfl, hq⟩
    go_wp2
    go_ret
    exact ⟨rfl, below_to hb hq⟩
  · rw [if_pos g]
    have q : (plcN p != 0) = true := by simpa using g
    go_enter Try.func30, Try.ntmps30
    go_wp2_with fail
    refine (rskyPlaces_any p _ _ hp).mono ?_
    rintro e w1 ⟨rfl, hb⟩
    go_wp2
    go_ret
    exact ⟨rfl, hb⟩
def tgreat (p : List (Int × Int)) (l : List T3) : Bool := decide (20 < p.length) || decide (40 < l.length)
theorem rgreat41_any (p : List (Int × Int)) (l : List T3) (vp vl : Value) (w : World) (hp : SF w vp p) (hl : ST w vl l) :
    Calls Try.prog 29 #[vp, vl] w fun e w' => e = .returned (.bool (tgreat p l)) ∧ w = w' := by
  unfold tgreat
  obtain ⟨ad, cap, rfl, h1, h2, _⟩ := hp.open
  obtain ⟨ad', cap', rfl, h3, h4, _⟩ := hl.open
  by_cases g1 : 20 < (p.length : Int)
  all_goals by_cases g2 : 40 < (l.length : Int)
  all_goals
    go_enter Try.func29, Try.ntmps29
    go_wp2
    go_ret
    exact ⟨by simp; omega, rfl⟩
end Go.Proofs.Ythlcmlngmcoknaa
