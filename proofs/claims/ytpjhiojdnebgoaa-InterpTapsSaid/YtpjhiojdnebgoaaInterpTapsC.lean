/- What is proved here: the law InterpTaps returns true. Condition: a slice of 64-bit numbers, a 64-bit number, a fraction of two of them. -/
import Derived.Test.YtpjhiojdnebgoaaC22
import Derived.Test.YtpjhiojdnebgoaaC25
import Derived.Test.YtpjhiojdnebgoaaC27
import Derived.Test.YtpjhiojdnebgoaaC29
import Derived.Test.YtpjhiojdnebgoaaC30
import Derived.Test.YtpjhiojdnebgoaaC23
namespace Go.Proofs.Ytpjhiojdnebgoaa
open Go.RowKit

theorem fspl_i64 (n d : Int) : i64 (fspl n d).2.1 ∧ i64 (fspl n d).2.2.1 := by
  by_cases h : fchk n d = 0
  · rw [fspl_0 h]; exact fsub_i64 _ _ _ _
  · rw [fspl_8 h]; exact ⟨⟨by decide, by decide⟩, ⟨by decide, by decide⟩⟩
set_option maxRecDepth 100000 in
set_option maxHeartbeats 16000000 in
theorem interpTaps_any (l : List Int) (u : Value) (n fn fd : Int) (w : World) (hs : SI w u l) (j1 : i64 n) (j2 : i64 fn) (j3 : i64 fd) :
    Calls Try.prog 4 #[.agg #[.int .i64 fn, .int .i64 fd], .int .i64 n, u] w fun e w' => e = .returned (.bool true) ∧ Below w.heap.size w w' := by
  have S0 := Lib.hid hs
  have J1 := Lib.hid j1
  have J2 := Lib.hid j2
  have J3 := Lib.hid j3
  obtain ⟨ad, cap, rfl, h1, h2, _⟩ := hs.open
  clear hs j1 j2 j3
  have oF := Own.new w 24 [.int .i64 fn, .int .i64 fd]
  have hB := ba1 w (.cells #[.int .i64 fn, .int .i64 fd] 24)
  by_cases g2 : 300 < l.length
  · have b3 : decide (300 < l.length) = true := by simpa using g2
    go_enter Try.func4, Try.ntmps4
    go_wp2_with fail
    refine (longi_any l _ _ (S0.out.below hB)).mono ?_
    rintro e _ ⟨rfl, rfl⟩
    rw [b3]
    go_wp2
    go_ret
    exact ⟨rfl, hB⟩
  have b3 : decide (300 < l.length) = false := by simpa using g2
  clear g2
  go_enter Try.func4, Try.ntmps4
  obtain ⟨rF, fF⟩ := oF.rules
  have zF := oF.lt
  go_wp2_with fail
  refine (longi_any l _ _ (S0.out.below hB)).mono ?_
  rintro e _ ⟨rfl, rfl⟩
  rw [b3]
  go_wp2_with fail
  refine (isplit_any fn fd _ J2.out J3.out).mono ?_
  rintro e y1 ⟨rfl, hq⟩
  clear rF fF zF
  replace oF := oF.below hq
  replace hB := below_to hB hq
  clear hq
  obtain ⟨rF, fF⟩ := oF.rules
  have zF := oF.lt
  have HP := Lib.hid (fspl_i64 fn fd)
  generalize hP : fspl fn fd = P at *
  have HPE := Lib.hid hP
  clear hP
  go_wp2_with fail
  refine (risplit_any fn fd _ J2.out J3.out).mono ?_
  rintro e y2 ⟨rfl, hq⟩
  rw [HPE.out]
  have oA := (Own.new y1 24 [.int .i64 P.2.1, .int .i64 P.2.2.1]).below hq
  replace hq := below_to (ba1 y1 (.cells #[.int .i64 P.2.1, .int .i64 P.2.2.1] 24)) hq
  obtain ⟨bA, hbA⟩ : ∃ G, G = y1.heap.size := ⟨_, rfl⟩
  rw [← hbA] at oA ⊢
  have zA0 : y1.heap.size ≤ bA := by rw [hbA]; exact Nat.le_refl _
  clear hbA
  clear rF fF zF
  replace oF := oF.below hq
  replace hB := below_to hB hq
  clear hq
  obtain ⟨rF, fF⟩ := oF.rules
  have zF := oF.lt
  obtain ⟨rA, fA⟩ := oA.rules
  have zA := oA.lt
  clear zA0
  go_wp2_with fail
  refine (itaps_any n fn fd _ J1.out J2.out J3.out).mono ?_
  rintro e y3 ⟨u1, rfl, s1, hq⟩
  have oB := (Own.new y2 24 [.int .i64 P.2.1, .int .i64 P.2.2.1]).below hq
  replace hq := below_to (ba1 y2 (.cells #[.int .i64 P.2.1, .int .i64 P.2.2.1] 24)) hq
  obtain ⟨bB, hbB⟩ : ∃ G, G = y2.heap.size := ⟨_, rfl⟩
  rw [← hbB] at oB ⊢
  have zB0 : y2.heap.size ≤ bB := by rw [hbB]; exact Nat.le_refl _
  clear hbB
  clear rF fF zF rA fA zA
  replace oF := oF.below hq
  replace oA := oA.below hq
  replace hB := below_to hB hq
  clear hq
  obtain ⟨rF, fF⟩ := oF.rules
  have zF := oF.lt
  obtain ⟨rA, fA⟩ := oA.rules
  have zA := oA.lt
  obtain ⟨rB, fB⟩ := oB.rules
  have zB := oB.lt
  clear zB0
  go_wp2_with fail
  refine (ritaps_any n fn fd _ J1.out J2.out J3.out).mono ?_
  rintro e y4 ⟨u2, rfl, s2, hq⟩
  replace s1 := s1.below hq
  clear rF fF zF rA fA zA rB fB zB
  replace oF := oF.below hq
  replace oA := oA.below hq
  replace oB := oB.below hq
  replace hB := below_to hB hq
  clear hq
  obtain ⟨rF, fF⟩ := oF.rules
  have zF := oF.lt
  obtain ⟨rA, fA⟩ := oA.rules
  have zA := oA.lt
  obtain ⟨rB, fB⟩ := oB.rules
  have zB := oB.lt
  clear rF fF zF oF
  generalize ftaps n fn fd = p at *
  go_wp2_with fail
  refine (ideg_any l _ _ (S0.out.below hB)).mono ?_
  rintro e y5 ⟨rfl, hq⟩
  replace s1 := s1.below hq
  replace s2 := s2.below hq
  clear rA fA zA rB fB zB
  replace oA := oA.below hq
  replace oB := oB.below hq
  replace hB := below_to hB hq
  clear hq
  obtain ⟨rA, fA⟩ := oA.rules
  have zA := oA.lt
  obtain ⟨rB, fB⟩ := oB.rules
  have zB := oB.lt
  go_wp2_with fail
  refine (rideg_any l _ _ (S0.out.below hB)).mono ?_
  rintro e y6 ⟨rfl, hq⟩
  replace s1 := s1.below hq
  replace s2 := s2.below hq
  clear rA fA zA rB fB zB
  replace oA := oA.below hq
  replace oB := oB.below hq
  replace hB := below_to hB hq
  clear hq
  obtain ⟨rA, fA⟩ := oA.rules
  have zA := oA.lt
  obtain ⟨rB, fB⟩ := oB.rules
  have zB := oB.lt
  generalize fdeg l = D at *
  go_wp2_with fail
  refine (rsame_any _ _ _ _ _ s1 s2).mono ?_
  rintro e y7 ⟨rfl, hq⟩
  rw [decide_eq_true rfl]
  replace hB := below_to hB hq
  clear hq s1 s2
  go_wp2
  go_ret
  exact ⟨rfl, hB⟩
end Go.Proofs.Ytpjhiojdnebgoaa
