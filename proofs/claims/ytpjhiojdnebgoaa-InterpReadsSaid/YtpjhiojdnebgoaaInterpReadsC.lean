/- What is proved here: the law InterpReads returns true. Condition: a slice of 64-bit numbers, a 64-bit number, a fraction of two of them. -/
import Derived.Test.YtpjhiojdnebgoaaC33
import Derived.Test.YtpjhiojdnebgoaaC37
import Derived.Test.YtpjhiojdnebgoaaC19
namespace Go.Proofs.Ytpjhiojdnebgoaa
open Go.RowKit

set_option maxRecDepth 100000 in
set_option maxHeartbeats 16000000 in
theorem interpReads_any (l : List Int) (u : Value) (n fn fd : Int) (w : World) (hs : SI w u l) (il : ∀ i (h : i < l.length), i64 l[i]) (j1 : i64 n) (j2 : i64 fn) (j3 : i64 fd) :
    Calls Try.prog 3 #[u, .int .i64 n, .agg #[.int .i64 fn, .int .i64 fd]] w fun e w' => e = .returned (.bool true) ∧ Below w.heap.size w w' := by
  have S0 := Lib.hid hs
  have IL := Lib.hid il
  have J1 := Lib.hid j1
  have J2 := Lib.hid j2
  have J3 := Lib.hid j3
  obtain ⟨ad, cap, rfl, h1, h2, _⟩ := hs.open
  clear hs il j1 j2 j3
  have oF := Own.new w 24 [.int .i64 fn, .int .i64 fd]
  have hB := ba1 w (.cells #[.int .i64 fn, .int .i64 fd] 24)
  by_cases g1 : 40 < l.length ∧ l.length ≤ 256
  · have b1 : decide (40 < (l.length : Int)) = true := by simp; omega
    have b2 : decide ((l.length : Int) ≤ 256) = true := by simp; omega
    clear g1
    go_enter Try.func3, Try.ntmps3
    go_wp2
    go_ret
    exact ⟨rfl, hB⟩
  by_cases g2 : 300 < l.length
  · have b1 : decide (40 < (l.length : Int)) = true := by simp; omega
    have b2 : decide ((l.length : Int) ≤ 256) = false := by simp; omega
    have b3 : decide (300 < l.length) = true := by simpa using g2
    clear g1
    go_enter Try.func3, Try.ntmps3
    go_wp2_with fail
    refine (longi_any l _ _ (S0.out.below hB)).mono ?_
    rintro e _ ⟨rfl, rfl⟩
    rw [b3]
    go_wp2
    go_ret
    exact ⟨rfl, hB⟩
  have b3 : decide (300 < l.length) = false := by simpa using g2
  have l300 : l.length ≤ 300 := by omega
  have tail : ∀ (W : World), Below w.heap.size w W → True := fun _ _ => trivial
  clear tail
  by_cases g3 : 40 < l.length
  all_goals
    first
    | (have b1 : decide (40 < (l.length : Int)) = true := by simp; omega)
    | (have b1 : decide (40 < (l.length : Int)) = false := by simp; omega)
    have b2 : 40 < l.length → decide ((l.length : Int) ≤ 256) = false := fun h => by simp; omega
    try replace b2 := b2 g3
    clear g1 g3
    go_enter Try.func3, Try.ntmps3
    have oF' := oF
    obtain ⟨rF, fF⟩ := oF.rules
    have zF := oF.lt
    go_wp2_with fail
    refine (longi_any l _ _ (S0.out.below hB)).mono ?_
    rintro e _ ⟨rfl, rfl⟩
    rw [b3]
    go_wp2_with fail
    refine (iread_any l _ n fn fd _ (S0.out.below hB) IL.out J1.out J2.out J3.out).mono ?_
    rintro e y1 ⟨x1, rfl, s1, hq⟩
    clear rF fF zF oF'
    replace oF := oF.below hq
    replace hB := below_to hB hq
    clear hq
    obtain ⟨rF, fF⟩ := oF.rules
    have zF := oF.lt
    go_wp2_with fail
    refine (riread_any l _ n fn fd _ (S0.out.below hB) l300 IL.out J1.out J2.out J3.out).mono ?_
    rintro e y2 ⟨x2, rfl, s2, hq⟩
    replace s1 := s1.below hq
    replace hB := below_to hB hq
    clear hq rF fF zF oF
    generalize fread l n fn fd = p at *
    go_wp2_with fail
    refine (rsame_any _ _ _ _ _ s1 s2).mono ?_
    rintro e y3 ⟨rfl, hq⟩
    rw [decide_eq_true rfl]
    replace hB := below_to hB hq
    clear hq s1 s2
    go_wp2
    go_ret
    exact ⟨rfl, hB⟩
end Go.Proofs.Ytpjhiojdnebgoaa
