/- What is proved here: contracts of functions and plain facts, several texts in one; each one says ahead what it proves, and its conditions. -/
import Derived.Test.YtpjhiojdnebgoaaC36
import Derived.Test.YtpjhiojdnebgoaaC27
import Derived.Test.YtpjhiojdnebgoaaC48
/- What is proved here: the contract of fringeref15.Read. Condition: a slice of at most 300 64-bit numbers, 64-bit numbers. -/
namespace Go.Proofs.Ytpjhiojdnebgoaa
open Go.RowKit

theorem fread_lev {l : List Int} {n fn fd : Int} (h : levE l ≠ 0) : fread l n fn fd = ([], levE l) := if_pos h
set_option maxRecDepth 100000 in
set_option maxHeartbeats 16000000 in
theorem riread_any (l : List Int) (v : Value) (n fn fd : Int) (w : World) (hs : SI w v l) (hlen : l.length ≤ 300) (hl : ∀ i (h : i < l.length), i64 l[i]) (j1 : i64 n) (j2 : i64 fn) (j3 : i64 fd) :
    Calls Try.prog 16 #[v, .int .i64 n, .agg #[.int .i64 fn, .int .i64 fd]] w (rows_post w (fread l n fn fd)) := by
  have S0 := Lib.hid hs
  have HI := Lib.hid (wholes_FI hl)
  have J1 := Lib.hid j1
  have J2 := Lib.hid j2
  have J3 := Lib.hid j3
  obtain ⟨ad, cap, rfl, h1, h2, _⟩ := hs.open
  clear hs hl j1 j2 j3
  have oF := Own.new w 24 [.int .i64 fn, .int .i64 fd]
  have hB := ba1 w (.cells #[.int .i64 fn, .int .i64 fd] 24)
  by_cases hm : levE l = 0
  case neg =>
    have HV := Lib.hid (fread_lev (n := n) (fn := fn) (fd := fd) hm)
    have b1 : (levE l != 0) = true := by simpa using hm
    clear hm
    go_enter Try.func16, Try.ntmps16
    obtain ⟨rF, fF⟩ := oF.rules
    have zF := oF.lt
    go_wp2_with fail
    refine (rilev_any l _ _ (S0.out.below hB)).mono ?_
    rintro e y1 ⟨rfl, hq⟩
    clear rF fF zF
    replace oF := oF.below hq
    replace hB := below_to hB hq
    clear hq
    obtain ⟨rF, fF⟩ := oF.rules
    have zF := oF.lt
    go_wp2_with fail
    refine (rilev_any l _ _ (S0.out.below hB)).mono ?_
    rintro e y2 ⟨rfl, hq⟩
    clear rF fF zF
    replace oF := oF.below hq
    replace hB := below_to hB hq
    clear hq
    obtain ⟨rF, fF⟩ := oF.rules
    have zF := oF.lt
    generalize levE l = E at *
    go_wp2
    go_ret2
    exact ⟨.slice none 0 0, by rw [HV.out]; try rfl, by rw [HV.out]; exact sf_nil _, hB⟩
  have HE := Lib.hid hm
  clear hm
  go_enter Try.func16, Try.ntmps16
  obtain ⟨rF, fF⟩ := oF.rules
  have zF := oF.lt
  go_wp2_with fail
  refine (rilev_any l _ _ (S0.out.below hB)).mono ?_
  rintro e y1 ⟨rfl, hq⟩
  clear rF fF zF
  replace oF := oF.below hq
  replace hB := below_to hB hq
  clear hq
  obtain ⟨rF, fF⟩ := oF.rules
  have zF := oF.lt
  rw [HE.out]
  go_wp2_with fail
  refine (ritaps_any n fn fd _ J1.out J2.out J3.out).mono ?_
  rintro e y2 ⟨ut, rfl, st, hq⟩
  clear rF fF zF
  replace oF := oF.below hq
  replace hB := below_to hB hq
  clear hq
  have HT := Lib.hid (ftaps_FI n fn fd)
  by_cases he : (ftaps n fn fd).2 = 0
  case neg =>
    have HV := Lib.hid (fread_e HE.out he)
    have b1 : ((ftaps n fn fd).2 != 0) = true := by simpa using he
    clear he
    generalize ftaps n fn fd = T at *
    go_wp2
    go_ret2
    exact ⟨.slice none 0 0, by rw [HV.out]; try rfl, by rw [HV.out]; exact sf_nil _, hB⟩
  have HV := Lib.hid (fread_0 HE.out he)
  have b1 : ((ftaps n fn fd).2 != 0) = false := by simp [he]
  clear he oF
  generalize ftaps n fn fd = T at *
  have ST := Lib.hid st
  clear st
  go_wp2_with fail
  refine (riwhole_any l _ _ (S0.out.below hB) hlen).mono ?_
  rintro e y3 ⟨uw, rfl, sw, hq⟩
  replace hB := below_to hB hq
  have st := ST.out.below hq
  clear hq ST
  go_wp2_with fail
  refine (rifilt_any (wholes l) T.1 _ _ _ sw st HI.out HT.out).mono ?_
  rintro e y4 ⟨uf', rfl, sf', hq⟩
  replace hB := below_to hB hq
  clear hq st sw
  go_wp2
  go_ret2
  rw [HV.out]
  exact ⟨uf', rfl, sf', hB⟩
end Go.Proofs.Ytpjhiojdnebgoaa
