/- What is proved here: the contracts of flag.least, flag.checkFill and of the reference's Part and enough. Condition: the numbers are 64-bit integers; least and enough are asked of a part, with numbers up to a million. -/
import Derived.Test.YtpkggglifahioaaFillP
import Derived.Test.YtpkggglifahioaaFracE
import Derived.Test.YtpkggglifahioaaFlagA
namespace Go.Proofs.Ytpkggglifahioaa
open Go.RowKit

theorem own_at {w : World} {T : TypeId} {cs : List Value} : Own (w.alloc (.cells cs.toArray T)) w.heap.size T cs := Own.new w T cs

set_option maxRecDepth 100000 in
set_option maxHeartbeats 4000000 in
theorem least_any (fn fd : Int) (n : Nat) (w : World) (hp : prtB fn fd = true) (hn : 1 ≤ n) (hn2 : n ≤ 1000000) :
    Calls Try.prog 55 #[.agg #[.int .i64 fn, .int .i64 fd], .int .i64 n] w fun e w' => e = .returned (.int .i64 (leastN fn fd n)) ∧ Below w.heap.size w w' := by
  obtain ⟨p1, p2, p3⟩ := prt_ok hp
  obtain ⟨i1, i2⟩ := fr_i64 p1
  have oP := Own.new w 49 [.int .i64 fn, .int .i64 fd]
  have P1 := Lib.hid p1
  clear p1 hp
  go_enter Try.func55, Try.ntmps55
  go_wp2
  go_loopw [11] (fun i wr => ∃ k : Nat, k ≤ n ∧ i = .int .i64 k ∧ Hid (leastN fn fd n = lst fn fd n (n - k)) ∧ Own wr w.heap.size 49 [.int .i64 fn, .int .i64 fd] ∧ Below w.heap.size w wr) (fun i _ => n - (intOf i).toNat)
  case atStart => exact ⟨0, Nat.zero_le _, rfl, Lib.hid rfl, oP, ba1 _ _⟩
  case round =>
    clear oP
    obtain ⟨k, hk, rfl, hl, oP, hbr⟩ := hrel
    obtain ⟨rc, rf⟩ := oP.rules
    have hlt0 := oP.lt
    by_cases hlt : k < n
    · obtain ⟨m1, m2, m3⟩ := fmk_ok (num := k) (den := n) (by omega) (by omega) (by omega) (by omega)
      have hc := Lib.hid (en_cmp (fn := fn) (fd := fd) (k := k) hn hn2 (by omega))
      obtain ⟨j1, j2⟩ := fr_i64 m2
      have M2 := Lib.hid m2
      have b1 : ((fmk k n).e != 0) = false := by simp [m1]
      have hz : fboth (fmk k n).n (fmk k n).d fn fd = 0 := by rw [fboth_0 m2, P1.out]
      have b2 : (fboth (fmk k n).n (fmk k n).d fn fd == 0) = true := by simp [hz]
      have HZ : Hid (fcmpZ (fmk k n).n (fmk k n).d fn fd = fcmp (fmk k n).n (fmk k n).d fn fd) := if_pos hz
      clear m1 m2 m3 hz
      go_wp2_with fail
      refine (make_any _ _ _ ⟨by omega, by omega⟩ ⟨by omega, by omega⟩).mono ?_
      rintro e w1 ⟨rfl, hb1⟩
      have oP := oP.below hb1
      have hbr := below_to hbr hb1
      clear hb1 rc rf
      obtain ⟨rc, rf⟩ := oP.rules
      have hlt1 := oP.lt
      go_wp2_with fail
      refine (cmp_any _ _ _ _ _ j1 j2 i1 i2).mono ?_
      rintro e w2 ⟨rfl, hb2⟩
      rw [HZ.out]
      have oP := (oP.alloc (.cells #[.int .i64 (fmk k n).n, .int .i64 (fmk k n).d] 49)).below hb2
      have hbr := below_to hbr (below_to (ba1 _ _) hb2)
      clear rc rf hb2
      by_cases he : enB fn fd k n = true
      · have hge : 0 ≤ fcmp (fmk k n).n (fmk k n).d fn fd := hc.out.2 he
        have HL : Hid (leastN fn fd n = k) := by show _ = _; rw [hl.out, least_at hlt he]
        clear hl
        go_wp2
        go_ret
        exact ⟨by rw [HL.out]; try rfl, hbr⟩
      · have hge : ¬ 0 ≤ fcmp (fmk k n).n (fmk k n).d fn fd := fun h => he (hc.out.1 h)
        have HL : Hid (leastN fn fd n = lst fn fd n (n - (k + 1))) := by show _ = _; rw [hl.out, least_skip hlt (by simpa using he)]
        clear hl
        go_wp2
        go_roundw
        case rel => exact ⟨k + 1, by omega, by go_num, HL, oP, hbr⟩
        case measure => simp [intOf]; omega
    · obtain rfl : k = n := by omega
      have HL : Hid (leastN fn fd k = k) := by show _ = _; rw [hl.out, Nat.sub_self]; rfl
      clear hl
      go_wp2
      go_ret
      exact ⟨by rw [HL.out]; try rfl, hbr⟩

/-- The error of filling. -/
def ferr (t c : Int) (n : Nat) (fn fd : Int) : Int := if mchk t c n ≠ 0 then mchk t c n else if prtB fn fd then 0 else 8
theorem ferr_1 {t c : Int} {n : Nat} {fn fd : Int} (h : ¬ mchk t c n = 0) : ferr t c n fn fd = mchk t c n := if_pos h
theorem ferr_0 {t c : Int} {n : Nat} {fn fd : Int} (h : mchk t c n = 0) (h2 : prtB fn fd = true) : ferr t c n fn fd = 0 := by unfold ferr; rw [if_neg (by simp [h]), if_pos h2]
theorem ferr_8 {t c : Int} {n : Nat} {fn fd : Int} (h : mchk t c n = 0) (h2 : ¬ prtB fn fd = true) : ferr t c n fn fd = 8 := by unfold ferr; rw [if_neg (by simp [h]), if_neg h2]

set_option maxHeartbeats 3200000 in
theorem checkFill_any (t c : Int) (v : Value) (xs : List Bool) (fn fd : Int) (w : World) (h : SB w v xs) (h1 : i64 fn) (h2 : i64 fd) :
    Calls Try.prog 46 #[.agg #[.int .i64 t, .int .i64 c, v], .agg #[.int .i64 fn, .int .i64 fd]] w fun e w' => e = .returned (.int .i64 (ferr t c xs.length fn fd)) ∧ Below w.heap.size w w' := by
  have hs := h
  obtain ⟨ad, cap, rfl, q1, q2, q3⟩ := h.open
  clear h q3
  by_cases p1 : mchk t c xs.length = 0
  · have b1 : (mchk t c xs.length != 0) = false := by simp [p1]
    by_cases p2 : fchk fn fd = 0
    · have b2 : (fchk fn fd != 0) = false := by simp [p2]
      by_cases p3 : 0 < fn ∧ fn ≤ fd
      · have H := Lib.hid (ferr_0 (fn := fn) (fd := fd) p1 (by simp [prtB, p2, p3]))
        obtain ⟨p3, p4⟩ := p3
        clear p1 p2
        go_enter Try.func46, Try.ntmps46
        go_wp2_with fail
        refine (mcheck_any _ _ _ xs _ (hs.below (ba2 _ _ _))).mono ?_
        rintro e w1 ⟨rfl, hb1⟩
        obtain ⟨c1, f1⟩ := bcell hb1
        have z1 := (hb1).size
        try simp at z1
        try simp at c1
        try simp at f1
        have z1a : w.heap.size < w1.heap.size := by omega
        have z1b : w.heap.size + 1 < w1.heap.size := by omega
        go_wp2_with fail
        refine (check_any _ _ _ h1 h2).mono ?_
        rintro e w2 ⟨rfl, hb2⟩
        obtain ⟨c2, f2⟩ := bcell hb2
        have z2 := (hb2).size
        try simp at z2
        try simp at c2
        try simp at f2
        have z2a : w.heap.size < w2.heap.size := by omega
        have z2b : w.heap.size + 1 < w2.heap.size := by omega
        go_wp2
        go_ret
        exact ⟨by rw [H.out]; try rfl, below_to (below_to (ba2 _ _ _) hb1) hb2⟩
      · have H := Lib.hid (ferr_8 (fn := fn) (fd := fd) p1 (by simp only [prtB, decide_eq_true_eq]; omega))
        clear p1 p2
        go_enter Try.func46, Try.ntmps46
        go_wp2_with fail
        refine (mcheck_any _ _ _ xs _ (hs.below (ba2 _ _ _))).mono ?_
        rintro e w1 ⟨rfl, hb1⟩
        obtain ⟨c1, f1⟩ := bcell hb1
        have z1 := (hb1).size
        try simp at z1
        try simp at c1
        try simp at f1
        have z1a : w.heap.size < w1.heap.size := by omega
        have z1b : w.heap.size + 1 < w1.heap.size := by omega
        go_wp2_with fail
        refine (check_any _ _ _ h1 h2).mono ?_
        rintro e w2 ⟨rfl, hb2⟩
        obtain ⟨c2, f2⟩ := bcell hb2
        have z2 := (hb2).size
        try simp at z2
        try simp at c2
        try simp at f2
        have z2a : w.heap.size < w2.heap.size := by omega
        have z2b : w.heap.size + 1 < w2.heap.size := by omega
        go_wp2
        all_goals first | (exfalso; omega) | skip
        all_goals
          go_ret
          exact ⟨by rw [H.out]; try rfl, below_to (below_to (ba2 _ _ _) hb1) hb2⟩
    · have b2 : (fchk fn fd != 0) = true := by simp [p2]
      have H := Lib.hid (ferr_8 (fn := fn) (fd := fd) p1 (by simp only [prtB, decide_eq_true_eq]; exact fun h => p2 h.1))
      clear p1 p2
      go_enter Try.func46, Try.ntmps46
      go_wp2_with fail
      refine (mcheck_any _ _ _ xs _ (hs.below (ba2 _ _ _))).mono ?_
      rintro e w1 ⟨rfl, hb1⟩
      obtain ⟨c1, f1⟩ := bcell hb1
      have z1 := (hb1).size
      try simp at z1
      try simp at c1
      try simp at f1
      have z1a : w.heap.size < w1.heap.size := by omega
      have z1b : w.heap.size + 1 < w1.heap.size := by omega
      go_wp2_with fail
      refine (check_any _ _ _ h1 h2).mono ?_
      rintro e w2 ⟨rfl, hb2⟩
      go_wp2
      go_ret
      exact ⟨by rw [H.out]; try rfl, below_to (below_to (ba2 _ _ _) hb1) hb2⟩
  · have b1 : (mchk t c xs.length != 0) = true := by simp [p1]
    have H := Lib.hid (ferr_1 (fn := fn) (fd := fd) p1)
    clear p1
    go_enter Try.func46, Try.ntmps46
    go_wp2_with fail
    refine (mcheck_any _ _ _ xs _ (hs.below (ba2 _ _ _))).mono ?_
    rintro e w1 ⟨rfl, hb1⟩
    go_wp2
    go_ret
    exact ⟨by rw [H.out]; try rfl, below_to (ba2 _ _ _) hb1⟩

theorem part_any (fn fd : Int) (w : World) (h1 : i64 fn) (h2 : i64 fd) :
    Calls Try.prog 35 #[.agg #[.int .i64 fn, .int .i64 fd]] w fun e w' => e = .returned (.bool (prtB fn fd)) ∧ Below w.heap.size w w' := by
  by_cases p2 : fchk fn fd = 0
  · have b2 : (fchk fn fd == 0) = true := by simp [p2]
    have H : Hid (prtB fn fd = (decide (0 < fn) && decide (fn ≤ fd))) := by show _ = _; unfold prtB; simp [p2]
    clear p2
    by_cases p3 : 0 < fn
    · go_enter Try.func35, Try.ntmps35
      go_wp2_with fail
      refine (rcheck_any _ _ _ h1 h2).mono ?_
      rintro e w1 ⟨rfl, hb1⟩
      obtain ⟨c1, f1⟩ := bcell hb1
      have z1 := (hb1).size
      try simp at z1
      try simp at c1
      try simp at f1
      have z1a : w.heap.size < w1.heap.size := by omega
      go_wp2
      go_ret
      exact ⟨by rw [H.out]; simp [p3], below_to (ba1 _ _) hb1⟩
    · go_enter Try.func35, Try.ntmps35
      go_wp2_with fail
      refine (rcheck_any _ _ _ h1 h2).mono ?_
      rintro e w1 ⟨rfl, hb1⟩
      obtain ⟨c1, f1⟩ := bcell hb1
      have z1 := (hb1).size
      try simp at z1
      try simp at c1
      try simp at f1
      have z1a : w.heap.size < w1.heap.size := by omega
      go_wp2
      go_ret
      exact ⟨by rw [H.out]; simp; omega, below_to (ba1 _ _) hb1⟩
  · have b2 : (fchk fn fd == 0) = false := by simp [p2]
    have H : Hid (prtB fn fd = false) := by show _ = _; unfold prtB; simp [p2]
    clear p2
    go_enter Try.func35, Try.ntmps35
    go_wp2_with fail
    refine (rcheck_any _ _ _ h1 h2).mono ?_
    rintro e w1 ⟨rfl, hb1⟩
    go_wp2
    go_ret
    exact ⟨by rw [H.out]; try rfl, below_to (ba1 _ _) hb1⟩

set_option maxHeartbeats 800000 in
theorem enough_any (k n : Nat) (fn fd : Int) (w : World) (hp : prtB fn fd = true) (hn : 1 ≤ n) (hn2 : n ≤ 1000000) (hk : k ≤ 1000000) :
    Calls Try.prog 56 #[.int .i64 k, .int .i64 n, .agg #[.int .i64 fn, .int .i64 fd]] w fun e w' => e = .returned (.bool (enB fn fd k n)) ∧ Below w.heap.size w w' := by
  obtain ⟨p1, p2, p3⟩ := prt_ok hp
  obtain ⟨i1, i2⟩ := fr_i64 p1
  obtain ⟨m1, m2, m3⟩ := fmk_ok (num := k) (den := n) (by omega) (by omega) (by omega) (by omega)
  have hc := en_cmp (fn := fn) (fd := fd) (k := k) hn hn2 (by omega)
  obtain ⟨j1, j2⟩ := fr_i64 m2
  have hz : fboth (fmk k n).n (fmk k n).d fn fd = 0 := by rw [fboth_0 m2, p1]
  have HZ : Hid (fcmpZ (fmk k n).n (fmk k n).d fn fd = fcmp (fmk k n).n (fmk k n).d fn fd) := if_pos hz
  have HE : Hid (enB fn fd k n = decide (0 ≤ fcmp (fmk k n).n (fmk k n).d fn fd)) := by
    show _ = _
    cases he : enB fn fd k n with
    | true => rw [he] at hc; simp; exact hc.2 rfl
    | false => rw [he] at hc; simp only [Bool.false_eq_true, iff_false] at hc; simp; omega
  clear p1 m1 m2 m3 hz hc hp
  go_enter Try.func56, Try.ntmps56
  go_wp2_with fail
  refine (rmake_any _ _ _ ⟨by omega, by omega⟩ ⟨by omega, by omega⟩).mono ?_
  rintro e w1 ⟨rfl, hb1⟩
  obtain ⟨c1, f1⟩ := bcell hb1
  have z1 := (hb1).size
  try simp at z1
  try simp at c1
  try simp at f1
  have z1a : w.heap.size < w1.heap.size := by omega
  go_wp2_with fail
  refine (rcmp_any _ _ _ _ _ j1 j2 i1 i2).mono ?_
  rintro e w2 ⟨rfl, hb2⟩
  rw [HZ.out]
  go_wp2
  go_ret
  exact ⟨by rw [HE.out]; try rfl, below_to (below_to (below_to (ba1 _ _) hb1) (ba1 _ _)) hb2⟩

end Go.Proofs.Ytpkggglifahioaa
