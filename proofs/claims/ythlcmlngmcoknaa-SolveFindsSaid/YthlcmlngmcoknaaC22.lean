/- What is proved here: contracts of functions and plain facts, several texts in one; each one says ahead what it proves, and its conditions. -/
import Derived.Test.YthlcmlngmcoknaaC03
import Derived.Test.YthlcmlngmcoknaaC04
import Derived.Test.YthlcmlngmcoknaaC20
import Derived.Test.YthlcmlngmcoknaaC21
import Derived.IntWalk
import Derived.Deep.DeepCutAuto
/- What is proved here: the contract of solve.reduce. Condition: rows of small numbers, each in a block of its own. -/
namespace Go.Proofs.Ythlcmlngmcoknaa
open Go.RowKit

section
variable {n m c : Nat} {A0 : Nat → Nat → Rat}
theorem red_full (h : n ≤ (red n A0 c).bnd.length) : ∀ d, red n A0 (c + d) = red n A0 c
  | 0 => rfl
  | d + 1 => by
    have ih := red_full h d
    show (red n A0 (c + d)).step n (c + d) = _
    rw [ih]
    unfold Rd.step; rw [if_pos h]
theorem red_end (h : n ≤ (red n A0 c).bnd.length) (hc : c ≤ m) : red n A0 m = red n A0 c := by
  have := red_full h (m - c)
  rw [show c + (m - c) = m by omega] at this; exact this
theorem red_skip (h : ¬ n ≤ (red n A0 c).bnd.length) (hf : fnd (red n A0 c).R c (n - (red n A0 c).bnd.length) (red n A0 c).bnd.length = n) : red n A0 (c + 1) = red n A0 c := by
  show (red n A0 c).step n c = _
  unfold Rd.step; rw [if_neg h, if_pos hf]
end
/-- The rows after a step. -/
def mnew (Ms : Nat → Nat → Int) (L : Int) (k c i j : Nat) : Int := if i = k then Ms k j else (Ms k c * Ms i j - Ms i c * Ms k j).tdiv L
/-- The rows while they are made. -/
def mpart (Ms : Nat → Nat → Int) (L : Int) (k c r0 c0 i j : Nat) : Int := if i < r0 ∨ (i = r0 ∧ j < c0) then mnew Ms L k c i j else Ms i j
section
variable {Ms : Nat → Nat → Int} {L : Int} {k c : Nat}
theorem mpart_put (r0 c0 : Nat) : mput (mpart Ms L k c r0 c0) r0 c0 (mnew Ms L k c r0 c0) = mpart Ms L k c r0 (c0 + 1) := by
  funext i j
  unfold mput mpart
  by_cases h : i = r0 ∧ j = c0
  · obtain ⟨rfl, rfl⟩ := h
    rw [if_pos ⟨rfl, rfl⟩, if_pos (by omega)]
  · rw [if_neg h]
    by_cases h2 : i < r0 ∨ (i = r0 ∧ j < c0)
    · rw [if_pos h2, if_pos (by omega)]
    · rw [if_neg h2, if_neg (by omega)]
theorem mpart_row {W : Nat} (r0 : Nat) : ∀ i j, j < W → mpart Ms L k c r0 W i j = mpart Ms L k c (r0 + 1) 0 i j := fun i j hj => by
  unfold mpart
  by_cases h2 : i < r0 ∨ (i = r0 ∧ j < W)
  · rw [if_pos h2, if_pos (by omega)]
  · rw [if_neg h2, if_neg (by omega)]
theorem mpart_skip : mpart Ms L k c k 0 = mpart Ms L k c (k + 1) 0 := by
  funext i j
  unfold mpart
  by_cases h2 : i < k ∨ (i = k ∧ j < 0)
  · rw [if_pos h2, if_pos (by omega)]
  · rw [if_neg h2]
    by_cases h3 : i = k
    · subst h3
      rw [if_pos (by omega)]
      unfold mnew; rw [if_pos rfl]
    · rw [if_neg (by omega)]
theorem mpart_0 : mpart Ms L k c 0 0 = Ms := by
  funext i j; unfold mpart; rw [if_neg (by omega)]
theorem mpart_end {n : Nat} : ∀ i j, i < n → mpart Ms L k c n 0 i j = mnew Ms L k c i j := fun i j hi => by unfold mpart; rw [if_pos (by omega)]
theorem mpart_at (r0 c0 j : Nat) (h : c0 ≤ j) : mpart Ms L k c r0 c0 r0 j = Ms r0 j := by unfold mpart; rw [if_neg (by omega)]
theorem mpart_piv (r0 c0 j : Nat) : mpart Ms L k c r0 c0 k j = Ms k j := by
  unfold mpart
  split
  · unfold mnew; rw [if_pos rfl]
  · rfl
end
theorem MatO.at {w w' : World} {B B' Lm g : Nat} {Tr Ti : TypeId} {rest : List Value} {bb cp : Nat → Nat} {ex : Nat → List Value} {n W : Nat} {M : Nat → Nat → Int} (h : MatO w B Lm g Tr Ti rest bb cp ex n W M) (hb : Below B' w w') (hL : Lm ≤ B') : MatO w' B Lm g Tr Ti rest bb cp ex n W M :=
  ⟨h.out.at hb (by have := h.base; omega), h.base, fun i hi => (h.row i hi).at hb (by have := h.blk i hi; omega), h.blk, h.inj⟩
def bints (l : List Nat) : List Int := l.map Int.ofNat
theorem bints_app (l : List Nat) (c : Nat) : ics (bints (l ++ [c])) = ics (bints l) ++ [.int .i64 c] := by simp [ics, bints]
def red_post (w : World) (B g n m mw cap : Nat) (A0 : Nat → Nat → Rat) (e : Ending) (w' : World) : Prop :=
  ∃ ub L M bb cp ex rest, e = .returned (.agg #[.slice (some ⟨g, 0, none⟩) n cap, ub, .int .i64 L]) ∧ MatO w' B w.heap.size g 157 2 rest bb cp ex n mw M ∧ SI w' ub (bints (red n A0 m).bnd) ∧ BarI n m (red n A0 m) M L ∧ Below B w w'
/-- What is true of the call's own boxes at the head of each loop. -/
structure RBox (w : World) (B g n cap : Nat) (ub : Value) (L : Int) (l : List Nat) (S : Nat) (wr : World) : Prop where
  r : Own wr w.heap.size 93 [.slice none 0 0, .slice none 0 0, .int .i64 0]
  t : Own wr (w.heap.size + 1) 93 [.slice (some ⟨g, 0, none⟩) n cap, ub, .int .i64 L]
  b : wr.ownsRow S 3 1 ub l.length (ics (bints l))
  s : S = w.heap.size + 1 + 1 ∧ S ≤ wr.heap.size
  h : Below B w wr
theorem RBox.put {w wr : World} {B g n cap S : Nat} {ub : Value} {L : Int} {l : List Nat} (h : RBox w B g n cap ub L l S wr) {b : Nat} (hb : B ≤ b) (hl : b < w.heap.size) (k : Nat) (v : Value) : RBox w B g n cap ub L l S (wr.setCell ⟨b, k, none⟩ v) :=
  ⟨h.r.other (by omega) k v, h.t.other (by omega) k v, owns_set_low h.b (by have := h.s; simp; omega) v, ⟨h.s.1, by simpa using h.s.2⟩, h.h.setCell (p := ⟨b, k, none⟩) hb v⟩
theorem RBox.drew {w wr : World} {B g n cap S : Nat} {ub : Value} {L : Int} {l : List Nat} (h : RBox w B g n cap ub L l S wr) : RBox w B g n cap ub L l S wr.drew :=
  ⟨h.r.drew, h.t.drew, owns_at h.b (Below.refl _ _).drew, h.s, h.h.drew⟩
set_option maxRecDepth 100000 in
set_option maxHeartbeats 32000000 in
theorem reduce_any (n m mw : Nat) (M0 : Nat → Nat → Int) (A0 : Nat → Nat → Rat) (ρ : Nat) (γ : Rat) (w : World) (B g cap : Nat) (rest : List Value) (bb cp : Nat → Nat) (ex : Nat → List Value)
    (hA : ∀ i j, i < n → j ≤ m → ((M0 i j : Int) : Rat) = A0 i j) (t : Tame n m A0 ρ γ) (hwh : Whl n m A0) (hM : MatO w B w.heap.size g 157 2 rest bb cp ex n mw M0) (hmw : mw = m + 1) (hcap : n ≤ cap) (h1 : 1 ≤ n) :
    Calls Try.prog 61 #[.slice (some ⟨g, 0, none⟩) n cap, .int .i64 m] w (red_post w B g n m mw cap A0) := by
  have TM := Lib.hid t
  have WH := Lib.hid hwh
  have N7 := t.n7
  have M6 := t.w6
  have B0 := Lib.hid (bar_0 (w := m) hA)
  have GB := hM.base
  have m1 : m < mw := by omega
  have m2 : mw ≤ m + 1 := by omega
  clear hmw
  clear t hwh hA
  have oR := own_first w 93 [.slice none 0 0, .slice none 0 0, .int .i64 0] (.cells #[.slice (some ⟨g, 0, none⟩) n cap, .slice none 0 0, .int .i64 1] 93)
  have oT := own_second w 93 [.slice (some ⟨g, 0, none⟩) n cap, .slice none 0 0, .int .i64 1] (.cells #[.slice none 0 0, .slice none 0 0, .int .i64 0] 93)
  have hB := ba2 w (.cells #[.slice none 0 0, .slice none 0 0, .int .i64 0] 93) (.cells #[.slice (some ⟨g, 0, none⟩) n cap, .slice none 0 0, .int .i64 1] 93)
  go_enter Try.func61, Try.ntmps61
  go_upto_region 2 with fail
  have hM1 := hM.below hB
  have hBB : Below B w _ := hB.mono (by omega)
  have S0 : ((w.alloc (.cells #[.slice none 0 0, .slice none 0 0, .int .i64 0] 93)).alloc (.cells #[.slice (some ⟨g, 0, none⟩) n cap, .slice none 0 0, .int .i64 1] 93)).heap.size = w.heap.size + 1 + 1 := by simp
  generalize (w.alloc (.cells #[.slice none 0 0, .slice none 0 0, .int .i64 0] 93)).alloc (.cells #[.slice (some ⟨g, 0, none⟩) n cap, .slice none 0 0, .int .i64 1] 93) = y0 at *
  have R0 : RBox w B g n cap (.slice none 0 0) 1 [] (w.heap.size + 1 + 1) y0 := ⟨oR, oT, World.ownsRow_nil _ _ _ _, ⟨rfl, by omega⟩, hBB⟩
  clear hM oR oT hB hBB
  go_wp2
  go_loopw [6] (fun i wr => ∃ c : Nat, c ≤ m ∧ i = .int .i64 c ∧ (∃ M L ub rest bb cp ex, Hid (BarI n m (red n A0 c) M L) ∧ MatO wr B w.heap.size g 157 2 rest bb cp ex n mw M ∧ RBox w B g n cap ub L (red n A0 c).bnd (w.heap.size + 1 + 1) wr)) (fun i _ => m + 1 - (intOf i).toNat)
  case atStart => exact ⟨0, Nat.zero_le _, rfl, M0, 1, _, rest, bb, cp, ex, B0, hM1, R0⟩
  case round =>
    clear hM1 R0 S0
    obtain ⟨c, hc, rfl, M, L, ub, rest, bb, cp, ex, HBar, hM, HR⟩ := hrel
    rename World => W
    have RI := Lib.hid (red_inv n A0 c)
    have kn := RI.out.le
    have kc := RI.out.lec
    have RE := Lib.hid (fun h => red_end (n := n) (A0 := A0) (c := c) (m := m) h hc)
    have RS := Lib.hid (fun h1 h2 => red_skip (n := n) (A0 := A0) (c := c) h1 h2)
    have RST : Hid (red n A0 (c + 1) = (red n A0 c).step n c) := rfl
    generalize hs : red n A0 c = s at *
    have HS := Lib.hid hs
    clear hs
    obtain ⟨adu, capu, eu⟩ := oslice HR.b
    subst eu
    have oT := HR.t
    by_cases hcm : c < m
    case neg =>
      obtain rfl : c = m := by omega
      have oR := HR.r
      have LB : (bints s.bnd).length = s.bnd.length := by simp [bints]
      have hM2 := ((hM.other (b := w.heap.size) (Nat.le_refl _) 0 (.slice (some ⟨g, 0, none⟩) n cap)).other (b := w.heap.size) (Nat.le_refl _) 1 (.slice adu s.bnd.length capu)).other (b := w.heap.size) (Nat.le_refl _) 2 (.int .i64 L)
      have oR2 := ((oR.set 0 (.slice (some ⟨g, 0, none⟩) n cap)).set 1 (.slice adu s.bnd.length capu)).set 2 (.int .i64 L)
      have ob2 := owns_set_low (p := ⟨w.heap.size, 2, none⟩) (owns_set_low (p := ⟨w.heap.size, 1, none⟩) (owns_set_low (p := ⟨w.heap.size, 0, none⟩) HR.b (by simp; omega) (.slice (some ⟨g, 0, none⟩) n cap)) (by simp; omega) (.slice adu s.bnd.length capu)) (by simp; omega) (.int .i64 L)
      have hB2 := ((HR.h.setCell (p := ⟨w.heap.size, 0, none⟩) (by simp; omega) (.slice (some ⟨g, 0, none⟩) n cap)).setCell (p := ⟨w.heap.size, 1, none⟩) (by simp; omega) (.slice adu s.bnd.length capu)).setCell (p := ⟨w.heap.size, 2, none⟩) (by simp; omega) (.int .i64 L)
      obtain ⟨rT, fT⟩ := oT.rules
      have zT := oT.lt
      obtain ⟨rR, fR⟩ := oR.rules
      have zR := oR.lt
      go_wp2
      refine bp_gen' (fun X => Own X w.heap.size 93 [.slice (some ⟨g, 0, none⟩) n cap, .slice adu s.bnd.length capu, .int .i64 L] ∧ MatO X B w.heap.size g 157 2 rest bb cp ex n mw M ∧ X.ownsRow (w.heap.size + 1 + 1) 3 1 (.slice adu s.bnd.length capu) s.bnd.length (ics (bints s.bnd)) ∧ Below B w X) ⟨oR2, hM2, ob2, hB2⟩ ?_
      rintro wz ⟨oz, mz, sz, bz⟩
      obtain ⟨rz, fz⟩ := oz.rules
      have SZ := owns_SI sz LB (by omega)
      refine bodyPost_ret (v := .agg #[.slice (some ⟨g, 0, none⟩) n cap, .slice adu s.bnd.length capu, .int .i64 L]) (by simp [results, Try.results61, go_sem, rz]) rfl ⟨_, L, M, bb, cp, ex, rest, rfl, mz, ?_, ?_, bz⟩
      · rw [HS.out]; exact SZ
      · rw [HS.out]; exact HBar.out
    by_cases hkn : s.bnd.length < n
    case neg =>
      have RE2 := Lib.hid (RE.out (by omega))
      have d0 : decide ((s.bnd.length : Int) < (n : Int)) = false := by simp; omega
      have oR := HR.r
      have LB : (bints s.bnd).length = s.bnd.length := by simp [bints]
      have hM2 := ((hM.other (b := w.heap.size) (Nat.le_refl _) 0 (.slice (some ⟨g, 0, none⟩) n cap)).other (b := w.heap.size) (Nat.le_refl _) 1 (.slice adu s.bnd.length capu)).other (b := w.heap.size) (Nat.le_refl _) 2 (.int .i64 L)
      have oR2 := ((oR.set 0 (.slice (some ⟨g, 0, none⟩) n cap)).set 1 (.slice adu s.bnd.length capu)).set 2 (.int .i64 L)
      have ob2 := owns_set_low (p := ⟨w.heap.size, 2, none⟩) (owns_set_low (p := ⟨w.heap.size, 1, none⟩) (owns_set_low (p := ⟨w.heap.size, 0, none⟩) HR.b (by simp; omega) (.slice (some ⟨g, 0, none⟩) n cap)) (by simp; omega) (.slice adu s.bnd.length capu)) (by simp; omega) (.int .i64 L)
      have hB2 := ((HR.h.setCell (p := ⟨w.heap.size, 0, none⟩) (by simp; omega) (.slice (some ⟨g, 0, none⟩) n cap)).setCell (p := ⟨w.heap.size, 1, none⟩) (by simp; omega) (.slice adu s.bnd.length capu)).setCell (p := ⟨w.heap.size, 2, none⟩) (by simp; omega) (.int .i64 L)
      obtain ⟨rT, fT⟩ := oT.rules
      have zT := oT.lt
      obtain ⟨rR, fR⟩ := oR.rules
      have zR := oR.lt
      go_wp2
      refine bp_gen' (fun X => Own X w.heap.size 93 [.slice (some ⟨g, 0, none⟩) n cap, .slice adu s.bnd.length capu, .int .i64 L] ∧ MatO X B w.heap.size g 157 2 rest bb cp ex n mw M ∧ X.ownsRow (w.heap.size + 1 + 1) 3 1 (.slice adu s.bnd.length capu) s.bnd.length (ics (bints s.bnd)) ∧ Below B w X) ⟨oR2, hM2, ob2, hB2⟩ ?_
      rintro wz ⟨oz, mz, sz, bz⟩
      obtain ⟨rz, fz⟩ := oz.rules
      have SZ := owns_SI sz LB (by omega)
      refine bodyPost_ret (v := .agg #[.slice (some ⟨g, 0, none⟩) n cap, .slice adu s.bnd.length capu, .int .i64 L]) (by simp [results, Try.results61, go_sem, rz]) rfl ⟨_, L, M, bb, cp, ex, rest, rfl, mz, ?_, ?_, bz⟩
      · rw [RE2.out]; exact SZ
      · rw [RE2.out]; exact HBar.out
    have d0 : decide ((s.bnd.length : Int) < (n : Int)) = true := by simp; omega
    clear RE
    obtain ⟨rT, fT⟩ := oT.rules
    have zT := oT.lt
    go_wp2
    go_loop [8] (fun i => ∃ f : Nat, s.bnd.length ≤ f ∧ f ≤ n ∧ i = .int .i64 f ∧ Hid (∀ r, s.bnd.length ≤ r → r < f → M r c = 0)) (fun i => n + 1 - (intOf i).toNat)
    case atStart => exact ⟨s.bnd.length, Nat.le_refl _, by omega, rfl, fun r h1 h2 => by omega⟩
    case round =>
      obtain ⟨f, hf1, hf2, rfl, hz⟩ := hrel
      have HZ0 : Hid (∀ r, s.bnd.length ≤ r → r < f → s.R r c = 0) := fun r h1 h2 => (HBar.out.zero RI.out (by omega) (by omega)).1 (hz.out r h1 h2)
      by_cases hfn : f < n
      case neg =>
        obtain rfl : f = n := by omega
        have FE : Hid (red f A0 (c + 1) = s) := RS.out (by omega) (fnd_eq (by omega) (by omega) HZ0.out (fun h => by omega))
        clear HZ0 hz
        go_wp2
        go_roundw
        case rel => exact ⟨c + 1, by omega, by go_num, M, L, _, rest, bb, cp, ex, by rw [FE.out]; exact HBar, hM, by rw [FE.out]; exact HR⟩
        case measure => simp [intOf]; try omega
      have cO := hM.cell_out hfn
      have cA := hM.cell_at hfn (show c < mw by omega)
      by_cases hv : M f c = 0
      · have e0 : (M f c == 0) = true := by simpa using hv
        have HZ : Hid (∀ r, s.bnd.length ≤ r → r < f + 1 → M r c = 0) := fun r h1 h2 => by
          rcases Nat.lt_or_ge r f with h3 | h3
          · exact hz.out r h1 h3
          · obtain rfl : r = f := by omega
            exact hv
        clear hv hz HZ0
        go_wp2
        go_round
        case rel => exact ⟨f + 1, by omega, by omega, by go_num, HZ⟩
        case measure => simp [intOf]; try omega
      have e0 : (M f c == 0) = false := by simpa using hv
      have FP : Hid (fnd s.R c (n - s.bnd.length) s.bnd.length = f) := fnd_eq hf1 (by omega) HZ0.out fun _ h => hv ((HBar.out.zero RI.out hfn (by omega)).2 h)
      have hkn' : s.bnd.length < n := hkn
      have cK := hM.cell_out hkn'
      have fG := hM.free_out
      have zG := World.block_lt_of_cell? _ _ cO
      simp only at zG
      obtain ⟨v1, cX⟩ : ∃ v, (W.setCell ⟨g, s.bnd.length, none⟩ (.slice (some ⟨bb f, 0, none⟩) mw (cp f))).cell? ⟨g, f, none⟩ = some v := ⟨_, (hM.out.set s.bnd.length (.slice (some ⟨bb f, 0, none⟩) mw (cp f))).cell f (by simp [mout]; omega)⟩
      clear hv hz HZ0 RS
      have gl := @grow_lt
      go_wp2_with fail
      refine wp_region_pstt [2, 3] [.t [0, 1, 4, 5, 6, 7, 8, 9, 10, 11]] [] [12, 13, 14, 15] (by kernel_rfl) (by kernel_rfl) (fun _ _ _ _ _ h => h) ?_
      try simp only [opsAt, List.getElem?_toArray, List.getElem?_cons_zero, List.getElem?_cons_succ, Option.getD_some]
      repeat (go_big_quiet_step (fail))
      refine wpQuiet_nil ?_
      refine wpX_t ?_
      try simp only [opsAt, List.getElem?_toArray, List.getElem?_cons_zero, List.getElem?_cons_succ, Option.getD_some]
      repeat (go_big_quiet_step (fail))
      refine wpQuiet_nil ?_
      clear gl
      refine wpX_nil ?_
      try simp only [opsAt, List.getElem?_toArray, List.getElem?_cons_zero, List.getElem?_cons_succ, Option.getD_some]
      repeat (go_big_quiet_step (fail))
      refine wpQuiet_nil ?_
      try simp only [opsAt, List.getElem?_toArray, List.getElem?_cons_zero, List.getElem?_cons_succ, Option.getD_some]
      have hM2 := (hM.swap hkn' hfn).below (Below.refl _ _).drew
      have HR2 := ((HR.put GB.1 GB.2 s.bnd.length (.slice (some ⟨bb f, 0, none⟩) mw (cp f))).put GB.1 GB.2 f (.slice (some ⟨bb s.bnd.length, 0, none⟩) mw (cp s.bnd.length))).drew
      go_upto_region 11 with fail
      clear hM HR cO cA cK fG zG cX rT fT zT oT
      generalize ((W.setCell ⟨g, s.bnd.length, none⟩ (.slice (some ⟨bb f, 0, none⟩) mw (cp f))).setCell ⟨g, f, none⟩ (.slice (some ⟨bb s.bnd.length, 0, none⟩) mw (cp s.bnd.length))).drew = Y1 at *
      have STEP := Lib.hid (HBar.out.step RI.out TM.out WH.out hcm (by omega) (by rw [FP.out]; omega) FP.out rfl)
      have NEXT := Lib.hid (fun (M' : Nat → Nat → Int) e1 e2 => HBar.out.next (M' := M') RI.out hcm (by omega) (by rw [FP.out]; omega) FP.out rfl e1 e2)
      have LNZ := (HBar.out.small RI.out TM.out hc).2.1
      have BND := Lib.hid (step_at (n := n) (s := s) (c := c) (by omega) (by rw [FP.out]; omega)).1
      obtain ⟨Ms, hMs⟩ : ∃ F : Nat → Nat → Int, F = fun i => M (swi s.bnd.length f i) := ⟨_, rfl⟩
      rw [← hMs] at hM2
      have PK : Hid (Ms s.bnd.length = M f) := by show _ = _; rw [hMs]; show M (swi _ _ _) = _; unfold swi; rw [if_pos rfl]
      have PI : Hid (∀ i, Ms i = M (swi s.bnd.length f i)) := fun i => by rw [hMs]
      clear hMs
      obtain ⟨bb2, cp2, ex2, hM3⟩ : ∃ b p e, MatO Y1 B w.heap.size g 157 2 rest b p e n mw Ms := ⟨_, _, _, hM2⟩
      clear hM2
      have KH : Hid (s.bnd.length = s.bnd.length) := rfl
      have K6 : s.bnd.length ≤ 6 := by omega
      generalize hkk : s.bnd.length = k at *
      have KL := Lib.hid hkk
      clear hkk KH kn kc
      have VAL : Hid (∀ i j, i < n → j ≤ m → i ≠ k → wrap64 ((wrap64 (wrap64 (Ms k c * Ms i j) - wrap64 (Ms i c * Ms k j))).tdiv L) = mnew Ms L k c i j ∧ L * mnew Ms L k c i j = Ms k c * Ms i j - Ms i c * Ms k j) := fun i j hi hj hik => by
        obtain ⟨z, e1, z1, z2, z3, z4⟩ := STEP.out.2.2 i j hi hj hik
        rw [← PK.out, ← PI.out i] at e1
        have e2 : mnew Ms L k c i j = z := by unfold mnew; rw [if_neg hik, e1, Int.mul_tdiv_cancel_left _ LNZ]
        rw [e2, wr_sub_l, wr_sub_r, e1]
        refine ⟨?_, rfl⟩
        have e3 : wrap64 (L * z) = L * z := Go.IntWalk.wrap64_in _ (by omega)
        rw [e3, Int.mul_tdiv_cancel_left _ LNZ]
        exact Go.IntWalk.wrap64_in _ (by omega)
      have N2 : Hid (BarI n m (s.step n c) (mnew Ms L k c) (Ms k c)) := by
        have := NEXT.out (mnew Ms L k c) (fun j hj => by unfold mnew; rw [if_pos rfl, PK.out]) (fun i j hi hj hik => by rw [(VAL.out i j hi hj hik).2, PK.out, PI.out i])
        show BarI _ _ _ _ _
        rw [PK.out]; exact this
      have cK2 := hM3.cell_out hkn'
      have cP2 := hM3.cell_at hkn' (show c < mw by omega)
      have Lb : (L == 0) = false := by simpa using LNZ
      clear STEP NEXT PK PI FP
      go_wp2
      clear cK2 cP2
      go_loopw [75] (fun i wr => ∃ r : Nat, r ≤ n ∧ i = .int .i64 r ∧ MatO wr B w.heap.size g 157 2 rest bb2 cp2 ex2 n mw (mpart Ms L k c r 0) ∧ RBox w B g n cap (.slice adu k capu) L s.bnd (w.heap.size + 1 + 1) wr) (fun i _ => n + 1 - (intOf i).toNat)
      case atStart => exact ⟨0, Nat.zero_le _, rfl, by rw [mpart_0]; exact hM3, HR2⟩
      case round =>
        clear hM3 HR2
        obtain ⟨r, hr, rfl, hM3, HR2⟩ := hrel
        rename World => Y2
        by_cases hrn : r < n
        · by_cases hrk : r = k
          · subst hrk
            have e2 : ((r : Int) == (r : Int)) = true := by simp
            go_wp2
            go_roundw
            case rel => exact ⟨r + 1, by omega, by go_num, by rw [← mpart_skip]; exact hM3, HR2⟩
            case measure => simp [intOf]; try omega
          have e2 : ((r : Int) == (k : Int)) = false := by simp; omega
          have cR := hM3.cell_out hrn
          have cC := hM3.cell_at hrn (show c < mw by omega)
          rw [mpart_at r 0 c (Nat.zero_le _)] at cC
          go_wp2
          clear cR cC
          go_loopw [93] (fun j wr => ∃ q : Nat, q ≤ mw ∧ j = .int .i64 q ∧ MatO wr B w.heap.size g 157 2 rest bb2 cp2 ex2 n mw (mpart Ms L k c r q) ∧ RBox w B g n cap (.slice adu k capu) L s.bnd (w.heap.size + 1 + 1) wr) (fun j _ => mw + 1 - (intOf j).toNat)
          case atStart => exact ⟨0, Nat.zero_le _, rfl, hM3, HR2⟩
          case round =>
            clear hM3 HR2
            obtain ⟨q, hq, rfl, hM3, HR2⟩ := hrel
            rename World => Y3
            by_cases hql : q < mw
            · have cR := hM3.cell_out hrn
              have cK := hM3.cell_out hkn'
              have cV := hM3.cell_at hrn hql
              have cU := hM3.cell_at hkn' hql
              rw [mpart_at r q q (Nat.le_refl _)] at cV
              rw [mpart_piv r q q] at cU
              have fR := hM3.free_at hrn
              have hV := (VAL.out r q hrn (by omega) hrk).1
              have hP := hM3.put hrn hql (mnew Ms L k c r q)
              rw [mpart_put] at hP
              have blk := hM3.blk r hrn
              have hR3 := (HR2.put blk.1 blk.2.2.2 q (.int .i64 (mnew Ms L k c r q))).drew
              have hP2 := hP.below (Below.refl _ _).drew
              have oT := HR2.t
              have zb1 := World.block_lt_of_cell? _ _ cR
              have zb2 := World.block_lt_of_cell? _ _ cV
              have zb3 := World.block_lt_of_cell? _ _ cU
              simp only at zb1 zb2 zb3
              generalize mnew Ms L k c r q = z at *
              generalize Ms r q = v1 at *
              generalize Ms k q = v2 at *
              generalize Ms r c = v3 at *
              generalize Ms k c = v4 at *
              obtain ⟨rT, fT⟩ := oT.rules
              have zT := oT.lt
              have gl := @grow_lt
              go_wp2_with fail
              refine wp_region_st [.t [0, 1, 2, 3, 4, 5, 6, 7, 8, 9, 10, 11, 12, 13, 14, 15, 16, 17, 18, 19, 20, 21, 22, 23, 24, 25, 26]] [27, 28] (by kernel_rfl) (by kernel_rfl) (fun _ _ _ _ _ h => h) ?_
              refine wpX_t ?_
              try simp only [opsAt, List.getElem?_toArray, List.getElem?_cons_zero, List.getElem?_cons_succ, Option.getD_some]
              repeat (go_big_quiet_step (fail))
              refine wpQuiet_nil ?_
              clear gl
              refine wpX_nil ?_
              try simp only [opsAt, List.getElem?_toArray, List.getElem?_cons_zero, List.getElem?_cons_succ, Option.getD_some]
              go_wp2
              go_roundw
              case rel => exact ⟨q + 1, by omega, by go_num, hP2, hR3⟩
              case measure => simp [intOf]; try omega
            · obtain rfl : q = mw := by omega
              go_wp2
              go_roundw
              case rel => exact ⟨r + 1, by omega, by go_num, hM3.congr fun i j _ hj => mpart_row r i j hj, HR2⟩
              case measure => simp [intOf]; try omega
        · obtain rfl : r = n := by omega
          have hM4 := hM3.congr (M' := mnew Ms L k c) fun i j hi _ => mpart_end i j hi
          have ob : Y2.ownsRow (w.heap.size + 1 + 1) 3 1 (.slice adu k capu) k (ics (bints s.bnd)) := by have := HR2.b; rw [KL.out] at this; exact this
          have oT := HR2.t
          have sz := HR2.s.2
          have zT0 : w.heap.size + 1 < w.heap.size + 1 + 1 := by omega
          generalize hpv : Ms k c = pv at *
          obtain ⟨rT, fT⟩ := oT.rules
          have zT := oT.lt
          go_wp2_with (at_builtin; refine wpList_app _ rfl _ _ _ rfl (w.heap.size + 1 + 1) 3 1 8 (.int .i64 0) Try.underlying23 oint_info rfl (by omega) (by omega) _ k _ rfl (ob.alloc _) (by omega) (by simp; omega) Y2.heap.size [.int .i64 c] (0, 0) rfl (heap_alloc_new Y2 _) rfl (by simp [Value.oneCell']) ?_; intro g2 cap2 w2 hown hg2 hbw; have oT2 := (oT.alloc (.cells #[.int .i64 c] 3)).at hbw zT0; obtain ⟨rT2, fT2⟩ := oT2.rules; have zT2 := oT2.lt)
          go_roundw
          case rel =>
            have eL : (s.bnd ++ [c]).length = k + 1 := by rw [List.length_append, KL.out]; rfl
            have hown2 : w2.ownsRow (w.heap.size + 1 + 1) 3 1 (.slice (some ⟨g2, 0, none⟩) (k + 1) cap2) (s.bnd ++ [c]).length (ics (bints (s.bnd ++ [c]))) := by rw [eL, bints_app]; exact hown
            have hM5 := (((hM4.below (ba1 Y2 (.cells #[.int .i64 c] 3))).at hbw (by omega)).other (b := w.heap.size + 1) (by omega) 1 (.slice (some ⟨g2, 0, none⟩) (k + 1) cap2)).other (b := w.heap.size + 1) (by omega) 2 (.int .i64 pv)
            have sz2 := hbw.size
            have sz3 : Y2.heap.size + 1 ≤ w2.heap.size := by simpa using sz2
            refine ⟨c + 1, by omega, by go_num, mnew Ms L k c, pv, .slice (some ⟨g2, 0, none⟩) (k + 1) cap2, rest, bb2, cp2, ex2, by rw [RST.out]; exact N2, hM5, ?_⟩
            rw [RST.out, BND.out]
            exact ⟨(((HR2.r.alloc (.cells #[.int .i64 c] 3)).at hbw (by omega)).other (g' := w.heap.size + 1) (by omega) 1 _).other (g' := w.heap.size + 1) (by omega) 2 _,
              (oT2.set 1 (.slice (some ⟨g2, 0, none⟩) (k + 1) cap2)).set 2 (.int .i64 pv),
              owns_set_low (p := ⟨w.heap.size + 1, 2, none⟩) (owns_set_low (p := ⟨w.heap.size + 1, 1, none⟩) hown2 (by simp) _) (by simp) _,
              ⟨rfl, by simp; omega⟩,
              (((HR2.h.alloc (by omega) (.cells #[.int .i64 c] 3)).trans (hbw.mono (by omega))).setCell (p := ⟨w.heap.size + 1, 1, none⟩) (by simp; omega) _).setCell (p := ⟨w.heap.size + 1, 2, none⟩) (by simp; omega) _⟩
          case measure => simp [intOf]; try omega
end Go.Proofs.Ythlcmlngmcoknaa
