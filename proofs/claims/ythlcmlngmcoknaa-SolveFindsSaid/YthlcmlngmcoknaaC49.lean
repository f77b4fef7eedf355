/- What is proved here: contracts of functions and plain facts, several texts in one; each one says ahead what it proves, and its conditions. -/
import Derived.Test.YthlcmlngmcoknaaC46
import Derived.Test.YthlcmlngmcoknaaC22
import Derived.Test.YthlcmlngmcoknaaC33
import Derived.Test.YthlcmlngmcoknaaC47
import Derived.Test.YthlcmlngmcoknaaC48
import Derived.Test.YthlcmlngmcoknaaC02
import Derived.Test.YthlcmlngmcoknaaC21
import Derived.Test.YthlcmlngmcoknaaC27
import Derived.Deep.DeepCutAuto
/- What is proved here: the contract of the reference's Reduce of layer 29. Condition: rows of small fractions, each in a block of its own. -/
namespace Go.Proofs.Ythlcmlngmcoknaa
open Go.RowKit

theorem up_zero {x : Rat} : (up x).1 = 0 ↔ x = 0 := by
  show x.num = 0 ↔ _
  constructor
  · intro h; exact Rat.num_eq_zero.1 h
  · rintro rfl; rfl
theorem inrq_i64 {x : Rat} (h : inr x) : i64 (up x).1 ∧ i64 (up x).2 := by
  obtain ⟨h1, h2⟩ := h
  have := x.den_pos
  exact ⟨⟨by show -9223372036854775808 ≤ x.num; omega, by show x.num ≤ 9223372036854775807; omega⟩, ⟨by show -9223372036854775808 ≤ (x.den : Int); omega, by show (x.den : Int) ≤ 9223372036854775807; omega⟩⟩
theorem fdiv_up {x y : Rat} (hx : inr x) (hy : inr y) (hy0 : y ≠ 0) (hz : inr (x / y)) : fdiv (up x).1 (up x).2 (up y).1 (up y).2 = uf (x / y) := by
  have h0 : ¬ (up y).1 = 0 := fun h => hy0 (up_zero.1 h)
  have e1 : Rat.divInt (up x).1 (up x).2 = x := qq_up x
  have e2 : Rat.divInt (up y).1 (up y).2 = y := qq_up y
  rw [fdiv_1 (fboth_of (up_chk hx) (up_chk hy)) h0, e1, e2, pack_ok hz]; rfl
theorem fmul_up {x y : Rat} (hx : inr x) (hy : inr y) (hz : inr (x * y)) : fmul (up x).1 (up x).2 (up y).1 (up y).2 = uf (x * y) := by
  rw [fmul_qq (up_chk hx) (up_chk hy), qq_up, qq_up, pack_ok hz]; rfl
theorem fsub_up {x y : Rat} (hx : inr x) (hy : inr y) (hz : inr (x - y)) : fsub (up x).1 (up x).2 (up y).1 (up y).2 = uf (x - y) := by
  rw [fsub_qq (up_chk hx) (up_chk hy), qq_up, qq_up, pack_ok hz]; rfl
/-- The rows while the pivot's row is divided. -/
def qdiv (Ms : Nat → Nat → Rat) (k : Nat) (pv : Rat) (q i j : Nat) : Rat := if i = k ∧ j < q then Ms k j / pv else Ms i j
/-- The rows after a step. -/
def qnew (Ms : Nat → Nat → Rat) (k c : Nat) (pv : Rat) (i j : Nat) : Rat := if i = k then Ms k j / pv else Ms i j - Ms i c * (Ms k j / pv)
def qpart (Ms : Nat → Nat → Rat) (k c W : Nat) (pv : Rat) (r0 c0 i j : Nat) : Rat := if i < r0 ∨ (i = r0 ∧ j < c0) then qnew Ms k c pv i j else qdiv Ms k pv W i j
section
variable {Ms : Nat → Nat → Rat} {k c W : Nat} {pv : Rat}
theorem qdiv_0 : qdiv Ms k pv 0 = Ms := by funext i j; unfold qdiv; rw [if_neg (by omega)]
theorem qdiv_put (q : Nat) : mputq (qdiv Ms k pv q) k q (Ms k q / pv) = qdiv Ms k pv (q + 1) := by
  funext i j
  unfold mputq qdiv
  by_cases h : i = k ∧ j = q
  · rw [if_pos h, if_pos (by omega), h.2]
  · rw [if_neg h]
    by_cases h2 : i = k ∧ j < q
    · rw [if_pos h2, if_pos (by omega)]
    · rw [if_neg h2, if_neg (by omega)]
theorem qdiv_at (q j : Nat) (h : q ≤ j) : qdiv Ms k pv q k j = Ms k j := by unfold qdiv; rw [if_neg (by omega)]
theorem qdiv_end {i j : Nat} (hj : j < W) : qdiv Ms k pv W i j = if i = k then Ms k j / pv else Ms i j := by
  unfold qdiv
  by_cases h : i = k
  · rw [if_pos ⟨h, hj⟩, if_pos h]
  · rw [if_neg (fun h' => h h'.1), if_neg h]
theorem qpart_0 : qpart Ms k c W pv 0 0 = qdiv Ms k pv W := by funext i j; unfold qpart; rw [if_neg (by omega)]
theorem qpart_put (r0 c0 : Nat) : mputq (qpart Ms k c W pv r0 c0) r0 c0 (qnew Ms k c pv r0 c0) = qpart Ms k c W pv r0 (c0 + 1) := by
  funext i j
  unfold mputq qpart
  by_cases h : i = r0 ∧ j = c0
  · obtain ⟨rfl, rfl⟩ := h
    rw [if_pos ⟨rfl, rfl⟩, if_pos (by omega)]
  · rw [if_neg h]
    by_cases h2 : i < r0 ∨ (i = r0 ∧ j < c0)
    · rw [if_pos h2, if_pos (by omega)]
    · rw [if_neg h2, if_neg (by omega)]
theorem qpart_row (r0 : Nat) : ∀ i j, j < W → qpart Ms k c W pv r0 W i j = qpart Ms k c W pv (r0 + 1) 0 i j := fun i j hj => by
  unfold qpart
  by_cases h2 : i < r0 ∨ (i = r0 ∧ j < W)
  · rw [if_pos h2, if_pos (by omega)]
  · rw [if_neg h2, if_neg (by omega)]
/-- A row that is left as it is. -/
theorem qpart_skip {r0 : Nat} (h : r0 = k ∨ Ms r0 c = 0) : ∀ i j, j < W → qpart Ms k c W pv r0 0 i j = qpart Ms k c W pv (r0 + 1) 0 i j := fun i j hj => by
  unfold qpart
  by_cases h2 : i < r0 ∨ (i = r0 ∧ j < 0)
  · rw [if_pos h2, if_pos (by omega)]
  · rw [if_neg h2]
    by_cases h3 : i = r0
    · subst h3
      rw [if_pos (by omega), qdiv_end hj]
      unfold qnew
      by_cases h4 : i = k
      · rw [if_pos h4, if_pos h4]
      · rw [if_neg h4, if_neg h4]
        rcases h with h | h
        · exact absurd h h4
        · rw [h]; grind
    · rw [if_neg (by omega)]
theorem qpart_end {n : Nat} : ∀ i j, i < n → qpart Ms k c W pv n 0 i j = qnew Ms k c pv i j := fun i j hi => by unfold qpart; rw [if_pos (by omega)]
theorem qpart_at (r0 c0 j : Nat) (hr : r0 ≠ k) (h : c0 ≤ j) : qpart Ms k c W pv r0 c0 r0 j = Ms r0 j := by
  unfold qpart qdiv; rw [if_neg (by omega), if_neg (fun h' => hr h'.1)]
theorem qpart_piv (r0 c0 j : Nat) (hj : j < W) : qpart Ms k c W pv r0 c0 k j = Ms k j / pv := by
  unfold qpart
  split
  · unfold qnew; rw [if_pos rfl]
  · rw [qdiv_end hj, if_pos rfl]
end
def rred_post (w : World) (B g n m mw cap : Nat) (A0 : Nat → Nat → Rat) (e : Ending) (w' : World) : Prop :=
  ∃ ub bb cp ex rest, e = .returned (.agg #[.slice (some ⟨g, 0, none⟩) n cap, ub]) ∧ MatQ w' B w.heap.size g 28 78 rest bb cp ex n mw (red n A0 m).R ∧ SI w' ub (bints (red n A0 m).bnd) ∧ Below B w w'
structure QBox (w : World) (B : Nat) (ub : Value) (l : List Nat) (S : Nat) (wr : World) : Prop where
  r : Own wr w.heap.size 100 [.slice none 0 0, .slice none 0 0]
  t : Own wr (w.heap.size + 1) 100 [.slice none 0 0, ub]
  b : wr.ownsRow S 3 1 ub l.length (ics (bints l))
  s : S = w.heap.size + 1 + 1 ∧ S ≤ wr.heap.size
  h : Below B w wr
  l : B ≤ w.heap.size
theorem QBox.put {w wr : World} {B S : Nat} {ub : Value} {l : List Nat} (h : QBox w B ub l S wr) {b : Nat} (hb : B ≤ b) (hl : b < w.heap.size) (k : Nat) (v : Value) : QBox w B ub l S (wr.setCell ⟨b, k, none⟩ v) :=
  ⟨h.r.other (by omega) k v, h.t.other (by omega) k v, owns_set_low h.b (by have := h.s; simp; omega) v, ⟨h.s.1, by simpa using h.s.2⟩, h.h.setCell (p := ⟨b, k, none⟩) hb v, h.l⟩
theorem QBox.below {w wr w2 : World} {B S : Nat} {ub : Value} {l : List Nat} (h : QBox w B ub l S wr) (hb : Below wr.heap.size wr w2) : QBox w B ub l S w2 :=
  ⟨h.r.below hb, h.t.below hb, owns_at h.b hb, ⟨h.s.1, by have := h.s.2; have := hb.size; omega⟩, h.h.trans (hb.mono (by have := h.s; have := h.l; omega)), h.l⟩
set_option maxRecDepth 100000 in
set_option maxHeartbeats 32000000 in
theorem rreduce_any (n m mw : Nat) (A0 : Nat → Nat → Rat) (ρ : Nat) (γ : Rat) (w : World) (B g cap : Nat) (rest : List Value) (bb cp : Nat → Nat) (ex : Nat → List Value)
    (t : Tame n m A0 ρ γ) (hwh : Whl n m A0) (hM : MatQ w B w.heap.size g 28 78 rest bb cp ex n mw A0) (hmw : mw = m + 1) (hcap : n ≤ cap) (h1 : 1 ≤ n) :
    Calls Try.prog 65 #[.slice (some ⟨g, 0, none⟩) n cap] w (rred_post w B g n m mw cap A0) := by
  have TM := Lib.hid t
  have WH := Lib.hid hwh
  have N7 := t.n7
  have M6 := t.w6
  have GB := hM.base
  have m1 : m < mw := by omega
  have m2 : mw ≤ m + 1 := by omega
  have mi : ((mw : Int) - 1) = (m : Int) := by omega
  clear hmw
  clear t hwh
  have oR := own_first w 100 [.slice none 0 0, .slice none 0 0] (.cells #[.slice none 0 0, .slice none 0 0] 100)
  have oT := own_second w 100 [.slice none 0 0, .slice none 0 0] (.cells #[.slice none 0 0, .slice none 0 0] 100)
  have hB := ba2 w (.cells #[.slice none 0 0, .slice none 0 0] 100) (.cells #[.slice none 0 0, .slice none 0 0] 100)
  have cZ := hM.cell_out (show 0 < n by omega)
  have zZ := World.block_lt_of_cell? _ _ cZ
  simp only at zZ
  go_enter Try.func65, Try.ntmps65
  go_upto_region 3 with fail
  have hM1 := hM.below hB
  have hBB : Below B w _ := hB.mono (by omega)
  have S0 : ((w.alloc (.cells #[.slice none 0 0, .slice none 0 0] 100)).alloc (.cells #[.slice none 0 0, .slice none 0 0] 100)).heap.size = w.heap.size + 1 + 1 := by simp
  generalize (w.alloc (.cells #[.slice none 0 0, .slice none 0 0] 100)).alloc (.cells #[.slice none 0 0, .slice none 0 0] 100) = y0 at *
  have R0 : QBox w B (.slice none 0 0) [] (w.heap.size + 1 + 1) y0 := ⟨oR, oT, World.ownsRow_nil _ _ _ _, ⟨rfl, by omega⟩, hBB, by omega⟩
  clear hM oR oT hB hBB cZ zZ
  go_wp2
  go_loopw [5, 6] (fun av kv wr => ∃ c : Nat, c ≤ m ∧ kv = .int .i64 c ∧ av = .int .i64 (red n A0 c).bnd.length ∧ ∃ ub rest bb cp ex, MatQ wr B w.heap.size g 28 78 rest bb cp ex n mw (red n A0 c).R ∧ QBox w B ub (red n A0 c).bnd (w.heap.size + 1 + 1) wr) (fun _ kv _ => m + 1 - (intOf kv).toNat)
  case atStart => exact ⟨0, Nat.zero_le _, rfl, rfl, _, rest, bb, cp, ex, hM1, R0⟩
  case round =>
    clear hM1 R0 S0
    obtain ⟨c, hc, rfl, rfl, ub, rest, bb, cp, ex, hM, HR⟩ := hrel
    rename World => W
    have RI := Lib.hid (red_inv n A0 c)
    have kn := RI.out.le
    have kc := RI.out.lec
    have RE := Lib.hid (fun h => red_end (n := n) (A0 := A0) (c := c) (m := m) h hc)
    have RS := Lib.hid (fun h1 h2 => red_skip (n := n) (A0 := A0) (c := c) h1 h2)
    have RST : Hid (red n A0 (c + 1) = (red n A0 c).step n c) := rfl
    generalize hs : red n A0 c = s at *
    have HS := Lib.hid hs
    clear hs
    obtain ⟨adu, capu, eu⟩ := oslice HR.b
    subst eu
    by_cases hcm : c < m
    case neg =>
      obtain rfl : c = m := by omega
      have oR := HR.r
      have oT := HR.t
      have LB : (bints s.bnd).length = s.bnd.length := by simp [bints]
      have hM2 := ((hM.other (b := w.heap.size + 1) (by omega) 0 (.slice (some ⟨g, 0, none⟩) n cap)).other (b := w.heap.size) (Nat.le_refl _) 0 (.slice (some ⟨g, 0, none⟩) n cap)).other (b := w.heap.size) (Nat.le_refl _) 1 (.slice adu s.bnd.length capu)
      have oR2 := ((oR.other (g' := w.heap.size + 1) (by omega) 0 (.slice (some ⟨g, 0, none⟩) n cap)).set 0 (.slice (some ⟨g, 0, none⟩) n cap)).set 1 (.slice adu s.bnd.length capu)
      have ob2 := owns_set_low (p := ⟨w.heap.size, 1, none⟩) (owns_set_low (p := ⟨w.heap.size, 0, none⟩) (owns_set_low (p := ⟨w.heap.size + 1, 0, none⟩) HR.b (by simp) (.slice (some ⟨g, 0, none⟩) n cap)) (by simp; omega) (.slice (some ⟨g, 0, none⟩) n cap)) (by simp; omega) (.slice adu s.bnd.length capu)
      have hB2 := ((HR.h.setCell (p := ⟨w.heap.size + 1, 0, none⟩) (by simp; omega) (.slice (some ⟨g, 0, none⟩) n cap)).setCell (p := ⟨w.heap.size, 0, none⟩) (by simp; omega) (.slice (some ⟨g, 0, none⟩) n cap)).setCell (p := ⟨w.heap.size, 1, none⟩) (by simp; omega) (.slice adu s.bnd.length capu)
      obtain ⟨rT, fT⟩ := oT.rules
      have zT := oT.lt
      obtain ⟨rR, fR⟩ := oR.rules
      have zR := oR.lt
      go_wp2
      refine bp_gen' (fun X => Own X w.heap.size 100 [.slice (some ⟨g, 0, none⟩) n cap, .slice adu s.bnd.length capu] ∧ MatQ X B w.heap.size g 28 78 rest bb cp ex n mw s.R ∧ X.ownsRow (w.heap.size + 1 + 1) 3 1 (.slice adu s.bnd.length capu) s.bnd.length (ics (bints s.bnd)) ∧ Below B w X) ⟨oR2, hM2, ob2, hB2⟩ ?_
      rintro wz ⟨oz, mz, sz, bz⟩
      obtain ⟨rz, fz⟩ := oz.rules
      have SZ := owns_SI sz LB (by omega)
      refine bodyPost_ret (v := .agg #[.slice (some ⟨g, 0, none⟩) n cap, .slice adu s.bnd.length capu]) (by simp [results, Try.results65, go_sem, rz]) rfl ⟨_, bb, cp, ex, rest, rfl, ?_, ?_, bz⟩
      · rw [HS.out]; exact mz
      · rw [HS.out]; exact SZ
    by_cases hkn : s.bnd.length < n
    case neg =>
      have RE2 := Lib.hid (RE.out (by omega))
      have d0 : decide ((s.bnd.length : Int) < (n : Int)) = false := decide_eq_false (by omega)
      have d1 : decide (s.bnd.length < n) = false := decide_eq_false (by omega)
      have oR := HR.r
      have oT := HR.t
      have LB : (bints s.bnd).length = s.bnd.length := by simp [bints]
      have hM2 := ((hM.other (b := w.heap.size + 1) (by omega) 0 (.slice (some ⟨g, 0, none⟩) n cap)).other (b := w.heap.size) (Nat.le_refl _) 0 (.slice (some ⟨g, 0, none⟩) n cap)).other (b := w.heap.size) (Nat.le_refl _) 1 (.slice adu s.bnd.length capu)
      have oR2 := ((oR.other (g' := w.heap.size + 1) (by omega) 0 (.slice (some ⟨g, 0, none⟩) n cap)).set 0 (.slice (some ⟨g, 0, none⟩) n cap)).set 1 (.slice adu s.bnd.length capu)
      have ob2 := owns_set_low (p := ⟨w.heap.size, 1, none⟩) (owns_set_low (p := ⟨w.heap.size, 0, none⟩) (owns_set_low (p := ⟨w.heap.size + 1, 0, none⟩) HR.b (by simp) (.slice (some ⟨g, 0, none⟩) n cap)) (by simp; omega) (.slice (some ⟨g, 0, none⟩) n cap)) (by simp; omega) (.slice adu s.bnd.length capu)
      have hB2 := ((HR.h.setCell (p := ⟨w.heap.size + 1, 0, none⟩) (by simp; omega) (.slice (some ⟨g, 0, none⟩) n cap)).setCell (p := ⟨w.heap.size, 0, none⟩) (by simp; omega) (.slice (some ⟨g, 0, none⟩) n cap)).setCell (p := ⟨w.heap.size, 1, none⟩) (by simp; omega) (.slice adu s.bnd.length capu)
      obtain ⟨rT, fT⟩ := oT.rules
      have zT := oT.lt
      obtain ⟨rR, fR⟩ := oR.rules
      have zR := oR.lt
      go_wp2
      refine bp_gen' (fun X => Own X w.heap.size 100 [.slice (some ⟨g, 0, none⟩) n cap, .slice adu s.bnd.length capu] ∧ MatQ X B w.heap.size g 28 78 rest bb cp ex n mw s.R ∧ X.ownsRow (w.heap.size + 1 + 1) 3 1 (.slice adu s.bnd.length capu) s.bnd.length (ics (bints s.bnd)) ∧ Below B w X) ⟨oR2, hM2, ob2, hB2⟩ ?_
      rintro wz ⟨oz, mz, sz, bz⟩
      obtain ⟨rz, fz⟩ := oz.rules
      have SZ := owns_SI sz LB (by omega)
      refine bodyPost_ret (v := .agg #[.slice (some ⟨g, 0, none⟩) n cap, .slice adu s.bnd.length capu]) (by simp [results, Try.results65, go_sem, rz]) rfl ⟨_, bb, cp, ex, rest, rfl, ?_, ?_, bz⟩
      · rw [RE2.out]; exact mz
      · rw [RE2.out]; exact SZ
    have d0 : decide ((s.bnd.length : Int) < (n : Int)) = true := decide_eq_true (by omega)
    have d1 : decide (s.bnd.length < n) = true := decide_eq_true (by omega)
    clear RE
    go_wp2
    go_loopw [7] (fun i wr => ∃ f : Nat, s.bnd.length ≤ f ∧ f ≤ n ∧ i = .int .i64 f ∧ wr = W ∧ Hid (∀ r, s.bnd.length ≤ r → r < f → s.R r c = 0)) (fun i _ => n + 1 - (intOf i).toNat)
    case atStart => exact ⟨s.bnd.length, Nat.le_refl _, by omega, rfl, rfl, fun r h1 h2 => by omega⟩
    case round =>
      obtain ⟨f, hf1, hf2, rfl, rfl, hz⟩ := hrel
      by_cases hfn : f < n
      case neg =>
        obtain rfl : f = n := by omega
        have FE : Hid (red f A0 (c + 1) = s) := RS.out (by omega) (fnd_eq (by omega) (by omega) hz.out (fun h => by omega))
        clear hz
        go_wp2
        go_roundw
        case rel => exact ⟨c + 1, by omega, by go_num, by rw [FE.out], _, rest, bb, cp, ex, by rw [FE.out]; exact hM, by rw [FE.out]; exact HR⟩
        case measure => simp [intOf]; try omega
      have cO := hM.cell_out hfn
      obtain ⟨cA, cA2⟩ := hM.cell_at hfn (show c < mw by omega)
      have dfn : decide (f < n) = true := decide_eq_true hfn
      by_cases hv : s.R f c = 0
      · have HZ : Hid (∀ r, s.bnd.length ≤ r → r < f + 1 → s.R r c = 0) := fun r h1 h2 => by
          rcases Nat.lt_or_ge r f with h3 | h3
          · exact hz.out r h1 h3
          · obtain rfl : r = f := by omega
            exact hv
        have e0 : (up (s.R f c)).1 = 0 := up_zero.2 hv
        rw [e0] at cA
        clear hv hz e0
        go_wp2
        go_roundw
        case rel => exact ⟨f + 1, by omega, by omega, by go_num, by first | rfl | trivial, HZ⟩
        case measure => simp [intOf]; try omega
      have e0 : ((up (s.R f c)).1 == 0) = false := by simp only [beq_eq_false_iff_ne]; exact fun h => hv (up_zero.1 h)
      have FP : Hid (fnd s.R c (n - s.bnd.length) s.bnd.length = f) := fnd_eq hf1 (by omega) hz.out fun _ h => hv h
      have hkn' : s.bnd.length < n := hkn
      have NXT := Lib.hid (RI.out.nextR (by omega) FP.out (by omega) rfl)
      have INR := Lib.hid (fun i j (hi : i < n) (hj : j ≤ m) => RI.out.inrR TM.out WH.out hc hi hj)
      have INN := Lib.hid (fun i j (hi : i < n) (hj : j ≤ m) => (step_inv RI.out (c := c)).inrR TM.out WH.out (by omega) hi hj)
      have PRD := Lib.hid (fun i j (hi : i < n) (hif : i ≠ f) (hj : j ≤ m) => RI.out.prod_inr TM.out WH.out hcm (by omega) rfl hf1 hfn hv hi hif hj)
      have cK := hM.cell_out hkn'
      have fG := hM.free_out
      have zG := World.block_lt_of_cell? _ _ cO
      simp only at zG
      obtain ⟨v1, cX⟩ : ∃ v, (wr.setCell ⟨g, s.bnd.length, none⟩ (.slice (some ⟨bb f, 0, none⟩) mw (cp f))).cell? ⟨g, f, none⟩ = some v := ⟨_, (hM.out.set s.bnd.length (.slice (some ⟨bb f, 0, none⟩) mw (cp f))).cell f (by simp [mout]; omega)⟩
      have HV := Lib.hid hv
      clear hz RS hv
      have eqf : ((f : Int) == (n : Int)) = false := by simp; omega
      go_upto_region 11 with fail
      clear cA cA2 e0
      have gl := @grow_lt
      go_wp2_with fail
      refine wp_region_pstt [2, 3] [.t [0, 1, 4, 5, 6, 7, 8, 9, 10, 11]] [] [12, 13, 14, 15] (by kernel_rfl) (by kernel_rfl) (fun _ _ _ _ _ h => h) ?_
      try simp only [opsAt, List.getElem?_toArray, List.getElem?_cons_zero, List.getElem?_cons_succ, Option.getD_some]
      repeat (go_big_quiet_step (fail))
      refine wpQuiet_nil ?_
      refine wpX_t ?_
      try simp only [opsAt, List.getElem?_toArray, List.getElem?_cons_zero, List.getElem?_cons_succ, Option.getD_some]
      repeat (go_big_quiet_step (fail))
      refine wpQuiet_nil ?_
      clear gl
      refine wpX_nil ?_
      try simp only [opsAt, List.getElem?_toArray, List.getElem?_cons_zero, List.getElem?_cons_succ, Option.getD_some]
      repeat (go_big_quiet_step (fail))
      refine wpQuiet_nil ?_
      try simp only [opsAt, List.getElem?_toArray, List.getElem?_cons_zero, List.getElem?_cons_succ, Option.getD_some]
      have hM2 := (hM.swap hkn' hfn).below (Below.refl _ _).drew
      have HR2 := ((HR.put GB.1 GB.2 s.bnd.length (.slice (some ⟨bb f, 0, none⟩) mw (cp f))).put GB.1 GB.2 f (.slice (some ⟨bb s.bnd.length, 0, none⟩) mw (cp s.bnd.length))).below (Below.refl _ _).drew
      go_upto_region 12 with fail
      clear hM HR cO cK fG zG cX
      generalize ((wr.setCell ⟨g, s.bnd.length, none⟩ (.slice (some ⟨bb f, 0, none⟩) mw (cp f))).setCell ⟨g, f, none⟩ (.slice (some ⟨bb s.bnd.length, 0, none⟩) mw (cp s.bnd.length))).drew = Y1 at *
      obtain ⟨Ms, hMs⟩ : ∃ F : Nat → Nat → Rat, F = fun i => s.R (swi s.bnd.length f i) := ⟨_, rfl⟩
      rw [← hMs] at hM2
      generalize hkk : s.bnd.length = k at *
      have KL := Lib.hid hkk
      clear hkk
      have sk : swi k f k = f := by unfold swi; rw [if_pos rfl]
      have MK : Hid (∀ j, Ms k j = s.R f j) := fun j => by rw [hMs]; show s.R (swi k f k) j = _; rw [sk]
      have MI : Hid (∀ i j, i < n → j ≤ m → inr (Ms i j)) := fun i j hi hj => by rw [hMs]; exact INR.out _ j (swi_lt hkn' hfn hi) hj
      have PV0 : Hid (Ms k c ≠ 0) := by show _ ≠ _; rw [MK.out]; exact HV.out
      have MD : Hid (∀ j, j ≤ m → inr (Ms k j / Ms k c)) := fun j hj => by
        rw [MK.out, MK.out]
        have := INN.out k j hkn' hj
        rw [NXT.out.2.2.2.2 k j, if_pos rfl] at this
        exact this
      have MP : Hid (∀ i j, i < n → i ≠ k → j ≤ m → inr (Ms i c * (Ms k j / Ms k c))) := fun i j hi hik hj => by
        rw [MK.out, MK.out, hMs]
        refine PRD.out _ j (swi_lt hkn' hfn hi) (fun e => hik ?_) hj
        have := congrArg (swi k f) e
        rw [swi_swi] at this
        rw [this]; unfold swi
        by_cases hfk : f = k
        · rw [if_pos hfk]; exact hfk
        · rw [if_neg hfk, if_pos rfl]
      have MN : Hid (∀ i j, i < n → i ≠ k → j ≤ m → inr (Ms i j - Ms i c * (Ms k j / Ms k c))) := fun i j hi hik hj => by
        rw [MK.out, MK.out, hMs]
        have := INN.out i j hi hj
        rw [NXT.out.2.2.2.2 i j, if_neg hik] at this
        exact this
      have NEW : Hid (∀ i j, (s.step n c).R i j = qnew Ms k c (Ms k c) i j) := fun i j => by
        rw [NXT.out.2.2.2.2 i j]
        unfold qnew
        rw [MK.out, MK.out, hMs]
      have BND : Hid ((s.step n c).bnd = s.bnd ++ [c]) := NXT.out.2.2.2.1
      clear hMs NXT INR INN PRD
      obtain ⟨bb2, cp2, ex2, hM3⟩ : ∃ b p e, MatQ Y1 B w.heap.size g 28 78 rest b p e n mw Ms := ⟨_, _, _, hM2⟩
      clear hM2 FP HV
      have cK2 := hM3.cell_out hkn'
      obtain ⟨cP, cP2⟩ := hM3.cell_at hkn' (show c < mw by omega)
      go_upto_region 13 with fail
      have oY := Own.new Y1 78 [.int .i64 (up (Ms k c)).1, .int .i64 (up (Ms k c)).2]
      have hq := ba1 Y1 (.cells #[.int .i64 (up (Ms k c)).1, .int .i64 (up (Ms k c)).2] 78)
      have szY := HR2.s
      obtain ⟨bY, hbY⟩ : ∃ b, b = Y1.heap.size := ⟨_, rfl⟩
      rw [← hbY] at oY ⊢
      have bY2 : w.heap.size + 1 + 1 ≤ bY := by rw [hbY]; omega
      clear hbY szY
      replace hM3 := hM3.below hq
      replace HR2 := HR2.below hq
      clear hq cK2 cP cP2 eqf dfn
      generalize Y1.alloc (.cells #[.int .i64 (up (Ms k c)).1, .int .i64 (up (Ms k c)).2] 78) = Y2 at *
      have IPV := Lib.hid (MI.out k c hkn' (by omega))
      obtain ⟨pv, hpv⟩ : ∃ p, p = Ms k c := ⟨_, rfl⟩
      have HPV := Lib.hid hpv
      rw [← hpv] at oY PV0 MD MP MN NEW IPV
      clear hpv
      go_wp2
      go_loopw [9] (fun v wr => ∃ q : Nat, q ≤ mw ∧ v = .int .i64 q ∧ MatQ wr B w.heap.size g 28 78 rest bb2 cp2 ex2 n mw (qdiv Ms k pv q) ∧ QBox w B (.slice adu k capu) s.bnd (w.heap.size + 1 + 1) wr ∧ Own wr bY 78 [.int .i64 (up pv).1, .int .i64 (up pv).2]) (fun v _ => mw + 1 - (intOf v).toNat)
      case atStart => exact ⟨0, Nat.zero_le _, rfl, by rw [qdiv_0]; exact hM3, HR2, oY⟩
      case round =>
        clear hM3 HR2 oY
        obtain ⟨q, hq, rfl, hM3, HR2, oY⟩ := hrel
        rename World => Y3
        by_cases hqm : q < mw
        case pos =>
          have dq : decide ((q : Int) ≤ (m : Int)) = true := decide_eq_true (by omega)
          have dq2 : decide (q ≤ m) = true := decide_eq_true (by omega)
          have cR := hM3.cell_out hkn'
          obtain ⟨cV, cV2⟩ := hM3.cell_at hkn' hqm
          have EQV : qdiv Ms k pv q k q = Ms k q := qdiv_at q q (Nat.le_refl _)
          rw [EQV] at cV cV2
          have IV := MI.out k q hkn' (by omega)
          have ID := MD.out q (by omega)
          have I1 := inrq_i64 IV
          have I2 := inrq_i64 IPV.out
          have FD := fdiv_up IV IPV.out PV0.out ID
          have UZ : Hid (up (Ms k q / pv) = ((uf (Ms k q / pv)).n, (uf (Ms k q / pv)).d)) := rfl
          rw [← FD] at UZ
          generalize hX : fdiv (up (Ms k q)).1 (up (Ms k q)).2 (up pv).1 (up pv).2 = X at *
          have HX := Lib.hid hX
          clear hX FD IV ID
          have PUT := Lib.hid (fun (z : World) (h : MatQ z B w.heap.size g 28 78 rest bb2 cp2 ex2 n mw (qdiv Ms k pv q)) => (show MatQ ((z.setCell ⟨bb2 k, q * 2, none⟩ (.int .i64 X.n)).setCell ⟨bb2 k, q * 2 + 1, none⟩ (.int .i64 X.d)) B w.heap.size g 28 78 rest bb2 cp2 ex2 n mw (qdiv Ms k pv (q + 1)) from (by
            have := h.put hkn' hqm (Ms k q / pv)
            rw [qdiv_put, UZ.out] at this
            exact this)))
          obtain ⟨an, han⟩ : ∃ z, z = (up (Ms k q)).1 := ⟨_, rfl⟩
          obtain ⟨ad, had⟩ : ∃ z, z = (up (Ms k q)).2 := ⟨_, rfl⟩
          rw [← han] at cV I1 HX
          rw [← had] at cV2 I1 HX
          have EQV2 : (up (qdiv Ms k pv q k q)).1 = an ∧ (up (qdiv Ms k pv q k q)).2 = ad := by rw [EQV]; exact ⟨han.symm, had.symm⟩
          clear EQV han had
          obtain ⟨pn, hpn⟩ : ∃ z, z = (up pv).1 := ⟨_, rfl⟩
          obtain ⟨pd, hpd⟩ : ∃ z, z = (up pv).2 := ⟨_, rfl⟩
          have oYH := oY
          rw [← hpn] at HX I2 oY
          rw [← hpd] at HX I2 oY
          clear hpn hpd
          have blk := hM3.blk k hkn'
          have zb1 := World.block_lt_of_cell? _ _ cR
          have zb2 := World.block_lt_of_cell? _ _ cV
          simp only at zb1 zb2
          go_upto_region 16 with fail
          have hD : Below Y3.heap.size Y3 Y3.drew := (Below.refl _ _).drew
          have hMU := hM3.below hD
          have HRU := HR2.below hD
          have oBU := oY.below hD
          replace oYH := oYH.below hD
          have kS : (fun W' : World => W'.cell? ⟨g, k, none⟩ = some (.slice (some ⟨bb2 k, 0, none⟩) mw (cp2 k)) ∧ W'.cell? ⟨bY, 0, none⟩ = some (.int .i64 pn) ∧ W'.cell? ⟨bY, 1, none⟩ = some (.int .i64 pd)) Y3.drew := ⟨hMU.cell_out hkn', oBU.rules.1 0, oBU.rules.1 1⟩
          have mS0 := fun e => (keepW_is (S := (fun W' : World => W'.cell? ⟨g, k, none⟩ = some (.slice (some ⟨bb2 k, 0, none⟩) mw (cp2 k)) ∧ W'.cell? ⟨bY, 0, none⟩ = some (.int .i64 pn) ∧ W'.cell? ⟨bY, 1, none⟩ = some (.int .i64 pd))) kS e).1
          have mS1 := fun e => (keepW_is (S := (fun W' : World => W'.cell? ⟨g, k, none⟩ = some (.slice (some ⟨bb2 k, 0, none⟩) mw (cp2 k)) ∧ W'.cell? ⟨bY, 0, none⟩ = some (.int .i64 pn) ∧ W'.cell? ⟨bY, 1, none⟩ = some (.int .i64 pd))) kS e).2.1
          have mS2 := fun e => (keepW_is (S := (fun W' : World => W'.cell? ⟨g, k, none⟩ = some (.slice (some ⟨bb2 k, 0, none⟩) mw (cp2 k)) ∧ W'.cell? ⟨bY, 0, none⟩ = some (.int .i64 pn) ∧ W'.cell? ⟨bY, 1, none⟩ = some (.int .i64 pd))) kS e).2.2
          refine wp_region_tree (fun W' => ∃ e, W' = keepW (fun W' : World => W'.cell? ⟨g, k, none⟩ = some (.slice (some ⟨bb2 k, 0, none⟩) mw (cp2 k)) ∧ W'.cell? ⟨bY, 0, none⟩ = some (.int .i64 pn) ∧ W'.cell? ⟨bY, 1, none⟩ = some (.int .i64 pd)) Y3.drew e) (.t [0, 1, 2, 3, 4, 5, 6, 7, 8, 9, 10, 12] (.f 11 (.f 13 (.t [14, 15] (.two 16 (.nil [17, 18]) 17 (.two 16 (.nil [18]) 18 (.f 16 (.nil [])))))))) (by kernel_rfl) (by kernel_rfl) (fun _ _ _ _ _ h => h) (keepW_of kS) ?_
          refine wpT_t ?_
          try simp only [opsAt, List.getElem?_toArray, List.getElem?_cons_zero, List.getElem?_cons_succ, Option.getD_some]
          repeat (go_big_quiet_step (fail))
          refine wpQuiet_nil ?_
          clear mS0 mS1 mS2 cR cV cV2 zb1 zb2
          obtain ⟨dV, dV2⟩ := hMU.cell_at hkn' hqm
          rw [EQV2.1] at dV
          rw [EQV2.2] at dV2
          generalize Y3.drew = U at *
          refine wpT_f rfl rfl (fun K' hK' => ?_)
          go_wp2_with fail
          refine hK' _ _ (keepW_of kS) ?_
          clear hK' K' dV dV2
          refine wpT_f rfl rfl (fun K' hK' => ?_)
          go_simp
          refine (rdiv_any an ad pn pd _ I1.1 I1.2 I2.1 I2.2).mono ?_
          rintro e z1 ⟨rfl, hq1⟩
          rw [HX.out]
          have hMz := hMU.below hq1
          have HRz := HRU.below hq1
          have oBz := oBU.below hq1
          replace oYH := oYH.below hq1
          have kSz : (fun W' : World => W'.cell? ⟨g, k, none⟩ = some (.slice (some ⟨bb2 k, 0, none⟩) mw (cp2 k)) ∧ W'.cell? ⟨bY, 0, none⟩ = some (.int .i64 pn) ∧ W'.cell? ⟨bY, 1, none⟩ = some (.int .i64 pd)) z1 := ⟨hMz.cell_out hkn', oBz.rules.1 0, oBz.rules.1 1⟩
          refine hK' _ _ (keepW_of kSz) ?_
          clear hK' K' hq1 hMU HRU oBU kS
          refine wpT_t ?_
          try simp only [opsAt, List.getElem?_toArray, List.getElem?_cons_zero, List.getElem?_cons_succ, Option.getD_some]
          repeat (go_big_quiet_step (fail))
          refine wpQuiet_nil ?_
          have fGz := hMz.free_at hkn'
          obtain ⟨dV, dV2⟩ := hMz.cell_at hkn' hqm
          have zb3 := World.block_lt_of_cell? _ _ dV
          simp only at zb3
          have hMp := PUT.out _ hMz
          have kSp : (fun W' : World => W'.cell? ⟨g, k, none⟩ = some (.slice (some ⟨bb2 k, 0, none⟩) mw (cp2 k)) ∧ W'.cell? ⟨bY, 0, none⟩ = some (.int .i64 pn) ∧ W'.cell? ⟨bY, 1, none⟩ = some (.int .i64 pd)) _ := ⟨hMp.cell_out hkn', ((oBz.other (by omega) _ _).other (by omega) _ _ : Own ((z1.setCell ⟨bb2 k, q * 2, none⟩ (.int .i64 X.n)).setCell ⟨bb2 k, q * 2 + 1, none⟩ (.int .i64 X.d)) bY _ _).rules.1 0, ((oBz.other (by omega) _ _).other (by omega) _ _ : Own ((z1.setCell ⟨bb2 k, q * 2, none⟩ (.int .i64 X.n)).setCell ⟨bb2 k, q * 2 + 1, none⟩ (.int .i64 X.d)) bY _ _).rules.1 1⟩
          refine wpT_two ?_ ?_
          · skip
            refine wpT_f rfl rfl (fun K' hK' => ?_)
            go_wp2_with fail
            refine hK' _ _ (keepW_of kSz) ?_
            clear hK' K'
            try go_simp
            refine wpT_nil ?_
            try simp only [opsAt, List.getElem?_toArray, List.getElem?_cons_zero, List.getElem?_cons_succ, Option.getD_some]
            go_wp2
            go_roundw
            case rel => exact ⟨q + 1, hqm, by go_num, hMp, (HRz.put blk.1 blk.2.2.2 _ _).put blk.1 blk.2.2.2 _ _, (oYH.other (by omega) _ _).other (by omega) _ _⟩
            case measure => simp [intOf]; try omega
          · skip
            refine wpT_f rfl rfl (fun K' hK' => ?_)
            go_wp2_with fail
            refine hK' _ _ (keepW_of kSz) ?_
            clear hK' K'
            try go_simp
            refine wpT_two ?_ ?_
            · skip
              refine wpT_f rfl rfl (fun K' hK' => ?_)
              go_wp2_with fail
              refine hK' _ _ (keepW_of kSz) ?_
              clear hK' K'
              try go_simp
              refine wpT_nil ?_
              try simp only [opsAt, List.getElem?_toArray, List.getElem?_cons_zero, List.getElem?_cons_succ, Option.getD_some]
              go_wp2
              go_roundw
              case rel => exact ⟨q + 1, hqm, by go_num, hMp, (HRz.put blk.1 blk.2.2.2 _ _).put blk.1 blk.2.2.2 _ _, (oYH.other (by omega) _ _).other (by omega) _ _⟩
              case measure => simp [intOf]; try omega
            · skip
              refine wpT_f rfl rfl (fun K' hK' => ?_)
              go_wp2_with fail
              refine hK' _ _ (keepW_of kSp) ?_
              clear hK' K'
              try go_simp
              refine wpT_f rfl rfl (fun K' hK' => ?_)
              go_wp2_with fail
              refine hK' _ _ (keepW_of kSp) ?_
              clear hK' K'
              try go_simp
              refine wpT_nil ?_
              try simp only [opsAt, List.getElem?_toArray, List.getElem?_cons_zero, List.getElem?_cons_succ, Option.getD_some]
              go_wp2
              go_roundw
              case rel => exact ⟨q + 1, hqm, by go_num, hMp, (HRz.put blk.1 blk.2.2.2 _ _).put blk.1 blk.2.2.2 _ _, (oYH.other (by omega) _ _).other (by omega) _ _⟩
              case measure => simp [intOf]; try omega
        case neg =>
          obtain rfl : mw = q := by omega
          have dq : decide ((mw : Int) ≤ (m : Int)) = false := decide_eq_false (by omega)
          have dq2 : decide (mw ≤ m) = false := decide_eq_false (by omega)
          have MD0 := MD
          clear oY MD
          go_wp2
          clear dq dq2
          go_loopw [10] (fun v wr => ∃ i : Nat, i ≤ n ∧ v = .int .i64 i ∧ MatQ wr B w.heap.size g 28 78 rest bb2 cp2 ex2 n mw (qpart Ms k c mw pv i 0) ∧ QBox w B (.slice adu k capu) s.bnd (w.heap.size + 1 + 1) wr) (fun v _ => n + 1 - (intOf v).toNat)
          case atStart => exact ⟨0, Nat.zero_le _, rfl, by rw [qpart_0]; exact hM3, HR2⟩
          case round =>
            clear hM3 HR2
            obtain ⟨i, hi, rfl, hM3, HR2⟩ := hrel
            rename World => Y4
            by_cases hin : i < n
            case pos =>
              have cR := hM3.cell_out hin
              obtain ⟨cV, cV2⟩ := hM3.cell_at hin (show c < mw by omega)
              obtain ⟨bv, hbv⟩ : ∃ z, z = qpart Ms k c mw pv i 0 i c := ⟨_, rfl⟩
              rw [← hbv] at cV cV2
              have HBV0 := Lib.hid hbv
              clear hbv
              have oI := Own.new Y4 78 [.int .i64 (up bv).1, .int .i64 (up bv).2]
              have hq := ba1 Y4 (.cells #[.int .i64 (up bv).1, .int .i64 (up bv).2] 78)
              have szY := HR2.s
              go_upto_region 21 with fail
              obtain ⟨bI, hbI⟩ : ∃ b, b = Y4.heap.size := ⟨_, rfl⟩
              rw [← hbI] at oI ⊢
              have bI2 : w.heap.size + 1 + 1 ≤ bI := by rw [hbI]; omega
              clear hbI szY cR cV cV2
              replace hM3 := hM3.below hq
              replace HR2 := HR2.below hq
              clear hq
              generalize Y4.alloc (.cells #[.int .i64 (up bv).1, .int .i64 (up bv).2] 78) = Z4 at *
              by_cases hik : i = k
              case pos =>
                have eik : ((i : Int) != (k : Int)) = false := by simp [hik]
                have SKP := Lib.hid (fun a j (hj : j < mw) => qpart_skip (Ms := Ms) (k := k) (c := c) (W := mw) (pv := pv) (r0 := i) (.inl hik) a j hj)
                clear hik HBV0 oI
                go_wp2
                go_loopw [12] (fun v wr => v = .int .i64 (0 : Nat) ∧ wr = Z4) (fun v _ => 0)
                case atStart => exact ⟨rfl, rfl⟩
                case round =>
                  obtain ⟨rfl, rfl⟩ := hrel
                  go_wp2
                  go_roundw
                  case rel => exact ⟨i + 1, hin, by go_num, hM3.congr fun a j _ hj => SKP.out a j hj, HR2⟩
                  case measure => simp [intOf]; try omega
              case neg =>
                have eik : ((i : Int) != (k : Int)) = true := by simp; omega
                have hbv2 : bv = Ms i c := by rw [HBV0.out]; exact qpart_at i 0 c hik (Nat.zero_le _)
                clear HBV0
                by_cases hz0 : Ms i c = 0
                case pos =>
                  have e0 : ((up bv).1 != 0) = false := by rw [hbv2, hz0]; rfl
                  have SKP := Lib.hid (fun a j (hj : j < mw) => qpart_skip (Ms := Ms) (k := k) (c := c) (W := mw) (pv := pv) (r0 := i) (.inr hz0) a j hj)
                  clear hz0 hbv2
                  obtain ⟨rI, fI⟩ := oI.rules
                  have zI := oI.lt
                  go_wp2
                  go_loopw [12] (fun v wr => v = .int .i64 (0 : Nat) ∧ wr = Z4) (fun v _ => 0)
                  case atStart => exact ⟨rfl, rfl⟩
                  case round =>
                    obtain ⟨rfl, rfl⟩ := hrel
                    go_wp2
                    go_roundw
                    case rel => exact ⟨i + 1, hin, by go_num, hM3.congr fun a j _ hj => SKP.out a j hj, HR2⟩
                    case measure => simp [intOf]; try omega
                case neg =>
                  have e0 : ((up bv).1 != 0) = true := by
                    rw [hbv2]; simp only [bne_iff_ne]; exact fun h => hz0 (up_zero.1 h)
                  have HBV := Lib.hid hbv2
                  have IBV : inr bv := by rw [hbv2]; exact MI.out i c hin (by omega)
                  have IB2 := Lib.hid (inrq_i64 IBV)
                  have IBH := Lib.hid IBV
                  clear hz0 hbv2 IBV
                  obtain ⟨bn, hbn⟩ : ∃ z, z = (up bv).1 := ⟨_, rfl⟩
                  obtain ⟨bd, hbd⟩ : ∃ z, z = (up bv).2 := ⟨_, rfl⟩
                  have HBN := Lib.hid hbn
                  have HBD := Lib.hid hbd
                  rw [← hbn] at oI e0 IB2
                  rw [← hbd] at oI IB2
                  clear hbn hbd
                  go_wp2
                  go_loopw [12] (fun v wr => ∃ q : Nat, q ≤ mw ∧ v = .int .i64 q ∧ MatQ wr B w.heap.size g 28 78 rest bb2 cp2 ex2 n mw (qpart Ms k c mw pv i q) ∧ QBox w B (.slice adu k capu) s.bnd (w.heap.size + 1 + 1) wr ∧ Own wr bI 78 [.int .i64 bn, .int .i64 bd]) (fun v _ => mw + 1 - (intOf v).toNat)
                  case atStart => exact ⟨0, Nat.zero_le _, rfl, hM3, HR2, oI⟩
                  case round =>
                    clear hM3 HR2 oI
                    obtain ⟨q, hq, rfl, hM3, HR2, oI⟩ := hrel
                    rename World => Y5
                    by_cases hqm : q < mw
                    case neg =>
                      obtain rfl : mw = q := by omega
                      have dq : decide ((mw : Int) ≤ (m : Int)) = false := decide_eq_false (by omega)
                      have dq2 : decide (mw ≤ m) = false := decide_eq_false (by omega)
                      obtain ⟨rI, fI⟩ := oI.rules
                      have zI := oI.lt
                      go_wp2
                      go_roundw
                      case rel => exact ⟨i + 1, hin, by go_num, hM3.congr fun a j _ hj => qpart_row i a j hj, HR2⟩
                      case measure => simp [intOf]; try omega
                    case pos =>
                      have dq : decide ((q : Int) ≤ (m : Int)) = true := decide_eq_true (by omega)
                      have dq2 : decide (q ≤ m) = true := decide_eq_true (by omega)
                      have cK := hM3.cell_out hkn'
                      obtain ⟨cP, cP2⟩ := hM3.cell_at hkn' hqm
                      rw [qpart_piv i q q hqm] at cP cP2
                      have IM := MP.out i q hin hik (by omega)
                      have IK : inr (Ms k q / pv) := by
                        have := (MD0.out q (by omega))
                        exact this
                      have I3 := inrq_i64 IK
                      have FM := fmul_up IBH.out IK (by rw [HBV.out]; exact IM)
                      rw [HBV.out] at FM
                      have IX := inrq_i64 IM
                      have FS := fsub_up (MI.out i q hin (by omega)) IM (MN.out i q hin hik (by omega))
                      have I4 := inrq_i64 (MI.out i q hin (by omega))
                      obtain ⟨xn, hxn⟩ : ∃ z, z = (up (Ms i c * (Ms k q / pv))).1 := ⟨_, rfl⟩
                      obtain ⟨xd, hxd⟩ : ∃ z, z = (up (Ms i c * (Ms k q / pv))).2 := ⟨_, rfl⟩
                      have FM2 : Hid (fmul bn bd (up (Ms k q / pv)).1 (up (Ms k q / pv)).2 = ⟨xn, xd, 0⟩) := by
                        show _ = _
                        rw [HBN.out, HBD.out, HBV.out, FM, hxn, hxd]; rfl
                      rw [← hxn] at FS IX
                      rw [← hxd] at FS IX
                      have EQV : qpart Ms k c mw pv i q i q = Ms i q := qpart_at i q q hik (Nat.le_refl _)
                      obtain ⟨an, han⟩ : ∃ z, z = (up (Ms i q)).1 := ⟨_, rfl⟩
                      obtain ⟨ad, had⟩ : ∃ z, z = (up (Ms i q)).2 := ⟨_, rfl⟩
                      rw [← han] at FS I4
                      rw [← had] at FS I4
                      have EQV2 : (up (qpart Ms k c mw pv i q i q)).1 = an ∧ (up (qpart Ms k c mw pv i q i q)).2 = ad := by rw [EQV]; exact ⟨han.symm, had.symm⟩
                      have UZ : Hid (up (Ms i q - Ms i c * (Ms k q / pv)) = ((uf (Ms i q - Ms i c * (Ms k q / pv))).n, (uf (Ms i q - Ms i c * (Ms k q / pv))).d)) := rfl
                      rw [← FS] at UZ
                      generalize hX : fsub an ad xn xd = X at *
                      have HX := Lib.hid hX
                      clear hX FS FM han had hxn hxd EQV IM IK
                      have PUT := Lib.hid (fun (z : World) (h : MatQ z B w.heap.size g 28 78 rest bb2 cp2 ex2 n mw (qpart Ms k c mw pv i q)) => (show MatQ ((z.setCell ⟨bb2 i, q * 2, none⟩ (.int .i64 X.n)).setCell ⟨bb2 i, q * 2 + 1, none⟩ (.int .i64 X.d)) B w.heap.size g 28 78 rest bb2 cp2 ex2 n mw (qpart Ms k c mw pv i (q + 1)) from (by
                        have := h.put hin hqm (Ms i q - Ms i c * (Ms k q / pv))
                        have e9 : Ms i q - Ms i c * (Ms k q / pv) = qnew Ms k c pv i q := by unfold qnew; rw [if_neg hik]
                        rw [UZ.out] at this
                        rw [e9, qpart_put] at this
                        exact this)))
                      generalize (up (Ms k q / pv)).1 = kn' at *
                      generalize (up (Ms k q / pv)).2 = kd' at *
                      have blk := hM3.blk i hin
                      have zb1 := World.block_lt_of_cell? _ _ cK
                      have zb2 := World.block_lt_of_cell? _ _ cP
                      simp only at zb1 zb2
                      have IB3 := IB2.out
                      obtain ⟨rI, fI⟩ := oI.rules
                      have zI := oI.lt
                      go_upto_region 24 with fail
                      go_wp2_with fail
                      have gl := @grow_lt
                      refine wp_region_fs [(12, ⟨78, [.int .i64 0, .int .i64 0], fun b => .pointer (some ⟨b, 0, none⟩)⟩)] [0, 1, 2, 3, 4, 5, 6, 7] [.op 8, .tk 9, .tk 10, .tk 11, .fl 12, .op 13] [14] (by kernel_rfl) (by kernel_rfl) ⟨fun ρ W => by kernel_rfl, trivial⟩ (fun _ _ _ _ _ h => h) (fun _ _ _ _ _ h => h) ?_
                      try simp only [opsAt, List.getElem?_toArray, List.getElem?_cons_zero, List.getElem?_cons_succ, Option.getD_some]
                      repeat (go_big_quiet_step (fail))
                      refine wpQuiet_nil ?_
                      clear gl
                      refine wpFl_op rfl ?_
                      intro w3 hb3 K' hK'
                      go_simp
                      refine (rmul_any bn bd kn' kd' _ IB3.1 IB3.2 I3.1 I3.2).mono ?_
                      rintro e w5 ⟨rfl, hq⟩
                      refine hK' _ _ (Mod.of_below hq) ?_
                      clear hK' K'
                      have hF := below_to hb3 hq
                      clear hb3 hq
                      rw [FM2.out]
                      refine wpFl_tk ?_
                      try simp only [opsAt, List.getElem?_toArray, List.getElem?_cons_zero, List.getElem?_cons_succ, Option.getD_some]
                      repeat (go_big_quiet_step (fail))
                      refine wpQuiet_nil ?_
                      refine wpFl_tk ?_
                      try simp only [opsAt, List.getElem?_toArray, List.getElem?_cons_zero, List.getElem?_cons_succ, Option.getD_some]
                      repeat (go_big_quiet_step (fail))
                      refine wpQuiet_nil ?_
                      refine wpFl_tk ?_
                      try simp only [opsAt, List.getElem?_toArray, List.getElem?_cons_zero, List.getElem?_cons_succ, Option.getD_some]
                      repeat (go_big_quiet_step (fail))
                      refine wpQuiet_nil ?_
                      refine wpFl_fl rfl ?_
                      intro bP w6 hb6 oP zP0 _
                      go_simp
                      replace hF := below_to hF hb6
                      refine wpFl_op rfl ?_
                      intro w7 hb7 K' hK'
                      replace oP := oP.below hb7
                      replace hF := below_to hF hb7
                      clear hb6 hb7
                      obtain ⟨rP, fP⟩ := oP.rules
                      have zP := oP.lt
                      go_wp2_with fail
                      refine hK' _ _ (((Mod.refl _ _).set (by simp) _).set (by simp) _) ?_
                      clear hK' K' rP fP zP
                      replace oP := (oP.set 0 (.int .i64 xn)).set 1 (.int .i64 xd)
                      replace hF := (hF.setCell (p := ⟨bP, 0, none⟩) zP0 (.int .i64 xn)).setCell (p := ⟨bP, 1, none⟩) zP0 (.int .i64 xd)
                      refine wpFl_nil (fun w8 hb8 => ?_)
                      replace oP := oP.below hb8
                      replace hF := below_to hF hb8
                      clear hb8
                      try simp only [opsAt, List.getElem?_toArray, List.getElem?_cons_zero, List.getElem?_cons_succ, Option.getD_some]
                      clear cK cP cP2 zb1 zb2 rI fI zI IB3 I3 FM2
                      replace hM3 := hM3.below hF
                      replace oI := oI.below hF
                      have szP := HR2.s
                      have bP2 : w.heap.size + 1 + 1 ≤ bP := by omega
                      replace HR2 := HR2.below hF
                      clear hF zP0 szP
                      rename World => Y6
                      have cR := hM3.cell_out hin
                      obtain ⟨cV, cV2⟩ := hM3.cell_at hin hqm
                      rw [EQV2.1] at cV
                      rw [EQV2.2] at cV2
                      have zb1 := World.block_lt_of_cell? _ _ cR
                      have zb2 := World.block_lt_of_cell? _ _ cV
                      simp only at zb1 zb2
                      go_upto_region 25 with fail
                      have hD : Below Y6.heap.size Y6 Y6.drew := (Below.refl _ _).drew
                      have hMU := hM3.below hD
                      have HRU := HR2.below hD
                      have oBU := oP.below hD
                      replace oI := oI.below hD
                      have kS : (fun W' : World => W'.cell? ⟨g, i, none⟩ = some (.slice (some ⟨bb2 i, 0, none⟩) mw (cp2 i)) ∧ W'.cell? ⟨bP, 0, none⟩ = some (.int .i64 xn) ∧ W'.cell? ⟨bP, 1, none⟩ = some (.int .i64 xd)) Y6.drew := ⟨hMU.cell_out hin, oBU.rules.1 0, oBU.rules.1 1⟩
                      have mS0 := fun e => (keepW_is (S := (fun W' : World => W'.cell? ⟨g, i, none⟩ = some (.slice (some ⟨bb2 i, 0, none⟩) mw (cp2 i)) ∧ W'.cell? ⟨bP, 0, none⟩ = some (.int .i64 xn) ∧ W'.cell? ⟨bP, 1, none⟩ = some (.int .i64 xd))) kS e).1
                      have mS1 := fun e => (keepW_is (S := (fun W' : World => W'.cell? ⟨g, i, none⟩ = some (.slice (some ⟨bb2 i, 0, none⟩) mw (cp2 i)) ∧ W'.cell? ⟨bP, 0, none⟩ = some (.int .i64 xn) ∧ W'.cell? ⟨bP, 1, none⟩ = some (.int .i64 xd))) kS e).2.1
                      have mS2 := fun e => (keepW_is (S := (fun W' : World => W'.cell? ⟨g, i, none⟩ = some (.slice (some ⟨bb2 i, 0, none⟩) mw (cp2 i)) ∧ W'.cell? ⟨bP, 0, none⟩ = some (.int .i64 xn) ∧ W'.cell? ⟨bP, 1, none⟩ = some (.int .i64 xd))) kS e).2.2
                      refine wp_region_tree (fun W' => ∃ e, W' = keepW (fun W' : World => W'.cell? ⟨g, i, none⟩ = some (.slice (some ⟨bb2 i, 0, none⟩) mw (cp2 i)) ∧ W'.cell? ⟨bP, 0, none⟩ = some (.int .i64 xn) ∧ W'.cell? ⟨bP, 1, none⟩ = some (.int .i64 xd)) Y6.drew e) (.t [0, 1, 2, 3, 4, 5, 6, 7, 8, 9, 10, 12] (.f 11 (.f 13 (.t [14, 15] (.two 16 (.nil [17, 18]) 17 (.two 16 (.nil [18]) 18 (.f 16 (.nil [])))))))) (by kernel_rfl) (by kernel_rfl) (fun _ _ _ _ _ h => h) (keepW_of kS) ?_
                      refine wpT_t ?_
                      try simp only [opsAt, List.getElem?_toArray, List.getElem?_cons_zero, List.getElem?_cons_succ, Option.getD_some]
                      repeat (go_big_quiet_step (fail))
                      refine wpQuiet_nil ?_
                      clear mS0 mS1 mS2 cR cV cV2 zb1 zb2
                      obtain ⟨dV, dV2⟩ := hMU.cell_at hin hqm
                      rw [EQV2.1] at dV
                      rw [EQV2.2] at dV2
                      generalize Y6.drew = U at *
                      refine wpT_f rfl rfl (fun K' hK' => ?_)
                      go_wp2_with fail
                      refine hK' _ _ (keepW_of kS) ?_
                      clear hK' K' dV dV2
                      refine wpT_f rfl rfl (fun K' hK' => ?_)
                      go_simp
                      refine (rsub_any an ad xn xd _ I4.1 I4.2 IX.1 IX.2).mono ?_
                      rintro e z1 ⟨rfl, hq1⟩
                      rw [HX.out]
                      have hMz := hMU.below hq1
                      have HRz := HRU.below hq1
                      have oBz := oBU.below hq1
                      replace oI := oI.below hq1
                      have kSz : (fun W' : World => W'.cell? ⟨g, i, none⟩ = some (.slice (some ⟨bb2 i, 0, none⟩) mw (cp2 i)) ∧ W'.cell? ⟨bP, 0, none⟩ = some (.int .i64 xn) ∧ W'.cell? ⟨bP, 1, none⟩ = some (.int .i64 xd)) z1 := ⟨hMz.cell_out hin, oBz.rules.1 0, oBz.rules.1 1⟩
                      refine hK' _ _ (keepW_of kSz) ?_
                      clear hK' K' hq1 hMU HRU oBU kS
                      refine wpT_t ?_
                      try simp only [opsAt, List.getElem?_toArray, List.getElem?_cons_zero, List.getElem?_cons_succ, Option.getD_some]
                      repeat (go_big_quiet_step (fail))
                      refine wpQuiet_nil ?_
                      have fGz := hMz.free_at hin
                      obtain ⟨dV, dV2⟩ := hMz.cell_at hin hqm
                      have zb3 := World.block_lt_of_cell? _ _ dV
                      simp only at zb3
                      have hMp := PUT.out _ hMz
                      have kSp : (fun W' : World => W'.cell? ⟨g, i, none⟩ = some (.slice (some ⟨bb2 i, 0, none⟩) mw (cp2 i)) ∧ W'.cell? ⟨bP, 0, none⟩ = some (.int .i64 xn) ∧ W'.cell? ⟨bP, 1, none⟩ = some (.int .i64 xd)) _ := ⟨hMp.cell_out hin, ((oBz.other (by omega) _ _).other (by omega) _ _ : Own ((z1.setCell ⟨bb2 i, q * 2, none⟩ (.int .i64 X.n)).setCell ⟨bb2 i, q * 2 + 1, none⟩ (.int .i64 X.d)) bP _ _).rules.1 0, ((oBz.other (by omega) _ _).other (by omega) _ _ : Own ((z1.setCell ⟨bb2 i, q * 2, none⟩ (.int .i64 X.n)).setCell ⟨bb2 i, q * 2 + 1, none⟩ (.int .i64 X.d)) bP _ _).rules.1 1⟩
                      refine wpT_two ?_ ?_
                      · skip
                        refine wpT_f rfl rfl (fun K' hK' => ?_)
                        go_wp2_with fail
                        refine hK' _ _ (keepW_of kSz) ?_
                        clear hK' K'
                        try go_simp
                        refine wpT_nil ?_
                        try simp only [opsAt, List.getElem?_toArray, List.getElem?_cons_zero, List.getElem?_cons_succ, Option.getD_some]
                        go_wp2
                        go_roundw
                        case rel => exact ⟨q + 1, hqm, by go_num, hMp, (HRz.put blk.1 blk.2.2.2 _ _).put blk.1 blk.2.2.2 _ _, (oI.other (by omega) _ _).other (by omega) _ _⟩
                        case measure => simp [intOf]; try omega
                      · skip
                        refine wpT_f rfl rfl (fun K' hK' => ?_)
                        go_wp2_with fail
                        refine hK' _ _ (keepW_of kSz) ?_
                        clear hK' K'
                        try go_simp
                        refine wpT_two ?_ ?_
                        · skip
                          refine wpT_f rfl rfl (fun K' hK' => ?_)
                          go_wp2_with fail
                          refine hK' _ _ (keepW_of kSz) ?_
                          clear hK' K'
                          try go_simp
                          refine wpT_nil ?_
                          try simp only [opsAt, List.getElem?_toArray, List.getElem?_cons_zero, List.getElem?_cons_succ, Option.getD_some]
                          go_wp2
                          go_roundw
                          case rel => exact ⟨q + 1, hqm, by go_num, hMp, (HRz.put blk.1 blk.2.2.2 _ _).put blk.1 blk.2.2.2 _ _, (oI.other (by omega) _ _).other (by omega) _ _⟩
                          case measure => simp [intOf]; try omega
                        · skip
                          refine wpT_f rfl rfl (fun K' hK' => ?_)
                          go_wp2_with fail
                          refine hK' _ _ (keepW_of kSp) ?_
                          clear hK' K'
                          try go_simp
                          refine wpT_f rfl rfl (fun K' hK' => ?_)
                          go_wp2_with fail
                          refine hK' _ _ (keepW_of kSp) ?_
                          clear hK' K'
                          try go_simp
                          refine wpT_nil ?_
                          try simp only [opsAt, List.getElem?_toArray, List.getElem?_cons_zero, List.getElem?_cons_succ, Option.getD_some]
                          go_wp2
                          go_roundw
                          case rel => exact ⟨q + 1, hqm, by go_num, hMp, (HRz.put blk.1 blk.2.2.2 _ _).put blk.1 blk.2.2.2 _ _, (oI.other (by omega) _ _).other (by omega) _ _⟩
                          case measure => simp [intOf]; try omega
            case neg =>
              obtain rfl : n = i := by omega
              have hM4 := hM3.congr (M' := (s.step n c).R) fun a j ha _ => by rw [qpart_end a j ha, NEW.out]
              have ob : Y4.ownsRow (w.heap.size + 1 + 1) 3 1 (.slice adu k capu) k (ics (bints s.bnd)) := by have := HR2.b; rw [KL.out] at this; exact this
              have oT := HR2.t
              have sz := HR2.s.2
              have hl := HR2.l
              have zT0 : w.heap.size + 1 < w.heap.size + 1 + 1 := by omega
              obtain ⟨rT, fT⟩ := oT.rules
              have zT := oT.lt
              go_wp2_with (at_builtin; refine wpList_app _ rfl _ _ _ rfl (w.heap.size + 1 + 1) 3 1 8 (.int .i64 0) Try.underlying23 oint_info rfl (by omega) (by omega) _ k _ rfl (ob.alloc _) (by omega) (by simp; omega) Y4.heap.size [.int .i64 c] (0, 0) rfl (heap_alloc_new Y4 _) rfl (by simp [Value.oneCell']) ?_; intro g2 cap2 w2 hown hg2 hbw; have oT2 := (oT.alloc (.cells #[.int .i64 c] 3)).at hbw zT0; obtain ⟨rT2, fT2⟩ := oT2.rules; have zT2 := oT2.lt)
              go_roundw
              case rel =>
                have eL : (s.bnd ++ [c]).length = k + 1 := by rw [List.length_append, KL.out]; rfl
                have hown2 : w2.ownsRow (w.heap.size + 1 + 1) 3 1 (.slice (some ⟨g2, 0, none⟩) (k + 1) cap2) (s.bnd ++ [c]).length (ics (bints (s.bnd ++ [c]))) := by rw [eL, bints_app]; exact hown
                have hM5 := ((hM4.below (ba1 Y4 (.cells #[.int .i64 c] 3))).at hbw (by omega)).other (b := w.heap.size + 1) (by omega) 1 (.slice (some ⟨g2, 0, none⟩) (k + 1) cap2)
                have sz2 := hbw.size
                have sz3 : Y4.heap.size + 1 ≤ w2.heap.size := by simpa using sz2
                refine ⟨c + 1, by omega, by go_num, by rw [RST.out, BND.out, eL]; go_num, .slice (some ⟨g2, 0, none⟩) (k + 1) cap2, rest, bb2, cp2, ex2, by rw [RST.out]; exact hM5, ?_⟩
                rw [RST.out, BND.out]
                exact ⟨((HR2.r.alloc (.cells #[.int .i64 c] 3)).at hbw (by omega)).other (g' := w.heap.size + 1) (by omega) 1 _,
                  oT2.set 1 (.slice (some ⟨g2, 0, none⟩) (k + 1) cap2),
                  owns_set_low (p := ⟨w.heap.size + 1, 1, none⟩) hown2 (by simp) _,
                  ⟨rfl, by simp; omega⟩,
                  ((HR2.h.alloc (by omega) (.cells #[.int .i64 c] 3)).trans (hbw.mono (by omega))).setCell (p := ⟨w.heap.size + 1, 1, none⟩) (by simp; omega) _, hl⟩
              case measure => simp [intOf]; try omega
end Go.Proofs.Ythlcmlngmcoknaa
