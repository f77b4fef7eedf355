/- What is proved here: contracts of functions and plain facts, several texts in one; each one says ahead what it proves, and its conditions. -/
import Derived.Test.YthlcmlngmcoknaaC02
import Derived.Test.YthlcmlngmcoknaaProg
import Derived.Test.YthlcmlngmcoknaaC01
/- What is proved here: what making a row of numbers gives. Condition: at most 100,000 numbers. -/
namespace Go.Proofs.Ythlcmlngmcoknaa
open Go.RowKit

theorem Try.infoInt : (Try.prog.info? 3).map (fun i => (i.zero, i.size, i.bytes)) = some (some (.int .i64 0), 1, 8) := by kernel_rfl
/-- The cells of numbers. -/
def ics (xs : List Int) : List Value := xs.map (Value.int .i64)
theorem ics_len (xs : List Int) : (ics xs).length = xs.length := by simp [ics]
theorem made_ints (n : Nat) : madeCells (Value.int .i64 0).cells (n * 1) = (ics (List.replicate n 0)).toArray := by
  apply Array.ext
  · simp [size_madeCells, ics]
  · intro i h1 h2
    simp [madeCells, Value.cells, Nat.mod_one, ics]
theorem mk_ints (n : Nat) (hn : n ≤ 100000) (w : World) : (Instr.makeSlice 23 (.int .i64 (n : Int)) (.int .i64 (n : Int))).run Try.prog w = .ok (.slice (some ⟨w.heap.size, 0, none⟩) n n) (w.alloc (.cells (ics (List.replicate n 0)).toArray 3)) := by
  obtain ⟨i0, hi, hz0, hz1, hz2⟩ := info_parts Try.infoInt
  have h := run_make w 23 3 i0 (.int .i64 0) Try.underlying23 hi hz0 .i64 .i64 (n : Int) (n : Int) (by omega) (by omega) (by rw [hz2]; omega) (by omega)
  rw [Int.toNat_natCast, hz1, made_ints] at h
  exact h
theorem ics_some (xs : List Int) (i : Nat) (h : i < xs.length) : ∃ v, (ics xs)[i]? = some v := ⟨_, by simp [ics, h]; rfl⟩
end Go.Proofs.Ythlcmlngmcoknaa

/- What is proved here: rows of whole numbers in memory, each in a block of its own, and a list of them: reading, storing, and two rows changing places. No condition. -/
namespace Go.Proofs.Ythlcmlngmcoknaa
open Go.RowKit

def mrc (M : Nat → Nat → Int) (W i : Nat) : List Value := (List.range W).map fun j => .int .i64 (M i j)
def mout (bb cp : Nat → Nat) (n W : Nat) : List Value := (List.range n).map fun i => .slice (some ⟨bb i, 0, none⟩) W (cp i)
theorem mrc_len (M : Nat → Nat → Int) (W i : Nat) : (mrc M W i).length = W := by simp [mrc]
theorem mout_len (bb cp : Nat → Nat) (n W : Nat) : (mout bb cp n W).length = n := by simp [mout]
structure MatO (w : World) (B Lm g : Nat) (Tr Ti : TypeId) (rest : List Value) (bb cp : Nat → Nat) (ex : Nat → List Value) (n W : Nat) (M : Nat → Nat → Int) : Prop where
  out : Own w g Tr (mout bb cp n W ++ rest)
  base : B ≤ g ∧ g < Lm
  row : ∀ i, i < n → Own w (bb i) Ti (mrc M W i ++ ex i)
  blk : ∀ i, i < n → B ≤ bb i ∧ bb i ≠ g ∧ W ≤ cp i ∧ bb i < Lm
  inj : ∀ i j, i < n → j < n → bb i = bb j → i = j
section
variable {w w' : World} {B Lm g : Nat} {Tr Ti : TypeId} {rest : List Value} {bb cp : Nat → Nat} {ex : Nat → List Value} {n W : Nat} {M : Nat → Nat → Int}
theorem MatO.cell_out (h : MatO w B Lm g Tr Ti rest bb cp ex n W M) {i : Nat} (hi : i < n) : w.cell? ⟨g, i, none⟩ = some (.slice (some ⟨bb i, 0, none⟩) W (cp i)) := by
  have hl : i < (mout bb cp n W ++ rest).length := by rw [List.length_append, mout_len]; omega
  rw [h.out.cell i hl]
  congr 1
  rw [List.getElem_append_left (by rw [mout_len]; exact hi)]
  simp [mout]
theorem MatO.cell_at (h : MatO w B Lm g Tr Ti rest bb cp ex n W M) {i j : Nat} (hi : i < n) (hj : j < W) : w.cell? ⟨bb i, j, none⟩ = some (.int .i64 (M i j)) := by
  have hl : j < (mrc M W i ++ ex i).length := by rw [List.length_append, mrc_len]; omega
  rw [(h.row i hi).cell j hl]
  congr 1
  rw [List.getElem_append_left (by rw [mrc_len]; exact hj)]
  simp [mrc]
theorem MatO.free_out (h : MatO w B Lm g Tr Ti rest bb cp ex n W M) (k : Nat) : w.frozen? ⟨g, k, none⟩ = false := h.out.free k
theorem MatO.free_at (h : MatO w B Lm g Tr Ti rest bb cp ex n W M) {i : Nat} (hi : i < n) (k : Nat) : w.frozen? ⟨bb i, k, none⟩ = false := (h.row i hi).free k
theorem MatO.below (h : MatO w B Lm g Tr Ti rest bb cp ex n W M) (hb : Below w.heap.size w w') : MatO w' B Lm g Tr Ti rest bb cp ex n W M :=
  ⟨h.out.below hb, h.base, fun i hi => (h.row i hi).below hb, h.blk, h.inj⟩
theorem MatO.other (h : MatO w B Lm g Tr Ti rest bb cp ex n W M) {b : Nat} (hb : Lm ≤ b) (k : Nat) (v : Value) : MatO (w.setCell ⟨b, k, none⟩ v) B Lm g Tr Ti rest bb cp ex n W M :=
  ⟨h.out.other (by have := h.base; omega) k v, h.base, fun i hi => (h.row i hi).other (by have := h.blk i hi; omega) k v, h.blk, h.inj⟩
theorem MatO.congr {M' : Nat → Nat → Int} (h : MatO w B Lm g Tr Ti rest bb cp ex n W M) (e : ∀ i j, i < n → j < W → M i j = M' i j) : MatO w B Lm g Tr Ti rest bb cp ex n W M' :=
  ⟨h.out, h.base, fun i hi => by
    have : mrc M W i = mrc M' W i := List.map_congr_left fun j hj => by rw [e i j hi (List.mem_range.1 hj)]
    rw [← this]; exact h.row i hi, h.blk, h.inj⟩
def mput (M : Nat → Nat → Int) (i j : Nat) (z : Int) (r c : Nat) : Int := if r = i ∧ c = j then z else M r c
theorem MatO.put (h : MatO w B Lm g Tr Ti rest bb cp ex n W M) {i j : Nat} (hi : i < n) (hj : j < W) (z : Int) : MatO (w.setCell ⟨bb i, j, none⟩ (.int .i64 z)) B Lm g Tr Ti rest bb cp ex n W (mput M i j z) :=
  ⟨h.out.other (by have := h.blk i hi; omega) j _, h.base, fun r hr => by
    by_cases hri : r = i
    · subst hri
      have := (h.row r hr).set j (.int .i64 z)
      rw [List.set_append_left _ _ (by rw [mrc_len]; exact hj)] at this
      have e : (mrc M W r).set j (.int .i64 z) = mrc (mput M r j z) W r := by
        refine List.ext_getElem? fun c => ?_
        rw [List.getElem?_set]
        by_cases hc : c < W
        · by_cases hjc : j = c
          · subst hjc
            rw [if_pos rfl, if_pos (by rw [mrc_len]; exact hc)]
            simp [mrc, mput, hc]
          · rw [if_neg hjc]
            have hcj : ¬ c = j := fun e => hjc e.symm
            simp [mrc, mput, hc, hcj]
        · have : ¬ j = c := by omega
          rw [if_neg this, List.getElem?_eq_none (by rw [mrc_len]; omega), List.getElem?_eq_none (by rw [mrc_len]; omega)]
      rw [e] at this
      exact this
    · have e : mrc (mput M i j z) W r = mrc M W r := List.map_congr_left fun c _ => by unfold mput; rw [if_neg (fun h' => hri h'.1)]
      rw [e]
      exact (h.row r hr).other (fun e' => hri (h.inj r i hr hi e')) j _, h.blk, h.inj⟩
/-- Two rows change places. -/
theorem MatO.swap (h : MatO w B Lm g Tr Ti rest bb cp ex n W M) {a b : Nat} (ha : a < n) (hb : b < n) :
    MatO ((w.setCell ⟨g, a, none⟩ (.slice (some ⟨bb b, 0, none⟩) W (cp b))).setCell ⟨g, b, none⟩ (.slice (some ⟨bb a, 0, none⟩) W (cp a))) B Lm g Tr Ti rest (fun i => bb (swi a b i)) (fun i => cp (swi a b i)) (fun i => ex (swi a b i)) n W (fun i => M (swi a b i)) := by
  refine ⟨?_, h.base, fun i hi => ?_, fun i hi => h.blk _ (swi_lt ha hb hi), fun i j hi hj e => ?_⟩
  · have := (h.out.set a (.slice (some ⟨bb b, 0, none⟩) W (cp b))).set b (.slice (some ⟨bb a, 0, none⟩) W (cp a))
    rw [List.set_append_left _ _ (by rw [mout_len]; exact ha), List.set_append_left _ _ (by rw [List.length_set, mout_len]; exact hb)] at this
    have e : ((mout bb cp n W).set a (.slice (some ⟨bb b, 0, none⟩) W (cp b))).set b (.slice (some ⟨bb a, 0, none⟩) W (cp a)) = mout (fun i => bb (swi a b i)) (fun i => cp (swi a b i)) n W := by
      refine List.ext_getElem? fun c => ?_
      rw [List.getElem?_set, List.getElem?_set, List.length_set, mout_len]
      by_cases hc : c < n
      · have e0 : (mout (fun i => bb (swi a b i)) (fun i => cp (swi a b i)) n W)[c]? = some (.slice (some ⟨bb (swi a b c), 0, none⟩) W (cp (swi a b c))) := by simp [mout, hc]
        rw [e0]
        unfold swi
        by_cases h1 : b = c
        · subst h1
          rw [if_pos rfl, if_pos hb]
          by_cases h2 : b = a
          · subst h2; rw [if_pos rfl]
          · rw [if_neg h2, if_pos rfl]
        · rw [if_neg h1]
          by_cases h2 : a = c
          · subst h2; rw [if_pos rfl, if_pos ha, if_pos rfl]
          · have h1' : ¬ c = b := fun e => h1 e.symm
            have h2' : ¬ c = a := fun e => h2 e.symm
            rw [if_neg h2, if_neg h2', if_neg h1']
            simp [mout, hc]
      · rw [if_neg (by omega), if_neg (by omega), List.getElem?_eq_none (by rw [mout_len]; omega), List.getElem?_eq_none (by rw [mout_len]; omega)]
    rw [e] at this
    exact this
  · have hs := swi_lt ha hb hi
    have hne := (h.blk _ hs).2.1
    exact ((h.row _ hs).other hne a _).other hne b _
  · have := h.inj _ _ (swi_lt ha hb hi) (swi_lt ha hb hj) e
    rw [← swi_swi a b i, ← swi_swi a b j, this]
end
end Go.Proofs.Ythlcmlngmcoknaa

/- What is proved here: an append of one element to a row of the call's own leaves the other rows of the call's own as they are. Condition: the rows lie apart; fewer than a million elements of at most 100 bytes. -/
namespace Go.Proofs.Ythlcmlngmcoknaa
open Go.RowKit

/-- Two slices that do not lie in one block. -/
def Apart (v u : Value) : Prop := ∀ b, v.ownBlock = some b → u.ownBlock = some b → False
theorem Apart.symm {v u : Value} (h : Apart v u) : Apart u v := fun b h1 h2 => h b h2 h1
theorem apart_nil (v : Value) : Apart v (.slice none 0 0) := fun b _ h => by cases h
theorem nil_apart (v : Value) : Apart (.slice none 0 0) v := fun b h _ => by cases h
/-- What an append to the row ov, which then lies in block g, leaves of the other rows. -/
structure Keep (B : Nat) (W w2 : World) (ov : Value) (g : Nat) : Prop where
  row : ∀ {T size v n cs}, W.ownsRow B T size v n cs → Apart v ov → w2.ownsRow B T size v n cs
  apart : ∀ {T size v n cs}, W.ownsRow B T size v n cs → Apart v ov → ∀ k cap, Apart v (.slice (some ⟨g, 0, none⟩) k cap)
section
variable {P : Program} {ops : Array Oper} {rest : List Oper} {o : Oper} {a : Act} {Q : Exit → Act → World → Prop}
theorem wpList_app3 (W : World) (hgd : o.guard = none) (s x : Operand) (t : TypeId) (ho : o.op = .call { callee := .builtin .append, args := #[s, x], argTypes := #[t, t] })
    (B : Nat) (T : TypeId) (size bytes : Nat) (z : Value) (ht : P.underlying t = some (.slice T)) (hi : (P.info? T).map (fun i => (i.zero, i.size, i.bytes)) = some (some z, size, bytes)) (hz : z.cells.size = size) (hsz : 0 < size) (hby : bytes ≤ 100)
    (ov : Value) (k : Nat) (cs : List Value) (hs : a.eval s = ov) (ow : W.ownsRow B T size ov k cs) (hk : k < 1000000) (hB : B ≤ W.heap.size)
    (p : Nat) (ys : List Value) (fr : Nat × Nat) (hx : a.eval x = .slice (some ⟨p, 0, none⟩) 1 1) (hp : W.heap[p]? = some (.cells ys.toArray T fr)) (hy : ys.length = size) (h1 : ∀ u ∈ ys, u.oneCell' = true)
    (h : ∀ g cap w2, w2.ownsRow B T size (.slice (some ⟨g, 0, none⟩) (k + 1) cap) (k + 1) (cs ++ ys) → B ≤ g → Below B W w2 → Keep B W w2 ov g → wpList P ops Q rest (a.put o.dst (.slice (some ⟨g, 0, none⟩) (k + 1) cap)) w2) :
    wpList P ops Q (o :: rest) a W := by
  obtain ⟨i0, hi0, hz0, hz1, hz2⟩ := info_parts hi
  refine wpList_append_lies W hgd s x t ho B T i0 z size bytes ht hi0 hz0 hz1 hz2 hz hsz ov k cs hs ow ⟨p, 0, none⟩ 1 1 ys hx (by omega) (World.news_of_block (cs := ys.toArray) (t := T) (fr := fr) hp) h1 (by omega) (by unfold maxLen; omega)
    (by
      have : (k + 1) * bytes ≤ 1000000 * 100 := Nat.mul_le_mul (by omega) hby
      omega) hB _ rfl ?_
  intro g cap w2 hown hgrow hat hlt
  have hov : ∀ b, ov.ownBlock = some b → B ≤ b := fun b hb => by
    obtain ⟨_, h2⟩ := ow
    rcases h2 with ⟨h2, _⟩ | ⟨g', cap', cur, h2, h3, _⟩
    · rw [h2] at hb; cases hb
    · rw [h2] at hb; simp only [Value.ownBlock, Option.some.injEq] at hb; omega
  have hg : B ≤ g := by
    rcases hat with hat | hat
    · exact hov g hat
    · omega
  refine h g cap w2 hown hg ((Below.refl B W).grown hgrow hB hov) ⟨fun {T' size' v' n' cs'} h2 ha => ?_, fun {T' size' v' n' cs'} h2 ha k' cap' b hb hb2 => ?_⟩
  · refine h2.kept hgrow ?_
    cases hv : v'.ownBlock with
    | none => exact .inl rfl
    | some b => exact .inr fun e => ha b hv e.symm
  · simp only [Value.ownBlock, Option.some.injEq] at hb2
    rcases hat with hat | hat
    · exact ha b hb (by rw [hat, hb2])
    · obtain ⟨_, h3⟩ := h2
      rcases h3 with ⟨h4, _⟩ | ⟨g', cap'', cur, h4, _, h5, _⟩
      · rw [h4] at hb; cases hb
      · rw [h4] at hb
        simp only [Value.ownBlock, Option.some.injEq] at hb
        have := (Array.getElem?_eq_some_iff.1 h5).1
        omega
end
end Go.Proofs.Ythlcmlngmcoknaa

/- What is proved here: the contracts of frac.size, frac.gcd, frac.Check and of the reference's abs, gcd, Check. Condition: the numbers are 64-bit integers. -/
namespace Go.Proofs.Ythlcmlngmcoknaa
open Go.RowKit

/-- A 64-bit signed number. -/
def i64 (n : Int) : Prop := -9223372036854775808 ≤ n ∧ n ≤ 9223372036854775807

theorem wrap_neg (n : Int) (h1 : -9223372036854775808 ≤ n) (h : n < 0) : IntKind.u64.wrap (-IntKind.u64.wrap n) = (n.natAbs : Int) := by
  simp only [IntKind.wrap, IntKind.bits, IntKind.signed]; simp; omega

theorem size_any (n : Int) (w : World) (h1 : -9223372036854775808 ≤ n) (h2 : n ≤ 9223372036854775807) :
    Calls Try.prog 153 #[.int .i64 n] w fun e w' => e = .returned (.int .u64 (n.natAbs : Int)) ∧ w = w' := by
  by_cases h : n < 0
  · go_enter Try.func153, Try.ntmps153
    go_wp2
    go_ret
    refine ⟨?_, rfl⟩
    show Ending.returned (Value.int IntKind.u64 (IntKind.u64.wrap (-IntKind.u64.wrap n))) = _
    rw [wrap_neg n h1 h]
  · go_enter Try.func153, Try.ntmps153
    go_wp2
    go_ret
    refine ⟨?_, rfl⟩
    show Ending.returned (Value.int IntKind.u64 n) = _
    exact ret_int (by omega)

theorem abs_any (n : Int) (w : World) (h1 : -9223372036854775808 ≤ n) (h2 : n ≤ 9223372036854775807) :
    Calls Try.prog 103 #[.int .i64 n] w fun e w' => e = .returned (.int .u64 (n.natAbs : Int)) ∧ w = w' := by
  by_cases h : n < 0
  · go_enter Try.func103, Try.ntmps103
    go_wp2
    go_ret
    refine ⟨?_, rfl⟩
    exact ret_int (by omega)
  · go_enter Try.func103, Try.ntmps103
    go_wp2
    go_ret
    refine ⟨?_, rfl⟩
    exact ret_int (by omega)

set_option maxHeartbeats 400000 in
theorem gcd_any (a b : Nat) (w : World) (h1 : a ≤ 18446744073709551615) (h2 : b ≤ 18446744073709551615) :
    Calls Try.prog 154 #[.int .u64 a, .int .u64 b] w fun e w' => e = .returned (.int .u64 (Nat.gcd a b : Int)) ∧ ∃ n, w' = w.drewN n := by
  go_enter Try.func154, Try.ntmps154
  go_wp2
  go_loopw [0, 1] (fun x y wr => ∃ a' b' n : Nat, x = .int .u64 a' ∧ y = .int .u64 b' ∧ a' ≤ 18446744073709551615 ∧ b' ≤ 18446744073709551615 ∧ Hid (Nat.gcd a' b' = Nat.gcd a b) ∧ wr = w.drewN n) (fun _ y _ => (intOf y).toNat)
  case atStart => exact ⟨a, b, 0, rfl, rfl, h1, h2, rfl, rfl⟩
  case round =>
    obtain ⟨a', b', n, rfl, rfl, ha, hb, hg, rfl⟩ := hrel
    by_cases hz : b' = 0
    · subst hz
      go_wp2
      go_ret
      exact ⟨ret_int (by have := hg.out; simp at this; simpa using congrArg Int.ofNat this), n, rfl⟩
    · have hz' : ((b' : Int) == 0) = false := by simp; omega
      have hz2 : ((b' : Int) != 0) = true := by simp; omega
      have hm := Nat.mod_lt a' (show b' > 0 by omega)
      have hG : Hid (Nat.gcd b' (a' % b') = Nat.gcd a b) := by
        have := hg.out; rw [Nat.gcd_comm, Nat.gcd_rec] at this; rw [Nat.gcd_comm]; exact this
      go_wp2
      go_quiet (fail)
      go_wp2
      go_roundw
      case rel => exact ⟨b', a' % b', n + nq, rfl, by go_num, hb, by omega, hG, by simp⟩
      case measure => simp [intOf]; omega

set_option maxHeartbeats 400000 in
theorem rgcd_any (a b : Nat) (w : World) (h1 : a ≤ 18446744073709551615) (h2 : b ≤ 18446744073709551615) :
    Calls Try.prog 102 #[.int .u64 a, .int .u64 b] w fun e w' => e = .returned (.int .u64 (Nat.gcd a b : Int)) ∧ ∃ n, w' = w.drewN n := by
  go_enter Try.func102, Try.ntmps102
  go_wp2
  go_loopw [0, 1] (fun x y wr => ∃ a' b' n : Nat, x = .int .u64 a' ∧ y = .int .u64 b' ∧ a' ≤ 18446744073709551615 ∧ b' ≤ 18446744073709551615 ∧ Hid (Nat.gcd a' b' = Nat.gcd a b) ∧ wr = w.drewN n) (fun _ y _ => (intOf y).toNat)
  case atStart => exact ⟨a, b, 0, rfl, rfl, h1, h2, rfl, rfl⟩
  case round =>
    obtain ⟨a', b', n, rfl, rfl, ha, hb, hg, rfl⟩ := hrel
    by_cases hz : b' = 0
    · subst hz
      go_wp2
      go_ret
      exact ⟨ret_int (by have := hg.out; simp at this; simpa using congrArg Int.ofNat this), n, rfl⟩
    · have hz' : ((b' : Int) == 0) = false := by simp; omega
      have hz2 : ((b' : Int) != 0) = true := by simp; omega
      have hm := Nat.mod_lt a' (show b' > 0 by omega)
      have hG : Hid (Nat.gcd b' (a' % b') = Nat.gcd a b) := by
        have := hg.out; rw [Nat.gcd_comm, Nat.gcd_rec] at this; rw [Nat.gcd_comm]; exact this
      go_wp2
      go_quiet (fail)
      go_wp2
      go_roundw
      case rel => exact ⟨b', a' % b', n + nq, rfl, by go_num, hb, by omega, hG, by simp⟩
      case measure => simp [intOf]; omega

theorem gcd_of (a b : Int) (x y : Nat) (w : World) (ha : a = x) (hb : b = y) (h1 : x ≤ 18446744073709551615) (h2 : y ≤ 18446744073709551615) :
    Calls Try.prog 154 #[.int .u64 a, .int .u64 b] w fun e w' => e = .returned (.int .u64 (Nat.gcd x y : Int)) ∧ ∃ n, w' = w.drewN n := by
  subst ha hb; exact gcd_any x y w h1 h2
theorem rgcd_of (a b : Int) (x y : Nat) (w : World) (ha : a = x) (hb : b = y) (h1 : x ≤ 18446744073709551615) (h2 : y ≤ 18446744073709551615) :
    Calls Try.prog 102 #[.int .u64 a, .int .u64 b] w fun e w' => e = .returned (.int .u64 (Nat.gcd x y : Int)) ∧ ∃ n, w' = w.drewN n := by
  subst ha hb; exact rgcd_any x y w h1 h2

/-- A fraction's numbers are valid: in lowest terms, within 10^18. -/
def fokB (n d : Int) : Bool := decide (1 ≤ d) && decide (d ≤ 1000000000000000000) && decide (-1000000000000000000 ≤ n) && decide (n ≤ 1000000000000000000) && Nat.gcd n.natAbs d.natAbs == 1
/-- The error of a fraction: 8 or 0. -/
def fchk (n d : Int) : Int := if fokB n d then 0 else 8

theorem fchk_no {n d : Int} (h : ¬ (1 ≤ d ∧ d ≤ 1000000000000000000 ∧ -1000000000000000000 ≤ n ∧ n ≤ 1000000000000000000)) : fchk n d = 8 := by
  unfold fchk fokB; rw [if_neg]; simp; omega
theorem fchk_gcd {n d : Int} (h1 : 1 ≤ d) (h2 : d ≤ 1000000000000000000) (h3 : -1000000000000000000 ≤ n) (h4 : n ≤ 1000000000000000000) : fchk n d = if Nat.gcd n.natAbs d.natAbs = 1 then 0 else 8 := by
  unfold fchk fokB; simp [h1, h2, h3, h4]

set_option maxHeartbeats 400000 in
theorem check_any (n d : Int) (w : World) (h1 : i64 n) (h2 : i64 d) :
    Calls Try.prog 125 #[.agg #[.int .i64 n, .int .i64 d]] w fun e w' => e = .returned (.int .i64 (fchk n d)) ∧ Below w.heap.size w w' := by
  obtain ⟨n1, n2⟩ := h1
  obtain ⟨d1, d2⟩ := h2
  by_cases hv : 1 ≤ d ∧ d ≤ 1000000000000000000 ∧ -1000000000000000000 ≤ n ∧ n ≤ 1000000000000000000
  · have H := Lib.hid (fchk_gcd hv.1 hv.2.1 hv.2.2.1 hv.2.2.2)
    obtain ⟨v1, v2, v3, v4⟩ := hv
    by_cases hg : Nat.gcd n.natAbs d.natAbs = 1
    · have b1 : (((Nat.gcd n.natAbs d.natAbs : Nat) : Int) != 1) = false := by simp [hg]
      have HV : Hid (fchk n d = 0) := by show fchk n d = 0; rw [H.out, if_pos hg]
      clear hg H
      go_enter Try.func125, Try.ntmps125
      go_wp2
      go_quiet (first | (go_at_call 153; exact Calls.quiet_same (size_any _ _ (by omega) (by omega))) | (go_at_call 154; refine Calls.quiet_of (gcd_any n.natAbs d.natAbs _ (by omega) (by omega))))
      go_wp2
      go_ret
      exact ⟨by rw [HV.out]; rfl, ((Below.refl _ _).alloc (Nat.le_refl _) _).trans ((below_drewN _ _).mono (by simp))⟩
    · have b1 : (((Nat.gcd n.natAbs d.natAbs : Nat) : Int) != 1) = true := by simp; omega
      have HV : Hid (fchk n d = 8) := by show fchk n d = 8; rw [H.out, if_neg hg]
      clear hg H
      go_enter Try.func125, Try.ntmps125
      go_wp2
      go_quiet (first | (go_at_call 153; exact Calls.quiet_same (size_any _ _ (by omega) (by omega))) | (go_at_call 154; refine Calls.quiet_of (gcd_any n.natAbs d.natAbs _ (by omega) (by omega))))
      go_wp2
      go_ret
      exact ⟨by rw [HV.out]; rfl, ((Below.refl _ _).alloc (Nat.le_refl _) _).trans ((below_drewN _ _).mono (by simp))⟩
  · have H := Lib.hid (fchk_no hv)
    go_enter Try.func125, Try.ntmps125
    go_wp2
    all_goals first | (exfalso; omega) | skip
    all_goals
      go_ret
      exact ⟨by rw [H.out]; rfl, (Below.refl _ _).alloc (Nat.le_refl _) _⟩

set_option maxHeartbeats 800000 in
theorem rcheck_any (n d : Int) (w : World) (h1 : i64 n) (h2 : i64 d) :
    Calls Try.prog 46 #[.agg #[.int .i64 n, .int .i64 d]] w fun e w' => e = .returned (.int .i64 (fchk n d)) ∧ Below w.heap.size w w' := by
  obtain ⟨n1, n2⟩ := h1
  obtain ⟨d1, d2⟩ := h2
  by_cases v1 : 1 ≤ d
  · by_cases v2 : d ≤ 1000000000000000000
    · by_cases v3 : -1000000000000000000 ≤ n
      · by_cases v4 : n ≤ 1000000000000000000
        · have H := Lib.hid (fchk_gcd v1 v2 v3 v4)
          have e1 : decide (d < 1) = false := by simp; omega
          have e2 : decide (1000000000000000000 < d) = false := by simp; omega
          have e3 : decide (n < -1000000000000000000) = false := by simp; omega
          have e4 : decide (1000000000000000000 < n) = false := by simp; omega
          by_cases hg : Nat.gcd n.natAbs d.natAbs = 1
          · have b1 : (((Nat.gcd n.natAbs d.natAbs : Nat) : Int) != 1) = false := by simp [hg]
            have HV : Hid (fchk n d = 0) := by show fchk n d = 0; rw [H.out, if_pos hg]
            clear hg H
            go_enter Try.func46, Try.ntmps46
            go_wp2
            go_quiet (first | (go_at_call 103; exact Calls.quiet_same (abs_any _ _ (by omega) (by omega))) | (go_at_call 102; exact Calls.quiet_of (rgcd_of _ _ n.natAbs d.natAbs _ rfl (by omega) (by omega) (by omega))))
            go_wp2
            go_ret
            exact ⟨by rw [HV.out]; rfl, ((Below.refl _ _).alloc (Nat.le_refl _) _).trans ((below_drewN _ _).mono (by simp))⟩
          · have b1 : (((Nat.gcd n.natAbs d.natAbs : Nat) : Int) != 1) = true := by simp; omega
            have HV : Hid (fchk n d = 8) := by show fchk n d = 8; rw [H.out, if_neg hg]
            clear hg H
            go_enter Try.func46, Try.ntmps46
            go_wp2
            go_quiet (first | (go_at_call 103; exact Calls.quiet_same (abs_any _ _ (by omega) (by omega))) | (go_at_call 102; exact Calls.quiet_of (rgcd_of _ _ n.natAbs d.natAbs _ rfl (by omega) (by omega) (by omega))))
            go_wp2
            go_ret
            exact ⟨by rw [HV.out]; rfl, ((Below.refl _ _).alloc (Nat.le_refl _) _).trans ((below_drewN _ _).mono (by simp))⟩
        · have H := Lib.hid (fchk_no (n := n) (d := d) (by omega))
          have e1 : decide (d < 1) = false := by simp; omega
          have e2 : decide (1000000000000000000 < d) = false := by simp; omega
          have e3 : decide (n < -1000000000000000000) = false := by simp; omega
          have e4 : decide (1000000000000000000 < n) = true := by simp; omega
          go_enter Try.func46, Try.ntmps46
          go_wp2
          go_quiet (fail)
          go_wp2
          go_ret
          exact ⟨by rw [H.out]; rfl, ((Below.refl _ _).alloc (Nat.le_refl _) _).trans ((below_drewN _ _).mono (by simp))⟩
      · have H := Lib.hid (fchk_no (n := n) (d := d) (by omega))
        have e1 : decide (d < 1) = false := by simp; omega
        have e2 : decide (1000000000000000000 < d) = false := by simp; omega
        have e3 : decide (n < -1000000000000000000) = true := by simp; omega
        go_enter Try.func46, Try.ntmps46
        go_wp2
        go_quiet (fail)
        go_wp2
        go_ret
        exact ⟨by rw [H.out]; rfl, ((Below.refl _ _).alloc (Nat.le_refl _) _).trans ((below_drewN _ _).mono (by simp))⟩
    · have H := Lib.hid (fchk_no (n := n) (d := d) (by omega))
      have e1 : decide (d < 1) = false := by simp; omega
      have e2 : decide (1000000000000000000 < d) = true := by simp; omega
      go_enter Try.func46, Try.ntmps46
      go_wp2
      go_quiet (fail)
      go_wp2
      go_ret
      exact ⟨by rw [H.out]; rfl, ((Below.refl _ _).alloc (Nat.le_refl _) _).trans ((below_drewN _ _).mono (by simp))⟩
  · have H := Lib.hid (fchk_no (n := n) (d := d) (by omega))
    have e1 : decide (d < 1) = true := by simp; omega
    go_enter Try.func46, Try.ntmps46
    go_wp2
    go_quiet (fail)
    go_wp2
    go_ret
    exact ⟨by rw [H.out]; rfl, ((Below.refl _ _).alloc (Nat.le_refl _) _).trans ((below_drewN _ _).mono (by simp))⟩

end Go.Proofs.Ythlcmlngmcoknaa
