/- What is proved here: contracts of functions and plain facts, several texts in one; each one says ahead what it proves, and its conditions. -/
import Derived.Test.YthlcmlngmcoknaaC01
import Derived.Test.YthlcmlngmcoknaaC02
/- What is proved here: an append of a slice to a row of the call's own; other blocks stay as they are. Condition: at most a million elements of at most 100 bytes. -/
namespace Go.Proofs.Ythlcmlngmcoknaa
open Go.RowKit

section
variable {P : Program} {ops : Array Oper} {rest : List Oper} {o : Oper} {a : Act} {Q : Exit → Act → World → Prop} {K : Act → World → Prop} {t : TypeId}
/-- What an append to the row ov, of which v' comes out, leaves as it was. -/
structure Kept (W w2 : World) (ov v' : Value) : Prop where
  grown : W.grownBy w2 ov.ownBlock
  new : v'.ownBlock = ov.ownBlock ∨ v'.ownBlock = some W.heap.size
theorem Kept.row {W w2 : World} {ov v' : Value} (h : Kept W w2 ov v') {B size n : Nat} {T : TypeId} {v : Value} {cs : List Value} (hr : W.ownsRow B T size v n cs) (ha : Apart v ov) : w2.ownsRow B T size v n cs := by
  refine hr.kept h.grown ?_
  cases hv : v.ownBlock with
  | none => exact .inl rfl
  | some b => exact .inr fun e => ha b hv e.symm
theorem row_lt {W : World} {B size n : Nat} {T : TypeId} {v : Value} {cs : List Value} (hr : W.ownsRow B T size v n cs) {b : Nat} (hb : v.ownBlock = some b) : B ≤ b ∧ b < W.heap.size := by
  obtain ⟨_, h3⟩ := hr
  rcases h3 with ⟨h4, _⟩ | ⟨g', cap'', cur, h4, h6, h5, _⟩
  · rw [h4] at hb; cases hb
  · rw [h4] at hb
    simp only [Value.ownBlock, Option.some.injEq] at hb
    have := (Array.getElem?_eq_some_iff.1 h5).1
    omega
theorem Kept.apart {W w2 : World} {ov v' : Value} (h : Kept W w2 ov v') {B size n : Nat} {T : TypeId} {v : Value} {cs : List Value} (hr : W.ownsRow B T size v n cs) (ha : Apart v ov) : Apart v v' := fun b h1 h2 => by
  rcases h.new with h3 | h3
  · exact ha b h1 (by rw [← h3]; exact h2)
  · rw [h3] at h2
    simp only [Option.some.injEq] at h2
    have := (row_lt hr h1).2
    omega
theorem Kept.below {W w2 : World} {ov v' : Value} (h : Kept W w2 ov v') {B : Nat} (hB : B ≤ W.heap.size) (ho : ∀ b, ov.ownBlock = some b → B ≤ b) : Below B W w2 := (Below.refl B W).grown h.grown hB ho
theorem run_apps (W : World) (ty : TypeId) (B : Nat) (T : TypeId) (size bytes : Nat) (z : Value) (ht : P.underlying t = some (.slice T)) (hi : (P.info? T).map (fun i => (i.zero, i.size, i.bytes)) = some (some z, size, bytes)) (hz : z.cells.size = size) (hsz : 0 < size) (hby : bytes ≤ 100)
    (ov : Value) (k : Nat) (xs : List Value) (ow : W.ownsRow B T size ov k xs) (hB : B ≤ W.heap.size) (v : Value) (n : Nat) (cs : List Value) (hv : Sl W v n cs) (hl : cs.length = n * size) (h1 : ∀ u ∈ cs, u.oneCell' = true) (hn : k + n ≤ 1000000) :
    ∃ v' w', (Builtin.append_ #[t, t] ty #[ov, v]).run P W = .ok v' w' ∧ w'.ownsRow B T size v' (k + n) (xs ++ cs) ∧ Kept W w' ov v' := by
  obtain ⟨i0, hi0, hz0, hz1, hz2⟩ := info_parts hi
  obtain ⟨ad, c, rfl, h2, h3, h4⟩ := hv
  cases ad with
  | none =>
    have hn0 : cs = [] := by
      cases cs with
      | nil => rfl
      | cons x cs => obtain ⟨b, off, hb, _⟩ := h4 0 x rfl; cases hb
    have hn1 : n = 0 := by
      subst hn0
      simp only [List.length_nil] at hl
      rcases Nat.eq_zero_or_pos n with h | h
      · exact h
      · have := Nat.mul_pos h hsz; omega
    subst hn0 hn1
    rw [List.append_nil, Nat.add_zero]
    exact ⟨ov, W, run_append_nothing W B t ty T i0 size ht hi0 ov k c xs ow, ow, ⟨⟨rfl, rfl, rfl, Nat.le_refl _, fun _ _ _ => rfl⟩, .inl rfl⟩⟩
  | some ad =>
    have hb : (k + n) * bytes ≤ 140737488355328 := by
      have : (k + n) * bytes ≤ 1000000 * 100 := Nat.mul_le_mul hn hby
      omega
    have hnews : ∀ j u, cs[j]? = some u → W.cell? (ad.add j) = some u := fun j u hj => by
      obtain ⟨b, off, e, hc⟩ := h4 j u hj
      simp only [Option.some.injEq] at e
      subst e
      unfold Addr.add
      split
      · rename_i hj0; subst hj0; exact hc
      · exact hc
    obtain ⟨v', w', hr, ho, hg, _, hat⟩ := run_append_own_at W B t ty T i0 z size bytes ht hi0 hz0 hz1 hz2 hz hsz ov k xs ow ad n c cs hl hnews h1 (by unfold maxLen; omega) hb hB
    exact ⟨v', w', hr, ho, hg, hat⟩
theorem wp_apps (W : World) (s x : Operand) (ho : o.op = .call { callee := .builtin .append, args := #[s, x], argTypes := #[t, t] })
    (B : Nat) (T : TypeId) (size bytes : Nat) (z : Value) (ht : P.underlying t = some (.slice T)) (hi : (P.info? T).map (fun i => (i.zero, i.size, i.bytes)) = some (some z, size, bytes)) (hz : z.cells.size = size) (hsz : 0 < size) (hby : bytes ≤ 100)
    (ov : Value) (k : Nat) (xs : List Value) (hs : a.eval s = ov) (ow : W.ownsRow B T size ov k xs) (hB : B ≤ W.heap.size) (v : Value) (n : Nat) (cs : List Value) (hx : a.eval x = v) (hv : Sl W v n cs) (hl : cs.length = n * size) (h1 : ∀ u ∈ cs, u.oneCell' = true) (hn : k + n ≤ 1000000)
    (h : ∀ v' w', w'.ownsRow B T size v' (k + n) (xs ++ cs) → Kept W w' ov v' → K (a.put o.dst v') w') : Oper.wp P o a W K Q := by
  obtain ⟨v', w', hr, h2, h3⟩ := run_apps (P := P) (t := t) W o.type B T size bytes z ht hi hz hsz hby ov k xs ow hB v n cs hv hl h1 hn
  unfold Oper.wp execOp
  simp only [ho, resolve, invoke, builtin, Sem.run_bind, Sem.run_pure, Result.andThen_ok, List.map_toArray, List.map_cons, List.map_nil, hs, hx, hr]
  exact h v' w' h2 h3
theorem wpList_apps (W : World) (hgd : o.guard = none) (s x : Operand) (t : TypeId) (ho : o.op = .call { callee := .builtin .append, args := #[s, x], argTypes := #[t, t] })
    (B : Nat) (T : TypeId) (size bytes : Nat) (z : Value) (ht : P.underlying t = some (.slice T)) (hi : (P.info? T).map (fun i => (i.zero, i.size, i.bytes)) = some (some z, size, bytes)) (hz : z.cells.size = size) (hsz : 0 < size) (hby : bytes ≤ 100)
    (ov : Value) (k : Nat) (xs : List Value) (hs : a.eval s = ov) (ow : W.ownsRow B T size ov k xs) (hB : B ≤ W.heap.size) (v : Value) (n : Nat) (cs : List Value) (hx : a.eval x = v) (hv : Sl W v n cs) (hl : cs.length = n * size) (h1 : ∀ u ∈ cs, u.oneCell' = true) (hn : k + n ≤ 1000000)
    (h : ∀ v' w', w'.ownsRow B T size v' (k + n) (xs ++ cs) → Kept W w' ov v' → wpList P ops Q rest (a.put o.dst v') w') : wpList P ops Q (o :: rest) a W := by
  unfold wpList
  have hw : Region.wanted o (yielded ops a.tmps) = true := by simp [Region.wanted, hgd]
  rw [if_pos hw]
  exact .inl (wp_apps W s x ho B T size bytes z ht hi hz hsz hby ov k xs hs ow hB v n cs hx hv hl h1 hn h)
end
/-- A part of a slice. -/
theorem Sl.part {w : World} {b o cap : Nat} {n : Nat} {cs : List Value} (h : Sl w (.slice (some ⟨b, o, none⟩) n cap) n cs) (hl : cs.length = n) (i j c : Nat) (hij : i ≤ j) (hj : j ≤ n) (hc : j - i ≤ c) : Sl w (.slice (some ⟨b, o + i, none⟩) (j - i) c) (j - i) ((cs.drop i).take (j - i)) := by
  obtain ⟨ad, cap', e, h1, h2, h3⟩ := h
  cases e
  refine ⟨_, c, rfl, hc, by omega, fun k x hx => ⟨b, o + i, rfl, ?_⟩⟩
  have hk : k < j - i := by
    rcases Nat.lt_or_ge k (j - i) with h | h
    · exact h
    · rw [List.getElem?_eq_none (by simp; omega)] at hx; cases hx
  rw [List.getElem?_take_of_lt hk, List.getElem?_drop] at hx
  obtain ⟨b', o', e, hc'⟩ := h3 (i + k) x hx
  cases e
  rw [Nat.add_assoc]; exact hc'
end Go.Proofs.Ythlcmlngmcoknaa

/- What is proved here: lists of rows of whole numbers that a call makes by appends: each row lies in a block of its own. No condition. -/
namespace Go.Proofs.Ythlcmlngmcoknaa
open Go.RowKit

def RowsB (w : World) (B : Nat) (Ti Tr : TypeId) (ov : Value) (k : Nat) (R : Nat → List Int) (vs : List Value) : Prop :=
  w.ownsRow B Tr 1 ov k vs ∧ ∀ i, i < k → ∃ u, vs[i]? = some u ∧ w.ownsRow B Ti 1 u (R i).length (ics (R i)) ∧ Apart u ov ∧ ∀ j, j < i → ∀ u', vs[j]? = some u' → Apart u' u
theorem rowsB_nil (w : World) (B : Nat) (Ti Tr : TypeId) (R : Nat → List Int) : RowsB w B Ti Tr (.slice none 0 0) 0 R [] := ⟨World.ownsRow_nil _ _ _ _, fun i h => absurd h (Nat.not_lt_zero _)⟩
theorem RowsB.below {w w' : World} {B : Nat} {Ti Tr : TypeId} {ov : Value} {k : Nat} {R : Nat → List Int} {vs : List Value} (h : RowsB w B Ti Tr ov k R vs) (hb : Below w.heap.size w w') : RowsB w' B Ti Tr ov k R vs :=
  ⟨owns_at h.1 hb, fun i hi => by obtain ⟨u, h1, h2, h3⟩ := h.2 i hi; exact ⟨u, h1, owns_at h2 hb, h3⟩⟩
theorem owns_mono {w : World} {B B' : Nat} {T : TypeId} {size : Nat} {v : Value} {n : Nat} {cs : List Value} (h : w.ownsRow B T size v n cs) (hb : B' ≤ B) : w.ownsRow B' T size v n cs := by
  obtain ⟨h1, h2⟩ := h
  refine ⟨h1, ?_⟩
  rcases h2 with h2 | ⟨g, cap, cur, e, h3, h4⟩
  · exact .inl h2
  · exact .inr ⟨g, cap, cur, e, by omega, h4⟩
theorem apart_new {w w' : World} {B size n size' n' : Nat} {T T' : TypeId} {v u : Value} {cs cs' : List Value} (h : w.ownsRow B T size v n cs) (h' : w'.ownsRow w.heap.size T' size' u n' cs') : Apart v u := fun b h1 h2 => by
  have a := (row_lt h h1).2
  have c := (row_lt h' h2).1
  omega
/-- One more row. -/
theorem RowsB.push {Y0 W w2 : World} {B : Nat} {Ti Tr : TypeId} {ov rv : Value} {k g cap : Nat} {R : Nat → List Int} {vs : List Value} (h0 : RowsB Y0 B Ti Tr ov k R vs) (hB : B ≤ Y0.heap.size) (hb : Below Y0.heap.size Y0 W)
    (hr : W.ownsRow Y0.heap.size Ti 1 rv (R k).length (ics (R k))) (hown : w2.ownsRow B Tr 1 (.slice (some ⟨g, 0, none⟩) (k + 1) cap) (k + 1) (vs ++ [rv])) (hk : Keep B W w2 ov g) :
    RowsB w2 B Ti Tr (.slice (some ⟨g, 0, none⟩) (k + 1) cap) (k + 1) R (vs ++ [rv]) := by
  have hl : vs.length = k := by have := h0.1.1; omega
  have aov : Apart rv ov := (apart_new h0.1 hr).symm
  have hr' := owns_mono hr hB
  refine ⟨hown, fun i hi => ?_⟩
  rcases Nat.lt_or_ge i k with h1 | h1
  · obtain ⟨u, e1, e2, e3, e4⟩ := h0.2 i h1
    have e2' := owns_at e2 hb
    refine ⟨u, by rw [List.getElem?_append_left (by omega)]; exact e1, hk.row e2' e3, hk.apart e2' e3 _ _, fun j hj u' hu' => ?_⟩
    rw [List.getElem?_append_left (by omega)] at hu'
    exact e4 j hj u' hu'
  · obtain rfl : i = k := by omega
    refine ⟨rv, by rw [List.getElem?_append_right (by omega), hl]; simp, hk.row hr' aov, hk.apart hr' aov _ _, fun j hj u' hu' => ?_⟩
    rw [List.getElem?_append_left (by omega)] at hu'
    obtain ⟨u, e1, e2, _, _⟩ := h0.2 j hj
    rw [e1] at hu'
    cases hu'
    exact apart_new e2 hr
theorem owns_SI' {w : World} {B : Nat} {T : TypeId} {v : Value} {xs : List Int} (h : w.ownsRow B T 1 v xs.length (ics xs)) (hn : xs.length ≤ 9223372036854775807) : SI w v xs := owns_sl h hn
/-- The rows as a slice of slices. -/
theorem RowsB.ss {w : World} {B : Nat} {Ti Tr : TypeId} {ov : Value} {k : Nat} {R : Nat → List Int} {vs : List Value} (h : RowsB w B Ti Tr ov k R vs) (hk : k ≤ 1000) (hR : ∀ i, i < k → (R i).length ≤ 1000) : SS w ov ((List.range k).map R) := by
  have hl : vs.length = k := by have := h.1.1; omega
  refine ⟨vs, by simp [hl], by rw [List.length_map, List.length_range]; exact owns_sl h.1 (by omega), fun i hi hi' => ?_⟩
  have hik : i < k := by omega
  obtain ⟨u, e1, e2, _⟩ := h.2 i hik
  have e : vs[i] = u := by rw [List.getElem?_eq_getElem hi'] at e1; exact Option.some.inj e1
  have e' : ((List.range k).map R)[i] = R i := by simp
  rw [e, e']
  exact owns_SI' e2 (by have := hR i hik; omega)
end Go.Proofs.Ythlcmlngmcoknaa
