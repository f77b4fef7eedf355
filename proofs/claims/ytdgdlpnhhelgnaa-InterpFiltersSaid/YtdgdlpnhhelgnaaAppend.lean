/- What is proved here: what an append of one element to a row of the call's own leaves. Condition: the row has fewer than a million elements of at most 100 bytes. -/
import Derived.Test.YtdgdlpnhhelgnaaRegion
namespace Go.Proofs.Ytdgdlpnhhelgnaa
open Go.RowKit

section
variable {P : Program} {ops : Array Oper} {rest : List Oper} {o : Oper} {a : Act} {Q : Exit → Act → World → Prop}

/-- 'out = append(out, y)': out is nil or a row of the call's own from block B on; y lies in a block of its own. -/
theorem wpList_app (W : World) (hgd : o.guard = none) (s x : Operand) (t : TypeId) (ho : o.op = .call { callee := .builtin .append, args := #[s, x], argTypes := #[t, t] })
    (B : Nat) (T : TypeId) (size bytes : Nat) (z : Value) (ht : P.underlying t = some (.slice T)) (hi : (P.info? T).map (fun i => (i.zero, i.size, i.bytes)) = some (some z, size, bytes)) (hz : z.cells.size = size) (hsz : 0 < size) (hby : bytes ≤ 100)
    (ov : Value) (k : Nat) (cs : List Value) (hs : a.eval s = ov) (ow : W.ownsRow B T size ov k cs) (hk : k < 1000000) (hB : B ≤ W.heap.size)
    (p : Nat) (ys : List Value) (fr : Nat × Nat) (hx : a.eval x = .slice (some ⟨p, 0, none⟩) 1 1) (hp : W.heap[p]? = some (.cells ys.toArray T fr)) (hy : ys.length = size) (h1 : ∀ u ∈ ys, u.oneCell' = true)
    (h : ∀ g cap w2, w2.ownsRow B T size (.slice (some ⟨g, 0, none⟩) (k + 1) cap) (k + 1) (cs ++ ys) → B ≤ g → Below B W w2 → wpList P ops Q rest (a.put o.dst (.slice (some ⟨g, 0, none⟩) (k + 1) cap)) w2) :
    wpList P ops Q (o :: rest) a W := by
  obtain ⟨i0, hi0, hz0, hz1, hz2⟩ := info_parts hi
  refine wpList_append_lies W hgd s x t ho B T i0 z size bytes ht hi0 hz0 hz1 hz2 hz hsz ov k cs hs ow ⟨p, 0, none⟩ 1 1 ys hx (by omega) (World.news_of_block (cs := ys.toArray) (t := T) (fr := fr) hp) h1 (by omega) (by unfold maxLen; omega)
    (by
      have : (k + 1) * bytes ≤ 1000000 * 100 := Nat.mul_le_mul (by omega) hby
      omega) hB _ rfl ?_
  intro g cap w2 hown hgrow hat hlt
  have hov : ∀ b, ov.ownBlock = some b → B ≤ b := fun b hb => by
    obtain ⟨_, h2⟩ := ow
    rcases h2 with ⟨h2, _⟩ | ⟨g', cap', cur, h2, h3, _⟩
    · rw [h2] at hb; cases hb
    · rw [h2] at hb; simp only [Value.ownBlock, Option.some.injEq] at hb; omega
  have hg : B ≤ g := by
    rcases hat with hat | hat
    · exact hov g hat
    · omega
  exact h g cap w2 hown hg ((Below.refl B W).grown hgrow hB hov)
end

theorem below_cell_at {B : Nat} {w w' : World} (hb : Below B w w') {b o : Nat} {v : Value} (hlt : b < B) (h : w.cell? ⟨b, o, none⟩ = some v) : w'.cell? ⟨b, o, none⟩ = some v := (hb.cell (p := ⟨b, o, none⟩) hlt).trans h
theorem below_frozen_at {B : Nat} {w w' : World} (hb : Below B w w') {b o : Nat} {x : Bool} (hlt : b < B) (h : w.frozen? ⟨b, o, none⟩ = x) : w'.frozen? ⟨b, o, none⟩ = x := (hb.frozen (p := ⟨b, o, none⟩) hlt).trans h
theorem Own.at {B : Nat} {w w' : World} {g : Nat} {T : TypeId} {cs : List Value} (h : Own w g T cs) (hb : Below B w w') (hlt : g < B) : Own w' g T cs := by
  unfold Own at *; rw [hb.block g hlt]; exact h
/-- A row of the call's own, as a slice. -/
theorem owns_sl {w : World} {B : Nat} {T : TypeId} {size : Nat} {v : Value} {n : Nat} {cs : List Value} (h : w.ownsRow B T size v n cs) (hn : n ≤ 9223372036854775807) : Sl w v n cs := by
  obtain ⟨hl, h2⟩ := h
  rcases h2 with ⟨rfl, rfl⟩ | ⟨g, cap, cur, rfl, hg, hh, hc, hm, hsz, ht⟩
  · have : cs = [] := List.eq_nil_of_length_eq_zero (by simpa using hl)
    subst this
    exact ⟨none, 0, rfl, Nat.le_refl _, hn, fun i x hx => by simp at hx⟩
  · refine ⟨_, cap, rfl, hc, hn, fun i x hx => ⟨g, 0, rfl, ?_⟩⟩
    have hi : i < n * size := by
      rw [← hl]
      rcases Nat.lt_or_ge i cs.length with h | h
      · exact h
      · simp [h] at hx
    rw [← ht] at hx
    simp only [World.cell?, hh, Nat.zero_add]
    rw [List.getElem?_take_of_lt hi] at hx
    simpa using hx
theorem owns_frv {w : World} {B : Nat} {T : TypeId} {size : Nat} {v : Value} {n : Nat} {cs : List Value} (h : w.ownsRow B T size v n cs) : Frv B v := by
  obtain ⟨_, h2⟩ := h
  rcases h2 with ⟨rfl, _⟩ | ⟨g, cap, cur, rfl, hg, _⟩
  · trivial
  · exact hg
theorem owns_at {w w' : World} {B : Nat} {T : TypeId} {size : Nat} {v : Value} {n : Nat} {cs : List Value} (h : w.ownsRow B T size v n cs) (hb : Below w.heap.size w w') : w'.ownsRow B T size v n cs := by
  obtain ⟨hl, h2⟩ := h
  refine ⟨hl, ?_⟩
  rcases h2 with h2 | ⟨g, cap, cur, h3, hg, hh, r⟩
  · exact .inl h2
  · exact .inr ⟨g, cap, cur, h3, hg, below_heap hb hh, r⟩
theorem owns_set_low {w : World} {B : Nat} {T : TypeId} {size : Nat} {v : Value} {n : Nat} {cs : List Value} (h : w.ownsRow B T size v n cs) {p : Addr} (hp : p.block < B) (x : Value) : (w.setCell p x).ownsRow B T size v n cs := ownsRow_setCell_below h hp x

end Go.Proofs.Ytdgdlpnhhelgnaa
