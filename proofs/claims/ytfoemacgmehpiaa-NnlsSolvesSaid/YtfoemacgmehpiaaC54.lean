/- What is proved here: contracts of functions and plain facts, several texts in one; each one says ahead what it proves, and its conditions. -/
import Derived.Test.YtfoemacgmehpiaaC01
/- What is proved here: an append of one element to a row of the call's own leaves the other rows of the call's own as they are. Condition: the rows lie apart; fewer than a million elements of at most 100 bytes. -/
namespace Go.Proofs.Ytfoemacgmehpiaa
open Go.RowKit

/-- Two slices that do not lie in one block. -/
def Apart (v u : Value) : Prop := ∀ b, v.ownBlock = some b → u.ownBlock = some b → False
theorem Apart.symm {v u : Value} (h : Apart v u) : Apart u v := fun b h1 h2 => h b h2 h1
theorem apart_nil (v : Value) : Apart v (.slice none 0 0) := fun b _ h => by cases h
theorem nil_apart (v : Value) : Apart (.slice none 0 0) v := fun b h _ => by cases h
/-- What an append to the row ov, which then lies in block g, leaves of the other rows. -/
structure Keep (B : Nat) (W w2 : World) (ov : Value) (g : Nat) : Prop where
  row : ∀ {T size v n cs}, W.ownsRow B T size v n cs → Apart v ov → w2.ownsRow B T size v n cs
  apart : ∀ {T size v n cs}, W.ownsRow B T size v n cs → Apart v ov → ∀ k cap, Apart v (.slice (some ⟨g, 0, none⟩) k cap)
section
variable {P : Program} {ops : Array Oper} {rest : List Oper} {o : Oper} {a : Act} {Q : Exit → Act → World → Prop}
theorem wpList_app3 (W : World) (hgd : o.guard = none) (s x : Operand) (t : TypeId) (ho : o.op = .call { callee := .builtin .append, args := #[s, x], argTypes := #[t, t] })
    (B : Nat) (T : TypeId) (size bytes : Nat) (z : Value) (ht : P.underlying t = some (.slice T)) (hi : (P.info? T).map (fun i => (i.zero, i.size, i.bytes)) = some (some z, size, bytes)) (hz : z.cells.size = size) (hsz : 0 < size) (hby : bytes ≤ 100)
    (ov : Value) (k : Nat) (cs : List Value) (hs : a.eval s = ov) (ow : W.ownsRow B T size ov k cs) (hk : k < 1000000) (hB : B ≤ W.heap.size)
    (p : Nat) (ys : List Value) (fr : Nat × Nat) (hx : a.eval x = .slice (some ⟨p, 0, none⟩) 1 1) (hp : W.heap[p]? = some (.cells ys.toArray T fr)) (hy : ys.length = size) (h1 : ∀ u ∈ ys, u.oneCell' = true)
    (h : ∀ g cap w2, w2.ownsRow B T size (.slice (some ⟨g, 0, none⟩) (k + 1) cap) (k + 1) (cs ++ ys) → B ≤ g → Below B W w2 → Keep B W w2 ov g → wpList P ops Q rest (a.put o.dst (.slice (some ⟨g, 0, none⟩) (k + 1) cap)) w2) :
    wpList P ops Q (o :: rest) a W := by
  obtain ⟨i0, hi0, hz0, hz1, hz2⟩ := info_parts hi
  refine wpList_append_lies W hgd s x t ho B T i0 z size bytes ht hi0 hz0 hz1 hz2 hz hsz ov k cs hs ow ⟨p, 0, none⟩ 1 1 ys hx (by omega) (World.news_of_block (cs := ys.toArray) (t := T) (fr := fr) hp) h1 (by omega) (by unfold maxLen; omega)
    (by
      have : (k + 1) * bytes ≤ 1000000 * 100 := Nat.mul_le_mul (by omega) hby
      omega) hB _ rfl ?_
  intro g cap w2 hown hgrow hat hlt
  have hov : ∀ b, ov.ownBlock = some b → B ≤ b := fun b hb => by
    obtain ⟨_, h2⟩ := ow
    rcases h2 with ⟨h2, _⟩ | ⟨g', cap', cur, h2, h3, _⟩
    · rw [h2] at hb; cases hb
    · rw [h2] at hb; simp only [Value.ownBlock, Option.some.injEq] at hb; omega
  have hg : B ≤ g := by
    rcases hat with hat | hat
    · exact hov g hat
    · omega
  refine h g cap w2 hown hg ((Below.refl B W).grown hgrow hB hov) ⟨fun {T' size' v' n' cs'} h2 ha => ?_, fun {T' size' v' n' cs'} h2 ha k' cap' b hb hb2 => ?_⟩
  · refine h2.kept hgrow ?_
    cases hv : v'.ownBlock with
    | none => exact .inl rfl
    | some b => exact .inr fun e => ha b hv e.symm
  · simp only [Value.ownBlock, Option.some.injEq] at hb2
    rcases hat with hat | hat
    · exact ha b hb (by rw [hat, hb2])
    · obtain ⟨_, h3⟩ := h2
      rcases h3 with ⟨h4, _⟩ | ⟨g', cap'', cur, h4, _, h5, _⟩
      · rw [h4] at hb; cases hb
      · rw [h4] at hb
        simp only [Value.ownBlock, Option.some.injEq] at hb
        have := (Array.getElem?_eq_some_iff.1 h5).1
        omega
end
end Go.Proofs.Ytfoemacgmehpiaa
