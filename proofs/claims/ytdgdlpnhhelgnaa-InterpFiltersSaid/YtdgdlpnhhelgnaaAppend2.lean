/- What is proved here: what 'append([]T{}, xs...)' leaves. Condition: at most a million elements. -/
import Derived.Test.YtdgdlpnhhelgnaaAppend
import Derived.Maps.AppendAt
namespace Go.Proofs.Ytdgdlpnhhelgnaa
open Go.RowKit

section
variable {P : Program} {ops : Array Oper} {o : Oper} {a : Act} {Q : Exit → Act → World → Prop} {K : Act → World → Prop} {E : Prop}

theorem run_append_nothing (W : World) (base : Nat) (t ty e : TypeId) (i : TypeInfo) (size : Nat) (ht : P.underlying t = some (.slice e)) (hi : P.info? e = some i)
    (v : Value) (n c : Nat) (xs : List Value) (hown : W.ownsRow base e size v n xs) :
    (Builtin.append_ #[t, t] ty #[v, .slice none 0 c]).run P W = .ok v W := by
  rcases hown.2 with ⟨rfl, rfl⟩ | ⟨g, cap, cur, rfl, _, _, hnc, _⟩
  · simp [Builtin.append_, run_underlying ht, sizeOf, typeInfo, hi, Builtin.lenOf, Builtin.firstCells]
  · simp [Builtin.append_, run_underlying ht, sizeOf, typeInfo, hi, Builtin.lenOf, Builtin.firstCells, hnc, storeCells]

/-- 'append([]T{}, v...)': what comes out lies in block p or in a new one; no other block has changed. -/
theorem run_own (W : World) (t ty T : TypeId) (size bytes : Nat) (z : Value) (ht : P.underlying t = some (.slice T)) (hi : (P.info? T).map (fun i => (i.zero, i.size, i.bytes)) = some (some z, size, bytes)) (hz : z.cells.size = size) (hsz : 0 < size) (hby : bytes ≤ 100)
    (p : Nat) (hp : W.heap[p]? = some (.cells #[] T (0, 0))) (v : Value) (n : Nat) (cs : List Value) (hv : Sl W v n cs) (hl : cs.length = n * size) (h1 : ∀ u ∈ cs, u.oneCell' = true) (hn : n ≤ 1000000) :
    ∃ g cap w', (Builtin.append_ #[t, t] ty #[.slice (some ⟨p, 0, none⟩) 0 0, v]).run P W = .ok (.slice (some ⟨g, 0, none⟩) n cap) w' ∧ w'.ownsRow p T size (.slice (some ⟨g, 0, none⟩) n cap) n cs ∧ (g = p ∨ g = W.heap.size) ∧ W.grownBy w' (some p) := by
  obtain ⟨i0, hi0, hz0, hz1, hz2⟩ := info_parts hi
  have hown : W.ownsRow p T size (.slice (some ⟨p, 0, none⟩) 0 0) 0 [] := ⟨by simp, .inr ⟨p, 0, #[], rfl, Nat.le_refl _, hp, Nat.le_refl _, by unfold maxLen; omega, by simp, by simp⟩⟩
  have hpl : p < W.heap.size := (Array.getElem?_eq_some_iff.1 hp).1
  obtain ⟨ad, c, rfl, h2, h3, h4⟩ := hv
  cases ad with
  | none =>
    have hn0 : cs = [] := by
      cases cs with
      | nil => rfl
      | cons x cs => obtain ⟨b, off, hb, _⟩ := h4 0 x rfl; cases hb
    have hn1 : n = 0 := by
      subst hn0
      simp only [List.length_nil] at hl
      rcases Nat.eq_zero_or_pos n with h | h
      · exact h
      · have := Nat.mul_pos h hsz; omega
    subst hn0 hn1
    exact ⟨p, 0, W, run_append_nothing W p t ty T i0 size ht hi0 _ 0 c [] hown, hown, .inl rfl, ⟨rfl, rfl, rfl, Nat.le_refl _, fun _ _ _ => rfl⟩⟩
  | some ad =>
    have hb : n * bytes ≤ 140737488355328 := by
      have : n * bytes ≤ 1000000 * 100 := Nat.mul_le_mul hn hby
      omega
    have hnews : ∀ j u, cs[j]? = some u → W.cell? (ad.add j) = some u := fun j u hj => by
      obtain ⟨b, off, e, hc⟩ := h4 j u hj
      simp only [Option.some.injEq] at e
      subst e
      unfold Addr.add
      split
      · rename_i hj0; subst hj0; exact hc
      · exact hc
    obtain ⟨v', w', hr, ho, hg, hnil, hat⟩ := run_append_own_at W p t ty T i0 z size bytes ht hi0 hz0 hz1 hz2 hz hsz _ 0 [] hown ad n c cs hl hnews h1 (by unfold maxLen; omega) (by rw [Nat.zero_add]; exact hb) (by omega)
    rw [Nat.zero_add, List.nil_append] at ho
    have ho' := ho
    obtain ⟨_, ho2⟩ := ho
    rcases ho2 with ⟨hv', hn0⟩ | ⟨g, cap, cur, hv', _⟩
    · have := (hnil.1 hv').1; cases this
    · subst hv'
      refine ⟨g, cap, w', hr, ho', ?_, hg⟩
      simp only [Value.ownBlock, Option.some.injEq] at hat
      exact hat

theorem wp_own (W : World) (s x : Operand) (t : TypeId) (ho : o.op = .call { callee := .builtin .append, args := #[s, x], argTypes := #[t, t] })
    (T : TypeId) (size bytes : Nat) (z : Value) (ht : P.underlying t = some (.slice T)) (hi : (P.info? T).map (fun i => (i.zero, i.size, i.bytes)) = some (some z, size, bytes)) (hz : z.cells.size = size) (hsz : 0 < size) (hby : bytes ≤ 100)
    (p : Nat) (hs : a.eval s = .slice (some ⟨p, 0, none⟩) 0 0) (hp : W.heap[p]? = some (.cells #[] T (0, 0))) (v : Value) (n : Nat) (cs : List Value) (hx : a.eval x = v) (hv : Sl W v n cs) (hl : cs.length = n * size) (h1 : ∀ u ∈ cs, u.oneCell' = true) (hn : n ≤ 1000000)
    (h : ∀ g cap w', w'.ownsRow p T size (.slice (some ⟨g, 0, none⟩) n cap) n cs → (g = p ∨ g = W.heap.size) → W.grownBy w' (some p) → K (a.put o.dst (.slice (some ⟨g, 0, none⟩) n cap)) w') : Oper.wp P o a W K Q := by
  obtain ⟨g, cap, w', hr, h2, h3, h4⟩ := run_own (P := P) W t o.type T size bytes z ht hi hz hsz hby p hp v n cs hv hl h1 hn
  unfold Oper.wp execOp
  simp only [ho, resolve, invoke, builtin, Sem.run_bind, Sem.run_pure, Result.andThen_ok, List.map_toArray, List.map_cons, List.map_nil, hs, hx, hr]
  exact h g cap w' h2 h3 h4

/-- At a step of a region that draws its order. -/
theorem step_own (W : World) (hgd : o.guard = none) (s x : Operand) (t : TypeId) (ho : o.op = .call { callee := .builtin .append, args := #[s, x], argTypes := #[t, t] })
    (T : TypeId) (size bytes : Nat) (z : Value) (ht : P.underlying t = some (.slice T)) (hi : (P.info? T).map (fun i => (i.zero, i.size, i.bytes)) = some (some z, size, bytes)) (hz : z.cells.size = size) (hsz : 0 < size) (hby : bytes ≤ 100)
    (p : Nat) (hs : a.eval s = .slice (some ⟨p, 0, none⟩) 0 0) (hp : W.heap[p]? = some (.cells #[] T (0, 0))) (v : Value) (n : Nat) (cs : List Value) (hx : a.eval x = v) (hv : Sl W v n cs) (hl : cs.length = n * size) (h1 : ∀ u ∈ cs, u.oneCell' = true) (hn : n ≤ 1000000)
    (h : ∀ g cap w', w'.ownsRow p T size (.slice (some ⟨g, 0, none⟩) n cap) n cs → (g = p ∨ g = W.heap.size) → W.grownBy w' (some p) → K (a.put o.dst (.slice (some ⟨g, 0, none⟩) n cap)) w') :
    if Region.wanted o (yielded ops a.tmps) = true then Oper.wp P o a W K Q else E := by
  have hw : Region.wanted o (yielded ops a.tmps) = true := by simp [Region.wanted, hgd]
  rw [if_pos hw]
  obtain ⟨g, cap, w', hr, h2, h3, h4⟩ := run_own (P := P) W t o.type T size bytes z ht hi hz hsz hby p hp v n cs hv hl h1 hn
  unfold Oper.wp execOp
  simp only [ho, resolve, invoke, builtin, Sem.run_bind, Sem.run_pure, Result.andThen_ok, List.map_toArray, List.map_cons, List.map_nil, hs, hx, hr]
  exact h g cap w' h2 h3 h4
theorem wpList_own {rest : List Oper} (W : World) (hgd : o.guard = none) (s x : Operand) (t : TypeId) (ho : o.op = .call { callee := .builtin .append, args := #[s, x], argTypes := #[t, t] })
    (T : TypeId) (size bytes : Nat) (z : Value) (ht : P.underlying t = some (.slice T)) (hi : (P.info? T).map (fun i => (i.zero, i.size, i.bytes)) = some (some z, size, bytes)) (hz : z.cells.size = size) (hsz : 0 < size) (hby : bytes ≤ 100)
    (p : Nat) (hs : a.eval s = .slice (some ⟨p, 0, none⟩) 0 0) (hp : W.heap[p]? = some (.cells #[] T (0, 0))) (v : Value) (n : Nat) (cs : List Value) (hx : a.eval x = v) (hv : Sl W v n cs) (hl : cs.length = n * size) (h1 : ∀ u ∈ cs, u.oneCell' = true) (hn : n ≤ 1000000)
    (h : ∀ g cap w', w'.ownsRow p T size (.slice (some ⟨g, 0, none⟩) n cap) n cs → (g = p ∨ g = W.heap.size) → W.grownBy w' (some p) → wpList P ops Q rest (a.put o.dst (.slice (some ⟨g, 0, none⟩) n cap)) w') :
    wpList P ops Q (o :: rest) a W := by
  unfold wpList
  have hw : Region.wanted o (yielded ops a.tmps) = true := by simp [Region.wanted, hgd]
  rw [if_pos hw]
  exact .inl (wp_own W s x t ho T size bytes z ht hi hz hsz hby p hs hp v n cs hx hv hl h1 hn h)
end

theorem grown_low {W w' : World} {p B b o : Nat} {v : Value} (hg : W.grownBy w' (some p)) (hB : B ≤ p) (hb : b < B) (h : W.cell? ⟨b, o, none⟩ = some v) : w'.cell? ⟨b, o, none⟩ = some v :=
  (World.cell?_of_block (hg.block b (World.block_lt_of_cell? W _ h) (by simp; omega))).trans h
theorem grown_below {W w' : World} {p B : Nat} {w : World} (hg : W.grownBy w' (some p)) (hB : B ≤ p) (h : Below B w W) (hs : B ≤ W.heap.size) : Below B w w' :=
  h.grown hg hs (fun k hk => by simp only [Option.some.injEq] at hk; omega)
theorem grown_own {W w' : World} {p b : Nat} {T : TypeId} {cs : List Value} (hg : W.grownBy w' (some p)) (hne : b ≠ p) (h : Own W b T cs) : Own w' b T cs := by
  unfold Own at *; rw [hg.block b (Array.getElem?_eq_some_iff.1 h).1 (by simpa using hne)]; exact h

theorem one_bools (xs : List Bool) : ∀ u ∈ xs.map Value.bool, u.oneCell' = true := fun u hu => by
  obtain ⟨b, _, rfl⟩ := List.mem_map.1 hu; rfl
theorem one_ints (xs : List Int) : ∀ u ∈ xs.map (Value.int .i64), u.oneCell' = true := fun u hu => by
  obtain ⟨b, _, rfl⟩ := List.mem_map.1 hu; rfl

end Go.Proofs.Ytdgdlpnhhelgnaa
