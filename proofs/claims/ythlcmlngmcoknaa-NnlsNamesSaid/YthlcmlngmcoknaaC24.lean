/- What is proved here: contracts of functions and plain facts, several texts in one; each one says ahead what it proves, and its conditions. -/
import Derived.Test.YthlcmlngmcoknaaC23
import Derived.Test.YthlcmlngmcoknaaC01
import Derived.Test.YthlcmlngmcoknaaC06
/- What is proved here: groups of new slices that come up in any order: what their slots hold, and the steps. No condition. -/
namespace Go.Proofs.Ythlcmlngmcoknaa
open Go.RowKit

/-- A list of numbers, or a list of them. -/
inductive Gs where
  | i (xs : List Int)
  | r (xss : List (List Int))
def Gs.ok : Gs → Value → World → Prop
  | .i xs, v, w => SI w v xs
  | .r xss, v, w => SS w v xss
theorem gs_below {g : Gs} {v : Value} {w w' : World} (h : g.ok v w) (hb : Below w.heap.size w w') : g.ok v w' := by
  cases g with
  | i xs => exact SI.below h hb
  | r xss => exact SS.below h hb
/-- What is known of a group's values. -/
def GF (t : List (Nat × Gs)) (k : Nat) (v : Value) (w : World) : Prop := ∀ g, (k, g) ∈ t → g.ok v w
theorem gf_below {t : List (Nat × Gs)} {k : Nat} {v : Value} {w w' : World} (h : GF t k v w) (hb : Below w.heap.size w w') : GF t k v w' := fun g hg => gs_below (h g hg) hb
section
variable {P : Program} {ops : Array Oper} {Q : Exit → Act → World → Prop} {C : World → Prop} {K : Act → World → Prop}
theorem hold_putL {sl : List (Nat × Value)} : ∀ (e : List (Nat × Value)) (a : Act), (∀ p ∈ e, ∀ x, dstOf ops p.1 = some x → x ∉ sl.map (·.1)) → Hold sl a → Hold sl (putL ops e a)
  | [], _, _, h => h
  | (k, v) :: e, a, he, h => by
    simp only [putL]
    exact hold_put (he (k, v) (by simp)) (hold_putL e a (fun p hp => he p (List.mem_cons_of_mem _ hp)) h)
theorem putL_size : ∀ (e : List (Nat × Value)) (a : Act), (putL ops e a).tmps.size = a.tmps.size
  | [], _ => rfl
  | (k, v) :: e, a => by
    have ih := putL_size e a
    simp only [putL]
    cases hd : dstOf ops k with
    | none => exact ih
    | some d => simp [Act.put, ih]
theorem putL_get {d : Tmp} {k : Nat} {v : Value} : ∀ (e : List (Nat × Value)) (a : Act), (k, v) ∈ e → (e.map (·.1)).Nodup → dstOf ops k = some d → (∀ p ∈ e, p.1 ≠ k → dstOf ops p.1 ≠ some d) → d < a.tmps.size → (putL ops e a).tmps[d]? = some v
  | [], _, h, _, _, _, _ => by cases h
  | (j, u) :: e, a, h, hn, hd, hne, hs => by
    simp only [List.map_cons, List.nodup_cons] at hn
    simp only [putL]
    by_cases hj : j = k
    · subst hj
      rcases List.mem_cons.1 h with h | h
      · cases h
        rw [hd]
        simp only [Act.put]
        exact Array.getElem?_setIfInBounds_self_of_lt (by rw [putL_size]; exact hs)
      · exact absurd (List.mem_map.2 ⟨_, h, rfl⟩) hn.1
    · have hm : (k, v) ∈ e := by
        rcases List.mem_cons.1 h with h | h
        · cases h; exact absurd rfl hj
        · exact h
      have ih := putL_get e a hm hn.2 hd (fun p hp => hne p (List.mem_cons_of_mem _ hp)) hs
      have hjd := hne (j, u) (by simp) hj
      cases hdj : dstOf ops j with
      | none => exact ih
      | some x =>
        simp only [Act.put]
        rw [Array.getElem?_setIfInBounds_ne (fun e => hjd (by rw [← e]; exact hdj))]
        exact ih
/-- An operation of a group, guarded or not. -/
theorem wpOp_hold {k : Nat} {o : Oper} {K' : Act → World → Prop} {a : Act} {w w' : World} {v : Value} (ho : ops[k]? = some o) (hw : Region.wanted o (yielded ops a.tmps) = true)
    (hr : (execOp a.eval o).run P w = .ok (.value v) w') (hk : K' (a.put o.dst v) w') : wpOp P ops Q k K' a w := by
  unfold wpOp
  rw [ho]
  simp only [hw, if_true]
  refine .inl ?_
  unfold Oper.wp
  rw [hr]
  exact hk
theorem wanted_guard {o : Oper} {a : Act} {j : Nat} {b : Bool} {d : Tmp} (hg : o.guard = some (j, b)) (hd : dstOf ops j = some d) (ha : a.tmps[d]? = some (.bool b)) : Region.wanted o (yielded ops a.tmps) = true := by
  unfold Region.wanted yielded
  unfold dstOf at hd
  simp only [hg, hd, Option.bind_some, ha]
  simp
theorem wanted_free {o : Oper} {a : Act} (hg : o.guard = none) : Region.wanted o (yielded ops a.tmps) = true := by unfold Region.wanted; rw [hg]
theorem exec_buildC {o : Oper} {t : TypeId} {n : Nat} {parts : Array (Nat × Operand)} {parts' : Array (Nat × Value)} {a : Act} {w w' : World} {v : Value} (hop : o.op = .buildSlice t n parts) (hp : (parts.map fun (i, x) => (i, a.eval x)) = parts') (hr : (Instr.buildSlice t n parts').run P w = .ok v w') :
    (execOp a.eval o).run P w = .ok (.value v) w' := by
  unfold execOp
  simp only [hop, hp]
  generalize Instr.buildSlice t n parts' = M at hr ⊢
  simp [go_sem, hr]
theorem exec_makeC {o : Oper} {t : TypeId} {x y : Operand} {a : Act} {w w' : World} {v : Value} (hop : o.op = .makeSlice t x y) (hr : (Instr.makeSlice t (a.eval x) (a.eval y)).run P w = .ok v w') : (execOp a.eval o).run P w = .ok (.value v) w' := by
  unfold execOp
  simp only [hop]
  generalize Instr.makeSlice t (a.eval x) (a.eval y) = M at hr ⊢
  simp [go_sem, hr]
theorem eval_slot {a : Act} {d : Nat} {v : Value} (h : a.tmps[d]? = some v) : a.eval (.tmp d) = v := by unfold Act.eval; simp [h]
theorem keys2 {e : List (Nat × Value)} {i j : Nat} (h : e.map (·.1) = [i, j]) : ∃ u v, e = [(i, u), (j, v)] := two_keys h
theorem keys_cons {e : List (Nat × Value)} {i : Nat} {is : List Nat} (h : e.map (·.1) = i :: is) : ∃ u e', e = (i, u) :: e' ∧ e'.map (·.1) = is := by
  cases e with
  | nil => cases h
  | cons p e =>
    simp only [List.map_cons, List.cons.injEq] at h
    obtain ⟨rfl, h2⟩ := h
    exact ⟨p.2, e, rfl, h2⟩
theorem keys3 {e : List (Nat × Value)} {i j k : Nat} (h : e.map (·.1) = [i, j, k]) : ∃ u v x, e = [(i, u), (j, v), (k, x)] := by
  obtain ⟨u, e', rfl, h2⟩ := keys_cons h
  obtain ⟨v, x, rfl⟩ := keys2 h2
  exact ⟨u, v, x, rfl⟩
theorem keys4 {e : List (Nat × Value)} {i j k l : Nat} (h : e.map (·.1) = [i, j, k, l]) : ∃ u v x y, e = [(i, u), (j, v), (k, x), (l, y)] := by
  obtain ⟨u, e', rfl, h2⟩ := keys_cons h
  obtain ⟨v, x, y, rfl⟩ := keys3 h2
  exact ⟨u, v, x, y, rfl⟩
theorem keys7 {e : List (Nat × Value)} {a b c i j k l : Nat} (h : e.map (·.1) = [a, b, c, i, j, k, l]) : ∃ p q r u v x y, e = [(a, p), (b, q), (c, r), (i, u), (j, v), (k, x), (l, y)] := by
  obtain ⟨p, e1, rfl, h2⟩ := keys_cons h
  obtain ⟨q, e2, rfl, h3⟩ := keys_cons h2
  obtain ⟨r, e3, rfl, h4⟩ := keys_cons h3
  obtain ⟨u, v, x, y, rfl⟩ := keys4 h4
  exact ⟨p, q, r, u, v, x, y, rfl⟩
end
end Go.Proofs.Ythlcmlngmcoknaa

/- What is proved here: a group of new slices that come up in any order, by a table of what they hold. No condition but the facts that are asked. -/
namespace Go.Proofs.Ythlcmlngmcoknaa
open Go.RowKit

section
variable {P : Program} {ops : Array Oper} {Q : Exit → Act → World → Prop} {C : World → Prop} {K : Act → World → Prop}
theorem wpOp_in {k : Nat} {o : Oper} {K' : Act → World → Prop} {a : Act} {w : World} (ho : ops[k]? = some o) (hw : Region.wanted o (yielded ops a.tmps) = true) (h : o.wp P a w K' Q) : wpOp P ops Q k K' a w := by
  unfold wpOp
  rw [ho]
  simp only [hw, if_true]
  exact .inl h
theorem putL_other {d : Tmp} : ∀ (e : List (Nat × Value)) (a : Act), (∀ p ∈ e, dstOf ops p.1 ≠ some d) → (putL ops e a).tmps[d]? = a.tmps[d]?
  | [], _, _ => rfl
  | (j, u) :: e, a, h => by
    have ih := putL_other e a (fun p hp => h p (List.mem_cons_of_mem _ hp))
    have hj := h (j, u) (by simp)
    simp only [putL]
    cases hdj : dstOf ops j with
    | none => exact ih
    | some x =>
      simp only [Act.put]
      rw [Array.getElem?_setIfInBounds_ne (fun e => hj (by rw [← e]; exact hdj))]
      exact ih
/-- The group's slots are apart. -/
def slotsB (ops : Array Oper) (is : List Nat) : Bool := is.all fun i => (dstOf ops i).isSome && is.all fun j => i == j || decide (dstOf ops i ≠ dstOf ops j)
theorem wp_groupT (t : List (Nat × Gs)) {r : List Ig} {a : Act} {w : World} (hsl : slotsB ops (t.map (·.1)) = true) (hsz : ((t.map (·.1)).all fun i => decide ((dstOf ops i).getD 0 < a.tmps.size)) = true)
    (hs : ∀ k g, (k, g) ∈ t → ∀ (b : Act) (w' : World), Below w.heap.size w w' → b.tmps.size = a.tmps.size →
      (∀ j gj dj, (j, gj) ∈ t → waitsB ops k j = true → dstOf ops j = some dj → ∃ p, b.tmps[dj]? = some p ∧ gj.ok p w') → (∀ d, (∀ i ∈ t.map (·.1), dstOf ops i ≠ some d) → b.tmps[d]? = a.tmps[d]?) →
      ∀ K' : Act → World → Prop, (∀ v w2, (∀ g', (k, g') ∈ t → g'.ok v w2) → Below w'.heap.size w' w2 → K' (b.put (dstOf ops k) v) w2) → wpOp P ops Q k K' b w')
    (hc : ∀ (e : List (Nat × Value)) w', e.map (·.1) = t.map (·.1) → (∀ p ∈ e, GF t p.1 p.2 w') → Below w.heap.size w w' → wpG P ops Q C K r (putL ops e a) w') :
    wpG P ops Q C K (.g (t.map (·.1)) :: r) a w := by
  refine ⟨GF t, fun k v w w' h hb => gf_below h hb, ?_, hc⟩
  intro k hk e w' hdep hnd _ hf hb K' hK'
  obtain ⟨⟨k', g⟩, hm, rfl⟩ := List.mem_map.1 hk
  have apart : ∀ i ∈ t.map (·.1), ∀ j ∈ t.map (·.1), i ≠ j → dstOf ops i ≠ dstOf ops j := fun i hi j hj hij => by
    have h1 := List.all_eq_true.1 hsl i hi
    simp only [Bool.and_eq_true] at h1
    have h2 := List.all_eq_true.1 h1.2 j hj
    simp only [Bool.or_eq_true, beq_iff_eq, decide_eq_true_eq] at h2
    exact h2.resolve_left hij
  refine hs k' g hm (putL ops e a) w' hb (putL_size e a) (fun j gj dj hj hw hd => ?_) (fun d hd => putL_other e a fun p hp => hd _ (hf p hp).1) K' (fun v w2 hv hb2 => hK' v w2 hv hb2)
  have hjm : j ∈ t.map (·.1) := List.mem_map.2 ⟨(j, gj), hj, rfl⟩
  have hje := hdep j hjm hw
  obtain ⟨⟨j', p⟩, hp, rfl⟩ := List.mem_map.1 hje
  refine ⟨p, putL_get e a hp hnd hd (fun q hq hqj => ?_) ?_, (hf _ hp).2 gj hj⟩
  · rw [← hd]; exact apart _ (hf q hq).1 _ hjm hqj
  · have := List.all_eq_true.1 hsz j' hjm
    rw [hd] at this
    simpa using this
/-- The puts of a group, with the slots named. -/
def putD : List Nat → List (Nat × Value) → Act → Act
  | d :: ds, (_, v) :: e, a => (putD ds e a).put (some d) v
  | _, _, a => a
theorem putL_D : ∀ (e : List (Nat × Value)) (ds : List Nat) (a : Act), (e.map fun p => dstOf ops p.1) = ds.map some → putL ops e a = putD ds e a
  | [], [], _, _ => rfl
  | [], _ :: _, _, h => by simp at h
  | _ :: _, [], _, h => by simp at h
  | (k, v) :: e, d :: ds, a, h => by
    simp only [List.map_cons, List.cons.injEq] at h
    simp only [putL, putD, h.1, putL_D e ds a h.2]
theorem wpG_putD {r : List Ig} {e : List (Nat × Value)} {a : Act} {w : World} (ds : List Nat) (hd : (e.map fun p => dstOf ops p.1) = ds.map some) (h : wpG P ops Q C K r (putD ds e a) w) : wpG P ops Q C K r (putL ops e a) w := by rw [putL_D e ds a hd]; exact h
end
end Go.Proofs.Ythlcmlngmcoknaa
