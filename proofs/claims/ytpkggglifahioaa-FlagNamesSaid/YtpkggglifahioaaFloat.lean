/- What is proved here: a region that draws its order, in which a new variable is made at any moment while other operations follow one another, may be walked in one order. No condition but the Bool that is asked. -/
import Derived.Test.YtpkggglifahioaaAppend2
namespace Go.Proofs.Ytpkggglifahioaa
open Go.RowKit

section
variable {P : Program} {ops : Array Oper} {Q : Exit → Act → World → Prop} {S : World → Prop} {E : Nat → Bool} {T : TypeId} {zs : List Value}

/-- A chain of operations: behind each, S holds, every block that holds zs as T holds it still, and memory may grow before the next. -/
def wpCh (P : Program) (Q : Exit → Act → World → Prop) (S : World → Prop) (T : TypeId) (zs : List Value) (K : Act → World → Prop) : List Oper → Act → World → Prop
  | [], a, w => K a w
  | o :: rest, a, w => o.wp P a w (fun a' w' => S w' ∧ (∀ b, Own w b T zs → Own w' b T zs) ∧ ∀ w'', Below w'.heap.size w' w'' → wpCh P Q S T zs K rest a' w'') Q

theorem wpCh_nil {K : Act → World → Prop} {a : Act} {w : World} (h : K a w) : wpCh P Q S T zs K [] a w := h
theorem wpCh_cons {K : Act → World → Prop} {a : Act} {w : World} {o : Oper} {rest : List Oper}
    (h : ∀ K' : Act → World → Prop, (∀ a' w', S w' → (∀ b, Own w b T zs → Own w' b T zs) → (∀ w'', Below w'.heap.size w' w'' → wpCh P Q S T zs K rest a' w'') → K' a' w') → o.wp P a w K' Q) : wpCh P Q S T zs K (o :: rest) a w := by
  unfold wpCh
  exact h _ fun _ _ h1 h2 h3 => ⟨h1, h2, h3⟩

theorem wp_put {o : Oper} {d : Tmp} {v : Value} {K K2 : Act → World → Prop} {a : Act} {w : World} (hs : ∀ cs b, o.op ≠ .select cs b) (h1 : d ∉ o.looksAt ops) (h2 : o.dst ≠ some d)
    (hQ : ∀ c a w, Q (.panic c) a w → Q (.panic c) (a.put (some d) v) w) (hK : ∀ a' w', K a' w' → K2 (a'.put (some d) v) w') (h : o.wp P a w K Q) : o.wp P (a.put (some d) v) w K2 Q := by
  have he : execOp (a.put (some d) v).eval o = execOp a.eval o := execOp_put (ops := ops) o hs a (some d) v (fun d' hd => by cases hd; exact h1)
  have hc : ∀ u, (a.put (some d) v).put o.dst u = (a.put o.dst u).put (some d) v := fun u => Act.put_comm a v u (fun d' hd => by cases hd; exact h2)
  unfold Oper.wp at *
  rw [he]
  generalize (execOp a.eval o).run P w = r at *
  cases r with
  | ok n w' =>
    cases n <;> simp only [Oper.upon] at h ⊢
    case value u => rw [hc]; exact hK _ _ h
    case skip => rw [hc]; exact hK _ _ h
    case defer dd =>
      rw [Act.put_defers, ← Act.put_comm _ undef v (fun d' hd hd2 => h2 (by rw [hd, hd2]))]
      exact hK _ _ h
    case enter f args =>
      refine Calls.mono h fun e w'' he => ?_
      cases e with
      | returned u => show K2 _ _; rw [hc]; exact hK _ _ he
      | panicked c => exact hQ _ _ _ he
      | outgrown => exact he
    case row row args => exact Rows.mono h fun u w'' he => by rw [hc]; exact hK _ _ he
  | halt x w' =>
    cases x <;> simp only [Oper.upon] at h ⊢
    case panic u => exact hQ _ _ _ h

/-- The chain, the new variable made already. -/
def chFl (ops : Array Oper) (E : Nat → Bool) (d0 : Tmp) (tl : List Nat) : List Nat → Array Bool → Bool
  | [], listed => seqX ops E tl listed true
  | c :: cs, listed => decide (Region.ready .any ops listed = [c]) && (match ops[c]? with | some o => !(o.looksAt ops).contains d0 && o.dst != some d0 && o.guard.isNone | none => false) && chFl ops E d0 tl cs (listed.setIfInBounds c true)
def chA (ops : Array Oper) (E : Nat → Bool) (k0 : Nat) (d0 : Tmp) (tl : List Nat) : List Nat → Array Bool → Bool
  | [], listed => decide (Region.ready .any ops listed = [k0]) && chFl ops E d0 tl [] (listed.setIfInBounds k0 true)
  | c :: cs, listed => (decide (Region.ready .any ops listed = [c, k0]) || decide (Region.ready .any ops listed = [k0, c])) && (match ops[c]? with | some o => o.guard.isNone | none => false) && chFl ops E d0 tl (c :: cs) (listed.setIfInBounds k0 true) && chA ops E k0 d0 tl cs (listed.setIfInBounds c true)

theorem wanted_none {o : Oper} (h : o.guard.isNone = true) (y : Nat → Option Bool) : Region.wanted o y = true := by
  unfold Region.wanted
  cases hg : o.guard with
  | none => rfl
  | some g => rw [hg] at h; cases h

theorem run_chB (hS : ∀ w w', S w → Below w.heap.size w w' → S w') (hs : Region.noSelect ops = true) (hQ : ∀ c a (d : Tmp) v w, Q (.panic c) a w → Q (.panic c) (a.put (some d) v) w) {d0 : Tmp} {tl : List Nat} {B0 : Nat} :
    ∀ (cs : List Nat) (listed : Array Bool) (a : Act) (w : World) (b : Nat), chFl ops E d0 tl cs listed = true → S w → Own w b T zs → B0 ≤ b →
      (∀ w'', Below w.heap.size w w'' → wpCh P Q S T zs (fun a3 w3 => ∀ b, Own w3 b T zs → B0 ≤ b → wpList P ops Q (opsAt ops tl) (a3.put (some d0) (.pointer (some ⟨b, 0, none⟩))) w3) (opsAt ops cs) a w'') →
      wpAnyX P ops Q S E (tl.length + cs.length) listed (a.put (some d0) (.pointer (some ⟨b, 0, none⟩))) w
  | [], listed, a, w, b, hB, hw, ho, hb, h => tail_seq hS tl listed true _ w hB (fun _ => hw) (h w (Below.refl _ _) b ho hb)
  | c :: cs, listed, a, w, b, hB, hw, ho, hb, h => by
    simp only [chFl, Bool.and_eq_true, decide_eq_true_eq] at hB
    obtain ⟨⟨hr, hc⟩, hB'⟩ := hB
    have hk : c ∈ Region.ready .any ops listed := by rw [hr]; simp
    obtain ⟨_, o, hoc, _⟩ := mem_ready.1 hk
    rw [hoc] at hc
    simp only [Bool.and_eq_true, Bool.not_eq_true', bne_iff_ne] at hc
    refine ⟨fun h1 => (by rw [hr] at h1; cases h1), fun i hi => ?_⟩
    rw [hr] at hi
    have hik : i = c := by simpa using hi
    subst hik
    have e : opsAt ops (i :: cs) = o :: opsAt ops cs := by simp [opsAt, hoc]
    have h0 := h w (Below.refl _ _)
    rw [e] at h0
    unfold wpOp
    simp only [hoc, wanted_none hc.2, if_true]
    refine .inl (wp_put (ops := ops) (fun x y => Region.noSelect_spec hs i o x y hoc) (by simpa using hc.1.1) hc.1.2 (fun c a w => hQ c a d0 _ w) ?_ h0)
    rintro a' w' ⟨h1, h2, h3⟩
    exact ⟨fun _ => h1, run_chB hS hs hQ cs _ a' w' b hB' h1 (h2 b ho) hb h3⟩

theorem run_chA (hS : ∀ w w', S w → Below w.heap.size w w' → S w') (hs : Region.noSelect ops = true) (hQ : ∀ c a (d : Tmp) v w, Q (.panic c) a w → Q (.panic c) (a.put (some d) v) w) {k0 : Nat} {d0 : Tmp} {tl : List Nat} {B0 : Nat} {o0 : Oper} (hk0 : ops[k0]? = some o0) (hd0 : o0.dst = some d0) (hg0 : o0.guard.isNone = true)
    (hrun : ∀ ρ W, (execOp ρ o0).run P W = .ok (.value (.pointer (some ⟨W.heap.size, 0, none⟩))) (W.alloc (.cells zs.toArray T (0, 0)))) :
    ∀ (cs : List Nat) (listed : Array Bool) (a : Act) (w : World), chA ops E k0 d0 tl cs listed = true → S w → B0 ≤ w.heap.size →
      (∀ w'', Below w.heap.size w w'' → wpCh P Q S T zs (fun a3 w3 => ∀ b, Own w3 b T zs → B0 ≤ b → wpList P ops Q (opsAt ops tl) (a3.put (some d0) (.pointer (some ⟨b, 0, none⟩))) w3) (opsAt ops cs) a w'') →
      (∀ w1 w2, S w1 → S w2 → True) →
      (∀ w', S w' → B0 ≤ w'.heap.size) →
      wpAnyX P ops Q S E (tl.length + cs.length + 1) listed a w
  | [], listed, a, w, hB, hw, hb, h, _, hsz => by
    simp only [chA, Bool.and_eq_true, decide_eq_true_eq] at hB
    refine ⟨fun h1 => (by rw [hB.1] at h1; cases h1), fun i hi => ?_⟩
    rw [hB.1] at hi
    have hik : i = k0 := by simpa using hi
    subst hik
    unfold wpOp
    simp only [hk0, wanted_none hg0, if_true]
    refine .inl ?_
    unfold Oper.wp
    rw [hrun]
    simp only [Oper.upon, hd0]
    have hx := ba1 w (.cells zs.toArray T (0, 0))
    exact ⟨fun _ => hS _ _ hw hx, run_chB hS hs hQ [] _ a _ w.heap.size hB.2 (hS _ _ hw hx) (Own.new w T zs) hb fun w'' hw'' => h w'' (below_to hx hw'')⟩
  | c :: cs, listed, a, w, hB, hw, hb, h, ht, hsz => by
    simp only [chA, Bool.and_eq_true, Bool.or_eq_true, decide_eq_true_eq] at hB
    obtain ⟨⟨⟨hr, hc⟩, hB1⟩, hB2⟩ := hB
    have hk : c ∈ Region.ready .any ops listed := by rcases hr with hr | hr <;> (rw [hr]; simp)
    obtain ⟨_, o, hoc, _⟩ := mem_ready.1 hk
    rw [hoc] at hc
    refine ⟨fun h1 => (by rcases hr with hr | hr <;> (rw [hr] at h1; cases h1)), fun i hi => ?_⟩
    have hik : i = c ∨ i = k0 := by
      rcases hr with hr | hr
      · rw [hr] at hi; simpa using hi
      · rw [hr] at hi; simp at hi; exact hi.symm
    by_cases hi0 : i = k0
    · subst hi0
      unfold wpOp
      simp only [hk0, wanted_none hg0, if_true]
      refine .inl ?_
      unfold Oper.wp
      rw [hrun]
      simp only [Oper.upon, hd0]
      have hx := ba1 w (.cells zs.toArray T (0, 0))
      exact ⟨fun _ => hS _ _ hw hx, run_chB hS hs hQ (c :: cs) _ a _ w.heap.size hB1 (hS _ _ hw hx) (Own.new w T zs) hb fun w'' hw'' => h w'' (below_to hx hw'')⟩
    · have hic : i = c := hik.resolve_right hi0
      subst hic
      have e : opsAt ops (i :: cs) = o :: opsAt ops cs := by simp [opsAt, hoc]
      have h0 := h w (Below.refl _ _)
      rw [e] at h0
      unfold wpOp
      simp only [hoc, wanted_none hc, if_true]
      refine .inl (Oper.wp_mono ?_ h0)
      rintro a' w' ⟨h1, h2, h3⟩
      exact ⟨fun _ => h1, run_chA hS hs hQ hk0 hd0 hg0 hrun cs _ a' w' hB2 h1 (hsz w' h1) h3 ht hsz⟩

/-- The Bool that 'wp_region_fa' asks. -/
def faB (ops : Array Oper) (k0 : Nat) (d0 : Tmp) (m0 m1 cl tl : List Nat) : Bool :=
  Region.noSelect ops && takeB ops (fun _ => true) false m0 (Array.replicate ops.size false) &&
  takeB ops (fun j => m1.contains j || cl.contains j || j == k0 || match ops[j]? with | some o => keepB o.op | none => true) true m1 (mark m0 (Array.replicate ops.size false)) &&
  chA ops (fun j => m1.contains j || cl.contains j || j == k0 || match ops[j]? with | some o => keepB o.op | none => true) k0 d0 tl cl (mark m1 (mark m0 (Array.replicate ops.size false))) &&
  decide (m0.length + m1.length + cl.length + 1 + tl.length = ops.size) && (match ops[k0]? with | some o => o.guard.isNone && o.dst == some d0 | none => false)

/-- A region that draws its order and makes a variable (operation k0, of type T) at any moment: pure operations m0, reads m1, a chain cl, then the rest tl. -/
theorem wp_region_fa {id : Nat} {a : Act} {w : World} (k0 : Nat) (d0 : Tmp) (T : TypeId) (zs : List Value) (m0 m1 cl tl : List Nat) (hm : P.follows .mixedOrders = true) (hB : faB ops k0 d0 m0 m1 cl tl = true)
    (hrun : ∀ ρ W, (execOp ρ (ops[k0]?.getD default)).run P W = .ok (.value (.pointer (some ⟨W.heap.size, 0, none⟩))) (W.alloc (.cells zs.toArray T (0, 0))))
    (hQ : ∀ c a (d : Tmp) v w, Q (.panic c) (a.put (some d) v) w → Q (.panic c) a w) (hQ2 : ∀ c a (d : Tmp) v w, Q (.panic c) a w → Q (.panic c) (a.put (some d) v) w)
    (h : wpQuiet P ops (fun _ => True) (fun a1 => wpQuiet P ops (fun w' => ∃ e, w' = grow w e) (fun a2 => ∀ w1, Below w.heap.size w w1 → wpCh P Q (fun w' => Below w.heap.size w w') T zs (fun a3 w3 => ∀ b, Own w3 b T zs → w.heap.size ≤ b → wpList P ops Q (opsAt ops tl) (a3.put (some d0) (.pointer (some ⟨b, 0, none⟩))) w3) (opsAt ops cl) a2 w1) (opsAt ops m1) a1) (opsAt ops m0) a) :
    (Code.region id ops true).wp P Q a w := by
  simp only [faB, Bool.and_eq_true, decide_eq_true_eq] at hB
  obtain ⟨⟨⟨⟨⟨hs, h0⟩, h1⟩, h2⟩, hn⟩, hk⟩ := hB
  cases hk0 : ops[k0]? with
  | none => rw [hk0] at hk; cases hk
  | some o0 =>
    rw [hk0] at hk hrun
    simp only [Bool.and_eq_true, beq_iff_eq] at hk
    simp only [Option.getD_some] at hrun
    refine wp_region_any hm ?_
    have hS : ∀ w1 w2 : World, Below w.heap.size w w1 → Below w1.heap.size w1 w2 → Below w.heap.size w w2 := fun w1 w2 a b => below_to a b
    have hw : Below w.heap.size w ({ w with drawn := w.drawn + 1 } : World) := (Below.refl w.heap.size w).drew
    have hsz : ops.size = ((tl.length + cl.length + 1) + m1.length) + m0.length := by omega
    have h0' := h0
    have h1' := h1
    have h2' := h2
    rw [hsz] at h0' h1' h2' ⊢
    refine take_pure hs hQ m0 _ a h0' h fun a1 k1 => ?_
    have hC : (fun w' => ∃ e, w' = grow w e) = (fun w' => Below w.heap.size w w') := by
      funext w'; exact propext ⟨fun ⟨e, he⟩ => he ▸ below_grow w e, grow_of⟩
    rw [hC] at k1
    refine wpAny_of_X _ _ _ _ (take_read (S := fun w' => Below w.heap.size w w') hs hQ hw m1 _ a1 (closed_mark m0 _ _ _ (fun j oj _ hl => (by simp [Array.getElem?_replicate] at hl; split at hl <;> simp at hl)) h0') h1' k1 fun a2 k2 => ?_)
    exact run_chA (T := T) (zs := zs) hS hs hQ2 hk0 hk.2 hk.1 hrun cl _ a2 _ h2' hw (Nat.le_refl _) (fun w'' hw'' => k2 w'' (below_to hw hw'')) (fun _ _ _ _ => trivial) (fun w' hw' => hw'.size)
end

end Go.Proofs.Ytpkggglifahioaa
