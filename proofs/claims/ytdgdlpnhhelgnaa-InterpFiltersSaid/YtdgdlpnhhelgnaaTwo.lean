/- What is proved here: a region that draws its order, in which a load may come before or after a store to another block, may be walked in one order: two lists of operations that are taken first, each under what it needs of the world, then operations whose turn is forced. No condition but the Bool that is asked. -/
import Derived.Test.YtdgdlpnhhelgnaaSched
namespace Go.Proofs.Ytdgdlpnhhelgnaa
open Go.RowKit

section
variable {P : Program} {ops : Array Oper} {Q : Exit → Act → World → Prop} {R : Nat → World → Prop} {S : World → Prop}

/-- Whatever order is picked from here on; behind operation i, R i holds. -/
def wpAnyR (P : Program) (ops : Array Oper) (Q : Exit → Act → World → Prop) (R : Nat → World → Prop) : Nat → Array Bool → Act → World → Prop
  | 0, listed, a, w => Region.ready .any ops listed = [] ∧ Q .normal a w
  | fuel + 1, listed, a, w =>
    (Region.ready .any ops listed = [] → Q .normal a w) ∧
    ∀ i ∈ Region.ready .any ops listed, wpOp P ops Q i (fun a' w' => R i w' ∧ wpAnyR P ops Q R fuel (listed.setIfInBounds i true) a' w') a w

theorem wpAny_of_R : ∀ (fuel : Nat) (listed : Array Bool) (a : Act) (w : World), wpAnyR P ops Q R fuel listed a w → wpAny P .any ops Q fuel listed a w
  | 0, _, _, _, h => h
  | fuel + 1, _, _, _, h => ⟨h.1, fun i hi => wpOp_mono (fun a' w' h' => wpAny_of_R fuel _ a' w' h'.2) (h.2 i hi)⟩

theorem wpAnyR_first {i : Nat} {oi : Oper} {v : Value} (hi : ops[i]? = some oi) (hsel : ∀ (j : Nat) (o : Oper) cs b, ops[j]? = some o → o.op ≠ .select cs b)
    (hQ : ∀ c a w, Q (.panic c) (a.put oi.dst v) w → Q (.panic c) a w) (F : Nat) (hRi : ∀ w', S w' → R i w') :
    ∀ (fuel : Nat) (listed : Array Bool) (a : Act) (w : World), Closed ops listed →
      (∀ j oj, ops[j]? = some oj → j ≠ i → listed.getD j true = false → (∀ e ∈ oj.after, Region.binds .any e = true → e.on ≠ i) → oi.apart ops oj = true) →
      (∀ j oj, ops[j]? = some oj → j ≠ i → listed.getD j true = false → afterB ops F j i = false → ∀ w', R j w' → S w') →
      i ∈ Region.ready .any ops listed → YieldsIf P ops S oi v a → S w →
      wpAnyR P ops Q R fuel (listed.setIfInBounds i true) (a.put oi.dst v) w → wpAnyR P ops Q R (fuel + 1) listed a w := by
  intro fuel
  induction fuel with
  | zero =>
    intro listed a w _ _ _ hr hy hS H
    refine ⟨fun h => (by rw [h] at hr; cases hr), fun j hj => ?_⟩
    by_cases hji : j = i
    · subst hji; exact hy.wpOp hi hS ⟨hRi _ hS, H⟩
    · have := ready_mono hj hji
      rw [H.1] at this
      cases this
  | succ fuel ih =>
    intro listed a w hcl hfree hfE hr hy hS H
    refine ⟨fun h => (by rw [h] at hr; cases hr), fun j hj => ?_⟩
    by_cases hji : j = i
    · subst hji; exact hy.wpOp hi hS ⟨hRi _ hS, H⟩
    · have h1 := H.2 j (ready_mono hj hji)
      obtain ⟨hjun, oj, hoj, hall⟩ := mem_ready.1 hj
      have hiun : listed.getD i false = true → False := fun h1 => by
        have h0 := (mem_ready.1 hr).1
        rcases Nat.lt_or_ge i listed.size with h' | h'
        · simp [h'] at h0 h1; rw [h0] at h1; cases h1
        · simp [Array.getElem?_eq_none h'] at h1
      have hnot : ∀ e ∈ oj.after, Region.binds .any e = true → e.on ≠ i := fun e he hb heq => by
        have h1 := hall e he hb
        rw [heq] at h1
        exact hiun h1
      have hap := hfree j oj hoj hji hjun hnot
      have hE : ∀ w', R j w' → S w' := hfE j oj hoj hji hjun (by
        cases hab : afterB ops F j i with
        | false => rfl
        | true => exact (hiun (after_listed hcl F j oj hoj hall hab)).elim)
      have h2 := wpOp_putIf hoj hap (fun cs b => hsel i oi cs b hi) (fun cs b => hsel j oj cs b hoj) hQ hy h1
      refine wpOp_mono (fun a' w' h3 => ⟨h3.2.1, ih (listed.setIfInBounds j true) a' w' (hcl.set hj) ?_ ?_ (ready_mono hr (Ne.symm hji)) h3.1 (hE _ h3.2.1) ?_⟩) h2
      · intro k ok hk hki hun hno
        refine hfree k ok hk hki ?_ hno
        by_cases hjk : j = k
        · subst hjk; exact hjun
        · rw [getD_set_ne true hjk] at hun; exact hun
      · intro k ok hk hki hun hno
        refine hfE k ok hk hki ?_ hno
        by_cases hjk : j = k
        · subst hjk; exact hjun
        · rw [getD_set_ne true hjk] at hun; exact hun
      · rw [Array.setIfInBounds_comm _ _ hji]
        exact h3.2.2

theorem take_readR (E : Nat → Bool) (hRE : ∀ j w', E j = true → R j w' → S w') (hs : Region.noSelect ops = true) (hQ : ∀ c a (d : Tmp) v w, Q (.panic c) (a.put (some d) v) w → Q (.panic c) a w) {K : Act → Prop} {w : World} (hw : S w) {fuel : Nat} :
    ∀ (is : List Nat) (listed : Array Bool) (a : Act), Closed ops listed → (∀ i ∈ is, ∀ w', S w' → R i w') → takeB ops E true is listed = true → wpQuiet P ops S K (opsAt ops is) a →
      (∀ a', K a' → wpAnyR P ops Q R fuel (mark is listed) a' w) → wpAnyR P ops Q R (fuel + is.length) listed a w
  | [], listed, a, _, _, _, h, hK => hK a h
  | i :: is, listed, a, hcl, hRi, hB, h, hK => by
    simp only [takeB, Bool.and_eq_true] at hB
    obtain ⟨⟨⟨⟨hr, hf⟩, hp⟩, hl⟩, hB'⟩ := hB
    cases ho : ops[i]? with
    | none => rw [ho] at hp; cases hp
    | some o =>
      rw [ho] at hp
      have e : opsAt ops (i :: is) = o :: opsAt ops is := by simp [opsAt, ho]
      rw [e] at h
      obtain ⟨v, hy, hn⟩ := quiet_plain (K := wpQuiet P ops S K (opsAt ops is)) hp h
      have ih := take_readR E hRE hs hQ hw (fuel := fuel) is (listed.setIfInBounds i true) (a.put o.dst v) (hcl.set (by simpa using hr)) (fun k hk => hRi k (by simp [hk])) hB' hn (fun a' h' => hK a' h')
      refine wpAnyR_first (S := S) ho (Region.noSelect_spec hs) (fun c a' w' hh => by
        cases hd : o.dst with
        | none => rw [hd] at hh; exact hh
        | some d => rw [hd] at hh; exact hQ c a' d v w' hh) ops.size (hRi i (by simp)) (fuel + is.length) listed a w hcl (fun j oj hj hne hun hno => Region.free_spec ho hf j oj hj hne hun hno) ?_ (by simpa using hr) hy hw ih
      intro j oj hj hne hun hno w'
      refine hRE j w' ?_
      simp only [Bool.not_true, Bool.false_or] at hl
      have h5 := List.all_eq_true.1 hl j (List.mem_range.2 (Array.getElem?_eq_some_iff.1 hj).1)
      simp only [Bool.or_eq_true, beq_iff_eq, hne, or_false, hun, Bool.false_eq_true, hno, false_or] at h5
      exact h5

/-- Operations whose turn is forced; behind operation i, R i holds. -/
def wpFo (P : Program) (ops : Array Oper) (Q : Exit → Act → World → Prop) (R : Nat → World → Prop) : List Nat → Act → World → Prop
  | [], a, w => Q .normal a w
  | i :: r, a, w => match ops[i]? with
    | some o => if Region.wanted o (yielded ops a.tmps) then o.wp P a w (fun a' w' => R i w' ∧ wpFo P ops Q R r a' w') Q ∨ (o.asks P a w ∧ LetsOut Q) else R i w ∧ wpFo P ops Q R r (a.put o.dst undef) w
    | none => False
def forcedB (ops : Array Oper) : List Nat → Array Bool → Bool
  | [], listed => (Region.ready .any ops listed).isEmpty
  | i :: r, listed => decide (Region.ready .any ops listed = [i]) && forcedB ops r (listed.setIfInBounds i true)
theorem forcedR : ∀ (l : List Nat) (listed : Array Bool) (a : Act) (w : World), forcedB ops l listed = true → wpFo P ops Q R l a w → wpAnyR P ops Q R l.length listed a w
  | [], listed, a, w, hB, h => ⟨by simpa [forcedB] using hB, h⟩
  | i :: r, listed, a, w, hB, h => by
    simp only [forcedB, Bool.and_eq_true, decide_eq_true_eq] at hB
    obtain ⟨hr, hB'⟩ := hB
    have hk : i ∈ Region.ready .any ops listed := by rw [hr]; simp
    obtain ⟨_, o, ho, _⟩ := mem_ready.1 hk
    refine ⟨fun h1 => (by rw [hr] at h1; cases h1), fun j hj => ?_⟩
    rw [hr] at hj
    have hji : j = i := by simpa using hj
    subst hji
    simp only [wpFo, ho] at h
    unfold wpOp
    simp only [ho]
    split
    · rename_i hwt
      simp only [hwt, if_true] at h
      exact h.imp (Oper.wp_mono (fun a' w' h' => ⟨h'.1, forcedR r _ a' w' hB' h'.2⟩)) id
    · rename_i hwt
      simp only [hwt] at h
      exact ⟨h.1, forcedR r _ _ w hB' h.2⟩
def ttB (ops : Array Oper) (E1 E2 : List Nat) (is1 is2 fs : List Nat) : Bool :=
  Region.noSelect ops && takeB ops (fun j => E1.contains j) true is1 (Array.replicate ops.size false) && takeB ops (fun j => E2.contains j) true is2 (mark is1 (Array.replicate ops.size false)) &&
  forcedB ops fs (mark is2 (mark is1 (Array.replicate ops.size false))) && decide (fs.length + is2.length + is1.length = ops.size) && (is1.all fun i => !E2.contains i)
/-- A region that draws its order: is1 is taken first under S1, then is2 under S2, which says more; then fs in its forced order. -/
theorem wp_region_tt {id : Nat} {a : Act} {w : World} (S1 S2 : World → Prop) (E1 E2 : List Nat) (is1 is2 fs : List Nat) (hm : P.follows .mixedOrders = true) (hB : ttB ops E1 E2 is1 is2 fs = true)
    (hQ : ∀ c a (d : Tmp) v w, Q (.panic c) (a.put (some d) v) w → Q (.panic c) a w) (h21 : ∀ w, S2 w → S1 w) (hw : S2 w.drew)
    (h : wpQuiet P ops S1 (fun a1 => wpQuiet P ops S2 (fun a2 => wpFo P ops Q (fun i w' => (E1.contains i = true → S1 w') ∧ (E2.contains i = true → S2 w')) fs a2 w.drew) (opsAt ops is2) a1) (opsAt ops is1) a) :
    (Code.region id ops true).wp P Q a w := by
  simp only [ttB, Bool.and_eq_true, decide_eq_true_eq] at hB
  obtain ⟨⟨⟨⟨⟨hs, h1⟩, h2⟩, h3⟩, hn⟩, h4⟩ := hB
  refine wp_region_any hm ?_
  have hcl : Closed ops (Array.replicate ops.size false) := fun j oj _ hl => (by simp [Array.getElem?_replicate] at hl; split at hl <;> simp at hl)
  rw [← hn]
  rw [← hn] at h1 h2 h3 hcl
  refine wpAny_of_R _ _ _ _ (take_readR (S := S1) (R := fun i w' => (E1.contains i = true → S1 w') ∧ (E2.contains i = true → S2 w')) (fun j => E1.contains j) (fun j w' hE hR => hR.1 hE) hs hQ (h21 _ hw) is1 _ a hcl (fun i hi w' hS => ⟨fun _ => hS, fun hE => ?_⟩) h1 h (fun a1 k1 => ?_))
  · have := List.all_eq_true.1 h4 i hi
    rw [hE] at this; cases this
  · refine take_readR (S := S2) (fun j => E2.contains j) (fun j w' hE hR => hR.2 hE) hs hQ hw is2 _ a1 (closed_mark is1 _ true _ hcl h1) (fun i _ w' hS => ⟨fun _ => h21 _ hS, fun _ => hS⟩) h2 k1 (fun a2 k2 => ?_)
    exact forcedR fs _ a2 _ h3 k2
/-- A schedule, then operations that look at no memory, then the rest in one forced order. -/
theorem wp_region_stt {id : Nat} {a : Act} {w : World} (l1 : List Sg) (is tl : List Nat) (hm : P.follows .mixedOrders = true) (hB : (sB ops l1 (.t is :: tl.map .f) && tl.all fun i => decide (i < ops.size)) = true)
    (hQ : ∀ c a (d : Tmp) v w, Q (.panic c) (a.put (some d) v) w → Q (.panic c) a w)
    (h : wpX P ops Q (fun w' => ∃ e, w' = grow w e) (fun a' w' => wpQuiet P ops (fun _ => True) (fun a2 => wpList P ops Q (opsAt ops tl) a2 w') (opsAt ops is) a') l1 a w.drew) :
    (Code.region id ops true).wp P Q a w := by
  simp only [Bool.and_eq_true] at hB
  have hl : ∀ i ∈ tl, i < ops.size := fun i hi => by simpa using List.all_eq_true.1 hB.2 i hi
  refine wp_region_s l1 (.t is :: tl.map .f) hm hB.1 hQ ?_
  exact X_mono (fun a' w' h' => quiet_mono (fun a2 h2 => X_of_list tl a2 w' hl h2) _ _ h') l1 a _ h
theorem wpFo_gen {r : List Nat} {a : Act} {w : World} (F : World → Prop) (hF : F w) (h : ∀ W, F W → wpFo P ops Q R r a W) : wpFo P ops Q R r a w := h w hF
theorem wpFo_nil {a : Act} {w : World} (h : Q .normal a w) : wpFo P ops Q R [] a w := h
theorem wpFo_op {i : Nat} {o : Oper} {r : List Nat} {a : Act} {w : World} (ho : ops[i]? = some o) (hw : Region.wanted o (yielded ops a.tmps) = true)
    (h : ∀ K' : Act → World → Prop, (∀ a' w', R i w' → wpFo P ops Q R r a' w' → K' a' w') → o.wp P a w K' Q) : wpFo P ops Q R (i :: r) a w := by
  simp only [wpFo, ho, hw, if_true]
  exact .inl (h _ fun _ _ h1 h2 => ⟨h1, h2⟩)
end
/-- e where it meets S, else w. -/
noncomputable def keepW (S : World → Prop) (w e : World) : World := open Classical in if S e then e else w
theorem keepW_of {S : World → Prop} {w W : World} (h : S W) : ∃ e, W = keepW S w e := ⟨W, by unfold keepW; rw [if_pos h]⟩
theorem keepW_is {S : World → Prop} {w : World} (hw : S w) (e : World) : S (keepW S w e) := by
  unfold keepW; split
  · assumption
  · exact hw
end Go.Proofs.Ytdgdlpnhhelgnaa
