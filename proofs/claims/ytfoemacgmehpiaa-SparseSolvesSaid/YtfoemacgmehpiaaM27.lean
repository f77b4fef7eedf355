/- What is proved here: contracts of functions and plain facts, several texts in one; each one says ahead what it proves, and its conditions. -/
import Derived.Test.YtfoemacgmehpiaaM01
/- What is proved here: a region that draws its order: operations that look at no memory, a schedule, again such operations, then the rest in one forced order. No condition but the Bool that is asked. -/
namespace Go.Proofs.Ytfoemacgmehpiaa
open Go.RowKit

section
variable {P : Program} {ops : Array Oper} {Q : Exit → Act → World → Prop}
/-- What is known behind operations may be forgotten. -/
theorem X_true {C' : World → Prop} {E' : Nat → Bool} : ∀ (fuel : Nat) (listed : Array Bool) (a : Act) (w : World), wpAnyX P ops Q C' E' fuel listed a w → wpAnyX P ops Q (fun _ => True) (fun _ => true) fuel listed a w
  | 0, _, _, _, h => h
  | fuel + 1, _, _, _, h => ⟨h.1, fun i hi => wpOp_mono (fun a' w' h' => ⟨fun _ => trivial, X_true fuel _ a' w' h'.2⟩) (h.2 i hi)⟩
/-- The Bool that 'wp_region_pstt' asks. -/
def psB (ops : Array Oper) (is0 : List Nat) (l1 l2 : List Sg) : Bool :=
  Region.noSelect ops && schedB ops (fun _ => true) true [.t is0] (Array.replicate ops.size false) && schedB ops (inS l1) true l1 (mark is0 (Array.replicate ops.size false)) &&
  schedB ops (fun _ => true) true l2 (markS l1 (mark is0 (Array.replicate ops.size false))) && decide (lenS l2 + lenS l1 + lenS [.t is0] = ops.size) &&
  ((List.range ops.size).all fun j => (markS l1 (mark is0 (Array.replicate ops.size false))).getD j true || !inS l1 j) &&
  (Region.ready .any ops (markS l2 (markS l1 (mark is0 (Array.replicate ops.size false))))).isEmpty
/-- Operations that look at no memory, a schedule, again operations that look at no memory, then the rest in one forced order. -/
theorem wp_region_pstt {id : Nat} {a : Act} {w : World} (is0 : List Nat) (l1 : List Sg) (is tl : List Nat) (hm : P.follows .mixedOrders = true) (hB : (psB ops is0 l1 (.t is :: tl.map .f) && tl.all fun i => decide (i < ops.size)) = true)
    (hQ : ∀ c a (d : Tmp) v w, Q (.panic c) (a.put (some d) v) w → Q (.panic c) a w)
    (h : wpQuiet P ops (fun _ => True) (fun a0 => wpX P ops Q (fun w' => ∃ e, w' = grow w e) (fun a' w' => wpQuiet P ops (fun _ => True) (fun a2 => wpList P ops Q (opsAt ops tl) a2 w') (opsAt ops is) a') l1 a0 w.drew) (opsAt ops is0) a) :
    (Code.region id ops true).wp P Q a w := by
  simp only [psB, Bool.and_eq_true, decide_eq_true_eq, List.isEmpty_iff] at hB
  obtain ⟨⟨⟨⟨⟨⟨⟨hs, h0⟩, h1⟩, h2⟩, hn⟩, hE⟩, he⟩, htl⟩ := hB
  have hl : ∀ i ∈ tl, i < ops.size := fun i hi => by simpa using List.all_eq_true.1 htl i hi
  refine wp_region_any hm ?_
  have hw : ∃ e, ({ w with drawn := w.drawn + 1 } : World) = grow w e := grow_of ((Below.refl w.heap.size w).drew)
  have hcl : Closed ops (Array.replicate ops.size false) := fun j oj _ hl => (by simp [Array.getElem?_replicate] at hl; split at hl <;> simp at hl)
  rw [← hn]
  rw [← hn] at h0 h1 h2 hE he hcl
  have hcl0 := closed_markS [.t is0] _ _ hcl h0
  refine wpAny_of_X _ _ _ _ (X_sched (K := fun a0 w0 => w0 = w.drew ∧ wpX P ops Q (fun w' => ∃ e, w' = grow w e) (fun a' w' => wpQuiet P ops (fun _ => True) (fun a2 => wpList P ops Q (opsAt ops tl) a2 w') (opsAt ops is) a') l1 a0 w.drew) (C := fun _ => True) (E := fun _ => true) (n := lenS (.t is :: tl.map .f) + lenS l1) hs hQ [.t is0] _ a _ hcl h0 trivial (fun a0 w0 _ k0 => ?_) (quiet_mono (fun a0 k => ⟨rfl, k⟩) _ _ h))
  obtain ⟨hw0, k0⟩ := k0
  rw [hw0]
  refine X_true _ _ _ _ (X_sched (C := fun w' => ∃ e, w' = grow w e) (E := inS l1) hs hQ l1 _ a0 _ hcl0 h1 hw (fun a' w' _ k' => ?_) k0)
  refine X_of_any (C' := fun _ => True) (E' := fun _ => true) _ _ _ _ (fun j hj hun => ?_) ?_
  · have := List.all_eq_true.1 hE j (List.mem_range.2 (by rw [hn]; exact hj))
    rcases Bool.or_eq_true_iff.1 this with h3 | h3
    · exact absurd (h3.symm.trans hun) (by decide)
    · simpa using h3
  · have := X_sched (P := P) (Q := Q) (C := fun _ => True) (E := fun _ => true) (n := 0) (K := fun a2 w2 => Q .normal a2 w2) hs hQ (.t is :: tl.map .f) _ a' w' (closed_markS l1 _ _ hcl0 h1) h2 trivial (fun a2 w2 _ k2 => ⟨he, k2⟩) (quiet_mono (fun a2 h2 => X_of_list tl a2 w' hl h2) _ _ k')
    simpa using this
end
end Go.Proofs.Ytfoemacgmehpiaa

/- What is proved here: a region that draws its order: reads of cells that no operation changes, forced operations, operations that look at no memory, the rest forced. No condition but the Bool that is asked. -/
namespace Go.Proofs.Ytfoemacgmehpiaa
open Go.RowKit

section
variable {P : Program} {ops : Array Oper} {Q : Exit → Act → World → Prop} {R : Nat → World → Prop}
/-- Operations whose turn is forced, then K. -/
def wpFoK (P : Program) (ops : Array Oper) (Q : Exit → Act → World → Prop) (R : Nat → World → Prop) (K : Act → World → Prop) : List Nat → Act → World → Prop
  | [], a, w => K a w
  | i :: r, a, w => match ops[i]? with
    | some o => if Region.wanted o (yielded ops a.tmps) then o.wp P a w (fun a' w' => R i w' ∧ wpFoK P ops Q R K r a' w') Q ∨ (o.asks P a w ∧ LetsOut Q) else R i w ∧ wpFoK P ops Q R K r (a.put o.dst undef) w
    | none => False
def preB (ops : Array Oper) : List Nat → Array Bool → Bool
  | [], _ => true
  | i :: r, listed => decide (Region.ready .any ops listed = [i]) && preB ops r (listed.setIfInBounds i true)
theorem forcedRK {K : Act → World → Prop} {n : Nat} : ∀ (l : List Nat) (listed : Array Bool) (a : Act) (w : World), preB ops l listed = true → wpFoK P ops Q R K l a w → (∀ a' w', K a' w' → wpAnyR P ops Q R n (mark l listed) a' w') → wpAnyR P ops Q R (n + l.length) listed a w
  | [], _, a, w, _, h, hK => hK a w h
  | i :: r, listed, a, w, hB, h, hK => by
    simp only [preB, Bool.and_eq_true, decide_eq_true_eq] at hB
    obtain ⟨hr, hB'⟩ := hB
    have hk : i ∈ Region.ready .any ops listed := by rw [hr]; simp
    obtain ⟨_, o, ho, _⟩ := mem_ready.1 hk
    refine ⟨fun h1 => (by rw [hr] at h1; cases h1), fun j hj => ?_⟩
    rw [hr] at hj
    have hji : j = i := by simpa using hj
    subst hji
    simp only [wpFoK, ho] at h
    unfold wpOp
    simp only [ho]
    split
    · rename_i hwt
      simp only [hwt, if_true] at h
      exact h.imp (Oper.wp_mono (fun a' w' h' => ⟨h'.1, forcedRK r _ a' w' hB' h'.2 hK⟩)) id
    · rename_i hwt
      simp only [hwt] at h
      exact ⟨h.1, forcedRK r _ _ w hB' h.2 hK⟩
theorem wpFoK_nil {K : Act → World → Prop} {a : Act} {w : World} (h : K a w) : wpFoK P ops Q R K [] a w := h
theorem wpFoK_op {K : Act → World → Prop} {i : Nat} {o : Oper} {r : List Nat} {a : Act} {w : World} (ho : ops[i]? = some o) (hw : Region.wanted o (yielded ops a.tmps) = true)
    (h : ∀ K' : Act → World → Prop, (∀ a' w', R i w' → wpFoK P ops Q R K r a' w' → K' a' w') → o.wp P a w K' Q) : wpFoK P ops Q R K (i :: r) a w := by
  simp only [wpFoK, ho, hw, if_true]
  exact .inl (h _ fun _ _ h1 h2 => ⟨h1, h2⟩)
def tfB (ops : Array Oper) (is1 f1 is3 f2 : List Nat) : Bool :=
  Region.noSelect ops && takeB ops (fun _ => true) true is1 (Array.replicate ops.size false) && preB ops f1 (mark is1 (Array.replicate ops.size false)) &&
  takeB ops (fun _ => true) true is3 (mark f1 (mark is1 (Array.replicate ops.size false))) && forcedB ops f2 (mark is3 (mark f1 (mark is1 (Array.replicate ops.size false)))) &&
  decide (f2.length + is3.length + f1.length + is1.length = ops.size)
theorem closed_pre : ∀ (l : List Nat) (listed : Array Bool), Closed ops listed → preB ops l listed = true → Closed ops (mark l listed)
  | [], _, h, _ => h
  | i :: r, listed, h, hB => by
    simp only [preB, Bool.and_eq_true, decide_eq_true_eq] at hB
    exact closed_pre r _ (h.set (by rw [hB.1]; simp)) hB.2
/-- S1 holds behind each operation: the reads is1, the forced operations f1, the reads is3, the rest f2 in its forced order. -/
theorem wp_region_tf {id : Nat} {a : Act} {w : World} (S1 : World → Prop) (is1 f1 is3 f2 : List Nat) (hm : P.follows .mixedOrders = true) (hB : tfB ops is1 f1 is3 f2 = true)
    (hQ : ∀ c a (d : Tmp) v w, Q (.panic c) (a.put (some d) v) w → Q (.panic c) a w) (hw : S1 w.drew)
    (h : wpQuiet P ops S1 (fun a1 => wpFoK P ops Q (fun _ w' => S1 w') (fun a2 w2 => S1 w2 ∧ wpQuiet P ops S1 (fun a3 => wpFo P ops Q (fun _ w' => S1 w') f2 a3 w2) (opsAt ops is3) a2) f1 a1 w.drew) (opsAt ops is1) a) :
    (Code.region id ops true).wp P Q a w := by
  simp only [tfB, Bool.and_eq_true, decide_eq_true_eq] at hB
  obtain ⟨⟨⟨⟨⟨hs, h1⟩, h2⟩, h3⟩, h4⟩, hn⟩ := hB
  refine wp_region_any hm ?_
  have hcl : Closed ops (Array.replicate ops.size false) := fun j oj _ hl => (by simp [Array.getElem?_replicate] at hl; split at hl <;> simp at hl)
  rw [← hn]
  rw [← hn] at h1 h2 h3 h4 hcl
  have hcl1 := closed_mark is1 _ true _ hcl h1
  have hcl2 := closed_pre f1 _ hcl1 h2
  refine wpAny_of_R _ _ _ _ (take_readR (S := S1) (R := fun _ w' => S1 w') (fun _ => true) (fun j w' _ hR => hR) hs hQ hw is1 _ a hcl (fun i _ w' hS => hS) h1 h (fun a1 k1 => ?_))
  refine forcedRK f1 _ a1 _ h2 k1 (fun a2 w2 k2 => ?_)
  refine take_readR (S := S1) (R := fun _ w' => S1 w') (fun _ => true) (fun j w' _ hR => hR) hs hQ k2.1 is3 _ a2 hcl2 (fun i _ w' hS => hS) h3 k2.2 (fun a3 k3 => ?_)
  exact forcedR f2 _ a3 _ h4 k3
end
end Go.Proofs.Ytfoemacgmehpiaa
