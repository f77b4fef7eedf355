/- What is proved here: contracts of functions and plain facts, several texts in one; each one says ahead what it proves, and its conditions. -/
import Derived.Test.YtpjhiojdnebgoaaC01
/- What is proved here: a region that draws its order: reads of cells that no operation changes, forced operations, operations that look at no memory, the rest forced. No condition but the Bool that is asked. -/
namespace Go.Proofs.Ytpjhiojdnebgoaa
open Go.RowKit

section
variable {P : Program} {ops : Array Oper} {Q : Exit → Act → World → Prop} {R : Nat → World → Prop}
/-- Operations whose turn is forced, then K. -/
def wpFoK (P : Program) (ops : Array Oper) (Q : Exit → Act → World → Prop) (R : Nat → World → Prop) (K : Act → World → Prop) : List Nat → Act → World → Prop
  | [], a, w => K a w
  | i :: r, a, w => match ops[i]? with
    | some o => if Region.wanted o (yielded ops a.tmps) then o.wp P a w (fun a' w' => R i w' ∧ wpFoK P ops Q R K r a' w') Q ∨ (o.asks P a w ∧ LetsOut Q) else R i w ∧ wpFoK P ops Q R K r (a.put o.dst undef) w
    | none => False
def preB (ops : Array Oper) : List Nat → Array Bool → Bool
  | [], _ => true
  | i :: r, listed => decide (Region.ready .any ops listed = [i]) && preB ops r (listed.setIfInBounds i true)
theorem forcedRK {K : Act → World → Prop} {n : Nat} : ∀ (l : List Nat) (listed : Array Bool) (a : Act) (w : World), preB ops l listed = true → wpFoK P ops Q R K l a w → (∀ a' w', K a' w' → wpAnyR P ops Q R n (mark l listed) a' w') → wpAnyR P ops Q R (n + l.length) listed a w
  | [], _, a, w, _, h, hK => hK a w h
  | i :: r, listed, a, w, hB, h, hK => by
    simp only [preB, Bool.and_eq_true, decide_eq_true_eq] at hB
    obtain ⟨hr, hB'⟩ := hB
    have hk : i ∈ Region.ready .any ops listed := by rw [hr]; simp
    obtain ⟨_, o, ho, _⟩ := mem_ready.1 hk
    refine ⟨fun h1 => (by rw [hr] at h1; cases h1), fun j hj => ?_⟩
    rw [hr] at hj
    have hji : j = i := by simpa using hj
    subst hji
    simp only [wpFoK, ho] at h
    unfold wpOp
    simp only [ho]
    split
    · rename_i hwt
      simp only [hwt, if_true] at h
      exact h.imp (Oper.wp_mono (fun a' w' h' => ⟨h'.1, forcedRK r _ a' w' hB' h'.2 hK⟩)) id
    · rename_i hwt
      simp only [hwt] at h
      exact ⟨h.1, forcedRK r _ _ w hB' h.2 hK⟩
theorem wpFoK_nil {K : Act → World → Prop} {a : Act} {w : World} (h : K a w) : wpFoK P ops Q R K [] a w := h
theorem wpFoK_op {K : Act → World → Prop} {i : Nat} {o : Oper} {r : List Nat} {a : Act} {w : World} (ho : ops[i]? = some o) (hw : Region.wanted o (yielded ops a.tmps) = true)
    (h : ∀ K' : Act → World → Prop, (∀ a' w', R i w' → wpFoK P ops Q R K r a' w' → K' a' w') → o.wp P a w K' Q) : wpFoK P ops Q R K (i :: r) a w := by
  simp only [wpFoK, ho, hw, if_true]
  exact .inl (h _ fun _ _ h1 h2 => ⟨h1, h2⟩)
def tfB (ops : Array Oper) (is1 f1 is3 f2 : List Nat) : Bool :=
  Region.noSelect ops && takeB ops (fun _ => true) true is1 (Array.replicate ops.size false) && preB ops f1 (mark is1 (Array.replicate ops.size false)) &&
  takeB ops (fun _ => true) true is3 (mark f1 (mark is1 (Array.replicate ops.size false))) && forcedB ops f2 (mark is3 (mark f1 (mark is1 (Array.replicate ops.size false)))) &&
  decide (f2.length + is3.length + f1.length + is1.length = ops.size)
theorem closed_pre : ∀ (l : List Nat) (listed : Array Bool), Closed ops listed → preB ops l listed = true → Closed ops (mark l listed)
  | [], _, h, _ => h
  | i :: r, listed, h, hB => by
    simp only [preB, Bool.and_eq_true, decide_eq_true_eq] at hB
    exact closed_pre r _ (h.set (by rw [hB.1]; simp)) hB.2
/-- S1 holds behind each operation: the reads is1, the forced operations f1, the reads is3, the rest f2 in its forced order. -/
theorem wp_region_tf {id : Nat} {a : Act} {w : World} (S1 : World → Prop) (is1 f1 is3 f2 : List Nat) (hm : P.follows .mixedOrders = true) (hB : tfB ops is1 f1 is3 f2 = true)
    (hQ : ∀ c a (d : Tmp) v w, Q (.panic c) (a.put (some d) v) w → Q (.panic c) a w) (hw : S1 w.drew)
    (h : wpQuiet P ops S1 (fun a1 => wpFoK P ops Q (fun _ w' => S1 w') (fun a2 w2 => S1 w2 ∧ wpQuiet P ops S1 (fun a3 => wpFo P ops Q (fun _ w' => S1 w') f2 a3 w2) (opsAt ops is3) a2) f1 a1 w.drew) (opsAt ops is1) a) :
    (Code.region id ops true).wp P Q a w := by
  simp only [tfB, Bool.and_eq_true, decide_eq_true_eq] at hB
  obtain ⟨⟨⟨⟨⟨hs, h1⟩, h2⟩, h3⟩, h4⟩, hn⟩ := hB
  refine wp_region_any hm ?_
  have hcl : Closed ops (Array.replicate ops.size false) := fun j oj _ hl => (by simp [Array.getElem?_replicate] at hl; split at hl <;> simp at hl)
  rw [← hn]
  rw [← hn] at h1 h2 h3 h4 hcl
  have hcl1 := closed_mark is1 _ true _ hcl h1
  have hcl2 := closed_pre f1 _ hcl1 h2
  refine wpAny_of_R _ _ _ _ (take_readR (S := S1) (R := fun _ w' => S1 w') (fun _ => true) (fun j w' _ hR => hR) hs hQ hw is1 _ a hcl (fun i _ w' hS => hS) h1 h (fun a1 k1 => ?_))
  refine forcedRK f1 _ a1 _ h2 k1 (fun a2 w2 k2 => ?_)
  refine take_readR (S := S1) (R := fun _ w' => S1 w') (fun _ => true) (fun j w' _ hR => hR) hs hQ k2.1 is3 _ a2 hcl2 (fun i _ w' hS => hS) h3 k2.2 (fun a3 k3 => ?_)
  exact forcedR f2 _ a3 _ h4 k3
end
end Go.Proofs.Ytpjhiojdnebgoaa
