/- What is proved here: contracts of functions and plain facts, several texts in one; each one says ahead what it proves, and its conditions. -/
import Derived.Test.YthlcmlngmcoknaaC01
/- What is proved here: a schedule's Bool in parts, so that the kernel looks at each part by itself. No condition. -/
namespace Go.Proofs.Ythlcmlngmcoknaa
open Go.RowKit

section
variable {P : Program} {ops : Array Oper} {Q : Exit → Act → World → Prop}
theorem schedB_app (E : Nat → Bool) (st : Bool) : ∀ (a b : List Sg) (listed : Array Bool), schedB ops E st a listed = true → schedB ops E st b (markS a listed) = true → schedB ops E st (a ++ b) listed = true
  | [], _, _, _, h => h
  | .t is :: r, b, listed, h1, h2 => by
    simp only [schedB, Bool.and_eq_true] at h1
    show schedB ops E st (.t is :: (r ++ b)) listed = true
    simp only [schedB, Bool.and_eq_true]
    exact ⟨h1.1, schedB_app E st r b _ h1.2 h2⟩
  | .f i :: r, b, listed, h1, h2 => by
    simp only [schedB, Bool.and_eq_true] at h1
    show schedB ops E st (.f i :: (r ++ b)) listed = true
    simp only [schedB, Bool.and_eq_true]
    exact ⟨h1.1, schedB_app E st r b _ h1.2 h2⟩
theorem markS_app : ∀ (a b : List Sg) (listed : Array Bool), markS (a ++ b) listed = markS b (markS a listed)
  | [], _, _ => rfl
  | .t is :: r, b, listed => markS_app r b _
  | .f i :: r, b, listed => markS_app r b _
/-- As wp_region_st, the check of the schedule in six parts. -/
theorem wp_region_st6 {id : Nat} {a : Act} {w : World} (l1 : List Sg) (a1 a2 a3 a4 : List Sg) (L1 L2 L3 L4 : Array Bool) (tl : List Nat) (hl : l1 = a1 ++ (a2 ++ (a3 ++ a4))) (hm : P.follows .mixedOrders = true)
    (e1 : markS a1 (Array.replicate ops.size false) = L1) (e2 : markS a2 L1 = L2) (e3 : markS a3 L2 = L3) (e4 : markS a4 L3 = L4)
    (h0 : (Region.noSelect ops && decide (lenS (tl.map .f) + lenS l1 = ops.size) && ((List.range ops.size).all fun j => L4.getD j true || !inS l1 j) && tl.all fun i => decide (i < ops.size)) = true)
    (h1 : schedB ops (inS l1) true a1 (Array.replicate ops.size false) = true) (h2 : schedB ops (inS l1) true a2 L1 = true) (h3 : schedB ops (inS l1) true a3 L2 = true) (h4 : schedB ops (inS l1) true a4 L3 = true)
    (h5 : (schedB ops (fun _ => true) true (tl.map .f) L4 && (Region.ready .any ops (markS (tl.map .f) L4)).isEmpty) = true)
    (hQ : ∀ c a (d : Tmp) v w, Q (.panic c) (a.put (some d) v) w → Q (.panic c) a w)
    (h : wpX P ops Q (fun w' => ∃ e, w' = grow w e) (fun a' w' => wpList P ops Q (opsAt ops tl) a' w') l1 a w.drew) :
    (Code.region id ops true).wp P Q a w := by
  have em : markS l1 (Array.replicate ops.size false) = L4 := by rw [hl, markS_app, markS_app, markS_app, e1, e2, e3, e4]
  have es : schedB ops (inS l1) true l1 (Array.replicate ops.size false) = true := by
    conv => lhs; arg 4; rw [hl]
    refine schedB_app _ _ _ _ _ h1 ?_
    rw [e1]
    refine schedB_app _ _ _ _ _ h2 ?_
    rw [e2]
    refine schedB_app _ _ _ _ _ h3 ?_
    rw [e3]; exact h4
  simp only [Bool.and_eq_true] at h0 h5
  refine wp_region_st l1 tl hm ?_ hQ h
  unfold sB
  rw [em, es, h0.1.1.1, h5.1, h0.1.1.2, h0.1.2, h5.2, h0.2]
  rfl
end
end Go.Proofs.Ythlcmlngmcoknaa

/- What is proved here: a region that draws its order: operations that look at no memory, a schedule, again such operations, then the rest in one forced order. No condition but the Bool that is asked. -/
namespace Go.Proofs.Ythlcmlngmcoknaa
open Go.RowKit

section
variable {P : Program} {ops : Array Oper} {Q : Exit → Act → World → Prop}
/-- What is known behind operations may be forgotten. -/
theorem X_true {C' : World → Prop} {E' : Nat → Bool} : ∀ (fuel : Nat) (listed : Array Bool) (a : Act) (w : World), wpAnyX P ops Q C' E' fuel listed a w → wpAnyX P ops Q (fun _ => True) (fun _ => true) fuel listed a w
  | 0, _, _, _, h => h
  | fuel + 1, _, _, _, h => ⟨h.1, fun i hi => wpOp_mono (fun a' w' h' => ⟨fun _ => trivial, X_true fuel _ a' w' h'.2⟩) (h.2 i hi)⟩
/-- The Bool that 'wp_region_pstt' asks. -/
def psB (ops : Array Oper) (is0 : List Nat) (l1 l2 : List Sg) : Bool :=
  Region.noSelect ops && schedB ops (fun _ => true) true [.t is0] (Array.replicate ops.size false) && schedB ops (inS l1) true l1 (mark is0 (Array.replicate ops.size false)) &&
  schedB ops (fun _ => true) true l2 (markS l1 (mark is0 (Array.replicate ops.size false))) && decide (lenS l2 + lenS l1 + lenS [.t is0] = ops.size) &&
  ((List.range ops.size).all fun j => (markS l1 (mark is0 (Array.replicate ops.size false))).getD j true || !inS l1 j) &&
  (Region.ready .any ops (markS l2 (markS l1 (mark is0 (Array.replicate ops.size false))))).isEmpty
/-- Operations that look at no memory, a schedule, again operations that look at no memory, then the rest in one forced order. -/
theorem wp_region_pstt {id : Nat} {a : Act} {w : World} (is0 : List Nat) (l1 : List Sg) (is tl : List Nat) (hm : P.follows .mixedOrders = true) (hB : (psB ops is0 l1 (.t is :: tl.map .f) && tl.all fun i => decide (i < ops.size)) = true)
    (hQ : ∀ c a (d : Tmp) v w, Q (.panic c) (a.put (some d) v) w → Q (.panic c) a w)
    (h : wpQuiet P ops (fun _ => True) (fun a0 => wpX P ops Q (fun w' => ∃ e, w' = grow w e) (fun a' w' => wpQuiet P ops (fun _ => True) (fun a2 => wpList P ops Q (opsAt ops tl) a2 w') (opsAt ops is) a') l1 a0 w.drew) (opsAt ops is0) a) :
    (Code.region id ops true).wp P Q a w := by
  simp only [psB, Bool.and_eq_true, decide_eq_true_eq, List.isEmpty_iff] at hB
  obtain ⟨⟨⟨⟨⟨⟨⟨hs, h0⟩, h1⟩, h2⟩, hn⟩, hE⟩, he⟩, htl⟩ := hB
  have hl : ∀ i ∈ tl, i < ops.size := fun i hi => by simpa using List.all_eq_true.1 htl i hi
  refine wp_region_any hm ?_
  have hw : ∃ e, ({ w with drawn := w.drawn + 1 } : World) = grow w e := grow_of ((Below.refl w.heap.size w).drew)
  have hcl : Closed ops (Array.replicate ops.size false) := fun j oj _ hl => (by simp [Array.getElem?_replicate] at hl; split at hl <;> simp at hl)
  rw [← hn]
  rw [← hn] at h0 h1 h2 hE he hcl
  have hcl0 := closed_markS [.t is0] _ _ hcl h0
  refine wpAny_of_X _ _ _ _ (X_sched (K := fun a0 w0 => w0 = w.drew ∧ wpX P ops Q (fun w' => ∃ e, w' = grow w e) (fun a' w' => wpQuiet P ops (fun _ => True) (fun a2 => wpList P ops Q (opsAt ops tl) a2 w') (opsAt ops is) a') l1 a0 w.drew) (C := fun _ => True) (E := fun _ => true) (n := lenS (.t is :: tl.map .f) + lenS l1) hs hQ [.t is0] _ a _ hcl h0 trivial (fun a0 w0 _ k0 => ?_) (quiet_mono (fun a0 k => ⟨rfl, k⟩) _ _ h))
  obtain ⟨hw0, k0⟩ := k0
  rw [hw0]
  refine X_true _ _ _ _ (X_sched (C := fun w' => ∃ e, w' = grow w e) (E := inS l1) hs hQ l1 _ a0 _ hcl0 h1 hw (fun a' w' _ k' => ?_) k0)
  refine X_of_any (C' := fun _ => True) (E' := fun _ => true) _ _ _ _ (fun j hj hun => ?_) ?_
  · have := List.all_eq_true.1 hE j (List.mem_range.2 (by rw [hn]; exact hj))
    rcases Bool.or_eq_true_iff.1 this with h3 | h3
    · exact absurd (h3.symm.trans hun) (by decide)
    · simpa using h3
  · have := X_sched (P := P) (Q := Q) (C := fun _ => True) (E := fun _ => true) (n := 0) (K := fun a2 w2 => Q .normal a2 w2) hs hQ (.t is :: tl.map .f) _ a' w' (closed_markS l1 _ _ hcl0 h1) h2 trivial (fun a2 w2 _ k2 => ⟨he, k2⟩) (quiet_mono (fun a2 h2 => X_of_list tl a2 w' hl h2) _ _ k')
    simpa using this
end
end Go.Proofs.Ythlcmlngmcoknaa
