/- What is proved here: a region that draws its order may be walked along one schedule: operations that may be taken at once, and operations whose turn is forced. No condition but the Bool that is asked. -/
import Derived.Test.YtdgdlpnhhelgnaaRegion
import Derived.LoopN
namespace Go.Proofs.Ytdgdlpnhhelgnaa
open Go.RowKit

/-- A part of a schedule: operations that are taken first, or one whose turn is forced. -/
inductive Sg where
  | t (is : List Nat)
  | f (i : Nat)

section
variable {P : Program} {ops : Array Oper} {Q : Exit → Act → World → Prop} {C : World → Prop} {E : Nat → Bool} {K : Act → World → Prop}

def wpX (P : Program) (ops : Array Oper) (Q : Exit → Act → World → Prop) (C : World → Prop) (K : Act → World → Prop) : List Sg → Act → World → Prop
  | [], a, w => K a w
  | .t is :: r, a, w => wpQuiet P ops C (fun a' => wpX P ops Q C K r a' w) (opsAt ops is) a
  | .f i :: r, a, w => match ops[i]? with
    | some o => if Region.wanted o (yielded ops a.tmps) then o.wp P a w (fun a' w' => C w' ∧ wpX P ops Q C K r a' w') Q ∨ (o.asks P a w ∧ LetsOut Q) else wpX P ops Q C K r (a.put o.dst undef) w
    | none => False

def markS : List Sg → Array Bool → Array Bool
  | [], listed => listed
  | .t is :: r, listed => markS r (mark is listed)
  | .f i :: r, listed => markS r (listed.setIfInBounds i true)
def lenS : List Sg → Nat
  | [] => 0
  | .t is :: r => lenS r + is.length
  | .f _ :: r => lenS r + 1

def schedB (ops : Array Oper) (E : Nat → Bool) (strict : Bool) : List Sg → Array Bool → Bool
  | [], _ => true
  | .t is :: r, listed => takeB ops E strict is listed && schedB ops E strict r (mark is listed)
  | .f i :: r, listed => decide (Region.ready .any ops listed = [i]) && schedB ops E strict r (listed.setIfInBounds i true)

theorem X_sched (hs : Region.noSelect ops = true) (hQ : ∀ c a (d : Tmp) v w, Q (.panic c) (a.put (some d) v) w → Q (.panic c) a w) {n : Nat} :
    ∀ (l : List Sg) (listed : Array Bool) (a : Act) (w : World), Closed ops listed → schedB ops E true l listed = true → C w →
      (∀ a' w', C w' → K a' w' → wpAnyX P ops Q C E n (markS l listed) a' w') → wpX P ops Q C K l a w → wpAnyX P ops Q C E (n + lenS l) listed a w
  | [], listed, a, w, _, _, hw, hK, h => hK a w hw h
  | .t is :: r, listed, a, w, hcl, hB, hw, hK, h => by
    simp only [schedB, Bool.and_eq_true] at hB
    rw [show n + lenS (.t is :: r) = n + lenS r + is.length from (Nat.add_assoc _ _ _).symm]
    exact take_read (S := C) hs hQ hw (fuel := n + lenS r) is listed a hcl hB.1 h fun a' h' => X_sched hs hQ r _ a' w (closed_mark is E true _ hcl hB.1) hB.2 hw hK h'
  | .f i :: r, listed, a, w, hcl, hB, hw, hK, h => by
    simp only [schedB, Bool.and_eq_true, decide_eq_true_eq] at hB
    obtain ⟨hr, hB'⟩ := hB
    have hk : i ∈ Region.ready .any ops listed := by rw [hr]; simp
    obtain ⟨_, o, ho, _⟩ := mem_ready.1 hk
    refine ⟨fun h1 => (by rw [hr] at h1; cases h1), fun j hj => ?_⟩
    rw [hr] at hj
    have hji : j = i := by simpa using hj
    subst hji
    simp only [wpX, ho] at h
    unfold wpOp
    simp only [ho]
    split
    · rename_i hwt
      simp only [hwt, if_true] at h
      exact h.imp (Oper.wp_mono (fun a' w' h' => ⟨fun _ => h'.1, X_sched hs hQ r _ a' w' (hcl.set hk) hB' h'.1 hK h'.2⟩)) id
    · rename_i hwt
      simp only [hwt] at h
      exact ⟨fun _ => hw, X_sched hs hQ r _ _ w (hcl.set hk) hB' hw hK h⟩

/-- What has come up, and the operations that E does not name, need no more of S. -/
theorem X_of_any {C' : World → Prop} {E' : Nat → Bool} : ∀ (fuel : Nat) (listed : Array Bool) (a : Act) (w : World), (∀ j, j < ops.size → listed.getD j true = false → E j = false) →
    wpAnyX P ops Q C' E' fuel listed a w → wpAnyX P ops Q C E fuel listed a w
  | 0, _, _, _, _, h => h
  | fuel + 1, listed, a, w, hE, h => ⟨h.1, fun i hi => wpOp_mono (fun a' w' h' => ⟨(fun hEi => by
      obtain ⟨hun, o, ho, _⟩ := mem_ready.1 hi
      have := hE i (Array.getElem?_eq_some_iff.1 ho).1 hun
      rw [this] at hEi; cases hEi), X_of_any fuel _ a' w' (fun j hj hun => hE j hj (by
        by_cases hij : i = j
        · subst hij; exact (mem_ready.1 hi).1
        · rwa [getD_set_ne true hij] at hun)) h'.2⟩) (h.2 i hi)⟩

def inS (l : List Sg) (j : Nat) : Bool := l.any fun | .t is => is.contains j | .f i => i == j

/-- The Bool that 'wp_region_s' asks. -/
def sB (ops : Array Oper) (l1 l2 : List Sg) : Bool :=
  Region.noSelect ops && schedB ops (inS l1) true l1 (Array.replicate ops.size false) &&
  schedB ops (fun _ => true) true l2 (markS l1 (Array.replicate ops.size false)) && decide (lenS l2 + lenS l1 = ops.size) &&
  ((List.range ops.size).all fun j => (markS l1 (Array.replicate ops.size false)).getD j true || !inS l1 j) &&
  (Region.ready .any ops (markS l2 (markS l1 (Array.replicate ops.size false)))).isEmpty

theorem closed_markS : ∀ (l : List Sg) (E' : Nat → Bool) (listed : Array Bool), Closed ops listed → schedB ops E' true l listed = true → Closed ops (markS l listed)
  | [], _, _, h, _ => h
  | .t is :: r, E', listed, h, hB => by
    simp only [schedB, Bool.and_eq_true] at hB
    exact closed_markS r E' _ (closed_mark is E' true _ h hB.1) hB.2
  | .f i :: r, E', listed, h, hB => by
    simp only [schedB, Bool.and_eq_true, decide_eq_true_eq] at hB
    exact closed_markS r E' _ (h.set (by rw [hB.1]; simp)) hB.2

/-- A region that draws its order, walked along a schedule: l1 while only new memory is made (old memory is read there), l2 behind it. -/
theorem wp_region_s {id : Nat} {a : Act} {w : World} (l1 l2 : List Sg) (hm : P.follows .mixedOrders = true) (hB : sB ops l1 l2 = true)
    (hQ : ∀ c a (d : Tmp) v w, Q (.panic c) (a.put (some d) v) w → Q (.panic c) a w)
    (h : wpX P ops Q (fun w' => ∃ e, w' = grow w e) (fun a' w' => wpX P ops Q (fun _ => True) (fun a2 w2 => Q .normal a2 w2) l2 a' w') l1 a w.drew) :
    (Code.region id ops true).wp P Q a w := by
  simp only [sB, Bool.and_eq_true, decide_eq_true_eq, List.isEmpty_iff] at hB
  obtain ⟨⟨⟨⟨⟨hs, h1⟩, h2⟩, hn⟩, hE⟩, he⟩ := hB
  refine wp_region_any hm ?_
  have hw : ∃ e, ({ w with drawn := w.drawn + 1 } : World) = grow w e := grow_of ((Below.refl w.heap.size w).drew)
  have hcl : Closed ops (Array.replicate ops.size false) := fun j oj _ hl => (by simp [Array.getElem?_replicate] at hl; split at hl <;> simp at hl)
  rw [← hn]
  rw [← hn] at h1 h2 hE he hcl
  refine wpAny_of_X _ _ _ _ (X_sched (C := fun w' => ∃ e, w' = grow w e) (E := inS l1) hs hQ l1 _ a _ hcl h1 hw (fun a' w' _ k' => ?_) h)
  refine X_of_any (C' := fun _ => True) (E' := fun _ => true) _ _ _ _ (fun j hj hun => ?_) ?_
  · have := List.all_eq_true.1 hE j (List.mem_range.2 (by rw [hn]; exact hj))
    simpa [hun] using this
  · have := X_sched (P := P) (Q := Q) (C := fun _ => True) (E := fun _ => true) (n := 0) hs hQ l2 _ a' w' (closed_markS l1 _ _ hcl h1) h2 trivial (fun a2 w2 _ k2 => ⟨he, k2⟩) k'
    simpa using this

theorem quiet_mono {K1 K2 : Act → Prop} (hK : ∀ a, K1 a → K2 a) : ∀ (l : List Oper) (a : Act), wpQuiet P ops C K1 l a → wpQuiet P ops C K2 l a
  | [], a, h => hK a h
  | o :: l, a, h => by
    unfold wpQuiet at h ⊢
    split
    · rename_i hw
      rw [if_pos hw] at h
      obtain ⟨v, h1, h2⟩ := h
      exact ⟨v, h1, quiet_mono hK l _ h2⟩
    · rename_i hw
      rw [if_neg hw] at h
      exact quiet_mono hK l _ h
theorem X_mono {K1 K2 : Act → World → Prop} (hK : ∀ a w, K1 a w → K2 a w) : ∀ (l : List Sg) (a : Act) (w : World), wpX P ops Q C K1 l a w → wpX P ops Q C K2 l a w
  | [], a, w, h => hK a w h
  | .t is :: r, a, w, h => quiet_mono (fun a' h' => X_mono hK r a' w h') _ a h
  | .f i :: r, a, w, h => by
    unfold wpX at h ⊢
    split
    · rename_i o ho
      simp only [ho] at h
      split
      · rename_i hw
        rw [if_pos hw] at h
        exact h.imp (Oper.wp_mono (fun a' w' h' => ⟨h'.1, X_mono hK r a' w' h'.2⟩)) id
      · rename_i hw
        rw [if_neg hw] at h
        exact X_mono hK r _ w h
    · rename_i ho
      simp only [ho] at h
theorem X_of_list : ∀ (tl : List Nat) (a : Act) (w : World), (∀ i ∈ tl, i < ops.size) → wpList P ops Q (opsAt ops tl) a w → wpX P ops Q (fun _ => True) (fun a2 w2 => Q .normal a2 w2) (tl.map .f) a w
  | [], a, w, _, h => h
  | i :: tl, a, w, hl, h => by
    have hi := hl i (by simp)
    have ho : ops[i]? = some ops[i] := Array.getElem?_eq_getElem hi
    have e : opsAt ops (i :: tl) = ops[i] :: opsAt ops tl := by simp [opsAt, ho]
    rw [e] at h
    simp only [List.map_cons, wpX, ho]
    unfold wpList at h
    split
    · rename_i hwt
      rw [if_pos hwt] at h
      exact h.imp (Oper.wp_mono (fun a' w' h' => ⟨trivial, X_of_list tl a' w' (fun j hj => hl j (by simp [hj])) h'⟩)) id
    · rename_i hwt
      rw [if_neg hwt] at h
      exact X_of_list tl _ w (fun j hj => hl j (by simp [hj])) h
/-- The same, the rest in one forced order. -/
theorem wp_region_st {id : Nat} {a : Act} {w : World} (l1 : List Sg) (tl : List Nat) (hm : P.follows .mixedOrders = true) (hB : (sB ops l1 (tl.map .f) && tl.all fun i => decide (i < ops.size)) = true)
    (hQ : ∀ c a (d : Tmp) v w, Q (.panic c) (a.put (some d) v) w → Q (.panic c) a w)
    (h : wpX P ops Q (fun w' => ∃ e, w' = grow w e) (fun a' w' => wpList P ops Q (opsAt ops tl) a' w') l1 a w.drew) :
    (Code.region id ops true).wp P Q a w := by
  simp only [Bool.and_eq_true] at hB
  have hl : ∀ i ∈ tl, i < ops.size := fun i hi => by simpa using List.all_eq_true.1 hB.2 i hi
  refine wp_region_s l1 (tl.map .f) hm hB.1 hQ ?_
  exact X_mono (fun a' w' h' => X_of_list tl a' w' hl h') l1 a _ h

theorem wpX_t {is : List Nat} {r : List Sg} {a : Act} {w : World} (h : wpQuiet P ops C (fun a' => wpX P ops Q C K r a' w) (opsAt ops is) a) : wpX P ops Q C K (.t is :: r) a w := h
theorem wpX_f {i : Nat} {o : Oper} {r : List Sg} {a : Act} {w : World} (ho : ops[i]? = some o) (hw : Region.wanted o (yielded ops a.tmps) = true)
    (h : ∀ K' : Act → World → Prop, (∀ a' w', C w' → wpX P ops Q C K r a' w' → K' a' w') → o.wp P a w K' Q) : wpX P ops Q C K (.f i :: r) a w := by
  simp only [wpX, ho, hw, if_true]
  exact .inl (h _ fun _ _ h1 h2 => ⟨h1, h2⟩)
theorem wpX_skip {i : Nat} {o : Oper} {r : List Sg} {a : Act} {w : World} (ho : ops[i]? = some o) (hw : Region.wanted o (yielded ops a.tmps) = false)
    (h : wpX P ops Q C K r (a.put o.dst undef) w) : wpX P ops Q C K (.f i :: r) a w := by
  simp only [wpX, ho, hw]
  exact h
theorem wpX_nil {a : Act} {w : World} (h : K a w) : wpX P ops Q C K [] a w := h
end

/-- A world is known by what is said of it alone. -/
theorem wp_gen {P : Program} {c : Code} {Q : Exit → Act → World → Prop} {a : Act} {w : World} (F : World → Prop) (hF : F w) (h : ∀ W, F W → c.wp P Q a W) : c.wp P Q a w := h w hF
theorem rounds_gen {P : Program} {c : Code} {Q : Exit → Act → World → Prop} {n : Nat} {a : Act} {w : World} (F : World → Prop) (hF : F w) (h : ∀ W, F W → Code.rounds P c Q n a W) : Code.rounds P c Q n a w := h w hF
/-- Old memory reads as before. -/
theorem grow_lt (W e : World) (b o : Nat) (h : b < W.heap.size) : (grow W e).cell? ⟨b, o, none⟩ = W.cell? ⟨b, o, none⟩ := (below_grow W e).cell (p := ⟨b, o, none⟩) h
theorem Own.rules {w : World} {g : Nat} {T : TypeId} {cs : List Value} (h : Own w g T cs) : (∀ o, w.cell? ⟨g, o, none⟩ = cs[o]?) ∧ (∀ o, w.frozen? ⟨g, o, none⟩ = false) := by
  refine ⟨fun o => ?_, fun o => h.free o⟩
  unfold Own at h
  simp [World.cell?, h]
theorem own_third (w : World) (T : TypeId) (cs : List Value) (o1 o2 : Obj) : Own (((w.alloc o1).alloc o2).alloc (.cells cs.toArray T (0, 0))) (w.heap.size + 1 + 1) T cs := by
  have h := Own.new ((w.alloc o1).alloc o2) T cs
  rw [show ((w.alloc o1).alloc o2).heap.size = w.heap.size + 1 + 1 from by simp] at h
  exact h

end Go.Proofs.Ytdgdlpnhhelgnaa
