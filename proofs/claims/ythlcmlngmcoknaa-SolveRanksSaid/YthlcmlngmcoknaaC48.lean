/- What is proved here: contracts of functions and plain facts, several texts in one; each one says ahead what it proves, and its conditions. -/
import Derived.Test.YthlcmlngmcoknaaC01
import Derived.Test.YthlcmlngmcoknaaC30
/- What is proved here: a region that draws its order may be walked along a tree: reads that may be taken at once, operations whose turn is forced, and places where either of two operations comes next. No condition but the Bool that is asked. -/
namespace Go.Proofs.Ythlcmlngmcoknaa
open Go.RowKit

/-- A tree of a walk: reads, a forced operation, one of two operations; the rest in a forced order. -/
inductive Tr where
  | nil (tl : List Nat)
  | t (is : List Nat) (r : Tr)
  | f (i : Nat) (r : Tr)
  | two (i : Nat) (ri : Tr) (j : Nat) (rj : Tr)
section
variable {P : Program} {ops : Array Oper} {Q : Exit → Act → World → Prop} {S : World → Prop} {E : Nat → Bool}
def stepT (P : Program) (ops : Array Oper) (Q : Exit → Act → World → Prop) (S : World → Prop) (i : Nat) (K : Act → World → Prop) (a : Act) (w : World) : Prop :=
  match ops[i]? with
  | some o => if Region.wanted o (yielded ops a.tmps) then o.wp P a w (fun a' w' => S w' ∧ K a' w') Q ∨ (o.asks P a w ∧ LetsOut Q) else K (a.put o.dst undef) w
  | none => False
def wpT (P : Program) (ops : Array Oper) (Q : Exit → Act → World → Prop) (S : World → Prop) : Tr → Act → World → Prop
  | .nil tl, a, w => wpList P ops Q (opsAt ops tl) a w
  | .t is r, a, w => wpQuiet P ops S (fun a' => wpT P ops Q S r a' w) (opsAt ops is) a
  | .f i r, a, w => stepT P ops Q S i (fun a' w' => wpT P ops Q S r a' w') a w
  | .two i ri j rj, a, w => stepT P ops Q S i (fun a' w' => wpT P ops Q S ri a' w') a w ∧ stepT P ops Q S j (fun a' w' => wpT P ops Q S rj a' w') a w
def treeB (ops : Array Oper) (E : Nat → Bool) : Tr → Nat → Array Bool → Bool
  | .nil tl, n, L => decide (n = lenS (tl.map .f)) && schedB ops (fun _ => true) true (tl.map .f) L && (Region.ready .any ops (markS (tl.map .f) L)).isEmpty && (tl.all fun i => decide (i < ops.size)) && (List.range ops.size).all fun j => L.getD j true || !E j
  | .t is r, n, L => decide (is.length ≤ n) && takeB ops E true is L && treeB ops E r (n - is.length) (mark is L)
  | .f i r, n, L => decide (0 < n) && decide (Region.ready .any ops L = [i]) && treeB ops E r (n - 1) (L.setIfInBounds i true)
  | .two i ri j rj, n, L => decide (0 < n) && decide (Region.ready .any ops L = [i, j]) && treeB ops E ri (n - 1) (L.setIfInBounds i true) && treeB ops E rj (n - 1) (L.setIfInBounds j true)
theorem step_any {i n : Nat} {listed : Array Bool} {a : Act} {w : World} {K : Act → World → Prop} (hw : S w) (h : stepT P ops Q S i K a w) (hK : ∀ a' w', S w' → K a' w' → wpAnyX P ops Q S E n (listed.setIfInBounds i true) a' w') :
    wpOp P ops Q i (fun a' w' => (E i = true → S w') ∧ wpAnyX P ops Q S E n (listed.setIfInBounds i true) a' w') a w := by
  unfold stepT at h
  unfold wpOp
  cases ho : ops[i]? with
  | none => simp only [ho] at h
  | some o =>
    simp only [ho] at h
    simp only []
    split
    · rename_i hwt
      simp only [hwt, if_true] at h
      exact h.imp (Oper.wp_mono (fun a' w' h' => ⟨fun _ => h'.1, hK a' w' h'.1 h'.2⟩)) id
    · rename_i hwt
      simp only [hwt] at h
      exact ⟨fun _ => hw, hK _ w hw h⟩
theorem T_sched (hs : Region.noSelect ops = true) (hQ : ∀ c a (d : Tmp) v w, Q (.panic c) (a.put (some d) v) w → Q (.panic c) a w) :
    ∀ (t : Tr) (n : Nat) (listed : Array Bool) (a : Act) (w : World), Closed ops listed → treeB ops E t n listed = true → S w → wpT P ops Q S t a w → wpAnyX P ops Q S E n listed a w
  | .nil tl, n, listed, a, w, hcl, hB, hw, h => by
    simp only [treeB, Bool.and_eq_true, decide_eq_true_eq, List.isEmpty_iff] at hB
    obtain ⟨⟨⟨⟨hn, h2⟩, he⟩, hl0⟩, hE⟩ := hB
    have hl : ∀ i ∈ tl, i < ops.size := fun i hi => by simpa using List.all_eq_true.1 hl0 i hi
    refine X_of_any (C' := fun _ => True) (E' := fun _ => true) _ _ _ _ (fun j hj hun => ?_) ?_
    · have := List.all_eq_true.1 hE j (List.mem_range.2 hj)
      simpa [hun] using this
    · have := X_sched (P := P) (Q := Q) (C := fun _ => True) (E := fun _ => true) (n := 0) hs hQ (tl.map .f) _ a w hcl h2 trivial (fun a2 w2 _ k2 => ⟨he, k2⟩) (X_of_list tl a w hl h)
      rw [hn]; simpa using this
  | .t is r, n, listed, a, w, hcl, hB, hw, h => by
    simp only [treeB, Bool.and_eq_true, decide_eq_true_eq] at hB
    obtain ⟨⟨hn, h1⟩, h2⟩ := hB
    have := take_read (S := S) (E := E) hs hQ hw (fuel := n - is.length) is listed a hcl h1 h fun a' h' => T_sched hs hQ r _ _ a' w (closed_mark is E true _ hcl h1) h2 hw h'
    rw [Nat.sub_add_cancel hn] at this
    exact this
  | .f i r, n, listed, a, w, hcl, hB, hw, h => by
    simp only [treeB, Bool.and_eq_true, decide_eq_true_eq] at hB
    obtain ⟨⟨hn, hr⟩, h2⟩ := hB
    obtain ⟨m, rfl⟩ : ∃ m, n = m + 1 := ⟨n - 1, by omega⟩
    have hk : i ∈ Region.ready .any ops listed := by rw [hr]; simp
    refine ⟨fun h1 => (by rw [hr] at h1; cases h1), fun j hj => ?_⟩
    rw [hr] at hj
    have hji : j = i := by simpa using hj
    subst hji
    exact step_any hw h fun a' w' hw' h' => T_sched hs hQ r m _ a' w' (hcl.set hk) h2 hw' h'
  | .two i ri k rk, n, listed, a, w, hcl, hB, hw, h => by
    simp only [treeB, Bool.and_eq_true, decide_eq_true_eq] at hB
    obtain ⟨⟨⟨hn, hr⟩, h2⟩, h3⟩ := hB
    obtain ⟨m, rfl⟩ : ∃ m, n = m + 1 := ⟨n - 1, by omega⟩
    have hki : i ∈ Region.ready .any ops listed := by rw [hr]; simp
    have hkk : k ∈ Region.ready .any ops listed := by rw [hr]; simp
    refine ⟨fun h1 => (by rw [hr] at h1; cases h1), fun j hj => ?_⟩
    rw [hr] at hj
    have hji : j = i ∨ j = k := by simpa using hj
    rcases hji with rfl | rfl
    · exact step_any hw h.1 fun a' w' hw' h' => T_sched hs hQ ri m _ a' w' (hcl.set hki) h2 hw' h'
    · exact step_any hw h.2 fun a' w' hw' h' => T_sched hs hQ rk m _ a' w' (hcl.set hkk) h3 hw' h'
def trTail : Tr → List Nat
  | .nil tl => tl
  | .t _ r => trTail r
  | .f _ r => trTail r
  | .two _ ri _ _ => trTail ri
/-- A region that draws its order, walked along a tree; S holds behind each operation but those of the tail. -/
theorem wp_region_tree {id : Nat} {a : Act} {w : World} (S : World → Prop) (t : Tr) (hm : P.follows .mixedOrders = true) (hB : (Region.noSelect ops && treeB ops (fun j => !(trTail t).contains j) t ops.size (Array.replicate ops.size false)) = true)
    (hQ : ∀ c a (d : Tmp) v w, Q (.panic c) (a.put (some d) v) w → Q (.panic c) a w) (hw : S w.drew) (h : wpT P ops Q S t a w.drew) : (Code.region id ops true).wp P Q a w := by
  simp only [Bool.and_eq_true] at hB
  refine wp_region_any hm ?_
  have hcl : Closed ops (Array.replicate ops.size false) := fun j oj _ hl => (by simp [Array.getElem?_replicate] at hl; split at hl <;> simp at hl)
  exact wpAny_of_X _ _ _ _ (T_sched (S := S) hB.1 hQ t _ _ a _ hcl hB.2 hw h)
theorem wpT_t {is : List Nat} {r : Tr} {a : Act} {w : World} (h : wpQuiet P ops S (fun a' => wpT P ops Q S r a' w) (opsAt ops is) a) : wpT P ops Q S (.t is r) a w := h
theorem wpT_f {i : Nat} {o : Oper} {r : Tr} {a : Act} {w : World} (ho : ops[i]? = some o) (hw : Region.wanted o (yielded ops a.tmps) = true)
    (h : ∀ K' : Act → World → Prop, (∀ a' w', S w' → wpT P ops Q S r a' w' → K' a' w') → o.wp P a w K' Q) : wpT P ops Q S (.f i r) a w := by
  simp only [wpT, stepT, ho, hw, if_true]
  exact .inl (h _ fun _ _ h1 h2 => ⟨h1, h2⟩)
theorem wpT_two {i j : Nat} {ri rj : Tr} {a : Act} {w : World} (h1 : wpT P ops Q S (.f i ri) a w) (h2 : wpT P ops Q S (.f j rj) a w) : wpT P ops Q S (.two i ri j rj) a w := ⟨h1, h2⟩
theorem wpT_nil {tl : List Nat} {a : Act} {w : World} (h : wpList P ops Q (opsAt ops tl) a w) : wpT P ops Q S (.nil tl) a w := h
/-- What one append leaves of the other rows. -/
theorem Kept.keep {W w2 : World} {ov : Value} {g n cap B : Nat} (h : Kept W w2 ov (.slice (some ⟨g, 0, none⟩) n cap)) : Keep B W w2 ov g where
  row := fun hr ha => h.row hr ha
  apart := fun hr ha k cap' b h1 h2 => h.apart hr ha b h1 (by simpa [Value.ownBlock] using h2)
theorem own_slice {w : World} {B size n : Nat} {T : TypeId} {v : Value} {cs : List Value} (h : w.ownsRow B T size v (n + 1) cs) : ∃ g cap, v = .slice (some ⟨g, 0, none⟩) (n + 1) cap := by
  obtain ⟨h0, h3⟩ := h
  rcases h3 with ⟨_, h5⟩ | ⟨g, cap, cur, h4, _⟩
  · exact absurd h5 (by omega)
  · exact ⟨g, cap, h4⟩
theorem owns_lt {w : World} {B size n : Nat} {T : TypeId} {v : Value} {cs : List Value} (h : w.ownsRow B T size v n cs) : ∀ b, v.ownBlock = some b → B ≤ b := fun _ hb => (row_lt h hb).1
end
end Go.Proofs.Ythlcmlngmcoknaa
