/- What is proved here: contracts of functions and plain facts, several texts in one; each one says ahead what it proves, and its conditions. -/
import Derived.Test.YthlcmlngmcoknaaC22
import Derived.Test.YthlcmlngmcoknaaC01
/- What is proved here: operations that come up in any order among themselves (a group), each of which keeps what is known of those done before: the walk goes on behind all of them. No condition but the Bool that is asked. -/
namespace Go.Proofs.Ythlcmlngmcoknaa
open Go.RowKit

section
variable {P : Program} {ops : Array Oper} {Q : Exit → Act → World → Prop} {C : World → Prop} {E : Nat → Bool}

/-- The act behind some operations of a group, with their values. -/
def putL (ops : Array Oper) : List (Nat × Value) → Act → Act
  | [], a => a
  | (k, v) :: e, a => (putL ops e a).put (dstOf ops k) v

def orderB (ops : Array Oper) : List Nat → Array Bool → Bool
  | [], _ => true
  | i :: is, L => (Region.ready .any ops L).contains i && orderB ops is (L.setIfInBounds i true)
def groupB (ops : Array Oper) (is : List Nat) (L : Array Bool) : Bool :=
  orderB ops is L && (List.range ops.size).all fun j => is.contains j || L.getD j true ||
    (match ops[j]? with | some o => o.after.any fun e => Region.binds .any e && !L.getD e.on false && !is.contains e.on | none => false) || (is.all fun k => afterB ops ops.size j k)

theorem first_open {keys : List Nat} {listed : Array Bool} : ∀ (is : List Nat) (L : Array Bool), orderB ops is L = true → (∀ j, L.getD j false = true → listed.getD j false = true) →
    (∀ i ∈ is, i ∈ keys → listed.getD i false = true) → (∀ i ∈ is, i ∉ keys → listed.getD i true = false) → (∃ i ∈ is, i ∉ keys) → ∃ i, i ∈ Region.ready .any ops listed
  | [], _, _, _, _, _, h => by obtain ⟨_, h, _⟩ := h; cases h
  | i :: is, L, hB, hL, h1, h2, h3 => by
    simp only [orderB, Bool.and_eq_true] at hB
    by_cases hi : i ∈ keys
    · refine first_open is _ hB.2 (fun j hj => ?_) (fun j hj => h1 j (by simp [hj])) (fun j hj => h2 j (by simp [hj])) ?_
      · by_cases hij : i = j
        · subst hij; exact h1 i (by simp) hi
        · rw [getD_set_ne false hij] at hj; exact hL j hj
      · obtain ⟨j, hj, hn⟩ := h3
        rcases List.mem_cons.1 hj with rfl | hj
        · exact absurd hi hn
        · exact ⟨j, hj, hn⟩
    · have hr : i ∈ Region.ready .any ops L := by simpa using hB.1
      obtain ⟨_, o, ho, hall⟩ := mem_ready.1 hr
      exact ⟨i, mem_ready.2 ⟨h2 i (by simp) hi, o, ho, fun e he hb => hL _ (hall e he hb)⟩⟩

theorem group_only {is keys : List Nat} {L listed : Array Bool} (hB : groupB ops is L = true) (hc : Closed ops listed) (hk : ∀ j d, j ∉ keys → listed.getD j d = L.getD j d) (hks : ∀ j ∈ keys, j ∈ is)
    (hun : ∀ i ∈ is, i ∉ keys → listed.getD i true = false) (ho : ∃ i ∈ is, i ∉ keys) {j : Nat} (hj : j ∈ Region.ready .any ops listed) : j ∈ is ∧ j ∉ keys ∨ j ∈ keys := by
  obtain ⟨hl, o, hoj, hall⟩ := mem_ready.1 hj
  simp only [groupB, Bool.and_eq_true] at hB
  have hB2 := List.all_eq_true.1 hB.2 j (List.mem_range.2 (Array.getElem?_eq_some_iff.1 hoj).1)
  by_cases hjk : j ∈ keys
  · exact .inr hjk
  · refine .inl ⟨?_, hjk⟩
    rw [hk j true hjk] at hl
    simp only [hl, hoj, Bool.or_false, Bool.or_eq_true, List.contains_eq_mem, decide_eq_true_eq] at hB2
    rcases hB2 with (h | h) | h
    · exact h
    · obtain ⟨e, he, hb⟩ := Array.any_eq_true'.1 h
      simp only [Bool.and_eq_true, Bool.not_eq_true', decide_eq_false_iff_not] at hb
      have h1 := hall e he hb.1.1
      rw [hk e.on false (fun hm => hb.2 (hks _ hm)), hb.1.2] at h1
      cases h1
    · obtain ⟨i, hi, hin⟩ := ho
      have h1 := List.all_eq_true.1 h i hi
      have h2 := after_listed hc _ j o hoj hall h1
      have h3 := hun i hi hin
      exact (not_both h3 h2).elim
theorem putL_perm {e e' : List (Nat × Value)} (h : e.Perm e') : (e.map (·.1)).Nodup → (∀ p ∈ e, ∀ q ∈ e, p.1 ≠ q.1 → ∀ x, dstOf ops p.1 = some x → dstOf ops q.1 ≠ some x) → ∀ a, putL ops e a = putL ops e' a := by
  induction h with
  | nil => intro _ _ a; rfl
  | cons p h ih =>
    intro hn hd a
    obtain ⟨k, v⟩ := p
    simp only [List.map_cons, List.nodup_cons] at hn
    show (putL ops _ a).put _ _ = (putL ops _ a).put _ _
    rw [ih hn.2 (fun p hp q hq => hd p (List.mem_cons_of_mem _ hp) q (List.mem_cons_of_mem _ hq)) a]
  | swap p q l =>
    intro hn hd a
    obtain ⟨k, v⟩ := p
    obtain ⟨k', v'⟩ := q
    simp only [List.map_cons, List.nodup_cons, List.mem_cons, not_or] at hn
    show ((putL ops l a).put _ _).put _ _ = ((putL ops l a).put _ _).put _ _
    exact Act.put_comm _ _ _ (fun x hx => hd (k, v) (by simp) (k', v') (by simp) (fun he => hn.1.1 he.symm) x hx)
  | trans h1 h2 ih1 ih2 =>
    intro hn hd a
    rw [ih1 hn hd a]
    exact ih2 ((h1.map _).nodup_iff.1 hn) (fun p hp q hq => hd p (h1.mem_iff.2 hp) q (h1.mem_iff.2 hq)) a

/-- A group: each step keeps what is known; behind all of them the walk goes on. -/
theorem group_any {is : List Nat} {L : Array Bool} {a : Act} {F : Nat → Value → World → Prop} {n : Nat} (hB : groupB ops is L = true) (hn : is.Nodup) (hsz : ∀ i ∈ is, i < L.size)
    (hF : ∀ k v w w', F k v w → Below w.heap.size w w' → F k v w') {D : World → Prop} (hDC : ∀ w, D w → C w) (hC : ∀ w w', D w → Below w.heap.size w w' → D w')
    (hstep : ∀ k ∈ is, ∀ (e : List (Nat × Value)) (listed : Array Bool) w', k ∈ Region.ready .any ops listed → (∀ j d, j ∉ e.map (·.1) → listed.getD j d = L.getD j d) → (e.map (·.1)).Nodup → k ∉ e.map (·.1) → (∀ p ∈ e, p.1 ∈ is ∧ F p.1 p.2 w') → D w' →
      ∀ K' : Act → World → Prop, (∀ v w2, F k v w2 → Below w'.heap.size w' w2 → K' ((putL ops e a).put (dstOf ops k) v) w2) → wpOp P ops Q k K' (putL ops e a) w')
    (hcont : ∀ (e : List (Nat × Value)) w', (e.map (·.1)).Perm is → (∀ p ∈ e, F p.1 p.2 w') → D w' → wpAnyX P ops Q C E n (mark is L) (putL ops e a) w') :
    ∀ (m : Nat) (U : List Nat) (e : List (Nat × Value)) (listed : Array Bool) (w' : World), U.length = m → (e.map (·.1) ++ U).Perm is → Closed ops listed → listed.size = L.size →
      (∀ j d, j ∉ e.map (·.1) → listed.getD j d = L.getD j d) → (∀ j ∈ e.map (·.1), listed.getD j false = true) → (∀ i ∈ is, i ∉ e.map (·.1) → listed.getD i true = false) → (∀ p ∈ e, F p.1 p.2 w') → D w' →
      wpAnyX P ops Q C E (n + m) listed (putL ops e a) w' := by
  intro m
  induction m with
  | zero =>
    intro U e listed w' hU hp _ hs hk hk1 _ hf hw
    have hU0 : U = [] := List.length_eq_zero_iff.1 hU
    subst hU0
    rw [List.append_nil] at hp
    have : listed = mark is L := by
      apply Array.ext
      · rw [hs, mark_size]
      · intro j h1 h2
        have g : listed.getD j false = (mark is L).getD j false := by
          by_cases hj : j ∈ is
          · rw [mark_in is L hj (by omega), hk1 j (hp.mem_iff.2 hj)]
          · rw [mark_ne false is L hj, hk j false (fun h => hj (hp.mem_iff.1 h))]
        simpa [h1, h2] using g
    rw [this]
    exact hcont e w' hp hf hw
  | succ m ih =>
    intro U e listed w' hU hp hc hs hk hk1 hun hf hw
    have hnd : (e.map (·.1) ++ U).Nodup := hp.nodup_iff.2 hn
    obtain ⟨hn1, hn2, hn3⟩ := List.nodup_append.1 hnd
    have hopen : ∃ i ∈ is, i ∉ e.map (·.1) := by
      cases U with
      | nil => cases hU
      | cons u U => exact ⟨u, hp.mem_iff.1 (by simp), fun h => hn3 u h u (by simp) rfl⟩
    have hks : ∀ j ∈ e.map (·.1), j ∈ is := fun j hj => hp.mem_iff.1 (List.mem_append_left _ hj)
    have hB1 : orderB ops is L = true := by
      have := hB
      simp only [groupB, Bool.and_eq_true] at this
      exact this.1
    refine ⟨fun h0 => ?_, fun i hi => ?_⟩
    · obtain ⟨i, hi⟩ := first_open is L hB1 (fun j hj => (by
        by_cases h : j ∈ e.map (·.1)
        · exact hk1 j h
        · rw [hk j false h]; exact hj)) (fun i _ h => hk1 i h) hun hopen
      rw [h0] at hi; cases hi
    · have hi1 : i ∈ is ∧ i ∉ e.map (·.1) := by
        rcases group_only hB hc hk hks hun hopen hi with h | h
        · exact h
        · exact (not_both (mem_ready.1 hi).1 (hk1 i h)).elim
      have hiU : i ∈ U := by
        rcases List.mem_append.1 (hp.mem_iff.2 hi1.1) with h | h
        · exact absurd h hi1.2
        · exact h
      refine hstep i hi1.1 e listed w' hi hk hn1 hi1.2 (fun p hp' => ⟨hks _ (List.mem_map.2 ⟨p, hp', rfl⟩), hf p hp'⟩) hw _ (fun v w2 hv hb => ⟨fun _ => hDC _ (hC _ _ hw hb), ?_⟩)
      refine ih (U.erase i) ((i, v) :: e) _ w2 ?_ ?_ (hc.set hi) (by simpa using hs) ?_ ?_ ?_ ?_ (hC _ _ hw hb)
      · rw [List.length_erase_of_mem hiU, hU]; rfl
      · refine List.Perm.trans ?_ hp
        have h1 := List.perm_cons_erase hiU
        simp only [List.map_cons, List.cons_append]
        exact (List.perm_middle.symm).trans ((h1.symm).append_left _)
      · intro j d hj
        simp only [List.map_cons, List.mem_cons, not_or] at hj
        rw [getD_set_ne d (Ne.symm hj.1)]
        exact hk j d hj.2
      · intro j hj
        simp only [List.map_cons, List.mem_cons] at hj
        by_cases hij : i = j
        · subst hij; exact set_true (by rw [hs]; exact hsz i hi1.1) false
        · rw [getD_set_ne false hij]
          exact hk1 j (hj.resolve_left (Ne.symm hij))
      · intro j hj hjn
        simp only [List.map_cons, List.mem_cons, not_or] at hjn
        rw [getD_set_ne true (Ne.symm hjn.1)]
        exact hun j hj hjn.2
      · intro p hp'
        rcases List.mem_cons.1 hp' with rfl | hp'
        · exact hv
        · exact hF _ _ _ _ (hf p hp') hb
theorem perm_keys {is : List Nat} : ∀ {e : List (Nat × Value)}, (e.map (·.1)).Perm is → ∃ e', e.Perm e' ∧ e'.map (·.1) = is := by
  induction is with
  | nil =>
    intro e h
    have : e = [] := by
      have := h.eq_nil
      simpa using this
    subst this
    exact ⟨[], .refl _, rfl⟩
  | cons i is ih =>
    intro e h
    have hm : i ∈ e.map (·.1) := h.mem_iff.2 (by simp)
    obtain ⟨p, hp, rfl⟩ := List.mem_map.1 hm
    obtain ⟨s, u, rfl⟩ := List.append_of_mem hp
    have h1 : (s ++ p :: u).Perm (p :: (s ++ u)) := List.perm_middle
    have h2 : ((s ++ u).map (·.1)).Perm is := (List.perm_cons p.1).1 (((h1.map (fun x : Nat × Value => x.1)).symm).trans h)
    obtain ⟨e', h3, h4⟩ := ih h2
    exact ⟨p :: e', h1.trans (h3.cons p), by simp [h4]⟩

theorem order_un : ∀ (is : List Nat) (L : Array Bool), orderB ops is L = true → ∀ i ∈ is, L.getD i true = false
  | [], _, _, _, h => by cases h
  | k :: is, L, hB, i, hi => by
    simp only [orderB, Bool.and_eq_true] at hB
    have hk : k ∈ Region.ready .any ops L := by simpa using hB.1
    by_cases hik : k = i
    · subst hik; exact (mem_ready.1 hk).1
    · have := order_un is _ hB.2 i ((List.mem_cons.1 hi).resolve_left (Ne.symm hik))
      rwa [getD_set_ne true hik] at this

/-- Parts of a walk: a schedule, or a group. -/
inductive Ig where
  | s (l : List Sg)
  | g (is : List Nat)

def wpG (P : Program) (ops : Array Oper) (Q : Exit → Act → World → Prop) (C : World → Prop) (K : Act → World → Prop) : List Ig → Act → World → Prop
  | [], a, w => K a w
  | .s l :: r, a, w => wpX P ops Q C (fun a' w' => wpG P ops Q C K r a' w') l a w
  | .g is :: r, a, w => ∃ F : Nat → Value → World → Prop, (∀ k v w w', F k v w → Below w.heap.size w w' → F k v w') ∧
      (∀ k ∈ is, ∀ (e : List (Nat × Value)) w', (∀ j ∈ is, waitsB ops k j = true → j ∈ e.map (·.1)) → (e.map (·.1)).Nodup → k ∉ e.map (·.1) → (∀ p ∈ e, p.1 ∈ is ∧ F p.1 p.2 w') → Below w.heap.size w w' →
        ∀ K' : Act → World → Prop, (∀ v w2, F k v w2 → Below w'.heap.size w' w2 → K' ((putL ops e a).put (dstOf ops k) v) w2) → wpOp P ops Q k K' (putL ops e a) w') ∧
      (∀ (e : List (Nat × Value)) w', e.map (·.1) = is → (∀ p ∈ e, F p.1 p.2 w') → Below w.heap.size w w' → wpG P ops Q C K r (putL ops e a) w')

def lenG : List Ig → Nat
  | [] => 0
  | .s l :: r => lenG r + lenS l
  | .g is :: r => lenG r + is.length
def markG : List Ig → Array Bool → Array Bool
  | [], L => L
  | .s l :: r, L => markG r (markS l L)
  | .g is :: r, L => markG r (mark is L)
def dstB (ops : Array Oper) (is : List Nat) : Bool := is.all fun i => is.all fun j => i == j || match dstOf ops i, dstOf ops j with | some x, some y => x != y | _, _ => true
def gB (ops : Array Oper) (E : Nat → Bool) : List Ig → Array Bool → Bool
  | [], _ => true
  | .s l :: r, L => schedB ops E true l L && gB ops E r (markS l L)
  | .g is :: r, L => groupB ops is L && nodupB is && dstB ops is && (is.all fun i => decide (i < L.size)) && gB ops E r (mark is L)

theorem closed_order : ∀ (is : List Nat) (L : Array Bool), Closed ops L → orderB ops is L = true → Closed ops (mark is L)
  | [], _, h, _ => h
  | i :: is, L, h, hB => by
    simp only [orderB, Bool.and_eq_true] at hB
    exact closed_order is _ (h.set (by simpa using hB.1)) hB.2

theorem G_sched (hs : Region.noSelect ops = true) (hQ : ∀ c a (d : Tmp) v w, Q (.panic c) (a.put (some d) v) w → Q (.panic c) a w) (hC : ∀ w w', C w → Below w.heap.size w w' → C w') {K : Act → World → Prop} {n : Nat} :
    ∀ (l : List Ig) (listed : Array Bool) (a : Act) (w : World), Closed ops listed → gB ops E l listed = true → C w →
      (∀ a' w', C w' → K a' w' → wpAnyX P ops Q C E n (markG l listed) a' w') → wpG P ops Q C K l a w → wpAnyX P ops Q C E (n + lenG l) listed a w
  | [], listed, a, w, _, _, hw, hK, h => hK a w hw h
  | .s l :: r, listed, a, w, hcl, hB, hw, hK, h => by
    simp only [gB, Bool.and_eq_true] at hB
    rw [show n + lenG (.s l :: r) = n + lenG r + lenS l from (Nat.add_assoc _ _ _).symm]
    exact X_sched hs hQ l listed a w hcl hB.1 hw (fun a' w' hw' h' => G_sched hs hQ hC r _ a' w' (closed_markS l _ _ hcl hB.1) hB.2 hw' hK h') h
  | .g is :: r, listed, a, w, hcl, hB, hw, hK, h => by
    simp only [gB, Bool.and_eq_true] at hB
    obtain ⟨⟨⟨⟨hg, hn⟩, hd⟩, hz⟩, hB'⟩ := hB
    obtain ⟨F, hF, hstep, hcont⟩ := h
    have hnd := nodupB_spec hn
    have hB1 : orderB ops is listed = true := by
      have := hg
      simp only [groupB, Bool.and_eq_true] at this
      exact this.1
    have hd' : ∀ i ∈ is, ∀ j ∈ is, i ≠ j → ∀ x, dstOf ops i = some x → dstOf ops j ≠ some x := by
      intro i hi j hj hij x hx hy
      have h1 := List.all_eq_true.1 (List.all_eq_true.1 hd i hi) j hj
      simp [hij, hx, hy] at h1
    rw [show n + lenG (.g is :: r) = n + lenG r + is.length from (Nat.add_assoc _ _ _).symm]
    have hun := order_un is listed hB1
    refine group_any (D := fun w' => C w' ∧ Below w.heap.size w w') (F := F) hg hnd (fun i hi => by simpa using List.all_eq_true.1 hz i hi) hF (fun w h => h.1) (fun w1 w2 h hb => ⟨hC _ _ h.1 hb, below_to h.2 hb⟩) ?_ ?_ is.length is [] listed w rfl (by simp) hcl rfl (fun _ _ _ => rfl) (fun j hj => by cases hj) (fun i hi _ => hun i hi) (fun p hp => by cases hp) ⟨hw, Below.refl _ w⟩
    · intro k hk e l2 w' hr hl hne hke hf hD K' hK'
      refine hstep k hk e w' (fun j hj hwj => ?_) hne hke hf hD.2 K' hK'
      by_cases hje : j ∈ e.map (·.1)
      · exact hje
      · have h1 := hl j true hje
        rw [hun j hj] at h1
        exact (waits_no hr hwj h1).elim
    · intro e w' hp hf hD
      obtain ⟨e', h1, h2⟩ := perm_keys hp
      have hne : (e.map (·.1)).Nodup := hp.nodup_iff.2 hnd
      rw [putL_perm h1 hne (fun p hp' q hq hpq => hd' _ (hp.mem_iff.1 (List.mem_map.2 ⟨p, hp', rfl⟩)) _ (hp.mem_iff.1 (List.mem_map.2 ⟨q, hq, rfl⟩)) hpq) a]
      exact G_sched hs hQ hC r _ _ w' (closed_order is _ hcl hB1) hB' hD.1 hK (hcont e' w' h2 (fun p hp' => hf p (h1.mem_iff.2 hp')) hD.2)
theorem gB_app (E : Nat → Bool) : ∀ (a b : List Ig) (L : Array Bool), gB ops E a L = true → gB ops E b (markG a L) = true → gB ops E (a ++ b) L = true
  | [], _, _, _, h => h
  | .s l :: r, b, L, h1, h2 => by
    simp only [gB, Bool.and_eq_true] at h1
    show gB ops E (.s l :: (r ++ b)) L = true
    simp only [gB, Bool.and_eq_true]
    exact ⟨h1.1, gB_app E r b _ h1.2 h2⟩
  | .g is :: r, b, L, h1, h2 => by
    simp only [gB, Bool.and_eq_true] at h1
    show gB ops E (.g is :: (r ++ b)) L = true
    simp only [gB, Bool.and_eq_true]
    exact ⟨h1.1, gB_app E r b _ h1.2 h2⟩
theorem markG_app : ∀ (a b : List Ig) (L : Array Bool), markG (a ++ b) L = markG b (markG a L)
  | [], _, _ => rfl
  | .s _ :: r, b, _ => markG_app r b _
  | .g _ :: r, b, _ => markG_app r b _
def inG (l : List Ig) (j : Nat) : Bool := l.any fun | .s l => inS l j | .g is => is.contains j
theorem closed_markG : ∀ (l : List Ig) (E' : Nat → Bool) (listed : Array Bool), Closed ops listed → gB ops E' l listed = true → Closed ops (markG l listed)
  | [], _, _, h, _ => h
  | .s l :: r, E', listed, h, hB => by
    simp only [gB, Bool.and_eq_true] at hB
    exact closed_markG r E' _ (closed_markS l _ _ h hB.1) hB.2
  | .g is :: r, E', listed, h, hB => by
    simp only [gB, groupB, Bool.and_eq_true] at hB
    exact closed_markG r E' _ (closed_order is _ h hB.1.1.1.1.1) hB.2
/-- A region that draws its order, walked along schedules and groups; the rest in one forced order. -/
theorem wp_region_g {id : Nat} {a : Act} {w : World} (l1 : List Ig) (L : Array Bool) (tl : List Nat) (hm : P.follows .mixedOrders = true)
    (hmk : markG l1 (Array.replicate ops.size false) = L) (h1 : gB ops (inG l1) l1 (Array.replicate ops.size false) = true)
    (h0 : (Region.noSelect ops && decide (lenS (tl.map .f) + lenG l1 = ops.size) && ((List.range ops.size).all fun j => L.getD j true || !inG l1 j) && tl.all fun i => decide (i < ops.size)) = true)
    (h5 : (schedB ops (fun _ => true) true (tl.map .f) L && (Region.ready .any ops (markS (tl.map .f) L)).isEmpty) = true)
    (hQ : ∀ c a (d : Tmp) v w, Q (.panic c) (a.put (some d) v) w → Q (.panic c) a w)
    (h : wpG P ops Q (fun w' => ∃ e, w' = grow w e) (fun a' w' => wpList P ops Q (opsAt ops tl) a' w') l1 a w.drew) :
    (Code.region id ops true).wp P Q a w := by
  simp only [Bool.and_eq_true, decide_eq_true_eq, List.isEmpty_iff] at h0 h5
  obtain ⟨⟨⟨hs, hn⟩, hE⟩, hl0⟩ := h0
  obtain ⟨h2, he⟩ := h5
  have hl : ∀ i ∈ tl, i < ops.size := fun i hi => by simpa using List.all_eq_true.1 hl0 i hi
  refine wp_region_any hm ?_
  have hw : ∃ e, ({ w with drawn := w.drawn + 1 } : World) = grow w e := grow_of ((Below.refl w.heap.size w).drew)
  have hcl : Closed ops (Array.replicate ops.size false) := fun j oj _ hl => (by simp [Array.getElem?_replicate] at hl; split at hl <;> simp at hl)
  rw [← hn]
  rw [← hn] at h1 hE hcl hmk
  refine wpAny_of_X _ _ _ _ (G_sched (C := fun w' => ∃ e, w' = grow w e) (E := inG l1) hs hQ (fun w1 w2 h hb => by
    obtain ⟨e, rfl⟩ := h
    exact grow_of (below_to (below_grow w e) hb)) l1 _ a _ hcl h1 hw (fun a' w' _ k' => ?_) h)
  rw [hmk]
  refine X_of_any (C' := fun _ => True) (E' := fun _ => true) _ _ _ _ (fun j hj hun => ?_) ?_
  · have := List.all_eq_true.1 hE j (List.mem_range.2 (by rw [hn]; exact hj))
    simpa [hun] using this
  · have := X_sched (P := P) (Q := Q) (C := fun _ => True) (E := fun _ => true) (n := 0) hs hQ (tl.map .f) _ a' w' (by rw [← hmk]; exact closed_markG l1 _ _ hcl h1) h2 trivial (fun a2 w2 _ k2 => ⟨he, k2⟩) (X_of_list tl a' w' hl k')
    simpa using this
end
end Go.Proofs.Ythlcmlngmcoknaa

/- What is proved here: a group of two operations that come up in either order, neither of which reads what the other one gives. No condition but the facts that each keeps. -/
namespace Go.Proofs.Ythlcmlngmcoknaa
open Go.RowKit

section
variable {P : Program} {ops : Array Oper} {Q : Exit → Act → World → Prop} {C : World → Prop} {K : Act → World → Prop}
/-- A region that draws its order, walked along schedules and groups; then operations that look at no memory, then the rest in one forced order. -/
theorem wp_region_gt {id : Nat} {a : Act} {w : World} (l1 : List Ig) (L : Array Bool) (is tl : List Nat) (hm : P.follows .mixedOrders = true)
    (hmk : markG l1 (Array.replicate ops.size false) = L) (h1 : gB ops (inG l1) l1 (Array.replicate ops.size false) = true)
    (h0 : (Region.noSelect ops && decide (lenS (.t is :: tl.map .f) + lenG l1 = ops.size) && ((List.range ops.size).all fun j => L.getD j true || !inG l1 j) && tl.all fun i => decide (i < ops.size)) = true)
    (h5 : (schedB ops (fun _ => true) true (.t is :: tl.map .f) L && (Region.ready .any ops (markS (.t is :: tl.map .f) L)).isEmpty) = true)
    (hQ : ∀ c a (d : Tmp) v w, Q (.panic c) (a.put (some d) v) w → Q (.panic c) a w)
    (h : wpG P ops Q (fun w' => ∃ e, w' = grow w e) (fun a' w' => wpQuiet P ops (fun _ => True) (fun a2 => wpList P ops Q (opsAt ops tl) a2 w') (opsAt ops is) a') l1 a w.drew) :
    (Code.region id ops true).wp P Q a w := by
  simp only [Bool.and_eq_true, decide_eq_true_eq, List.isEmpty_iff] at h0 h5
  obtain ⟨⟨⟨hs, hn⟩, hE⟩, hl0⟩ := h0
  obtain ⟨h2, he⟩ := h5
  have hl : ∀ i ∈ tl, i < ops.size := fun i hi => by simpa using List.all_eq_true.1 hl0 i hi
  refine wp_region_any hm ?_
  have hw : ∃ e, ({ w with drawn := w.drawn + 1 } : World) = grow w e := grow_of ((Below.refl w.heap.size w).drew)
  have hcl : Closed ops (Array.replicate ops.size false) := fun j oj _ hl => (by simp [Array.getElem?_replicate] at hl; split at hl <;> simp at hl)
  rw [← hn]
  rw [← hn] at h1 hE hcl hmk
  refine wpAny_of_X _ _ _ _ (G_sched (C := fun w' => ∃ e, w' = grow w e) (E := inG l1) hs hQ (fun w1 w2 h hb => by
    obtain ⟨e, rfl⟩ := h
    exact grow_of (below_to (below_grow w e) hb)) l1 _ a _ hcl h1 hw (fun a' w' _ k' => ?_) h)
  rw [hmk]
  refine X_of_any (C' := fun _ => True) (E' := fun _ => true) _ _ _ _ (fun j hj hun => ?_) ?_
  · have := List.all_eq_true.1 hE j (List.mem_range.2 (by rw [hn]; exact hj))
    simpa [hun] using this
  · have := X_sched (P := P) (Q := Q) (C := fun _ => True) (E := fun _ => true) (n := 0) hs hQ (.t is :: tl.map .f) _ a' w' (by rw [← hmk]; exact closed_markG l1 _ _ hcl h1) h2 trivial (fun a2 w2 _ k2 => ⟨he, k2⟩) (quiet_mono (fun a2 h2 => X_of_list tl a2 w' hl h2) _ _ k')
    simpa using this
theorem wpOp_of {k : Nat} {o : Oper} {K' : Act → World → Prop} {a : Act} {w : World} (ho : ops[k]? = some o) (hg : o.guard = none) (h : o.wp P a w K' Q) : wpOp P ops Q k K' a w := by
  unfold wpOp
  rw [ho]
  have : Region.wanted o (yielded ops a.tmps) = true := by unfold Region.wanted; rw [hg]
  simp only [this, if_true]
  exact .inl h
theorem wp_made {o : Oper} {t : TypeId} {x y : Operand} {a : Act} {w w' : World} {v : Value} {K' : Act → World → Prop} (hop : o.op = .makeSlice t x y) (hr : (Instr.makeSlice t (a.eval x) (a.eval y)).run P w = .ok v w') (hk : K' (a.put o.dst v) w') : o.wp P a w K' Q := by
  unfold Oper.wp execOp
  simp only [hop]
  generalize a.eval x = X at hr ⊢
  generalize a.eval y = Y at hr ⊢
  simp [go_sem, hr]
  exact hk
theorem wpG_nil {a : Act} {w : World} (h : K a w) : wpG P ops Q C K [] a w := h
theorem two_keys {e : List (Nat × Value)} {i j : Nat} (h : e.map (·.1) = [i, j]) : ∃ u v, e = [(i, u), (j, v)] := by
  match e, h with
  | [(a, u), (b, v)], h =>
    simp only [List.map_cons, List.map_nil, List.cons.injEq, and_true] at h
    obtain ⟨rfl, rfl⟩ := h
    exact ⟨u, v, rfl⟩
theorem wp_group2 {i j : Nat} {r : List Ig} {a : Act} {w : World} (F0 F1 : Value → World → Prop) (di dj : Option Tmp) (hdi : dstOf ops i = di) (hdj : dstOf ops j = dj) (hij : i ≠ j)
    (m0 : ∀ v w w', F0 v w → Below w.heap.size w w' → F0 v w') (m1 : ∀ v w w', F1 v w → Below w.heap.size w w' → F1 v w')
    (h0 : ∀ a' w', Below w.heap.size w w' → ∀ K' : Act → World → Prop, (∀ v w2, F0 v w2 → Below w'.heap.size w' w2 → K' (a'.put di v) w2) → wpOp P ops Q i K' a' w')
    (h1 : ∀ a' w', Below w.heap.size w w' → ∀ K' : Act → World → Prop, (∀ v w2, F1 v w2 → Below w'.heap.size w' w2 → K' (a'.put dj v) w2) → wpOp P ops Q j K' a' w')
    (hc : ∀ u v w', F0 u w' → F1 v w' → Below w.heap.size w w' → wpG P ops Q C K r ((a.put dj v).put di u) w') :
    wpG P ops Q C K (.g [i, j] :: r) a w := by
  subst hdi hdj
  refine ⟨fun k v w => (k = i → F0 v w) ∧ (k = j → F1 v w), fun k v w w' h hb => ⟨fun e => m0 _ _ _ (h.1 e) hb, fun e => m1 _ _ _ (h.2 e) hb⟩, ?_, ?_⟩
  · intro k hk e w' _ _ _ _ hb K' hK'
    rcases List.mem_cons.1 hk with rfl | hk
    · exact h0 _ w' hb K' fun v w2 hf hb2 => hK' v w2 ⟨fun _ => hf, fun e => absurd e hij⟩ hb2
    · obtain rfl : k = j := by simpa using hk
      exact h1 _ w' hb K' fun v w2 hf hb2 => hK' v w2 ⟨fun e => absurd e.symm hij, fun _ => hf⟩ hb2
  · intro e w' he hf hb
    obtain ⟨u, v, rfl⟩ := two_keys he
    exact hc u v w' ((hf (i, u) (by simp)).1 rfl) ((hf (j, v) (by simp)).2 rfl) hb
end
end Go.Proofs.Ythlcmlngmcoknaa

/- What is proved here: a region that draws its order, in which new blocks are made at any moment while calls and appends to rows of the call's own follow one another, may be walked in one order; what the new blocks hold may come from slots that were read before. No condition but the Bool that is asked. -/
namespace Go.Proofs.Ythlcmlngmcoknaa
open Go.RowKit

/-- Slots hold values. -/
def Hold (sl : List (Nat × Value)) (a : Act) : Prop := ∀ p ∈ sl, a.tmps[p.1]? = some p.2
section
variable {P : Program} {ops : Array Oper} {Q : Exit → Act → World → Prop} {S : World → Prop} {sl : List (Nat × Value)} {fv : Nat → Option FlS} {M : Nat → Bool} {K : Act → World → Prop}

/-- The walk: new blocks where they are first wanted, and the operations that follow one another; memory may grow before each. -/
def wpFt (P : Program) (ops : Array Oper) (Q : Exit → Act → World → Prop) (S : World → Prop) (sl : List (Nat × Value)) (fv : Nat → Option FlS) (K : Act → World → Prop) : List It → List Nat → Act → World → Prop
  | [], _, a, w => ∀ w1, Below w.heap.size w w1 → K a w1
  | .fl k :: r, bs, a, w => match fv k with
    | some f => ∀ b w1, Below w.heap.size w w1 → Own w1 b f.T f.zs → b ∉ bs → Hold sl (a.put ((ops[k]?).bind (·.dst)) (f.val b)) ∧ wpFt P ops Q S sl fv K r (b :: bs) (a.put ((ops[k]?).bind (·.dst)) (f.val b)) w1
    | none => False
  | .op i :: r, bs, a, w => match ops[i]? with
    | some o => ∀ w1, Below w.heap.size w w1 → o.wp P a w1 (fun a' w' => Mod bs w1 w' ∧ S w' ∧ Hold sl a' ∧ wpFt P ops Q S sl fv K r bs a' w') Q
    | none => False
  | .tk i :: r, bs, a, w => wpQuiet P ops (fun _ => True) (fun a' => Hold sl a' ∧ wpFt P ops Q S sl fv K r bs a' w) (opsAt ops [i]) a
theorem hold_put {d : Option Tmp} {v : Value} {a : Act} (hd : ∀ x, d = some x → x ∉ sl.map (·.1)) (h : Hold sl a) : Hold sl (a.put d v) := fun p hp => by
  cases d with
  | none => exact h p hp
  | some x =>
    have hx := hd x rfl
    have hne : x ≠ p.1 := fun e => hx (by rw [e]; exact List.mem_map.2 ⟨p, hp, rfl⟩)
    have := h p hp
    simp only [Act.put]
    rw [Array.getElem?_setIfInBounds_ne hne]; exact this
theorem hold_putE (hsl : ∀ k f, fv k = some f → ∀ x, dstOf ops k = some x → x ∉ sl.map (·.1)) : ∀ (e : List (Nat × Nat)) (a : Act), (∀ p ∈ e, ∃ f, fv p.1 = some f) → Hold sl a → Hold sl (putE ops fv e a)
  | [], _, _, h => h
  | (k, b) :: e, a, he, h => by
    obtain ⟨f, hf⟩ := he (k, b) (by simp)
    simp only [putE]
    exact hold_put (hsl k f hf) (hold_putE hsl e a (fun p hp => he p (List.mem_cons_of_mem _ hp)) h)

def FtC (P : Program) (ops : Array Oper) (Q : Exit → Act → World → Prop) (S : World → Prop) (sl : List (Nat × Value)) (fv : Nat → Option FlS) (M : Nat → Bool) (tl : List Nat) (n : Nat) (items : List It) : Prop :=
    ∀ (U : List Nat) (early : List (Nat × Nat)) (L listed : Array Bool) (bs : List Nat) (a : Act) (w w' : World),
      Hold sl a → (∀ j, M j = true → L.getD j false = true) → wpFt P ops Q S sl fv (fun a w => wpList P ops Q (opsAt ops tl) a w) items bs a w → Below w.heap.size w w' → S w' →
      (∀ p ∈ early, ∃ f, fv p.1 = some f ∧ Own w' p.2 f.T f.zs ∧ p.2 ∉ bs) → (early.map (·.1)).Nodup → (early.map (·.2)).Nodup → (∀ b ∈ bs, b < w'.heap.size) →
      (∀ k, k ∈ floatsOf items ↔ k ∈ U ∨ ∃ b, (k, b) ∈ early) → (∀ k ∈ U, ∀ b, (k, b) ∉ early) → (∀ k ∈ U, ∃ f, fv k = some f) → (floatsOf items).Nodup → U.Nodup → LR U L listed → Closed ops listed → itB ops tl items L = true → n = U.length + opsC items →
      wpAnyX P ops Q S (fun j => !tl.contains j) (tl.length + n) listed (putE ops fv early a) w'

/-- A new block that was made early, where it is wanted. -/
theorem Ft_eat {tl : List Nat} (hdd : ∀ k k' f f', fv k = some f → fv k' = some f' → k ≠ k' → ∀ x, dstOf ops k = some x → dstOf ops k' ≠ some x) {n : Nat} {r : List It} {k : Nat} (ih : FtC P ops Q S sl fv M tl n r)
    {U : List Nat} {early : List (Nat × Nat)} {L listed : Array Bool} {bs : List Nat} {a : Act} {w w' : World} {b : Nat} (hkb : (k, b) ∈ early)
    (_ : Hold sl a) (hM : ∀ j, M j = true → L.getD j false = true) (h : wpFt P ops Q S sl fv (fun a w => wpList P ops Q (opsAt ops tl) a w) (.fl k :: r) bs a w) (hb : Below w.heap.size w w') (hb0 : S w')
    (he : ∀ p ∈ early, ∃ f, fv p.1 = some f ∧ Own w' p.2 f.T f.zs ∧ p.2 ∉ bs) (he1 : (early.map (·.1)).Nodup) (he2 : (early.map (·.2)).Nodup) (hbs : ∀ b ∈ bs, b < w'.heap.size)
    (hf : ∀ k', k' ∈ floatsOf (.fl k :: r) ↔ k' ∈ U ∨ ∃ b, (k', b) ∈ early) (hUe : ∀ k ∈ U, ∀ b, (k, b) ∉ early) (hUf : ∀ k ∈ U, ∃ f, fv k = some f) (hfn : (floatsOf (.fl k :: r)).Nodup) (hUn : U.Nodup) (hLR : LR U L listed) (hcl : Closed ops listed) (hB : itB ops tl (.fl k :: r) L = true) (hn : n = U.length + opsC (.fl k :: r)) :
    wpAnyX P ops Q S (fun j => !tl.contains j) (tl.length + n) listed (putE ops fv early a) w' := by
  obtain ⟨f, hfk, ho, hnb⟩ := he (k, b) hkb
  simp only [floatsOf, List.nodup_cons] at hfn
  have hdist : ∀ p ∈ early, ∀ q ∈ early, p.1 ≠ q.1 → ∀ x, dstOf ops p.1 = some x → dstOf ops q.1 ≠ some x := fun p hp q hq hne x hx => by
    obtain ⟨f1, h1, _⟩ := he p hp
    obtain ⟨f2, h2, _⟩ := he q hq
    exact hdd p.1 q.1 f1 f2 h1 h2 hne x hx
  obtain ⟨e', g1, g2, g3, g4⟩ := putE_take (fv := fv) early a hkb he1 hdist
  rw [g1, hfk]
  simp only [wpFt, hfk] at h
  simp only [itB, Bool.and_eq_true] at hB
  refine ih U e' L listed (b :: bs) _ w' w' (h b w' hb ho hnb).1 hM (h b w' hb ho hnb).2 (Below.refl _ _) hb0 (fun p hp => ?_) g3 (g4 he2) (fun x hx => ?_) (fun k' => ?_) (fun k' hk' b' hb' => hUe k' hk' b' ((g2 _).1 hb').1) hUf hfn.2 hUn hLR hcl hB.2 hn
  · obtain ⟨hp1, hp2⟩ := (g2 p).1 hp
    obtain ⟨f1, h1, h2, h4⟩ := he p hp1
    refine ⟨f1, h1, h2, fun hm => ?_⟩
    rcases List.mem_cons.1 hm with e | hm
    · exact hp2 (by rw [nodup2 he2 hp1 hkb e])
    · exact h4 hm
  · rcases List.mem_cons.1 hx with rfl | hx
    · exact ho.lt
    · exact hbs x hx
  · have h1 := hf k'
    simp only [floatsOf, List.mem_cons] at h1
    constructor
    · intro hm
      rcases h1.1 (.inr hm) with h2 | ⟨b', h2⟩
      · exact .inl h2
      · exact .inr ⟨b', (g2 _).2 ⟨h2, fun e => hfn.1 (by simp only at e; rw [← e]; exact hm)⟩⟩
    · intro hm
      have h3 : k' = k ∨ k' ∈ floatsOf r := h1.2 (hm.imp id (fun ⟨b', hb'⟩ => ⟨b', ((g2 _).1 hb').1⟩))
      rcases h3 with rfl | h3
      · rcases hm with hm | ⟨b', hb'⟩
        · exact absurd hkb (hUe _ hm b)
        · exact absurd rfl ((g2 _).1 hb').2
      · exact h3

/-- A new block is made, early or in time. -/
theorem Ft_make (hSB : ∀ w w', S w → Below w.heap.size w w' → S w') {tl : List Nat} (hsl : ∀ k f, fv k = some f → ∀ x, dstOf ops k = some x → x ∉ sl.map (·.1)) (hfl : ∀ k f, fv k = some f → ∃ o, ops[k]? = some o ∧ o.guard.isNone = true ∧ (∀ e ∈ o.after, Region.binds .any e = true → M e.on = true) ∧ ∀ (a : Act) w, Hold sl a → (execOp a.eval o).run P w = .ok (.value (f.val w.heap.size)) (w.alloc (.cells f.zs.toArray f.T (0, 0))))
    {n : Nat} {items : List It} (ih : FtC P ops Q S sl fv M tl n items) {U : List Nat} {early : List (Nat × Nat)} {L listed : Array Bool} {bs : List Nat} {a : Act} {w w' : World} {j : Nat} (hj : j ∈ U) (hjr : j ∈ Region.ready .any ops listed)
    (hA : Hold sl a) (hM : ∀ j, M j = true → L.getD j false = true) (h : wpFt P ops Q S sl fv (fun a w => wpList P ops Q (opsAt ops tl) a w) items bs a w) (hb : Below w.heap.size w w') (hb0 : S w')
    (he : ∀ p ∈ early, ∃ f, fv p.1 = some f ∧ Own w' p.2 f.T f.zs ∧ p.2 ∉ bs) (he1 : (early.map (·.1)).Nodup) (he2 : (early.map (·.2)).Nodup) (hbs : ∀ b ∈ bs, b < w'.heap.size)
    (hf : ∀ k', k' ∈ floatsOf items ↔ k' ∈ U ∨ ∃ b, (k', b) ∈ early) (hUe : ∀ k ∈ U, ∀ b, (k, b) ∉ early) (hUf : ∀ k ∈ U, ∃ f, fv k = some f) (hfn : (floatsOf items).Nodup) (hUn : U.Nodup) (hLR : LR U L listed) (hcl : Closed ops listed) (hB : itB ops tl items L = true) (hn : n + 1 = U.length + opsC items) :
    wpOp P ops Q j (fun a' x' => ((!tl.contains j) = true → S x') ∧ wpAnyX P ops Q S (fun j => !tl.contains j) (tl.length + n) (listed.setIfInBounds j true) a' x') (putE ops fv early a) w' := by
  obtain ⟨f, hfj⟩ := hUf j hj
  obtain ⟨o, ho, hg, _, hrun⟩ := hfl j f hfj
  unfold wpOp
  simp only [ho, wanted_none hg, if_true]
  refine .inl ?_
  unfold Oper.wp
  rw [hrun _ _ (hold_putE hsl early a (fun p hp => let ⟨f1, h1, _⟩ := he p hp; ⟨f1, h1⟩) hA)]
  simp only [Oper.upon]
  have hbn := ba1 w' (.cells f.zs.toArray f.T (0, 0))
  have key := ih (U.erase j) ((j, w'.heap.size) :: early) L (listed.setIfInBounds j true) bs a w (w'.alloc (.cells f.zs.toArray f.T (0, 0))) hA hM h (below_to hb hbn) (hSB _ _ hb0 hbn) ?_ ?_ ?_ ?_ ?_ ?_ ?_ hfn (hUn.erase j) (hLR.setU hj hUn) (hcl.set hjr) hB (by rw [List.length_erase_of_mem hj]; have := List.length_pos_of_mem hj; omega)
  · have e : putE ops fv ((j, w'.heap.size) :: early) a = (putE ops fv early a).put o.dst (f.val w'.heap.size) := by simp [putE, dstOf, ho, hfj]
    rw [e] at key
    exact ⟨fun _ => hSB _ _ hb0 hbn, key⟩
  · intro p hp
    rcases List.mem_cons.1 hp with rfl | hp
    · exact ⟨f, hfj, Own.new w' f.T f.zs, fun hm => Nat.lt_irrefl _ (hbs _ hm)⟩
    · obtain ⟨f1, h1, h2, h4⟩ := he p hp
      exact ⟨f1, h1, h2.below hbn, h4⟩
  · simp only [List.map_cons, List.nodup_cons]
    exact ⟨fun hm => by obtain ⟨p, hp, e⟩ := List.mem_map.1 hm; exact hUe j hj p.2 (by rw [← e]; exact hp), he1⟩
  · simp only [List.map_cons, List.nodup_cons]
    refine ⟨fun hm => ?_, he2⟩
    obtain ⟨p, hp, e⟩ := List.mem_map.1 hm
    obtain ⟨_, _, h2, _⟩ := he p hp
    have := h2.lt
    omega
  · exact fun b hm => Nat.lt_of_lt_of_le (hbs b hm) hbn.size
  · intro k'
    rw [hf k']
    constructor
    · rintro (h1 | ⟨b, h1⟩)
      · by_cases e : k' = j
        · subst e; exact .inr ⟨w'.heap.size, by simp⟩
        · exact .inl ((List.mem_erase_of_ne e).2 h1)
      · exact .inr ⟨b, List.mem_cons_of_mem _ h1⟩
    · rintro (h1 | ⟨b, h1⟩)
      · exact .inl (List.mem_of_mem_erase h1)
      · rcases List.mem_cons.1 h1 with e | h1
        · cases e; exact .inl hj
        · exact .inr ⟨b, h1⟩
  · intro k' hk' b hm
    rcases List.mem_cons.1 hm with e | hm
    · cases e; exact (List.Nodup.not_mem_erase hUn) hk'
    · exact hUe k' (List.mem_of_mem_erase hk') b hm
  · exact fun k' hk' => hUf k' (List.mem_of_mem_erase hk')

theorem ready_ft {U : List Nat} {L listed : Array Bool} (hfl : ∀ k f, fv k = some f → ∃ o, ops[k]? = some o ∧ o.guard.isNone = true ∧ (∀ e ∈ o.after, Region.binds .any e = true → M e.on = true) ∧ ∀ (a : Act) w, Hold sl a → (execOp a.eval o).run P w = .ok (.value (f.val w.heap.size)) (w.alloc (.cells f.zs.toArray f.T (0, 0))))
    (hMd : ∀ k f, fv k = some f → M k = false) (hM : ∀ j, M j = true → L.getD j false = true) (hUf : ∀ k ∈ U, ∃ f, fv k = some f) (hLR : LR U L listed) {k : Nat} {f : FlS} (hk : k ∈ U) (hfk : fv k = some f) : k ∈ Region.ready .any ops listed := by
  obtain ⟨o, ho, _, hb, _⟩ := hfl k f hfk
  exact mem_ready.2 ⟨hLR.hU k hk, o, ho, fun e he hbb => by
    have hm := hb e he hbb
    have hu : e.on ∉ U := fun hu => by
      obtain ⟨f', hf'⟩ := hUf _ hu
      rw [hMd _ f' hf'] at hm; cases hm
    rw [(hLR.hN _ hu).2]
    exact hM _ hm⟩

theorem setM {L : Array Bool} (i : Nat) (hM : ∀ j, M j = true → L.getD j false = true) : ∀ j, M j = true → (L.setIfInBounds i true).getD j false = true := fun j hj => by
  by_cases e : i = j
  · subst e
    have := hM _ hj
    have hl : i < L.size := by
      rcases Nat.lt_or_ge i L.size with h | h
      · exact h
      · simp [Array.getD, Nat.not_lt.2 h] at this
    exact set_true hl false
  · rw [getD_set_ne false e]; exact hM j hj
theorem Ft_run (hMd : ∀ k f, fv k = some f → M k = false) (hSB : ∀ w w', S w → Below w.heap.size w w' → S w') (hsl : ∀ k f, fv k = some f → ∀ x, dstOf ops k = some x → x ∉ sl.map (·.1)) (hs : Region.noSelect ops = true) {tl : List Nat} (hQ : ∀ c a (d : Tmp) v w, Q (.panic c) (a.put (some d) v) w → Q (.panic c) a w) (hQ2 : ∀ c a (d : Tmp) v w, Q (.panic c) a w → Q (.panic c) (a.put (some d) v) w)
    (hfl : ∀ k f, fv k = some f → ∃ o, ops[k]? = some o ∧ o.guard.isNone = true ∧ (∀ e ∈ o.after, Region.binds .any e = true → M e.on = true) ∧ ∀ (a : Act) w, Hold sl a → (execOp a.eval o).run P w = .ok (.value (f.val w.heap.size)) (w.alloc (.cells f.zs.toArray f.T (0, 0))))
    (hdd : ∀ k k' f f', fv k = some f → fv k' = some f' → k ≠ k' → ∀ x, dstOf ops k = some x → dstOf ops k' ≠ some x)
    (htl : ∀ i ∈ tl, i < ops.size) :
    ∀ (n : Nat) (items : List It), FtC P ops Q S sl fv M tl n items := by
  intro n
  induction n with
  | zero =>
    intro items
    induction items with
    | nil =>
      intro U early L listed bs a w w' hA hM h hb hb0 he he1 he2 hbs hf hUe hUf hfn hUn hLR hcl hB hn
      have hU : U = [] := List.eq_nil_of_length_eq_zero (by simp only [opsC] at hn; omega)
      subst hU
      have hE : early = [] := by
        cases early with
        | nil => rfl
        | cons p e => exact absurd ((hf p.1).2 (.inr ⟨p.2, by simp⟩)) (by simp [floatsOf])
      subst hE
      obtain rfl := hLR.nil
      simp only [itB, Bool.and_eq_true, and_assoc] at hB
      have h5 := X_sched (P := P) (Q := Q) (C := fun _ => True) (E := fun _ => true) (n := 0) hs hQ (tl.map .f) listed a w' hcl hB.1 trivial (fun a2 w2 _ k2 => ⟨by simpa using hB.2.1, k2⟩) (X_of_list tl a w' htl (h w' hb))
      rw [lenS_map, Nat.zero_add] at h5
      refine X_of_any _ _ _ _ (fun j hj hun => ?_) h5
      have h6 := List.all_eq_true.1 hB.2.2 j (List.mem_range.2 hj)
      rw [hun, Bool.false_or] at h6
      rw [h6]; rfl
    | cons it r ih =>
      intro U early L listed bs a w w' hA hM h hb hb0 he he1 he2 hbs hf hUe hUf hfn hUn hLR hcl hB hn
      cases it with
      | op i => simp only [opsC] at hn; omega
      | tk i => simp only [opsC] at hn; omega
      | fl k =>
        have hU : U = [] := List.eq_nil_of_length_eq_zero (by simp only [opsC] at hn; omega)
        have hk : ∃ b, (k, b) ∈ early := by
          rcases (hf k).1 (by simp [floatsOf]) with h1 | h1
          · rw [hU] at h1; cases h1
          · exact h1
        obtain ⟨b, hkb⟩ := hk
        exact Ft_eat hdd ih hkb hA hM h hb hb0 he he1 he2 hbs hf hUe hUf hfn hUn hLR hcl hB hn
  | succ n IH =>
    intro items
    induction items with
    | nil =>
      intro U early L listed bs a w w' hA hM h hb hb0 he he1 he2 hbs hf hUe hUf hfn hUn hLR hcl hB hn
      cases U with
      | nil => simp [opsC] at hn
      | cons k U => exact absurd ((hf k).2 (.inl (by simp))) (by simp [floatsOf])
    | cons it r ih =>
      intro U early L listed bs a w w' hA hM h hb hb0 he he1 he2 hbs hf hUe hUf hfn hUn hLR hcl hB hn
      cases it with
      | fl k =>
        rcases (hf k).1 (by simp [floatsOf]) with hkU | ⟨b, hkb⟩
        · obtain ⟨f, hfk⟩ := hUf k hkU
          have hkr := ready_ft hfl hMd hM hUf hLR hkU hfk
          refine ⟨fun h0 => (by rw [h0] at hkr; cases hkr), fun j hj => ?_⟩
          by_cases hjU : j ∈ U
          · exact Ft_make hSB hsl hfl (IH _) hjU hj hA hM h hb hb0 he he1 he2 hbs hf hUe hUf hfn hUn hLR hcl hB hn
          · exfalso
            have hjL := hLR.ready hj hjU
            simp only [itB, Bool.and_eq_true] at hB
            have hB1 := hB.1
            split at hB1
            · rename_i c _
              simp only [Bool.and_eq_true, decide_eq_true_eq] at hB1
              rw [hB1.1] at hjL
              have hjc : j = c := by simpa using hjL
              subst hjc
              exact waits_no hj hB1.2 (hLR.hU k hkU)
            · cases hB1
        · exact Ft_eat hdd ih hkb hA hM h hb hb0 he he1 he2 hbs hf hUe hUf hfn hUn hLR hcl hB hn
      | tk i =>
        have hB0 := hB
        simp only [itB, Bool.and_eq_true, List.contains_iff_mem] at hB0
        obtain ⟨⟨⟨hrL, hB1⟩, hta⟩, hB2⟩ := hB0
        obtain ⟨o, ho⟩ : ∃ o, ops[i]? = some o := let ⟨_, o, ho, _⟩ := mem_ready.1 hrL; ⟨o, ho⟩
        rw [ho] at hB1
        simp only [Bool.and_eq_true] at hB1
        obtain ⟨⟨⟨⟨hg, hp⟩, haf⟩, hfd⟩, hall⟩ := hB1
        have hfU : ∀ k, k ∈ U → k ∈ floatsOf r := fun k hk => by have := (hf k).2 (.inl hk); simpa [floatsOf] using this
        have hiU : i ∉ U := fun hm => by
          have h1 := hLR.hA i hm
          exact not_both (mem_ready.1 hrL).1 h1
        have hir : i ∈ Region.ready .any ops listed := by
          obtain ⟨h1, o', ho', h2⟩ := mem_ready.1 hrL
          refine mem_ready.2 ⟨by rw [(hLR.hN i hiU).1]; exact h1, o', ho', fun e he' hbb => ?_⟩
          obtain rfl : o = o' := Option.some.inj (ho.symm.trans ho')
          have h3 : e.on ∉ U := fun hm => by
            have h4 := Array.all_eq_true'.1 haf e he'
            simp only [Bool.not_eq_true'] at h4
            have h5 : (floatsOf r).contains e.on = true := by simpa using hfU _ hm
            rw [h4] at h5; cases h5
          rw [(hLR.hN _ h3).2]
          exact h2 e he' hbb
        simp only [wpFt] at h
        have e0 : opsAt ops [i] = [o] := by simp [opsAt, ho]
        rw [e0] at h
        obtain ⟨v, hy, hnx⟩ := quiet_plain (K := wpQuiet P ops (fun _ => True) _ []) hp h
        have hsel := Region.noSelect_spec hs
        have hy2 : YieldsIf P ops S o v a := hy.imp (fun ⟨g1, g2⟩ => ⟨g1, fun w _ => g2 w trivial⟩) id
        have hdst : ∀ p ∈ early, ∀ x, dstOf ops p.1 = some x → x ∉ o.looksAt ops ∧ o.dst ≠ some x := fun p hp' x hx => by
          have hm : p.1 ∈ floatsOf r := by
            have := (hf p.1).2 (.inr ⟨p.2, hp'⟩)
            simpa [floatsOf] using this
          have h3 := List.all_eq_true.1 hfd p.1 hm
          rw [hx] at h3
          simp only [Bool.and_eq_true, Bool.not_eq_true', bne_iff_ne] at h3
          refine ⟨fun hm' => ?_, h3.2⟩
          have h4 : (o.looksAt ops).contains x = true := by simpa using hm'
          rw [h3.1] at h4; cases h4
        have hy3 := yields_putE (fv := fv) (fun cs b => hsel i o cs b ho) early a (fun p hp' x hx => (hdst p hp' x hx).1) hy2
        have key := IH r U early (L.setIfInBounds i true) (listed.setIfInBounds i true) bs (a.put o.dst v) w w' hnx.1 (setM i hM) hnx.2 hb hb0 he he1 he2 hbs (by simpa [floatsOf] using hf) hUe hUf (by simpa [floatsOf] using hfn) hUn (hLR.setI hiU) (hcl.set hir) hB2 (by simp only [opsC] at hn; omega)
        rw [putE_comm v early a (fun p hp' x hx hx' => (hdst p hp' x hx').2 hx)] at key
        refine wpAnyX_first ho hsel (fun c a' w' hh => by
          cases hd : o.dst with
          | none => rw [hd] at hh; exact hh
          | some d => rw [hd] at hh; exact hQ c a' d v w' hh) ops.size (tl.length + n) listed _ w' hcl (fun j oj hj hne hun hno => ?_) (fun j oj hj hne hun hno => ?_) hir hy3 hb0 key
        · have h3 := List.all_eq_true.1 hall j (List.mem_range.2 (Array.getElem?_eq_some_iff.1 hj).1)
          simp only [hj, Bool.or_eq_true, Bool.and_eq_true, beq_iff_eq, hne, or_false] at h3
          rcases h3 with h3 | h3
          · exfalso
            by_cases hjU : j ∈ U
            · have h5 : (floatsOf r).contains j = true := by simpa using hfU _ hjU
              rw [h5] at h3; exact absurd h3.2 (by simp)
            · rw [(hLR.hN j hjU).1, h3.1] at hun; cases hun
          · rcases h3 with h3 | h3
            · exfalso
              obtain ⟨e, he', hbb⟩ := Array.any_eq_true'.1 h3
              simp only [Bool.and_eq_true, beq_iff_eq] at hbb
              exact hno e he' hbb.1 hbb.2
            · exact h3
        · cases htc : tl.contains j with
          | false => rfl
          | true =>
            have h3 := List.all_eq_true.1 hta j (by simpa using htc)
            rw [h3] at hno; cases hno
      | op i =>
        have hB0 := hB
        simp only [itB, Bool.and_eq_true, decide_eq_true_eq] at hB0
        obtain ⟨⟨hrL, hB1⟩, hB2⟩ := hB0
        have hne : Region.ready .any ops listed ≠ [] := by
          cases hU : U with
          | nil =>
            subst hU
            obtain rfl := hLR.nil
            rw [hrL]; simp
          | cons k U' =>
            have hkU : k ∈ U := by rw [hU]; simp
            obtain ⟨f, hfk⟩ := hUf k hkU
            have hkr := ready_ft hfl hMd hM hUf hLR hkU hfk
            exact fun h0 => (by rw [h0] at hkr; cases hkr)
        refine ⟨fun h0 => absurd h0 hne, fun j hj => ?_⟩
        by_cases hjU : j ∈ U
        · exact Ft_make hSB hsl hfl (IH _) hjU hj hA hM h hb hb0 he he1 he2 hbs hf hUe hUf hfn hUn hLR hcl hB hn
        · have hjL := hLR.ready hj hjU
          rw [hrL] at hjL
          have hji : j = i := by simpa using hjL
          subst hji
          obtain ⟨_, o, ho, _⟩ := mem_ready.1 hj
          rw [ho] at hB1
          simp only [Bool.and_eq_true] at hB1
          unfold wpOp
          simp only [ho, wanted_none hB1.1, if_true]
          refine .inl ?_
          simp only [wpFt, ho] at h
          refine wp_putE (ops := ops) (fv := fv) (Region.noSelect_spec hs j o · · ho) hQ2 early a (fun p hp x hx => ?_) (fun a' w'' h' => ?_) (h w' hb)
          · have hm : p.1 ∈ floatsOf r := by
              have := (hf p.1).2 (.inr ⟨p.2, hp⟩)
              simpa [floatsOf] using this
            have h3 := List.all_eq_true.1 hB1.2 p.1 hm
            rw [hx] at h3
            simp only [Bool.and_eq_true, Bool.not_eq_true', bne_iff_ne] at h3
            refine ⟨fun hm' => ?_, h3.2⟩
            have h4 : (o.looksAt ops).contains x = true := by simpa using hm'
            rw [h3.1] at h4; cases h4
          · have hbN := h'.2.1
            refine ⟨fun _ => hbN, ?_⟩
            refine IH r U early (L.setIfInBounds j true) (listed.setIfInBounds j true) bs a' w'' w'' h'.2.2.1 (setM j hM) h'.2.2.2 (Below.refl _ _) hbN (fun p hp => ?_) he1 he2 (fun b hm => Nat.lt_of_lt_of_le (hbs b hm) h'.1.size) (by simpa [floatsOf] using hf) hUe hUf (by simpa [floatsOf] using hfn) hUn (hLR.setI hjU) (hcl.set hj) hB2 (by simp only [opsC] at hn; omega)
            obtain ⟨f1, h1, h2, h4⟩ := he p hp
            exact ⟨f1, h1, h'.1.own h2 h4, h4⟩

def allRunH (P : Program) (ops : Array Oper) (sl : List (Nat × Value)) : List (Nat × FlS) → Prop
  | [] => True
  | p :: r => (∀ (a : Act) W, Hold sl a → (execOp a.eval (ops[p.1]?.getD default)).run P W = .ok (.value (p.2.val W.heap.size)) (W.alloc (.cells p.2.zs.toArray p.2.T (0, 0)))) ∧ allRunH P ops sl r
theorem run_memH : ∀ {l : List (Nat × FlS)} {p : Nat × FlS}, allRunH P ops sl l → p ∈ l → ∀ (a : Act) W, Hold sl a → (execOp a.eval (ops[p.1]?.getD default)).run P W = .ok (.value (p.2.val W.heap.size)) (W.alloc (.cells p.2.zs.toArray p.2.T (0, 0)))
  | [], _, _, h => by cases h
  | q :: r, p, h, hp => by
    rcases List.mem_cons.1 hp with rfl | hp
    · exact h.1
    · exact run_memH h.2 hp
/-- The Bool that 'wp_region_ft' asks. -/
def ftB (ops : Array Oper) (m : List Nat) (items : List It) (tl fs : List Nat) : Bool :=
  Region.noSelect ops && takeB ops (fun j => !tl.contains j) true m (Array.replicate ops.size false) && itB ops tl items (mark (floatsOf items) (mark m (Array.replicate ops.size false))) && nodupB (floatsOf items) &&
  decide (tl.length + ((floatsOf items).length + opsC items) + m.length = ops.size) && (tl.all fun i => decide (i < ops.size)) && decide (fs = floatsOf items) &&
  (fs.all fun k => (match ops[k]? with | some o => o.guard.isNone && o.after.all (fun e => !Region.binds .any e || m.contains e.on) | none => false) && !(mark m (Array.replicate ops.size false)).getD k true && fs.all fun k' => k == k' || dstOf ops k != dstOf ops k') && (m.all fun j => decide (j < ops.size))
/-- A region that draws its order: operations m that look at memory of which S tells; then the new blocks fl and what follows one another, in one order; then tl. -/
theorem wp_region_ft {id : Nat} {a : Act} {w : World} (S : World → Prop) (sl : List (Nat × Value)) (bs0 : List Nat) (fl : List (Nat × FlS)) (m : List Nat) (items : List It) (tl : List Nat) (hm : P.follows .mixedOrders = true) (hB : ftB ops m items tl (fl.map (·.1)) = true) (hrun : allRunH P ops sl fl) (hsl : ((fl.map (·.1)).all fun k => match dstOf ops k with | some d => !(sl.map (·.1)).contains d | none => true) = true)
    (hQ : ∀ c a (d : Tmp) v w, Q (.panic c) (a.put (some d) v) w → Q (.panic c) a w) (hQ2 : ∀ c a (d : Tmp) v w, Q (.panic c) a w → Q (.panic c) (a.put (some d) v) w)
    (hSB : ∀ w w', S w → Below w.heap.size w w' → S w') (hw : S w.drew) (hbs : ∀ b ∈ bs0, b < w.heap.size)
    (h : wpQuiet P ops S (fun a' => Hold sl a' ∧ wpFt P ops Q S sl (fvOf fl) (fun a w => wpList P ops Q (opsAt ops tl) a w) items bs0 a' w) (opsAt ops m) a) :
    (Code.region id ops true).wp P Q a w := by
  simp only [ftB, Bool.and_eq_true, decide_eq_true_eq] at hB
  obtain ⟨⟨⟨⟨⟨⟨⟨⟨hs, h1⟩, h2⟩, h3⟩, hn⟩, htl⟩, hfs⟩, hfl⟩, hmz⟩ := hB
  have htl' : ∀ i ∈ tl, i < ops.size := fun i hi => by simpa using List.all_eq_true.1 htl i hi
  have hfv : ∀ k f, fvOf fl k = some f → k ∈ fl.map (·.1) := fun k f hk => List.mem_map.2 ⟨(k, f), fv_mem hk, rfl⟩
  refine wp_region_any hm ?_
  have hcl : Closed ops (Array.replicate ops.size false) := fun j oj _ hl => (by simp [Array.getElem?_replicate] at hl; split at hl <;> simp at hl)
  rw [show ops.size = (tl.length + ((floatsOf items).length + opsC items)) + m.length by omega]
  rw [← hn] at h1 h2 hfl hcl
  refine wpAny_of_X _ _ _ _ (take_read (S := S) (E := fun j => !tl.contains j) hs hQ hw m _ a hcl h1 h fun a' h' => ?_)
  have hcl' := closed_mark m _ true _ hcl h1
  have hk : ∀ k ∈ floatsOf items, (mark m (Array.replicate (tl.length + ((floatsOf items).length + opsC items) + m.length) false)).getD k true = false := fun k hk => by
    have := List.all_eq_true.1 hfl k (by rw [hfs]; exact hk)
    simp only [Bool.and_eq_true, Bool.not_eq_true'] at this
    exact this.1.2
  refine Ft_run (M := fun j => m.contains j) (fun k f hkf => ?_) hSB (fun k f hkf x hx => ?_) hs hQ hQ2 (fun k f hkf => ?_) (fun k k' f f' hkf hkf' hne x hx hx' => ?_) htl' _ items (floatsOf items) [] (mark (floatsOf items) (mark m _)) (mark m _) bs0 a' w _ h'.1 (fun j hj => ?_) h'.2 ((Below.refl w.heap.size w).drew) hw (fun p hp => by cases hp) List.nodup_nil List.nodup_nil (fun b hb => hbs b hb) (fun k => by simp) (fun k _ b hb => by cases hb) (fun k hk' => mem_fv (by rw [hfs]; exact hk')) (nodupB_spec h3) (nodupB_spec h3) ⟨hk, fun j hj => ⟨(mark_ne true _ _ hj).symm, (mark_ne false _ _ hj).symm⟩, fun j hj => mark_in _ _ hj (in_lt (hk j hj)), (mark_size _ _).symm⟩ hcl' h2 rfl
  · have h4 := List.all_eq_true.1 hfl k (hfv k f hkf)
    simp only [Bool.and_eq_true, Bool.not_eq_true'] at h4
    cases hc : m.contains k with
    | false => rfl
    | true =>
      have hkm : k ∈ m := by simpa using hc
      have h5 := h4.1.2
      by_cases hz : k < (Array.replicate (tl.length + ((floatsOf items).length + opsC items) + m.length) false).size
      · exact (not_both h5 (mark_in m _ hkm hz)).elim
      · have := List.all_eq_true.1 hmz k hkm
        simp only [decide_eq_true_eq] at this
        simp at hz
        omega
  · have h4 := List.all_eq_true.1 hsl k (hfv k f hkf)
    rw [hx] at h4
    intro hm
    have h5 : (sl.map (·.1)).contains x = true := by simpa using hm
    simp only [h5] at h4
    cases h4
  · have h4 := List.all_eq_true.1 hfl k (hfv k f hkf)
    simp only [Bool.and_eq_true] at h4
    have h5 := h4.1.1
    cases ho : ops[k]? with
    | none => rw [ho] at h5; cases h5
    | some o =>
      rw [ho] at h5
      simp only [Bool.and_eq_true] at h5
      refine ⟨o, rfl, h5.1, fun e he hbb => ?_, fun a w hA => ?_⟩
      · have := Array.all_eq_true'.1 h5.2 e he
        simpa [hbb] using this
      · have h6 := run_memH hrun (fv_mem hkf) a w hA
        simp only [ho, Option.getD_some] at h6
        exact h6
  · have h4 := List.all_eq_true.1 hfl k (hfv k f hkf)
    simp only [Bool.and_eq_true] at h4
    have h5 := List.all_eq_true.1 h4.2 k' (hfv k' f' hkf')
    simp only [Bool.or_eq_true, beq_iff_eq, hne, false_or, bne_iff_ne] at h5
    exact h5 (by rw [hx, hx'])
  · have hjm : j ∈ m := by simpa using hj
    have hlt := List.all_eq_true.1 hmz j hjm
    simp only [decide_eq_true_eq] at hlt
    have hz : j < (mark m (Array.replicate (tl.length + ((floatsOf items).length + opsC items) + m.length) false)).size := by rw [mark_size]; simp; omega
    by_cases hjf : j ∈ floatsOf items
    · exact mark_in _ _ hjf hz
    · rw [mark_ne false _ _ hjf]
      exact mark_in m _ hjm (by rw [mark_size] at hz; exact hz)
theorem wpFt_fl {k : Nat} {f : FlS} {r : List It} {bs : List Nat} {a : Act} {w : World} (hf : fv k = some f) (h : ∀ b w1, Below w.heap.size w w1 → Own w1 b f.T f.zs → b ∉ bs → Hold sl (a.put ((ops[k]?).bind (·.dst)) (f.val b)) ∧ wpFt P ops Q S sl fv K r (b :: bs) (a.put ((ops[k]?).bind (·.dst)) (f.val b)) w1) : wpFt P ops Q S sl fv K (.fl k :: r) bs a w := by
  simp only [wpFt, hf]; exact h
theorem wpFt_op {i : Nat} {o : Oper} {r : List It} {bs : List Nat} {a : Act} {w : World} (ho : ops[i]? = some o)
    (h : ∀ w1, Below w.heap.size w w1 → ∀ K' : Act → World → Prop, (∀ a' w', Mod bs w1 w' → S w' → Hold sl a' → wpFt P ops Q S sl fv K r bs a' w' → K' a' w') → o.wp P a w1 K' Q) : wpFt P ops Q S sl fv K (.op i :: r) bs a w := by
  simp only [wpFt, ho]; exact fun w1 hw1 => h w1 hw1 _ fun _ _ h1 h2 h3 h4 => ⟨h1, h2, h3, h4⟩
theorem wpFt_tk {i : Nat} {r : List It} {bs : List Nat} {a : Act} {w : World} (h : wpQuiet P ops (fun _ => True) (fun a' => Hold sl a' ∧ wpFt P ops Q S sl fv K r bs a' w) (opsAt ops [i]) a) : wpFt P ops Q S sl fv K (.tk i :: r) bs a w := h
theorem wpFt_nil {bs : List Nat} {a : Act} {w : World} (h : ∀ w1, Below w.heap.size w w1 → K a w1) : wpFt P ops Q S sl fv K [] bs a w := h
end
end Go.Proofs.Ythlcmlngmcoknaa
