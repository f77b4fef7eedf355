/- What is proved here: contracts of functions and plain facts, several texts in one; each one says ahead what it proves, and its conditions. -/
import Derived.Test.YtpjhiojdnebgoaaC45
import Derived.Test.YtpjhiojdnebgoaaC01
/- What is proved here: operations that come up in any order among themselves (a group), each of which keeps what is known of those done before: the walk goes on behind all of them. No condition but the Bool that is asked. -/
namespace Go.Proofs.Ytpjhiojdnebgoaa
open Go.RowKit

section
variable {P : Program} {ops : Array Oper} {Q : Exit → Act → World → Prop} {C : World → Prop} {E : Nat → Bool}

/-- The act behind some operations of a group, with their values. -/
def putL (ops : Array Oper) : List (Nat × Value) → Act → Act
  | [], a => a
  | (k, v) :: e, a => (putL ops e a).put (dstOf ops k) v

def orderB (ops : Array Oper) : List Nat → Array Bool → Bool
  | [], _ => true
  | i :: is, L => (Region.ready .any ops L).contains i && orderB ops is (L.setIfInBounds i true)
def groupB (ops : Array Oper) (is : List Nat) (L : Array Bool) : Bool :=
  orderB ops is L && (List.range ops.size).all fun j => is.contains j || L.getD j true ||
    (match ops[j]? with | some o => o.after.any fun e => Region.binds .any e && !L.getD e.on false && !is.contains e.on | none => false) || (is.all fun k => afterB ops ops.size j k)

theorem first_open {keys : List Nat} {listed : Array Bool} : ∀ (is : List Nat) (L : Array Bool), orderB ops is L = true → (∀ j, L.getD j false = true → listed.getD j false = true) →
    (∀ i ∈ is, i ∈ keys → listed.getD i false = true) → (∀ i ∈ is, i ∉ keys → listed.getD i true = false) → (∃ i ∈ is, i ∉ keys) → ∃ i, i ∈ Region.ready .any ops listed
  | [], _, _, _, _, _, h => by obtain ⟨_, h, _⟩ := h; cases h
  | i :: is, L, hB, hL, h1, h2, h3 => by
    simp only [orderB, Bool.and_eq_true] at hB
    by_cases hi : i ∈ keys
    · refine first_open is _ hB.2 (fun j hj => ?_) (fun j hj => h1 j (by simp [hj])) (fun j hj => h2 j (by simp [hj])) ?_
      · by_cases hij : i = j
        · subst hij; exact h1 i (by simp) hi
        · rw [getD_set_ne false hij] at hj; exact hL j hj
      · obtain ⟨j, hj, hn⟩ := h3
        rcases List.mem_cons.1 hj with rfl | hj
        · exact absurd hi hn
        · exact ⟨j, hj, hn⟩
    · have hr : i ∈ Region.ready .any ops L := by simpa using hB.1
      obtain ⟨_, o, ho, hall⟩ := mem_ready.1 hr
      exact ⟨i, mem_ready.2 ⟨h2 i (by simp) hi, o, ho, fun e he hb => hL _ (hall e he hb)⟩⟩

theorem group_only {is keys : List Nat} {L listed : Array Bool} (hB : groupB ops is L = true) (hc : Closed ops listed) (hk : ∀ j d, j ∉ keys → listed.getD j d = L.getD j d) (hks : ∀ j ∈ keys, j ∈ is)
    (hun : ∀ i ∈ is, i ∉ keys → listed.getD i true = false) (ho : ∃ i ∈ is, i ∉ keys) {j : Nat} (hj : j ∈ Region.ready .any ops listed) : j ∈ is ∧ j ∉ keys ∨ j ∈ keys := by
  obtain ⟨hl, o, hoj, hall⟩ := mem_ready.1 hj
  simp only [groupB, Bool.and_eq_true] at hB
  have hB2 := List.all_eq_true.1 hB.2 j (List.mem_range.2 (Array.getElem?_eq_some_iff.1 hoj).1)
  by_cases hjk : j ∈ keys
  · exact .inr hjk
  · refine .inl ⟨?_, hjk⟩
    rw [hk j true hjk] at hl
    simp only [hl, hoj, Bool.or_false, Bool.or_eq_true, List.contains_eq_mem, decide_eq_true_eq] at hB2
    rcases hB2 with (h | h) | h
    · exact h
    · obtain ⟨e, he, hb⟩ := Array.any_eq_true'.1 h
      simp only [Bool.and_eq_true, Bool.not_eq_true', decide_eq_false_iff_not] at hb
      have h1 := hall e he hb.1.1
      rw [hk e.on false (fun hm => hb.2 (hks _ hm)), hb.1.2] at h1
      cases h1
    · obtain ⟨i, hi, hin⟩ := ho
      have h1 := List.all_eq_true.1 h i hi
      have h2 := after_listed hc _ j o hoj hall h1
      have h3 := hun i hi hin
      exact (not_both h3 h2).elim
theorem putL_perm {e e' : List (Nat × Value)} (h : e.Perm e') : (e.map (·.1)).Nodup → (∀ p ∈ e, ∀ q ∈ e, p.1 ≠ q.1 → ∀ x, dstOf ops p.1 = some x → dstOf ops q.1 ≠ some x) → ∀ a, putL ops e a = putL ops e' a := by
  induction h with
  | nil => intro _ _ a; rfl
  | cons p h ih =>
    intro hn hd a
    obtain ⟨k, v⟩ := p
    simp only [List.map_cons, List.nodup_cons] at hn
    show (putL ops _ a).put _ _ = (putL ops _ a).put _ _
    rw [ih hn.2 (fun p hp q hq => hd p (List.mem_cons_of_mem _ hp) q (List.mem_cons_of_mem _ hq)) a]
  | swap p q l =>
    intro hn hd a
    obtain ⟨k, v⟩ := p
    obtain ⟨k', v'⟩ := q
    simp only [List.map_cons, List.nodup_cons, List.mem_cons, not_or] at hn
    show ((putL ops l a).put _ _).put _ _ = ((putL ops l a).put _ _).put _ _
    exact Act.put_comm _ _ _ (fun x hx => hd (k, v) (by simp) (k', v') (by simp) (fun he => hn.1.1 he.symm) x hx)
  | trans h1 h2 ih1 ih2 =>
    intro hn hd a
    rw [ih1 hn hd a]
    exact ih2 ((h1.map _).nodup_iff.1 hn) (fun p hp q hq => hd p (h1.mem_iff.2 hp) q (h1.mem_iff.2 hq)) a

/-- A group: each step keeps what is known; behind all of them the walk goes on. -/
theorem group_any {is : List Nat} {L : Array Bool} {a : Act} {F : Nat → Value → World → Prop} {n : Nat} (hB : groupB ops is L = true) (hn : is.Nodup) (hsz : ∀ i ∈ is, i < L.size)
    (hF : ∀ k v w w', F k v w → Below w.heap.size w w' → F k v w') {D : World → Prop} (hDC : ∀ w, D w → C w) (hC : ∀ w w', D w → Below w.heap.size w w' → D w')
    (hstep : ∀ k ∈ is, ∀ (e : List (Nat × Value)) (listed : Array Bool) w', k ∈ Region.ready .any ops listed → (∀ j d, j ∉ e.map (·.1) → listed.getD j d = L.getD j d) → (e.map (·.1)).Nodup → k ∉ e.map (·.1) → (∀ p ∈ e, p.1 ∈ is ∧ F p.1 p.2 w') → D w' →
      ∀ K' : Act → World → Prop, (∀ v w2, F k v w2 → Below w'.heap.size w' w2 → K' ((putL ops e a).put (dstOf ops k) v) w2) → wpOp P ops Q k K' (putL ops e a) w')
    (hcont : ∀ (e : List (Nat × Value)) w', (e.map (·.1)).Perm is → (∀ p ∈ e, F p.1 p.2 w') → D w' → wpAnyX P ops Q C E n (mark is L) (putL ops e a) w') :
    ∀ (m : Nat) (U : List Nat) (e : List (Nat × Value)) (listed : Array Bool) (w' : World), U.length = m → (e.map (·.1) ++ U).Perm is → Closed ops listed → listed.size = L.size →
      (∀ j d, j ∉ e.map (·.1) → listed.getD j d = L.getD j d) → (∀ j ∈ e.map (·.1), listed.getD j false = true) → (∀ i ∈ is, i ∉ e.map (·.1) → listed.getD i true = false) → (∀ p ∈ e, F p.1 p.2 w') → D w' →
      wpAnyX P ops Q C E (n + m) listed (putL ops e a) w' := by
  intro m
  induction m with
  | zero =>
    intro U e listed w' hU hp _ hs hk hk1 _ hf hw
    have hU0 : U = [] := List.length_eq_zero_iff.1 hU
    subst hU0
    rw [List.append_nil] at hp
    have : listed = mark is L := by
      apply Array.ext
      · rw [hs, mark_size]
      · intro j h1 h2
        have g : listed.getD j false = (mark is L).getD j false := by
          by_cases hj : j ∈ is
          · rw [mark_in is L hj (by omega), hk1 j (hp.mem_iff.2 hj)]
          · rw [mark_ne false is L hj, hk j false (fun h => hj (hp.mem_iff.1 h))]
        simpa [h1, h2] using g
    rw [this]
    exact hcont e w' hp hf hw
  | succ m ih =>
    intro U e listed w' hU hp hc hs hk hk1 hun hf hw
    have hnd : (e.map (·.1) ++ U).Nodup := hp.nodup_iff.2 hn
    obtain ⟨hn1, hn2, hn3⟩ := List.nodup_append.1 hnd
    have hopen : ∃ i ∈ is, i ∉ e.map (·.1) := by
      cases U with
      | nil => cases hU
      | cons u U => exact ⟨u, hp.mem_iff.1 (by simp), fun h => hn3 u h u (by simp) rfl⟩
    have hks : ∀ j ∈ e.map (·.1), j ∈ is := fun j hj => hp.mem_iff.1 (List.mem_append_left _ hj)
    have hB1 : orderB ops is L = true := by
      have := hB
      simp only [groupB, Bool.and_eq_true] at this
      exact this.1
    refine ⟨fun h0 => ?_, fun i hi => ?_⟩
    · obtain ⟨i, hi⟩ := first_open is L hB1 (fun j hj => (by
        by_cases h : j ∈ e.map (·.1)
        · exact hk1 j h
        · rw [hk j false h]; exact hj)) (fun i _ h => hk1 i h) hun hopen
      rw [h0] at hi; cases hi
    · have hi1 : i ∈ is ∧ i ∉ e.map (·.1) := by
        rcases group_only hB hc hk hks hun hopen hi with h | h
        · exact h
        · exact (not_both (mem_ready.1 hi).1 (hk1 i h)).elim
      have hiU : i ∈ U := by
        rcases List.mem_append.1 (hp.mem_iff.2 hi1.1) with h | h
        · exact absurd h hi1.2
        · exact h
      refine hstep i hi1.1 e listed w' hi hk hn1 hi1.2 (fun p hp' => ⟨hks _ (List.mem_map.2 ⟨p, hp', rfl⟩), hf p hp'⟩) hw _ (fun v w2 hv hb => ⟨fun _ => hDC _ (hC _ _ hw hb), ?_⟩)
      refine ih (U.erase i) ((i, v) :: e) _ w2 ?_ ?_ (hc.set hi) (by simpa using hs) ?_ ?_ ?_ ?_ (hC _ _ hw hb)
      · rw [List.length_erase_of_mem hiU, hU]; rfl
      · refine List.Perm.trans ?_ hp
        have h1 := List.perm_cons_erase hiU
        simp only [List.map_cons, List.cons_append]
        exact (List.perm_middle.symm).trans ((h1.symm).append_left _)
      · intro j d hj
        simp only [List.map_cons, List.mem_cons, not_or] at hj
        rw [getD_set_ne d (Ne.symm hj.1)]
        exact hk j d hj.2
      · intro j hj
        simp only [List.map_cons, List.mem_cons] at hj
        by_cases hij : i = j
        · subst hij; exact set_true (by rw [hs]; exact hsz i hi1.1) false
        · rw [getD_set_ne false hij]
          exact hk1 j (hj.resolve_left (Ne.symm hij))
      · intro j hj hjn
        simp only [List.map_cons, List.mem_cons, not_or] at hjn
        rw [getD_set_ne true (Ne.symm hjn.1)]
        exact hun j hj hjn.2
      · intro p hp'
        rcases List.mem_cons.1 hp' with rfl | hp'
        · exact hv
        · exact hF _ _ _ _ (hf p hp') hb
theorem perm_keys {is : List Nat} : ∀ {e : List (Nat × Value)}, (e.map (·.1)).Perm is → ∃ e', e.Perm e' ∧ e'.map (·.1) = is := by
  induction is with
  | nil =>
    intro e h
    have : e = [] := by
      have := h.eq_nil
      simpa using this
    subst this
    exact ⟨[], .refl _, rfl⟩
  | cons i is ih =>
    intro e h
    have hm : i ∈ e.map (·.1) := h.mem_iff.2 (by simp)
    obtain ⟨p, hp, rfl⟩ := List.mem_map.1 hm
    obtain ⟨s, u, rfl⟩ := List.append_of_mem hp
    have h1 : (s ++ p :: u).Perm (p :: (s ++ u)) := List.perm_middle
    have h2 : ((s ++ u).map (·.1)).Perm is := (List.perm_cons p.1).1 (((h1.map (fun x : Nat × Value => x.1)).symm).trans h)
    obtain ⟨e', h3, h4⟩ := ih h2
    exact ⟨p :: e', h1.trans (h3.cons p), by simp [h4]⟩

theorem order_un : ∀ (is : List Nat) (L : Array Bool), orderB ops is L = true → ∀ i ∈ is, L.getD i true = false
  | [], _, _, _, h => by cases h
  | k :: is, L, hB, i, hi => by
    simp only [orderB, Bool.and_eq_true] at hB
    have hk : k ∈ Region.ready .any ops L := by simpa using hB.1
    by_cases hik : k = i
    · subst hik; exact (mem_ready.1 hk).1
    · have := order_un is _ hB.2 i ((List.mem_cons.1 hi).resolve_left (Ne.symm hik))
      rwa [getD_set_ne true hik] at this

/-- Parts of a walk: a schedule, or a group. -/
inductive Ig where
  | s (l : List Sg)
  | g (is : List Nat)

def wpG (P : Program) (ops : Array Oper) (Q : Exit → Act → World → Prop) (C : World → Prop) (K : Act → World → Prop) : List Ig → Act → World → Prop
  | [], a, w => K a w
  | .s l :: r, a, w => wpX P ops Q C (fun a' w' => wpG P ops Q C K r a' w') l a w
  | .g is :: r, a, w => ∃ F : Nat → Value → World → Prop, (∀ k v w w', F k v w → Below w.heap.size w w' → F k v w') ∧
      (∀ k ∈ is, ∀ (e : List (Nat × Value)) w', (∀ j ∈ is, waitsB ops k j = true → j ∈ e.map (·.1)) → (e.map (·.1)).Nodup → k ∉ e.map (·.1) → (∀ p ∈ e, p.1 ∈ is ∧ F p.1 p.2 w') → Below w.heap.size w w' →
        ∀ K' : Act → World → Prop, (∀ v w2, F k v w2 → Below w'.heap.size w' w2 → K' ((putL ops e a).put (dstOf ops k) v) w2) → wpOp P ops Q k K' (putL ops e a) w') ∧
      (∀ (e : List (Nat × Value)) w', e.map (·.1) = is → (∀ p ∈ e, F p.1 p.2 w') → Below w.heap.size w w' → wpG P ops Q C K r (putL ops e a) w')

def lenG : List Ig → Nat
  | [] => 0
  | .s l :: r => lenG r + lenS l
  | .g is :: r => lenG r + is.length
def markG : List Ig → Array Bool → Array Bool
  | [], L => L
  | .s l :: r, L => markG r (markS l L)
  | .g is :: r, L => markG r (mark is L)
def dstB (ops : Array Oper) (is : List Nat) : Bool := is.all fun i => is.all fun j => i == j || match dstOf ops i, dstOf ops j with | some x, some y => x != y | _, _ => true
def gB (ops : Array Oper) (E : Nat → Bool) : List Ig → Array Bool → Bool
  | [], _ => true
  | .s l :: r, L => schedB ops E true l L && gB ops E r (markS l L)
  | .g is :: r, L => groupB ops is L && nodupB is && dstB ops is && (is.all fun i => decide (i < L.size)) && gB ops E r (mark is L)

theorem closed_order : ∀ (is : List Nat) (L : Array Bool), Closed ops L → orderB ops is L = true → Closed ops (mark is L)
  | [], _, h, _ => h
  | i :: is, L, h, hB => by
    simp only [orderB, Bool.and_eq_true] at hB
    exact closed_order is _ (h.set (by simpa using hB.1)) hB.2

theorem G_sched (hs : Region.noSelect ops = true) (hQ : ∀ c a (d : Tmp) v w, Q (.panic c) (a.put (some d) v) w → Q (.panic c) a w) (hC : ∀ w w', C w → Below w.heap.size w w' → C w') {K : Act → World → Prop} {n : Nat} :
    ∀ (l : List Ig) (listed : Array Bool) (a : Act) (w : World), Closed ops listed → gB ops E l listed = true → C w →
      (∀ a' w', C w' → K a' w' → wpAnyX P ops Q C E n (markG l listed) a' w') → wpG P ops Q C K l a w → wpAnyX P ops Q C E (n + lenG l) listed a w
  | [], listed, a, w, _, _, hw, hK, h => hK a w hw h
  | .s l :: r, listed, a, w, hcl, hB, hw, hK, h => by
    simp only [gB, Bool.and_eq_true] at hB
    rw [show n + lenG (.s l :: r) = n + lenG r + lenS l from (Nat.add_assoc _ _ _).symm]
    exact X_sched hs hQ l listed a w hcl hB.1 hw (fun a' w' hw' h' => G_sched hs hQ hC r _ a' w' (closed_markS l _ _ hcl hB.1) hB.2 hw' hK h') h
  | .g is :: r, listed, a, w, hcl, hB, hw, hK, h => by
    simp only [gB, Bool.and_eq_true] at hB
    obtain ⟨⟨⟨⟨hg, hn⟩, hd⟩, hz⟩, hB'⟩ := hB
    obtain ⟨F, hF, hstep, hcont⟩ := h
    have hnd := nodupB_spec hn
    have hB1 : orderB ops is listed = true := by
      have := hg
      simp only [groupB, Bool.and_eq_true] at this
      exact this.1
    have hd' : ∀ i ∈ is, ∀ j ∈ is, i ≠ j → ∀ x, dstOf ops i = some x → dstOf ops j ≠ some x := by
      intro i hi j hj hij x hx hy
      have h1 := List.all_eq_true.1 (List.all_eq_true.1 hd i hi) j hj
      simp [hij, hx, hy] at h1
    rw [show n + lenG (.g is :: r) = n + lenG r + is.length from (Nat.add_assoc _ _ _).symm]
    have hun := order_un is listed hB1
    refine group_any (D := fun w' => C w' ∧ Below w.heap.size w w') (F := F) hg hnd (fun i hi => by simpa using List.all_eq_true.1 hz i hi) hF (fun w h => h.1) (fun w1 w2 h hb => ⟨hC _ _ h.1 hb, below_to h.2 hb⟩) ?_ ?_ is.length is [] listed w rfl (by simp) hcl rfl (fun _ _ _ => rfl) (fun j hj => by cases hj) (fun i hi _ => hun i hi) (fun p hp => by cases hp) ⟨hw, Below.refl _ w⟩
    · intro k hk e l2 w' hr hl hne hke hf hD K' hK'
      refine hstep k hk e w' (fun j hj hwj => ?_) hne hke hf hD.2 K' hK'
      by_cases hje : j ∈ e.map (·.1)
      · exact hje
      · have h1 := hl j true hje
        rw [hun j hj] at h1
        exact (waits_no hr hwj h1).elim
    · intro e w' hp hf hD
      obtain ⟨e', h1, h2⟩ := perm_keys hp
      have hne : (e.map (·.1)).Nodup := hp.nodup_iff.2 hnd
      rw [putL_perm h1 hne (fun p hp' q hq hpq => hd' _ (hp.mem_iff.1 (List.mem_map.2 ⟨p, hp', rfl⟩)) _ (hp.mem_iff.1 (List.mem_map.2 ⟨q, hq, rfl⟩)) hpq) a]
      exact G_sched hs hQ hC r _ _ w' (closed_order is _ hcl hB1) hB' hD.1 hK (hcont e' w' h2 (fun p hp' => hf p (h1.mem_iff.2 hp')) hD.2)
theorem gB_app (E : Nat → Bool) : ∀ (a b : List Ig) (L : Array Bool), gB ops E a L = true → gB ops E b (markG a L) = true → gB ops E (a ++ b) L = true
  | [], _, _, _, h => h
  | .s l :: r, b, L, h1, h2 => by
    simp only [gB, Bool.and_eq_true] at h1
    show gB ops E (.s l :: (r ++ b)) L = true
    simp only [gB, Bool.and_eq_true]
    exact ⟨h1.1, gB_app E r b _ h1.2 h2⟩
  | .g is :: r, b, L, h1, h2 => by
    simp only [gB, Bool.and_eq_true] at h1
    show gB ops E (.g is :: (r ++ b)) L = true
    simp only [gB, Bool.and_eq_true]
    exact ⟨h1.1, gB_app E r b _ h1.2 h2⟩
theorem markG_app : ∀ (a b : List Ig) (L : Array Bool), markG (a ++ b) L = markG b (markG a L)
  | [], _, _ => rfl
  | .s _ :: r, b, _ => markG_app r b _
  | .g _ :: r, b, _ => markG_app r b _
def inG (l : List Ig) (j : Nat) : Bool := l.any fun | .s l => inS l j | .g is => is.contains j
theorem closed_markG : ∀ (l : List Ig) (E' : Nat → Bool) (listed : Array Bool), Closed ops listed → gB ops E' l listed = true → Closed ops (markG l listed)
  | [], _, _, h, _ => h
  | .s l :: r, E', listed, h, hB => by
    simp only [gB, Bool.and_eq_true] at hB
    exact closed_markG r E' _ (closed_markS l _ _ h hB.1) hB.2
  | .g is :: r, E', listed, h, hB => by
    simp only [gB, groupB, Bool.and_eq_true] at hB
    exact closed_markG r E' _ (closed_order is _ h hB.1.1.1.1.1) hB.2
/-- A region that draws its order, walked along schedules and groups; the rest in one forced order. -/
theorem wp_region_g {id : Nat} {a : Act} {w : World} (l1 : List Ig) (L : Array Bool) (tl : List Nat) (hm : P.follows .mixedOrders = true)
    (hmk : markG l1 (Array.replicate ops.size false) = L) (h1 : gB ops (inG l1) l1 (Array.replicate ops.size false) = true)
    (h0 : (Region.noSelect ops && decide (lenS (tl.map .f) + lenG l1 = ops.size) && ((List.range ops.size).all fun j => L.getD j true || !inG l1 j) && tl.all fun i => decide (i < ops.size)) = true)
    (h5 : (schedB ops (fun _ => true) true (tl.map .f) L && (Region.ready .any ops (markS (tl.map .f) L)).isEmpty) = true)
    (hQ : ∀ c a (d : Tmp) v w, Q (.panic c) (a.put (some d) v) w → Q (.panic c) a w)
    (h : wpG P ops Q (fun w' => ∃ e, w' = grow w e) (fun a' w' => wpList P ops Q (opsAt ops tl) a' w') l1 a w.drew) :
    (Code.region id ops true).wp P Q a w := by
  simp only [Bool.and_eq_true, decide_eq_true_eq, List.isEmpty_iff] at h0 h5
  obtain ⟨⟨⟨hs, hn⟩, hE⟩, hl0⟩ := h0
  obtain ⟨h2, he⟩ := h5
  have hl : ∀ i ∈ tl, i < ops.size := fun i hi => by simpa using List.all_eq_true.1 hl0 i hi
  refine wp_region_any hm ?_
  have hw : ∃ e, ({ w with drawn := w.drawn + 1 } : World) = grow w e := grow_of ((Below.refl w.heap.size w).drew)
  have hcl : Closed ops (Array.replicate ops.size false) := fun j oj _ hl => (by simp [Array.getElem?_replicate] at hl; split at hl <;> simp at hl)
  rw [← hn]
  rw [← hn] at h1 hE hcl hmk
  refine wpAny_of_X _ _ _ _ (G_sched (C := fun w' => ∃ e, w' = grow w e) (E := inG l1) hs hQ (fun w1 w2 h hb => by
    obtain ⟨e, rfl⟩ := h
    exact grow_of (below_to (below_grow w e) hb)) l1 _ a _ hcl h1 hw (fun a' w' _ k' => ?_) h)
  rw [hmk]
  refine X_of_any (C' := fun _ => True) (E' := fun _ => true) _ _ _ _ (fun j hj hun => ?_) ?_
  · have := List.all_eq_true.1 hE j (List.mem_range.2 (by rw [hn]; exact hj))
    simpa [hun] using this
  · have := X_sched (P := P) (Q := Q) (C := fun _ => True) (E := fun _ => true) (n := 0) hs hQ (tl.map .f) _ a' w' (by rw [← hmk]; exact closed_markG l1 _ _ hcl h1) h2 trivial (fun a2 w2 _ k2 => ⟨he, k2⟩) (X_of_list tl a' w' hl k')
    simpa using this
end
end Go.Proofs.Ytpjhiojdnebgoaa

/- What is proved here: a group of two operations that come up in either order, neither of which reads what the other one gives. No condition but the facts that each keeps. -/
namespace Go.Proofs.Ytpjhiojdnebgoaa
open Go.RowKit

section
variable {P : Program} {ops : Array Oper} {Q : Exit → Act → World → Prop} {C : World → Prop} {K : Act → World → Prop}
/-- A region that draws its order, walked along schedules and groups; then operations that look at no memory, then the rest in one forced order. -/
theorem wp_region_gt {id : Nat} {a : Act} {w : World} (l1 : List Ig) (L : Array Bool) (is tl : List Nat) (hm : P.follows .mixedOrders = true)
    (hmk : markG l1 (Array.replicate ops.size false) = L) (h1 : gB ops (inG l1) l1 (Array.replicate ops.size false) = true)
    (h0 : (Region.noSelect ops && decide (lenS (.t is :: tl.map .f) + lenG l1 = ops.size) && ((List.range ops.size).all fun j => L.getD j true || !inG l1 j) && tl.all fun i => decide (i < ops.size)) = true)
    (h5 : (schedB ops (fun _ => true) true (.t is :: tl.map .f) L && (Region.ready .any ops (markS (.t is :: tl.map .f) L)).isEmpty) = true)
    (hQ : ∀ c a (d : Tmp) v w, Q (.panic c) (a.put (some d) v) w → Q (.panic c) a w)
    (h : wpG P ops Q (fun w' => ∃ e, w' = grow w e) (fun a' w' => wpQuiet P ops (fun _ => True) (fun a2 => wpList P ops Q (opsAt ops tl) a2 w') (opsAt ops is) a') l1 a w.drew) :
    (Code.region id ops true).wp P Q a w := by
  simp only [Bool.and_eq_true, decide_eq_true_eq, List.isEmpty_iff] at h0 h5
  obtain ⟨⟨⟨hs, hn⟩, hE⟩, hl0⟩ := h0
  obtain ⟨h2, he⟩ := h5
  have hl : ∀ i ∈ tl, i < ops.size := fun i hi => by simpa using List.all_eq_true.1 hl0 i hi
  refine wp_region_any hm ?_
  have hw : ∃ e, ({ w with drawn := w.drawn + 1 } : World) = grow w e := grow_of ((Below.refl w.heap.size w).drew)
  have hcl : Closed ops (Array.replicate ops.size false) := fun j oj _ hl => (by simp [Array.getElem?_replicate] at hl; split at hl <;> simp at hl)
  rw [← hn]
  rw [← hn] at h1 hE hcl hmk
  refine wpAny_of_X _ _ _ _ (G_sched (C := fun w' => ∃ e, w' = grow w e) (E := inG l1) hs hQ (fun w1 w2 h hb => by
    obtain ⟨e, rfl⟩ := h
    exact grow_of (below_to (below_grow w e) hb)) l1 _ a _ hcl h1 hw (fun a' w' _ k' => ?_) h)
  rw [hmk]
  refine X_of_any (C' := fun _ => True) (E' := fun _ => true) _ _ _ _ (fun j hj hun => ?_) ?_
  · have := List.all_eq_true.1 hE j (List.mem_range.2 (by rw [hn]; exact hj))
    simpa [hun] using this
  · have := X_sched (P := P) (Q := Q) (C := fun _ => True) (E := fun _ => true) (n := 0) hs hQ (.t is :: tl.map .f) _ a' w' (by rw [← hmk]; exact closed_markG l1 _ _ hcl h1) h2 trivial (fun a2 w2 _ k2 => ⟨he, k2⟩) (quiet_mono (fun a2 h2 => X_of_list tl a2 w' hl h2) _ _ k')
    simpa using this
theorem wpOp_of {k : Nat} {o : Oper} {K' : Act → World → Prop} {a : Act} {w : World} (ho : ops[k]? = some o) (hg : o.guard = none) (h : o.wp P a w K' Q) : wpOp P ops Q k K' a w := by
  unfold wpOp
  rw [ho]
  have : Region.wanted o (yielded ops a.tmps) = true := by unfold Region.wanted; rw [hg]
  simp only [this, if_true]
  exact .inl h
theorem wp_made {o : Oper} {t : TypeId} {x y : Operand} {a : Act} {w w' : World} {v : Value} {K' : Act → World → Prop} (hop : o.op = .makeSlice t x y) (hr : (Instr.makeSlice t (a.eval x) (a.eval y)).run P w = .ok v w') (hk : K' (a.put o.dst v) w') : o.wp P a w K' Q := by
  unfold Oper.wp execOp
  simp only [hop]
  generalize a.eval x = X at hr ⊢
  generalize a.eval y = Y at hr ⊢
  simp [go_sem, hr]
  exact hk
theorem wpG_nil {a : Act} {w : World} (h : K a w) : wpG P ops Q C K [] a w := h
theorem two_keys {e : List (Nat × Value)} {i j : Nat} (h : e.map (·.1) = [i, j]) : ∃ u v, e = [(i, u), (j, v)] := by
  match e, h with
  | [(a, u), (b, v)], h =>
    simp only [List.map_cons, List.map_nil, List.cons.injEq, and_true] at h
    obtain ⟨rfl, rfl⟩ := h
    exact ⟨u, v, rfl⟩
theorem wp_group2 {i j : Nat} {r : List Ig} {a : Act} {w : World} (F0 F1 : Value → World → Prop) (di dj : Option Tmp) (hdi : dstOf ops i = di) (hdj : dstOf ops j = dj) (hij : i ≠ j)
    (m0 : ∀ v w w', F0 v w → Below w.heap.size w w' → F0 v w') (m1 : ∀ v w w', F1 v w → Below w.heap.size w w' → F1 v w')
    (h0 : ∀ a' w', Below w.heap.size w w' → ∀ K' : Act → World → Prop, (∀ v w2, F0 v w2 → Below w'.heap.size w' w2 → K' (a'.put di v) w2) → wpOp P ops Q i K' a' w')
    (h1 : ∀ a' w', Below w.heap.size w w' → ∀ K' : Act → World → Prop, (∀ v w2, F1 v w2 → Below w'.heap.size w' w2 → K' (a'.put dj v) w2) → wpOp P ops Q j K' a' w')
    (hc : ∀ u v w', F0 u w' → F1 v w' → Below w.heap.size w w' → wpG P ops Q C K r ((a.put dj v).put di u) w') :
    wpG P ops Q C K (.g [i, j] :: r) a w := by
  subst hdi hdj
  refine ⟨fun k v w => (k = i → F0 v w) ∧ (k = j → F1 v w), fun k v w w' h hb => ⟨fun e => m0 _ _ _ (h.1 e) hb, fun e => m1 _ _ _ (h.2 e) hb⟩, ?_, ?_⟩
  · intro k hk e w' _ _ _ _ hb K' hK'
    rcases List.mem_cons.1 hk with rfl | hk
    · exact h0 _ w' hb K' fun v w2 hf hb2 => hK' v w2 ⟨fun _ => hf, fun e => absurd e hij⟩ hb2
    · obtain rfl : k = j := by simpa using hk
      exact h1 _ w' hb K' fun v w2 hf hb2 => hK' v w2 ⟨fun e => absurd e.symm hij, fun _ => hf⟩ hb2
  · intro e w' he hf hb
    obtain ⟨u, v, rfl⟩ := two_keys he
    exact hc u v w' ((hf (i, u) (by simp)).1 rfl) ((hf (j, v) (by simp)).2 rfl) hb
end
end Go.Proofs.Ytpjhiojdnebgoaa
