/- What is proved here: a region that draws its order may be walked so: first the operations that look at no memory, then those that read old memory, then the others, which follow one another in one forced order. No condition but the Bool that is asked. -/
import Derived.Test.YtdgdlpnhhelgnaaBase
namespace Go.Proofs.Ytdgdlpnhhelgnaa
open Go.RowKit

/-- What a primitive operation does to memory: it makes new blocks and reads, no more. -/
def Gr {α : Type} : Sem α → Prop
  | .pure _ => True
  | .load _ _ k => ∀ v, Gr (k v)
  | .store _ _ _ _ => False
  | .new _ k => ∀ r, Gr (k r)
  | .shape _ k => ∀ s, Gr (k s)
  | .freeze _ _ _ => False
  | .frozen _ k => ∀ b, Gr (k b)
  | .getObj _ k => ∀ o, Gr (k o)
  | .setObj _ _ _ => False
  | .choose _ k => ∀ n, Gr (k n)
  | .sys _ _ => False
  | .program k => ∀ p, Gr (k p)
  | .mark _ k => Gr k
  | .halt _ => True

theorem Gr.bind {α β : Type} : ∀ (s : Sem α) (f : α → Sem β), Gr s → (∀ x, Gr (f x)) → Gr (s.bind f)
  | .pure a, f, _, hf => hf a
  | .load _ _ k, f, h, hf => fun v => Gr.bind (k v) f (h v) hf
  | .store _ _ _ _, _, h, _ => h.elim
  | .new _ k, f, h, hf => fun r => Gr.bind (k r) f (h r) hf
  | .shape _ k, f, h, hf => fun r => Gr.bind (k r) f (h r) hf
  | .freeze _ _ _, _, h, _ => h.elim
  | .frozen _ k, f, h, hf => fun r => Gr.bind (k r) f (h r) hf
  | .getObj _ k, f, h, hf => fun r => Gr.bind (k r) f (h r) hf
  | .setObj _ _ _, _, h, _ => h.elim
  | .choose _ k, f, h, hf => fun r => Gr.bind (k r) f (h r) hf
  | .sys _ _, _, h, _ => h.elim
  | .program k, f, h, hf => fun r => Gr.bind (k r) f (h r) hf
  | .mark _ k, f, h, hf => Gr.bind k f h hf
  | .halt _, _, _, _ => trivial

theorem Gr.run {α : Type} {P : Program} : ∀ (s : Sem α) (w w' : World) (x : α), Gr s → s.run P w = .ok x w' → Below w.heap.size w w'
  | .pure a, w, w', x, _, h => by simp only [Sem.run] at h; cases h; exact Below.refl _ _
  | .load m a k, w, w', x, hg, h => by
    simp only [Sem.run] at h
    split at h
    · exact Gr.run _ _ _ _ (hg _) h
    · split at h
      · exact Gr.run _ _ _ _ (hg _) h
      · cases h
  | .store _ _ _ _, _, _, _, hg, _ => hg.elim
  | .new o k, w, w', x, hg, h => by
    simp only [Sem.run] at h
    exact below_to (ba1 w o) (Gr.run _ _ _ _ (hg _) h)
  | .shape _ k, w, w', x, hg, h => by simp only [Sem.run] at h; exact Gr.run _ _ _ _ (hg _) h
  | .freeze _ _ _, _, _, _, hg, _ => hg.elim
  | .frozen _ k, w, w', x, hg, h => by simp only [Sem.run] at h; exact Gr.run _ _ _ _ (hg _) h
  | .getObj _ k, w, w', x, hg, h => by
    simp only [Sem.run] at h
    split at h
    · cases h
    · exact Gr.run _ _ _ _ (hg _) h
    · cases h
  | .setObj _ _ _, _, _, _, hg, _ => hg.elim
  | .choose q k, w, w', x, hg, h => by
    simp only [Sem.run] at h
    split at h
    · exact Gr.run _ _ _ _ (hg _) h
    · exact below_to (below_drewN w 1) (Gr.run _ _ _ _ (hg _) h)
  | .sys _ _, _, _, _, hg, _ => hg.elim
  | .program k, w, w', x, hg, h => by simp only [Sem.run] at h; exact Gr.run _ _ _ _ (hg _) h
  | .mark _ k, w, w', x, hg, h => by simp only [Sem.run] at h; exact Gr.run k _ _ _ hg h
  | .halt _, _, _, _, _, h => by simp only [Sem.run] at h; cases h

theorem gr_typeInfo (t : TypeId) : Gr (typeInfo t) := by
  unfold typeInfo
  refine Gr.bind _ _ (fun p => trivial) fun p => ?_
  split <;> trivial
theorem gr_underlying (t : TypeId) : Gr (underlying t) := by
  unfold underlying
  refine Gr.bind _ _ (fun p => trivial) fun p => ?_
  split <;> trivial
theorem gr_zeroValue (t : TypeId) : Gr (zeroValue t) := by
  unfold zeroValue
  refine Gr.bind _ _ (gr_typeInfo t) fun p => ?_
  split <;> trivial
theorem gr_sizeOf (t : TypeId) : Gr (sizeOf t) := by
  unfold sizeOf
  exact Gr.bind _ _ (gr_typeInfo t) fun p => trivial
theorem gr_newRow (t : TypeId) (cs : Array Value) : Gr (newRow t cs) := by
  unfold newRow
  exact Gr.bind _ _ (fun p => trivial) fun p => trivial

/-- The operations that make one new block. -/
def keepB : Op → Bool
  | .alloc _ | .box .. | .buildSlice .. | .makeSlice .. => true
  | _ => false

theorem gr_makeSlice (t : TypeId) (l c : Value) : Gr (Instr.makeSlice t l c) := by
  have hi : ∀ v, Gr (asIntOf v) := fun v => by unfold asIntOf; split <;> trivial
  have hi2 : ∀ v, Gr (asInt v) := fun v => Gr.bind _ _ (hi v) fun _ => trivial
  have hp : ∀ (α : Type) (m : String), Gr (runtimePanic (α := α) (.error m)) := fun α m => Gr.bind _ _ (fun p => trivial) fun p => trivial
  have hc : ∀ q, Gr (choose q) := fun q _ => trivial
  have hr : ∀ n, Gr (askRoom n) := fun n => by unfold askRoom; split <;> trivial
  unfold Instr.makeSlice
  repeat' (first | exact trivial | exact gr_typeInfo _ | exact gr_underlying _ | exact gr_sizeOf _ | exact gr_newRow _ _ | exact gr_zeroValue _ | exact hi2 _ | exact hp _ _ | exact hc _ | exact hr _ | (refine Gr.bind _ _ ?_ (fun _ => ?_)) | (dsimp only) | split)

theorem gr_keep (ρ : Operand → Value) (o : Oper) (h : keepB o.op = true) : Gr (execOp ρ o) := by
  obtain ⟨dst, op, type, pos, after, guard⟩ := o
  cases op <;> simp only [keepB, Bool.false_eq_true] at h
  case alloc t =>
    refine Gr.bind _ _ ?_ fun _ => trivial
    unfold Instr.alloc
    refine Gr.bind _ _ (gr_zeroValue _) fun z => ?_
    exact Gr.bind _ _ (gr_newRow _ _) fun _ => trivial
  case box t v =>
    refine Gr.bind _ _ ?_ fun _ => trivial
    exact Gr.bind _ _ (gr_newRow _ _) fun _ => trivial
  case buildSlice t n ps =>
    refine Gr.bind _ _ ?_ fun _ => trivial
    unfold Instr.buildSlice
    repeat' (first | exact trivial | exact gr_typeInfo _ | exact gr_underlying _ | exact gr_sizeOf _ | exact gr_newRow _ _ | exact gr_zeroValue _ | (refine Gr.bind _ _ ?_ (fun _ => ?_)) | (dsimp only) | split)
  case makeSlice t l c => exact Gr.bind _ _ (gr_makeSlice _ _ _) fun _ => trivial

/-- The operations that hand back a value and are no call of a Go function. -/
def plainB : Op → Bool
  | .move _ | .assign _ | .pick .. | .build .. | .load .. | .binOp .. | .unOp .. | .convert .. | .fieldAddr .. | .field .. | .indexAddr .. | .index .. | .extract .. | .slice .. | .makeFunc .. => true
  | .call { callee := .builtin b, .. } => (match b with | .len | .cap | .max | .min => true | _ => false)
  | _ => false

theorem run_valued {P : Program} {w w' : World} (s : Sem Value) {nx : Next} (h : (s.bind fun x => Sem.pure (Next.value x)).run P w = .ok nx w') : ∃ v, nx = .value v := by
  rw [Sem.run_bind'] at h
  cases hr : s.run P w with
  | ok v w1 => rw [hr] at h; simp only [Result.andThen_ok, Sem.run] at h; cases h; exact ⟨v, rfl⟩
  | halt x w1 => rw [hr] at h; simp at h

theorem plain_run {P : Program} {w w' : World} (ρ : Operand → Value) (o : Oper) (hp : plainB o.op = true) {nx : Next} (h : (execOp ρ o).run P w = .ok nx w') : ∃ v, nx = .value v := by
  obtain ⟨dst, op, type, pos, after, guard⟩ := o
  cases op <;> simp only [plainB, Bool.false_eq_true] at hp
  case call c =>
    obtain ⟨callee, args, argTypes⟩ := c
    cases callee <;> simp only [plainB, Bool.false_eq_true] at hp
    rename_i b
    cases b <;> simp only [Bool.false_eq_true] at hp
    all_goals exact run_valued _ h
  case move => exact ⟨_, by simp only [execOp] at h; exact (by cases h; rfl)⟩
  case assign => exact ⟨_, by simp only [execOp] at h; exact (by cases h; rfl)⟩
  case pick c a b => exact run_valued ((asBool (ρ c)).bind fun t => .pure (if t then ρ a else ρ b)) (by rw [Sem.bind_assoc']; exact h)
  all_goals exact run_valued _ h

section
variable {P : Program} {ops : Array Oper} {Q : Exit → Act → World → Prop} {S : World → Prop} {E : Nat → Bool}

/-- Whatever order is picked from here on; behind an operation that E names, S holds. -/
def wpAnyX (P : Program) (ops : Array Oper) (Q : Exit → Act → World → Prop) (S : World → Prop) (E : Nat → Bool) : Nat → Array Bool → Act → World → Prop
  | 0, listed, a, w => Region.ready .any ops listed = [] ∧ Q .normal a w
  | fuel + 1, listed, a, w =>
    (Region.ready .any ops listed = [] → Q .normal a w) ∧
    ∀ i ∈ Region.ready .any ops listed, wpOp P ops Q i (fun a' w' => (E i = true → S w') ∧ wpAnyX P ops Q S E fuel (listed.setIfInBounds i true) a' w') a w

theorem wpAny_of_X : ∀ (fuel : Nat) (listed : Array Bool) (a : Act) (w : World), wpAnyX P ops Q S E fuel listed a w → wpAny P .any ops Q fuel listed a w
  | 0, _, _, _, h => h
  | fuel + 1, _, _, _, h => ⟨h.1, fun i hi => wpOp_mono (fun a' w' h' => wpAny_of_X fuel _ a' w' h'.2) (h.2 i hi)⟩

/-- Operation j comes after i, by the edges. -/
def afterB (ops : Array Oper) : Nat → Nat → Nat → Bool
  | 0, _, _ => false
  | f + 1, j, i => match ops[j]? with
    | some oj => (oj.after.any fun e => Region.binds .any e && e.on == i) || (oj.after.any fun e => Region.binds .any e && afterB ops f e.on i)
    | none => false
/-- What has come up is closed under the edges. -/
def Closed (ops : Array Oper) (listed : Array Bool) : Prop := ∀ j oj, ops[j]? = some oj → listed.getD j false = true → ∀ e ∈ oj.after, Region.binds .any e = true → listed.getD e.on false = true
theorem Closed.set {listed : Array Bool} {i : Nat} (h : Closed ops listed) (hi : i ∈ Region.ready .any ops listed) : Closed ops (listed.setIfInBounds i true) := by
  obtain ⟨_, oi, hoi, hall⟩ := mem_ready.1 hi
  intro j oj hj hl e he hb
  by_cases hij : i = j
  · subst hij
    have : oj = oi := Option.some.inj (hj.symm.trans hoi)
    subst this
    exact getD_set_true (hall e he hb)
  · rw [getD_set_ne false hij] at hl
    exact getD_set_true (h j oj hj hl e he hb)
theorem after_listed {listed : Array Bool} (hc : Closed ops listed) {i : Nat} : ∀ (f j : Nat) (oj : Oper), ops[j]? = some oj → (∀ e ∈ oj.after, Region.binds .any e = true → listed.getD e.on false = true) →
    afterB ops f j i = true → listed.getD i false = true
  | 0, _, _, _, _, h => by cases h
  | f + 1, j, oj, hj, hall, h => by
    simp only [afterB, hj, Bool.or_eq_true] at h
    rcases h with h | h
    · obtain ⟨e, he, hb⟩ := Array.any_eq_true'.1 h
      simp only [Bool.and_eq_true, beq_iff_eq] at hb
      rw [← hb.2]; exact hall e he hb.1
    · obtain ⟨e, he, hb⟩ := Array.any_eq_true'.1 h
      simp only [Bool.and_eq_true] at hb
      have hl := hall e he hb.1
      cases ho : ops[e.on]? with
      | none => have := hb.2; cases f <;> simp [afterB, ho] at this
      | some o => exact after_listed hc f e.on o ho (fun e' he' hb' => hc e.on o ho hl e' he' hb') hb.2

/-- An operation that may come up now, and that yields its value in every world that meets S, may be taken first. -/
theorem wpAnyX_first {i : Nat} {oi : Oper} {v : Value} (hi : ops[i]? = some oi) (hsel : ∀ (j : Nat) (o : Oper) cs b, ops[j]? = some o → o.op ≠ .select cs b)
    (hQ : ∀ c a w, Q (.panic c) (a.put oi.dst v) w → Q (.panic c) a w) (F : Nat) :
    ∀ (fuel : Nat) (listed : Array Bool) (a : Act) (w : World), Closed ops listed →
      (∀ j oj, ops[j]? = some oj → j ≠ i → listed.getD j true = false → (∀ e ∈ oj.after, Region.binds .any e = true → e.on ≠ i) → oi.apart ops oj = true) →
      (∀ j oj, ops[j]? = some oj → j ≠ i → listed.getD j true = false → afterB ops F j i = false → E j = true) →
      i ∈ Region.ready .any ops listed → YieldsIf P ops S oi v a → S w →
      wpAnyX P ops Q S E fuel (listed.setIfInBounds i true) (a.put oi.dst v) w → wpAnyX P ops Q S E (fuel + 1) listed a w := by
  intro fuel
  induction fuel with
  | zero =>
    intro listed a w _ _ _ hr hy hS H
    refine ⟨fun h => (by rw [h] at hr; cases hr), fun j hj => ?_⟩
    by_cases hji : j = i
    · subst hji; exact hy.wpOp hi hS ⟨fun _ => hS, H⟩
    · have := ready_mono hj hji
      rw [H.1] at this
      cases this
  | succ fuel ih =>
    intro listed a w hcl hfree hfE hr hy hS H
    refine ⟨fun h => (by rw [h] at hr; cases hr), fun j hj => ?_⟩
    by_cases hji : j = i
    · subst hji; exact hy.wpOp hi hS ⟨fun _ => hS, H⟩
    · have h1 := H.2 j (ready_mono hj hji)
      obtain ⟨hjun, oj, hoj, hall⟩ := mem_ready.1 hj
      have hiun : listed.getD i false = true → False := fun h1 => by
        have h0 := (mem_ready.1 hr).1
        rcases Nat.lt_or_ge i listed.size with h' | h'
        · simp [h'] at h0 h1; rw [h0] at h1; cases h1
        · simp [Array.getElem?_eq_none h'] at h1
      have hnot : ∀ e ∈ oj.after, Region.binds .any e = true → e.on ≠ i := fun e he hb heq => by
        have h1 := hall e he hb
        rw [heq] at h1
        exact hiun h1
      have hap := hfree j oj hoj hji hjun hnot
      have hE : E j = true := hfE j oj hoj hji hjun (by
        cases hab : afterB ops F j i with
        | false => rfl
        | true => exact (hiun (after_listed hcl F j oj hoj hall hab)).elim)
      have h2 := wpOp_putIf hoj hap (fun cs b => hsel i oi cs b hi) (fun cs b => hsel j oj cs b hoj) hQ hy h1
      refine wpOp_mono (fun a' w' h3 => ⟨h3.2.1, ih (listed.setIfInBounds j true) a' w' (hcl.set hj) ?_ ?_ (ready_mono hr (Ne.symm hji)) h3.1 (h3.2.1 hE) ?_⟩) h2
      · intro k ok hk hki hun hno
        refine hfree k ok hk hki ?_ hno
        by_cases hjk : j = k
        · subst hjk; exact hjun
        · rw [getD_set_ne true hjk] at hun; exact hun
      · intro k ok hk hki hun hno
        refine hfE k ok hk hki ?_ hno
        by_cases hjk : j = k
        · subst hjk; exact hjun
        · rw [getD_set_ne true hjk] at hun; exact hun
      · rw [Array.setIfInBounds_comm _ _ hji]
        exact h3.2.2

theorem keep_valued {w w' : World} (ρ : Operand → Value) (o : Oper) (hp : keepB o.op = true) {nx : Next} (h : (execOp ρ o).run P w = .ok nx w') : ∃ v, nx = .value v := by
  obtain ⟨dst, op, type, pos, after, guard⟩ := o
  cases op <;> simp only [keepB, Bool.false_eq_true] at hp
  all_goals exact run_valued _ h

/-- An operation that makes one new block keeps what old memory says. -/
theorem wpOp_keep (hS : ∀ w w', S w → Below w.heap.size w w' → S w') {k : Nat} {o : Oper} (ho : ops[k]? = some o) (hk : keepB o.op = true) {K : Act → World → Prop} {a : Act} {w : World} (hw : S w)
    (h : wpOp P ops Q k K a w) : wpOp P ops Q k (fun a' w' => S w' ∧ K a' w') a w := by
  unfold wpOp at *
  simp only [ho] at *
  split
  · rename_i hwt
    simp only [hwt, if_true] at h
    rcases h with h | h
    · left
      unfold Oper.wp at *
      cases hr : (execOp a.eval o).run P w with
      | ok nx w' =>
        rw [hr] at h
        obtain ⟨v, rfl⟩ := keep_valued _ o hk hr
        exact ⟨hS _ _ hw (Gr.run _ _ _ _ (gr_keep _ o hk) hr), h⟩
      | halt x w' =>
        rw [hr] at h
        cases x <;> simp only [Oper.upon] at h ⊢ <;> exact h
    · exact .inr h
  · rename_i hwt
    simp only [hwt] at h
    exact ⟨hw, h⟩

/-- The operations with these numbers. -/
def opsAt (ops : Array Oper) : List Nat → List Oper
  | [] => []
  | i :: is => ops[i]?.getD default :: opsAt ops is
def mark (is : List Nat) (listed : Array Bool) : Array Bool := is.foldl (fun l i => l.setIfInBounds i true) listed

def takeB (ops : Array Oper) (E : Nat → Bool) (strict : Bool) : List Nat → Array Bool → Bool
  | [], _ => true
  | i :: is, listed =>
    (Region.ready .any ops listed).contains i && Region.free .any ops listed i && (match ops[i]? with | some o => plainB o.op | none => false) &&
    (!strict || (List.range ops.size).all fun j => listed.getD j true || j == i || E j || afterB ops ops.size j i) &&
    takeB ops E strict is (listed.setIfInBounds i true)

theorem quiet_plain {C : World → Prop} {o : Oper} {a : Act} {K : Act → Prop} (hp : plainB o.op = true) (h : if Region.wanted o (yielded ops a.tmps) then o.quiet P a C K else K (a.put o.dst undef)) :
    ∃ v, YieldsIf P ops C o v a ∧ K (a.put o.dst v) := by
  by_cases hw : Region.wanted o (yielded ops a.tmps) = true
  · rw [if_pos hw] at h
    obtain ⟨v, h1, h2⟩ := h
    refine ⟨v, .inl ⟨hw, fun w hC => ?_⟩, h2⟩
    have h3 := h1 w hC
    unfold Oper.quietAt at h3
    cases hr : (execOp a.eval o).run P w with
    | ok nx w' =>
      obtain ⟨u, rfl⟩ := plain_run _ o hp hr
      rw [hr] at h3
      simp only [Oper.quietUpon] at h3
      rw [h3.1, h3.2]
    | halt x w' => rw [hr] at h3; simp only [Oper.quietUpon] at h3
  · rw [if_neg hw] at h
    exact ⟨undef, .inr ⟨by simpa using hw, rfl⟩, h⟩

theorem take_pure (hs : Region.noSelect ops = true) (hQ : ∀ c a (d : Tmp) v w, Q (.panic c) (a.put (some d) v) w → Q (.panic c) a w) {K : Act → Prop} {w : World} {fuel : Nat} :
    ∀ (is : List Nat) (listed : Array Bool) (a : Act), takeB ops (fun _ => true) false is listed = true → wpQuiet P ops (fun _ => True) K (opsAt ops is) a →
      (∀ a', K a' → wpAny P .any ops Q fuel (mark is listed) a' w) → wpAny P .any ops Q (fuel + is.length) listed a w
  | [], listed, a, _, h, hK => hK a h
  | i :: is, listed, a, hB, h, hK => by
    simp only [takeB, Bool.and_eq_true] at hB
    obtain ⟨⟨⟨⟨hr, hf⟩, hp⟩, _⟩, hB'⟩ := hB
    cases ho : ops[i]? with
    | none => rw [ho] at hp; cases hp
    | some o =>
      rw [ho] at hp
      have e : opsAt ops (i :: is) = o :: opsAt ops is := by simp [opsAt, ho]
      rw [e] at h
      obtain ⟨v, hy, hn⟩ := quiet_plain (K := wpQuiet P ops (fun _ => True) K (opsAt ops is)) hp h
      have hy' : Yields P ops o v a := hy.imp (fun ⟨h1, h2⟩ => ⟨h1, fun w => h2 w trivial⟩) id
      have ih := take_pure hs hQ (w := w) (fuel := fuel) is (listed.setIfInBounds i true) (a.put o.dst v) hB' hn (fun a' h' => hK a' h')
      exact wpAny_take ho hs hf hr (fun c a' w' hh => by
        cases hd : o.dst with
        | none => rw [hd] at hh; exact hh
        | some d => rw [hd] at hh; exact hQ c a' d v w' hh) hy' ih

theorem take_read (hs : Region.noSelect ops = true) (hQ : ∀ c a (d : Tmp) v w, Q (.panic c) (a.put (some d) v) w → Q (.panic c) a w) {K : Act → Prop} {w : World} (hw : S w) {fuel : Nat} :
    ∀ (is : List Nat) (listed : Array Bool) (a : Act), Closed ops listed → takeB ops E true is listed = true → wpQuiet P ops S K (opsAt ops is) a →
      (∀ a', K a' → wpAnyX P ops Q S E fuel (mark is listed) a' w) → wpAnyX P ops Q S E (fuel + is.length) listed a w
  | [], listed, a, _, _, h, hK => hK a h
  | i :: is, listed, a, hcl, hB, h, hK => by
    simp only [takeB, Bool.and_eq_true] at hB
    obtain ⟨⟨⟨⟨hr, hf⟩, hp⟩, hl⟩, hB'⟩ := hB
    cases ho : ops[i]? with
    | none => rw [ho] at hp; cases hp
    | some o =>
      rw [ho] at hp
      have e : opsAt ops (i :: is) = o :: opsAt ops is := by simp [opsAt, ho]
      rw [e] at h
      obtain ⟨v, hy, hn⟩ := quiet_plain (K := wpQuiet P ops S K (opsAt ops is)) hp h
      have ih := take_read hs hQ hw (fuel := fuel) is (listed.setIfInBounds i true) (a.put o.dst v) (hcl.set (by simpa using hr)) hB' hn (fun a' h' => hK a' h')
      refine wpAnyX_first ho (Region.noSelect_spec hs) (fun c a' w' hh => by
        cases hd : o.dst with
        | none => rw [hd] at hh; exact hh
        | some d => rw [hd] at hh; exact hQ c a' d v w' hh) ops.size (fuel + is.length) listed a w hcl (fun j oj hj hne hun hno => Region.free_spec ho hf j oj hj hne hun hno) ?_ (by simpa using hr) hy hw ih
      intro j oj hj hne hun hno
      simp only [Bool.not_true, Bool.false_or] at hl
      have h1 := List.all_eq_true.1 hl j (List.mem_range.2 (Array.getElem?_eq_some_iff.1 hj).1)
      simpa only [hun, hno, Bool.false_or, Bool.or_false, Bool.or_eq_true, beq_iff_eq, hne, false_or] using h1

theorem closed_mark : ∀ (is : List Nat) (E' : Nat → Bool) (st : Bool) (listed : Array Bool), Closed ops listed → takeB ops E' st is listed = true → Closed ops (mark is listed)
  | [], _, _, _, h, _ => h
  | i :: is, E', st, listed, h, hB => by
    simp only [takeB, Bool.and_eq_true] at hB
    obtain ⟨⟨⟨⟨hr, _⟩, _⟩, _⟩, hB'⟩ := hB
    exact closed_mark is E' st _ (h.set (by simpa using hr)) hB'

/-- The rest follows one another in one forced order; while S is known, what E names makes new blocks alone. -/
def seqX (ops : Array Oper) (E : Nat → Bool) : List Nat → Array Bool → Bool → Bool
  | [], listed, _ => (Region.ready .any ops listed).isEmpty
  | k :: ks, listed, ok => decide (Region.ready .any ops listed = [k]) && (!E k || (ok && match ops[k]? with | some o => keepB o.op | none => false)) && seqX ops E ks (listed.setIfInBounds k true) (ok && E k)

theorem tail_seq (hS : ∀ w w', S w → Below w.heap.size w w' → S w') : ∀ (ks : List Nat) (listed : Array Bool) (ok : Bool) (a : Act) (w : World), seqX ops E ks listed ok = true → (ok = true → S w) →
    wpList P ops Q (opsAt ops ks) a w → wpAnyX P ops Q S E ks.length listed a w
  | [], listed, ok, a, w, hB, _, h => ⟨by simpa [seqX] using hB, h⟩
  | k :: ks, listed, ok, a, w, hB, hw, h => by
    simp only [seqX, Bool.and_eq_true, decide_eq_true_eq] at hB
    obtain ⟨⟨hr, hE⟩, hB'⟩ := hB
    have hk : k ∈ Region.ready .any ops listed := by rw [hr]; simp
    obtain ⟨_, o, ho, _⟩ := mem_ready.1 hk
    refine ⟨fun h1 => (by rw [hr] at h1; cases h1), fun i hi => ?_⟩
    rw [hr] at hi
    have hik : i = k := by simpa using hi
    subst hik
    have e : opsAt ops (i :: ks) = o :: opsAt ops ks := by simp [opsAt, ho]
    rw [e] at h
    have hh : wpOp P ops Q i (wpList P ops Q (opsAt ops ks)) a w := by unfold wpOp; simp only [ho]; exact h
    cases hEi : E i with
    | false =>
      rw [hEi, Bool.and_false] at hB'
      exact wpOp_mono (fun a' w' h' => ⟨(fun hc => by cases hc), tail_seq hS ks _ _ a' w' hB' (fun hc => by cases hc) h'⟩) hh
    | true =>
      rw [hEi] at hE hB'
      simp only [Bool.not_true, Bool.false_or, Bool.and_eq_true, ho] at hE
      rw [hE.1, Bool.and_self] at hB'
      exact wpOp_mono (fun a' w' h' => ⟨fun _ => h'.1, tail_seq hS ks _ _ a' w' hB' (fun _ => h'.1) h'.2⟩) (wpOp_keep hS ho hE.2 (hw hE.1) hh)

/-- The Bool that 'wp_region_mt' asks. -/
def mtB (ops : Array Oper) (m0 m1 tl : List Nat) : Bool :=
  Region.noSelect ops && takeB ops (fun _ => true) false m0 (Array.replicate ops.size false) &&
  takeB ops (fun j => m1.contains j || match ops[j]? with | some o => keepB o.op | none => true) true m1 (mark m0 (Array.replicate ops.size false)) &&
  seqX ops (fun j => m1.contains j || match ops[j]? with | some o => keepB o.op | none => true) tl (mark m1 (mark m0 (Array.replicate ops.size false))) true && decide (m0.length + m1.length + tl.length = ops.size)

/-- A region that draws its order: the operations m0 look at no memory, m1 read old memory, tl follow in one forced order. -/
theorem wp_region_mt {id : Nat} {a : Act} {w : World} (m0 m1 tl : List Nat) (hm : P.follows .mixedOrders = true) (hB : mtB ops m0 m1 tl = true)
    (hQ : ∀ c a (d : Tmp) v w, Q (.panic c) (a.put (some d) v) w → Q (.panic c) a w)
    (h : wpQuiet P ops (fun _ => True) (fun a1 => wpQuiet P ops (fun w' => ∃ e, w' = grow w e) (fun a2 => wpList P ops Q (opsAt ops tl) a2 w.drew) (opsAt ops m1) a1) (opsAt ops m0) a) :
    (Code.region id ops true).wp P Q a w := by
  simp only [mtB, Bool.and_eq_true, decide_eq_true_eq] at hB
  obtain ⟨⟨⟨⟨hs, h0⟩, h1⟩, h2⟩, hn⟩ := hB
  refine wp_region_any hm ?_
  rw [show ops.size = (tl.length + m1.length) + m0.length by omega]
  have hS : ∀ w1 w2 : World, (∃ e, w1 = grow w e) → Below w1.heap.size w1 w2 → ∃ e, w2 = grow w e := fun w1 w2 ⟨e, he⟩ hb => by
    subst he; exact grow_of (below_to (below_grow w e) hb)
  have hw : ∃ e, ({ w with drawn := w.drawn + 1 } : World) = grow w e := grow_of ((Below.refl w.heap.size w).drew)
  have h0' := h0
  have h1' := h1
  have h2' := h2
  rw [show ops.size = (tl.length + m1.length) + m0.length by omega] at h0' h1' h2'
  refine take_pure hs hQ m0 _ a h0' h fun a1 k1 => ?_
  refine wpAny_of_X _ _ _ _ (take_read (S := fun w' => ∃ e, w' = grow w e) hs hQ hw m1 _ a1 (closed_mark m0 _ _ _ (fun j oj _ hl => (by simp [Array.getElem?_replicate] at hl; split at hl <;> simp at hl)) h0') h1' k1 fun a2 k2 => ?_)
  exact tail_seq hS tl _ true a2 _ h2' (fun _ => hw) k2

/-- These operations follow one another; behind each of them S is shown. -/
def wpFlag (P : Program) (ops : Array Oper) (Q : Exit → Act → World → Prop) (S : World → Prop) (K : Act → World → Prop) : List Oper → Act → World → Prop
  | [], a, w => K a w
  | o :: rest, a, w => if Region.wanted o (yielded ops a.tmps) then o.wp P a w (fun a' w' => S w' ∧ wpFlag P ops Q S K rest a' w') Q else wpFlag P ops Q S K rest (a.put o.dst undef) w

theorem wpFlag_nil {K : Act → World → Prop} {a : Act} {w : World} (h : K a w) : wpFlag P ops Q S K [] a w := h
theorem wpFlag_want {K : Act → World → Prop} {a : Act} {w : World} {o : Oper} {rest : List Oper} (hw : Region.wanted o (yielded ops a.tmps) = true)
    (h : ∀ K' : Act → World → Prop, (∀ a' w', S w' → wpFlag P ops Q S K rest a' w' → K' a' w') → o.wp P a w K' Q) : wpFlag P ops Q S K (o :: rest) a w := by
  unfold wpFlag
  rw [if_pos hw]
  exact h _ fun _ _ h1 h2 => ⟨h1, h2⟩
theorem wpFlag_skip {K : Act → World → Prop} {a : Act} {w : World} {o : Oper} {rest : List Oper} (hw : Region.wanted o (yielded ops a.tmps) = false)
    (h : wpFlag P ops Q S K rest (a.put o.dst undef) w) : wpFlag P ops Q S K (o :: rest) a w := by
  unfold wpFlag
  rw [if_neg (by rw [hw]; exact Bool.false_ne_true)]
  exact h

def seqF (ops : Array Oper) : List Nat → Array Bool → Bool
  | [], _ => true
  | k :: ks, listed => decide (Region.ready .any ops listed = [k]) && seqF ops ks (listed.setIfInBounds k true)

theorem flag_seq {K : Act → World → Prop} {n : Nat} : ∀ (ks : List Nat) (listed : Array Bool) (a : Act) (w : World), seqF ops ks listed = true → S w →
    (∀ a' w', S w' → K a' w' → wpAnyX P ops Q S E n (mark ks listed) a' w') →
    wpFlag P ops Q S K (opsAt ops ks) a w → wpAnyX P ops Q S E (n + ks.length) listed a w
  | [], listed, a, w, _, hw, hK, h => hK a w hw h
  | k :: ks, listed, a, w, hB, hw, hK, h => by
    simp only [seqF, Bool.and_eq_true, decide_eq_true_eq] at hB
    obtain ⟨hr, hB'⟩ := hB
    have hk : k ∈ Region.ready .any ops listed := by rw [hr]; simp
    obtain ⟨_, o, ho, _⟩ := mem_ready.1 hk
    refine ⟨fun h1 => (by rw [hr] at h1; cases h1), fun i hi => ?_⟩
    rw [hr] at hi
    have hik : i = k := by simpa using hi
    subst hik
    have e : opsAt ops (i :: ks) = o :: opsAt ops ks := by simp [opsAt, ho]
    rw [e] at h
    unfold wpFlag at h
    unfold wpOp
    simp only [ho]
    split
    · rename_i hwt
      simp only [hwt, if_true] at h
      exact .inl (Oper.wp_mono (fun a' w' h' => ⟨fun _ => h'.1, flag_seq ks _ a' w' hB' h'.1 hK h'.2⟩) h)
    · rename_i hwt
      simp only [hwt] at h
      exact ⟨fun _ => hw, flag_seq ks _ _ w hB' hw hK h⟩

/-- The Bool that 'wp_region_mc' asks. -/
def mcB (ops : Array Oper) (m0 m1 cl tl : List Nat) : Bool :=
  Region.noSelect ops && takeB ops (fun _ => true) false m0 (Array.replicate ops.size false) &&
  takeB ops (fun j => m1.contains j || cl.contains j || match ops[j]? with | some o => keepB o.op | none => true) true m1 (mark m0 (Array.replicate ops.size false)) &&
  seqF ops cl (mark m1 (mark m0 (Array.replicate ops.size false))) &&
  seqX ops (fun j => m1.contains j || cl.contains j || match ops[j]? with | some o => keepB o.op | none => true) tl (mark cl (mark m1 (mark m0 (Array.replicate ops.size false)))) true && decide (m0.length + m1.length + cl.length + tl.length = ops.size)

/-- As 'wp_region_mt', with calls cl that only make memory ahead of the rest. -/
theorem wp_region_mc {id : Nat} {a : Act} {w : World} (m0 m1 cl tl : List Nat) (hm : P.follows .mixedOrders = true) (hB : mcB ops m0 m1 cl tl = true)
    (hQ : ∀ c a (d : Tmp) v w, Q (.panic c) (a.put (some d) v) w → Q (.panic c) a w)
    (h : wpQuiet P ops (fun _ => True) (fun a1 => wpQuiet P ops (fun w' => ∃ e, w' = grow w e) (fun a2 => wpFlag P ops Q (fun w' => Below w.heap.size w w') (wpList P ops Q (opsAt ops tl)) (opsAt ops cl) a2 w.drew) (opsAt ops m1) a1) (opsAt ops m0) a) :
    (Code.region id ops true).wp P Q a w := by
  simp only [mcB, Bool.and_eq_true, decide_eq_true_eq] at hB
  obtain ⟨⟨⟨⟨⟨hs, h0⟩, h1⟩, h3⟩, h2⟩, hn⟩ := hB
  refine wp_region_any hm ?_
  have hS : ∀ w1 w2 : World, Below w.heap.size w w1 → Below w1.heap.size w1 w2 → Below w.heap.size w w2 := fun w1 w2 a b => below_to a b
  have hw : Below w.heap.size w ({ w with drawn := w.drawn + 1 } : World) := (Below.refl w.heap.size w).drew
  have hsz : ops.size = ((tl.length + cl.length) + m1.length) + m0.length := by omega
  have h0' := h0
  have h1' := h1
  have h2' := h2
  have h3' := h3
  rw [hsz] at h0' h1' h2' h3' ⊢
  refine take_pure hs hQ m0 _ a h0' h fun a1 k1 => ?_
  have hC : (fun w' => ∃ e, w' = grow w e) = (fun w' => Below w.heap.size w w') := by
    funext w'; exact propext ⟨fun ⟨e, he⟩ => he ▸ below_grow w e, grow_of⟩
  rw [hC] at k1
  refine wpAny_of_X _ _ _ _ (take_read (S := fun w' => Below w.heap.size w w') hs hQ hw m1 _ a1 (closed_mark m0 _ _ _ (fun j oj _ hl => (by simp [Array.getElem?_replicate] at hl; split at hl <;> simp at hl)) h0') h1' k1 fun a2 k2 => ?_)
  refine flag_seq cl _ a2 _ h3' hw (fun a3 w3 hw3 k3 => ?_) k2
  exact tail_seq hS tl _ true a3 w3 h2' (fun _ => hw3) k3
end

end Go.Proofs.Ytdgdlpnhhelgnaa
