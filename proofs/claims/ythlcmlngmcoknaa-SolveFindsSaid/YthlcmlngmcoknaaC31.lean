/- What is proved here: contracts of functions and plain facts, several texts in one; each one says ahead what it proves, and its conditions. -/
import Derived.Test.YthlcmlngmcoknaaC02
/- What is proved here: a region that draws its order and makes new variables beside calls: the calls and reads are walked in one order, the new variables are known only by what they hold. No condition but the Bool that is asked. -/
namespace Go.Proofs.Ythlcmlngmcoknaa
open Go.RowKit

section
variable {P : Program} {ops : Array Oper} {Q : Exit → Act → World → Prop} {w0 : World}

/-- What is asked of an operation that yields v in the world w: reads and sums leave the world; a call makes new memory alone. -/
def gqUpon (P : Program) (w : World) (v : Value) : Result Next → Prop
  | .ok (.value u) w' => w' = w ∧ u = v
  | .ok (.enter f args) w' => w' = w ∧ Calls P f args w (fun e w'' => e = .returned v ∧ Below w.heap.size w w'')
  | _ => False
def gqAt (P : Program) (o : Oper) (a : Act) (w : World) (v : Value) : Prop := gqUpon P w v ((execOp a.eval o).run P w)
def YG (P : Program) (ops : Array Oper) (w0 : World) (o : Oper) (v : Value) (a : Act) : Prop :=
  (Region.wanted o (yielded ops a.tmps) = true ∧ ∀ w, Below w0.heap.size w0 w → gqAt P o a w v) ∨ (Region.wanted o (yielded ops a.tmps) = false ∧ v = undef)
/-- A class of worlds that have grown from w0, and may grow. -/
def GC (w0 : World) (C : World → Prop) : Prop := (∀ w, C w → Below w0.heap.size w0 w) ∧ (∀ w w', C w → Below w.heap.size w w' → C w')
theorem YG.inC {o : Oper} {v : Value} {a : Act} {C : World → Prop} (h : YG P ops w0 o v a) (hC : GC w0 C) : YieldsIn P ops C o v a := by
  rcases h with ⟨h1, h2⟩ | h
  · refine .inl ⟨h1, fun w hw => ?_⟩
    have h3 := h2 w (hC.1 w hw)
    unfold gqAt at h3
    unfold Oper.quietAt
    generalize (execOp a.eval o).run P w = r at *
    cases r with
    | ok nx w' =>
      cases nx <;> simp only [gqUpon] at h3 <;> simp only [Oper.quietUpon]
      case value u => exact h3
      case enter f args => exact ⟨h3.1, h3.2.mono fun e w'' ⟨he, hb⟩ => ⟨he, hC.2 _ _ hw hb⟩⟩
    | halt x w' => simp only [gqUpon] at h3
  · exact .inr h
theorem YG.of_same {o : Oper} {v : Value} {a a' : Act} (hy : YG P ops w0 o v a) (he : execOp a'.eval o = execOp a.eval o)
    (hw : Region.wanted o (yielded ops a'.tmps) = Region.wanted o (yielded ops a.tmps)) : YG P ops w0 o v a' := by
  unfold YG gqAt at *
  rw [he, hw]
  exact hy

/-- Whatever order is picked for n operations; fl names those that make a new variable. -/
def wpF (P : Program) (ops : Array Oper) (Q : Exit → Act → World → Prop) (w0 : World) (fl : Nat → Option (TypeId × List Value)) (tl : List Nat) : Nat → Array Bool → (World → Prop) → List Nat → Act → Prop
  | 0, listed, C, _, a => (∀ j ∈ Region.ready .any ops listed, j ∈ tl) ∧ ∀ w, C w → wpAny P .any ops Q tl.length listed a w
  | fuel + 1, listed, C, bs, a => Region.ready .any ops listed ≠ [] ∧ ∀ i ∈ Region.ready .any ops listed,
    match fl i with
    | some (T, zs) => ∀ b, w0.heap.size ≤ b → b ∉ bs → wpF P ops Q w0 fl tl fuel (listed.setIfInBounds i true) (fun w => C w ∧ Own w b T zs) (b :: bs) (a.put ((ops[i]?).bind (·.dst)) (.pointer (some ⟨b, 0, none⟩)))
    | none => qOp P ops C i (fun a' => wpF P ops Q w0 fl tl fuel (listed.setIfInBounds i true) C bs a') a

theorem GC.own {C : World → Prop} (h : GC w0 C) (b : Nat) (T : TypeId) (zs : List Value) : GC w0 (fun w => C w ∧ Own w b T zs) :=
  ⟨fun w hw => h.1 w hw.1, fun w w' hw hb => ⟨h.2 w w' hw.1 hb, hw.2.below hb⟩⟩

theorem F_sound {fl : Nat → Option (TypeId × List Value)} {tl : List Nat}
    (hfl : ∀ i o T zs, ops[i]? = some o → fl i = some (T, zs) → Region.wanted o = (fun _ => true) ∧ ∀ a w, (execOp (Act.eval a) o).run P w = .ok (.value (.pointer (some ⟨w.heap.size, 0, none⟩))) (w.alloc (.cells zs.toArray T (0, 0)))) :
    ∀ (fuel : Nat) (listed : Array Bool) (C : World → Prop) (bs : List Nat) (a : Act), GC w0 C → (∀ w, C w → ∀ b ∈ bs, b < w.heap.size) → wpF P ops Q w0 fl tl fuel listed C bs a →
      ∀ w, C w → wpAny P .any ops Q (tl.length + fuel) listed a w
  | 0, listed, C, bs, a, hC, hbs, h, w, hw => h.2 w hw
  | fuel + 1, listed, C, bs, a, hC, hbs, h, w, hw => by
    refine ⟨fun h0 => absurd h0 h.1, fun i hi => ?_⟩
    have h1 := h.2 i hi
    obtain ⟨_, o, ho, _⟩ := mem_ready.1 hi
    cases hf : fl i with
    | none =>
      rw [hf] at h1
      exact wpOp_of_qOp hw (fun a' w' hw' h2 => F_sound hfl fuel _ C bs a' hC hbs h2 w' hw') h1
    | some p =>
      obtain ⟨T, zs⟩ := p
      rw [hf] at h1
      obtain ⟨hwt, hrun⟩ := hfl i o T zs ho hf
      unfold wpOp
      simp only [ho, hwt, if_true]
      refine .inl ?_
      unfold Oper.wp
      rw [hrun a w]
      simp only [Oper.upon]
      have hb := ba1 w (.cells zs.toArray T (0, 0))
      have h2 := h1 w.heap.size (hC.1 w hw).size (fun hm => Nat.lt_irrefl _ (hbs w hw _ hm))
      rw [ho] at h2
      refine F_sound hfl fuel _ _ _ _ (hC.own _ _ _) (fun w' hw' b hm => ?_) h2 (w.alloc (.cells zs.toArray T (0, 0))) ⟨hC.2 _ _ hw hb, Own.new w T zs⟩
      rcases List.mem_cons.1 hm with rfl | hm
      · exact hw'.2.lt
      · exact hbs w' hw'.1 b hm

theorem F_congr {fl : Nat → Option (TypeId × List Value)} {tl : List Nat} : ∀ (fuel : Nat) (listed : Array Bool) (C C' : World → Prop) (bs bs' : List Nat) (a : Act), (∀ w, C' w → C w) → (∀ w, C w → C' w) → (∀ b, b ∈ bs → b ∈ bs') →
    wpF P ops Q w0 fl tl fuel listed C bs a → wpF P ops Q w0 fl tl fuel listed C' bs' a
  | fuel, listed, C, C', bs, bs', a, h1, h1', h2, h => by
    obtain rfl : C = C' := funext fun w => propext ⟨h1' w, h1 w⟩
    cases fuel with
    | zero => exact h
    | succ fuel =>
      refine ⟨h.1, fun i hi => ?_⟩
      have h3 := h.2 i hi
      cases hf : fl i with
      | none =>
        rw [hf] at h3
        exact qOp_mono (fun a' h4 => F_congr fuel _ _ _ bs bs' a' (fun _ h => h) (fun _ h => h) h2 h4) h3
      | some p =>
        obtain ⟨T, zs⟩ := p
        rw [hf] at h3
        intro b hb hn
        exact F_congr fuel _ _ _ (b :: bs) (b :: bs') _ (fun _ h => h) (fun _ h => h) (fun x hx => by
          rcases List.mem_cons.1 hx with rfl | hx
          · simp
          · exact List.mem_cons_of_mem _ (h2 x hx)) (h3 b hb (fun hm => hn (h2 b hm)))

theorem qOp_putG {C : World → Prop} {j : Nat} {oi oj : Oper} {v : Value} (hj : ops[j]? = some oj) (hap : oi.apart ops oj = true)
    (hsi : ∀ cs b, oi.op ≠ .select cs b) (hsj : ∀ cs b, oj.op ≠ .select cs b) {K : Act → Prop} {a : Act}
    (hy : YG P ops w0 oi v a) (h : qOp P ops C j K (a.put oi.dst v)) :
    qOp P ops C j (fun a' => YG P ops w0 oi v a' ∧ K (a'.put oi.dst v)) a := by
  obtain ⟨h1, h2, h3⟩ := Oper.apart_spec hap
  have keep : ∀ (a : Act), YG P ops w0 oi v a → ∀ u, YG P ops w0 oi v (a.put oj.dst u) := fun a hy u =>
    hy.of_same (execOp_put oi hsi a oj.dst u h3) (wanted_put oi a oj.dst u h3)
  unfold qOp at *
  simp only [hj] at *
  rw [wanted_put oj a oi.dst v h1] at h
  split
  · rename_i hw
    simp only [hw, if_true] at h
    obtain ⟨u, hu, hn⟩ := h
    refine ⟨u, fun w hw' => ?_, keep a hy u, by rw [← Act.put_comm a v u h2]; exact hn⟩
    have := hu w hw'
    unfold Oper.quietAt at *
    rwa [execOp_put oj hsj a oi.dst v h1] at this
  · rename_i hw
    simp only [hw] at h
    exact ⟨keep a hy _, by rw [← Act.put_comm a v undef h2]; exact h⟩

theorem unl {i : Nat} {listed : Array Bool} (hr : i ∈ Region.ready .any ops listed) (h1 : listed.getD i false = true) : False := by
  have h0 := (mem_ready.1 hr).1
  rcases Nat.lt_or_ge i listed.size with h' | h'
  · simp [h'] at h0 h1; rw [h0] at h1; cases h1
  · simp [Array.getElem?_eq_none h'] at h1

theorem no_tail {i j : Nat} {listed : Array Bool} (hcl : Closed ops listed) (hr : i ∈ Region.ready .any ops listed) (hj : j ∈ Region.ready .any ops listed) (h : afterB ops ops.size j i = true) : False := by
  obtain ⟨_, oj, hoj, hall⟩ := mem_ready.1 hj
  exact unl hr (after_listed hcl ops.size j oj hoj hall h)

theorem F_first {fl : Nat → Option (TypeId × List Value)} {tl : List Nat} {i : Nat} {oi : Oper} {v : Value} (hi : ops[i]? = some oi) (hsel : ∀ (j : Nat) (o : Oper) cs b, ops[j]? = some o → o.op ≠ .select cs b)
    (hfi : fl i = none) (htl : ∀ j ∈ tl, afterB ops ops.size j i = true) :
    ∀ (fuel : Nat) (listed : Array Bool) (C : World → Prop) (bs : List Nat) (a : Act), GC w0 C → Closed ops listed →
      (∀ j oj, ops[j]? = some oj → j ≠ i → listed.getD j true = false → (∀ e ∈ oj.after, Region.binds .any e = true → e.on ≠ i) → oi.apart ops oj = true) →
      i ∈ Region.ready .any ops listed → YG P ops w0 oi v a →
      wpF P ops Q w0 fl tl fuel (listed.setIfInBounds i true) C bs (a.put oi.dst v) → wpF P ops Q w0 fl tl (fuel + 1) listed C bs a := by
  intro fuel
  induction fuel with
  | zero =>
    intro listed C bs a hC hcl _ hr hy H
    refine ⟨fun h => (by rw [h] at hr; cases hr), fun j hj => ?_⟩
    by_cases hji : j = i
    · subst hji; rw [hfi]; exact (hy.inC hC).qOp hi H
    · exact (no_tail hcl hr hj (htl j (H.1 j (ready_mono hj hji)))).elim
  | succ fuel ih =>
    intro listed C bs a hC hcl hfree hr hy H
    refine ⟨fun h => (by rw [h] at hr; cases hr), fun j hj => ?_⟩
    by_cases hji : j = i
    · subst hji; rw [hfi]; exact (hy.inC hC).qOp hi H
    · have h1 := H.2 j (ready_mono hj hji)
      obtain ⟨hjun, oj, hoj, hall⟩ := mem_ready.1 hj
      have hnot : ∀ e ∈ oj.after, Region.binds .any e = true → e.on ≠ i := fun e he hb heq => by
        have h1 := hall e he hb
        rw [heq] at h1
        exact unl hr h1
      have hap := hfree j oj hoj hji hjun hnot
      have hfree' : ∀ k ok, ops[k]? = some ok → k ≠ i → (listed.setIfInBounds j true).getD k true = false →
          (∀ e ∈ ok.after, Region.binds .any e = true → e.on ≠ i) → oi.apart ops ok = true := fun k ok hk hki hun hno => by
        refine hfree k ok hk hki ?_ hno
        by_cases hjk : j = k
        · subst hjk; exact hjun
        · rw [getD_set_ne true hjk] at hun; exact hun
      cases hf : fl j with
      | none =>
        rw [hf] at h1
        have h2 := qOp_putG hoj hap (fun cs b => hsel i oi cs b hi) (fun cs b => hsel j oj cs b hoj) hy h1
        refine qOp_mono (fun a' h3 => ih (listed.setIfInBounds j true) C bs a' hC (hcl.set hj) hfree' (ready_mono hr (Ne.symm hji)) h3.1 ?_) h2
        rw [Array.setIfInBounds_comm _ _ hji]
        exact h3.2
      | some p =>
        obtain ⟨T, zs⟩ := p
        rw [hf] at h1
        intro b hb hn
        obtain ⟨q1, q2, q3⟩ := Oper.apart_spec hap
        have hy' : YG P ops w0 oi v (a.put oj.dst (.pointer (some ⟨b, 0, none⟩))) := hy.of_same (execOp_put oi (fun cs b => hsel i oi cs b hi) a oj.dst _ q3) (wanted_put oi a oj.dst _ q3)
        have h2 := h1 b hb hn
        rw [hoj] at h2
        simp only [hoj, Option.bind_some] at h2 ⊢
        refine ih (listed.setIfInBounds j true) _ _ _ (hC.own _ _ _) (hcl.set hj) hfree' (ready_mono hr (Ne.symm hji)) hy' ?_
        rw [Array.setIfInBounds_comm _ _ hji, ← Act.put_comm a v _ q2]
        exact h2

theorem fresh_nat (m : Nat) (bs : List Nat) : ∃ b, m ≤ b ∧ b ∉ bs := by
  have h : ∀ (l : List Nat) x, x ∈ l → x ≤ l.foldr (· + ·) 0 := by
    intro l
    induction l with
    | nil => intro x hx; cases hx
    | cons y l ih =>
      intro x hx
      simp only [List.foldr_cons]
      rcases List.mem_cons.1 hx with rfl | hx
      · omega
      · have := ih x hx; omega
  refine ⟨m + bs.foldr (· + ·) 0 + 1, by omega, fun hm => ?_⟩
  have := h bs _ hm
  omega

/-- When only new variables are left, one order of them serves. -/
theorem F_firstF {fl : Nat → Option (TypeId × List Value)} {tl : List Nat} {i : Nat} {oi : Oper} {T : TypeId} {zs : List Value} (hi : ops[i]? = some oi) (hfi : fl i = some (T, zs)) (htl : ∀ j ∈ tl, afterB ops ops.size j i = true) :
    ∀ (fuel : Nat) (listed : Array Bool) (C : World → Prop) (bs : List Nat) (a : Act), Closed ops listed →
      (∀ j oj, ops[j]? = some oj → j ≠ i → listed.getD j true = false → j ∉ tl → fl j = some (T, zs) ∧ ∀ d, oi.dst = some d → oj.dst ≠ some d) → i ∈ Region.ready .any ops listed →
      (∀ b, w0.heap.size ≤ b → b ∉ bs → wpF P ops Q w0 fl tl fuel (listed.setIfInBounds i true) (fun w => C w ∧ Own w b T zs) (b :: bs) (a.put oi.dst (.pointer (some ⟨b, 0, none⟩)))) → wpF P ops Q w0 fl tl (fuel + 1) listed C bs a := by
  intro fuel
  induction fuel with
  | zero =>
    intro listed C bs a hcl _ hr H
    refine ⟨fun h => (by rw [h] at hr; cases hr), fun j hj => ?_⟩
    by_cases hji : j = i
    · subst hji
      rw [hfi]
      intro b hb hn
      simp only [hi, Option.bind_some]
      exact H b hb hn
    · obtain ⟨b, hb, hn⟩ := fresh_nat w0.heap.size bs
      exact (no_tail hcl hr hj (htl j ((H b hb hn).1 j (ready_mono hj hji)))).elim
  | succ fuel ih =>
    intro listed C bs a hcl hall hr H
    refine ⟨fun h => (by rw [h] at hr; cases hr), fun j hj => ?_⟩
    by_cases hji : j = i
    · subst hji
      rw [hfi]
      intro b hb hn
      simp only [hi, Option.bind_some]
      exact H b hb hn
    · obtain ⟨hjun, oj, hoj, _⟩ := mem_ready.1 hj
      have hnt : j ∉ tl := fun hm => no_tail hcl hr hj (htl j hm)
      obtain ⟨hfj, hdd⟩ := hall j oj hoj hji hjun hnt
      rw [hfj]
      intro bj hbj hnj
      simp only [hoj, Option.bind_some]
      refine ih (listed.setIfInBounds j true) _ _ _ (hcl.set hj) (fun k ok hk hki hun hkt => ?_) (ready_mono hr (Ne.symm hji)) (fun bi hbi hni => ?_)
      · refine hall k ok hk hki ?_ hkt
        by_cases hjk : j = k
        · subst hjk; exact hjun
        · rw [getD_set_ne true hjk] at hun; exact hun
      · have hne : bi ≠ bj := fun e => hni (by simp [e])
        have h2 := (H bi hbi (fun hm => hni (List.mem_cons_of_mem _ hm))).2 j (ready_mono hj hji)
        rw [hfj] at h2
        have h3 := h2 bj hbj (fun hm => by
          rcases List.mem_cons.1 hm with e | hm
          · exact hne e.symm
          · exact hnj hm)
        simp only [hoj, Option.bind_some] at h3
        rw [Array.setIfInBounds_comm _ _ hji, ← Act.put_comm a _ _ hdd]
        exact F_congr fuel _ _ _ _ _ _ (fun w h => ⟨⟨h.1.1, h.2⟩, h.1.2⟩) (fun w h => ⟨⟨h.1.1, h.2⟩, h.1.2⟩) (fun x hx => by
          rcases List.mem_cons.1 hx with rfl | hx
          · simp
          · rcases List.mem_cons.1 hx with rfl | hx
            · simp
            · simp [hx]) h3

/-- The walk: reads and sums in '.t', a call in '.f'; every value holds in every world that has grown from w0. -/
def wpGS (P : Program) (ops : Array Oper) (w0 : World) (K : Act → Prop) : List Sg → Act → Prop
  | [], a => K a
  | .t is :: r, a => wpQuiet P ops (fun w' => ∃ e, w' = grow w0 e) (fun a' => wpGS P ops w0 K r a') (opsAt ops is) a
  | .f i :: r, a => match ops[i]? with
    | some o => if Region.wanted o (yielded ops a.tmps) then ∃ v, (∀ w, Below w0.heap.size w0 w → gqAt P o a w v) ∧ wpGS P ops w0 K r (a.put o.dst v) else wpGS P ops w0 K r (a.put o.dst undef)
    | none => False
/-- The new variables, known by what they hold; then the rest. -/
def endF (P : Program) (ops : Array Oper) (Q : Exit → Act → World → Prop) (w0 : World) (T : TypeId) (zs : List Value) (tl : List Nat) : List Nat → (World → Prop) → List Nat → Act → Prop
  | [], C, _, a => ∀ w, C w → wpList P ops Q (opsAt ops tl) a w
  | i :: r, C, bs, a => ∀ b, w0.heap.size ≤ b → b ∉ bs → endF P ops Q w0 T zs tl r (fun w => C w ∧ Own w b T zs) (b :: bs) (a.put ((ops[i]?).bind (·.dst)) (.pointer (some ⟨b, 0, none⟩)))

def oneB (ops : Array Oper) (fs tl : List Nat) (i : Nat) (listed : Array Bool) : Bool :=
  (Region.ready .any ops listed).contains i && Region.free .any ops listed i && !fs.contains i && tl.all fun j => afterB ops ops.size j i
def quB (ops : Array Oper) (fs tl : List Nat) : List Nat → Array Bool → Bool
  | [], _ => true
  | i :: is, listed => oneB ops fs tl i listed && (match ops[i]? with | some o => plainB o.op | none => false) && quB ops fs tl is (listed.setIfInBounds i true)
def glB (ops : Array Oper) (fs tl : List Nat) : List Sg → Array Bool → Bool
  | [], _ => true
  | .t is :: r, listed => quB ops fs tl is listed && glB ops fs tl r (mark is listed)
  | .f i :: r, listed => oneB ops fs tl i listed && glB ops fs tl r (listed.setIfInBounds i true)
def gfB (ops : Array Oper) (fs tl : List Nat) : List Nat → Array Bool → Bool
  | [], listed => (Region.ready .any ops listed).all tl.contains
  | i :: r, listed => (Region.ready .any ops listed).contains i && fs.contains i && (tl.all fun j => afterB ops ops.size j i) &&
    ((List.range ops.size).all fun j => listed.getD j true || j == i || tl.contains j || (fs.contains j && ((ops[i]?).bind (·.dst)) != ((ops[j]?).bind (·.dst)))) && gfB ops fs tl r (listed.setIfInBounds i true)
def flOf (fs : List Nat) (T : TypeId) (zs : List Value) (i : Nat) : Option (TypeId × List Value) := if fs.contains i then some (T, zs) else none

theorem ready_some {i : Nat} {listed : Array Bool} (hr : i ∈ Region.ready .any ops listed) : ∃ o, ops[i]? = some o := let ⟨_, o, ho, _⟩ := mem_ready.1 hr; ⟨o, ho⟩

theorem F_one {fs tl : List Nat} {T : TypeId} {zs : List Value} (hs : Region.noSelect ops = true) {i : Nat} {o : Oper} {v : Value} {fuel : Nat} {listed : Array Bool} {C : World → Prop} {bs : List Nat} {a : Act} (ho : ops[i]? = some o) (hC : GC w0 C) (hcl : Closed ops listed)
    (hB : oneB ops fs tl i listed = true) (hy : YG P ops w0 o v a) (h : wpF P ops Q w0 (flOf fs T zs) tl fuel (listed.setIfInBounds i true) C bs (a.put o.dst v)) : wpF P ops Q w0 (flOf fs T zs) tl (fuel + 1) listed C bs a := by
  simp only [oneB, Bool.and_eq_true, Bool.not_eq_true', List.contains_iff_mem] at hB
  obtain ⟨⟨⟨hr, hf⟩, hn⟩, ht⟩ := hB
  exact F_first ho (Region.noSelect_spec hs) (by unfold flOf; rw [hn]; rfl) (fun j hj => List.all_eq_true.1 ht j hj) fuel listed C bs a hC hcl (Region.free_spec ho hf) hr hy h

theorem F_qu {fs tl : List Nat} {T : TypeId} {zs : List Value} (hs : Region.noSelect ops = true) {K : Act → Prop} {fuel : Nat} {C : World → Prop} {bs : List Nat} (hC : GC w0 C) :
    ∀ (is : List Nat) (listed : Array Bool) (a : Act), Closed ops listed → quB ops fs tl is listed = true → wpQuiet P ops (fun w' => ∃ e, w' = grow w0 e) K (opsAt ops is) a →
      (∀ a', K a' → wpF P ops Q w0 (flOf fs T zs) tl fuel (mark is listed) C bs a') → wpF P ops Q w0 (flOf fs T zs) tl (fuel + is.length) listed C bs a
  | [], listed, a, _, _, h, hK => hK a h
  | i :: is, listed, a, hcl, hB, h, hK => by
    simp only [quB, Bool.and_eq_true] at hB
    obtain ⟨⟨h1, hp⟩, hB'⟩ := hB
    have hr : i ∈ Region.ready .any ops listed := by
      have h2 := h1
      simp only [oneB, Bool.and_eq_true, List.contains_iff_mem] at h2
      exact h2.1.1.1
    obtain ⟨o, ho⟩ := ready_some hr
    rw [ho] at hp
    have e : opsAt ops (i :: is) = o :: opsAt ops is := by simp [opsAt, ho]
    rw [e] at h
    obtain ⟨v, hy, hn⟩ := quiet_plain (K := wpQuiet P ops (fun w' => ∃ e, w' = grow w0 e) K (opsAt ops is)) hp h
    have hy' : YG P ops w0 o v a := by
      rcases hy with ⟨g1, g2⟩ | hy
      · refine .inl ⟨g1, fun w hw => ?_⟩
        unfold gqAt
        rw [g2 w (grow_of hw)]
        exact ⟨rfl, rfl⟩
      · exact .inr hy
    exact F_one hs ho hC hcl h1 hy' (F_qu hs hC is _ _ (hcl.set hr) hB' hn hK)

theorem closed_qu {fs tl : List Nat} : ∀ (is : List Nat) (listed : Array Bool), Closed ops listed → quB ops fs tl is listed = true → Closed ops (mark is listed)
  | [], _, h, _ => h
  | i :: is, listed, h, hB => by
    simp only [quB, Bool.and_eq_true, oneB, List.contains_iff_mem] at hB
    exact closed_qu is _ (h.set hB.1.1.1.1.1) hB.2

theorem F_gs {fs tl : List Nat} {T : TypeId} {zs : List Value} (hs : Region.noSelect ops = true) {K : Act → Prop} {fuel : Nat} {C : World → Prop} {bs : List Nat} (hC : GC w0 C) :
    ∀ (l : List Sg) (listed : Array Bool) (a : Act), Closed ops listed → glB ops fs tl l listed = true → wpGS P ops w0 K l a →
      (∀ a', Closed ops (markS l listed) → K a' → wpF P ops Q w0 (flOf fs T zs) tl fuel (markS l listed) C bs a') → wpF P ops Q w0 (flOf fs T zs) tl (fuel + lenS l) listed C bs a
  | [], listed, a, hcl, _, h, hK => hK a hcl h
  | .t is :: r, listed, a, hcl, hB, h, hK => by
    simp only [glB, Bool.and_eq_true] at hB
    rw [show fuel + lenS (.t is :: r) = fuel + lenS r + is.length from (Nat.add_assoc _ _ _).symm]
    exact F_qu hs hC is listed a hcl hB.1 h fun a' h' => F_gs hs hC r _ a' (closed_qu is _ hcl hB.1) hB.2 h' hK
  | .f i :: r, listed, a, hcl, hB, h, hK => by
    simp only [glB, Bool.and_eq_true] at hB
    have hr : i ∈ Region.ready .any ops listed := by
      have h2 := hB.1
      simp only [oneB, Bool.and_eq_true, List.contains_iff_mem] at h2
      exact h2.1.1.1
    obtain ⟨o, ho⟩ := ready_some hr
    simp only [wpGS, ho] at h
    rw [show fuel + lenS (.f i :: r) = fuel + lenS r + 1 from rfl]
    split at h
    · rename_i hw
      obtain ⟨v, h1, h2⟩ := h
      exact F_one hs ho hC hcl hB.1 (.inl ⟨hw, h1⟩) (F_gs hs hC r _ _ (hcl.set hr) hB.2 h2 hK)
    · rename_i hw
      exact F_one hs ho hC hcl hB.1 (.inr ⟨by simpa using hw, rfl⟩) (F_gs hs hC r _ _ (hcl.set hr) hB.2 h hK)

theorem F_end {fs tl : List Nat} {T : TypeId} {zs : List Value} (htl : ∀ listed a w, wpList P ops Q (opsAt ops tl) a w → schedB ops (fun _ => true) true (tl.map .f) listed = true → (Region.ready .any ops (markS (tl.map .f) listed)).isEmpty = true → Closed ops listed → wpAny P .any ops Q tl.length listed a w) :
    ∀ (r : List Nat) (listed : Array Bool) (C : World → Prop) (bs : List Nat) (a : Act), Closed ops listed → gfB ops fs tl r listed = true → schedB ops (fun _ => true) true (tl.map .f) (mark r listed) = true → (Region.ready .any ops (markS (tl.map .f) (mark r listed))).isEmpty = true →
      endF P ops Q w0 T zs tl r C bs a → wpF P ops Q w0 (flOf fs T zs) tl r.length listed C bs a
  | [], listed, C, bs, a, hcl, hB, h1, h2, h => ⟨fun j hj => by simpa using List.all_eq_true.1 hB j hj, fun w hw => htl listed a w (h w hw) h1 h2 hcl⟩
  | i :: r, listed, C, bs, a, hcl, hB, h1, h2, h => by
    simp only [gfB, Bool.and_eq_true, List.contains_iff_mem] at hB
    obtain ⟨⟨⟨⟨hr, hf⟩, ht⟩, hall⟩, hB'⟩ := hB
    obtain ⟨o, ho⟩ := ready_some hr
    simp only [endF, ho, Option.bind_some] at h
    refine F_firstF (oi := o) (T := T) (zs := zs) ho (by unfold flOf; simp [hf]) (fun j hj => List.all_eq_true.1 ht j hj) r.length listed C bs a hcl (fun j oj hj hji hun hnt => ?_) hr (fun b hb hn => F_end htl r _ _ _ _ (hcl.set hr) hB' h1 h2 (h b hb hn))
    have h3 := List.all_eq_true.1 hall j (List.mem_range.2 (Array.getElem?_eq_some_iff.1 hj).1)
    simp only [hun, Bool.false_or, Bool.or_eq_true, beq_iff_eq, hji, false_or, List.contains_iff_mem, hnt, Bool.and_eq_true, bne_iff_ne, ho, hj, Option.bind_some] at h3
    refine ⟨by unfold flOf; simp [h3.1], fun d hd hd2 => h3.2 (by rw [hd, hd2])⟩

def flB (ops : Array Oper) (T : TypeId) (fs : List Nat) : Bool := fs.all fun i => match ops[i]? with | some o => o.guard.isNone && (match o.op with | .alloc t => t == T | _ => false) | none => false
/-- The Bool that 'wp_region_fl' asks. -/
def rfB (ops : Array Oper) (T : TypeId) (l : List Sg) (fs tl : List Nat) : Bool :=
  Region.noSelect ops && glB ops fs tl l (Array.replicate ops.size false) && gfB ops fs tl fs (markS l (Array.replicate ops.size false)) &&
  schedB ops (fun _ => true) true (tl.map .f) (mark fs (markS l (Array.replicate ops.size false))) && (Region.ready .any ops (markS (tl.map .f) (mark fs (markS l (Array.replicate ops.size false))))).isEmpty &&
  decide (tl.length + (fs.length + lenS l) = ops.size) && (tl.all fun i => decide (i < ops.size)) && flB ops T fs

theorem lenS_f : ∀ tl : List Nat, lenS (tl.map .f) = tl.length
  | [] => rfl
  | i :: tl => by simp [lenS, lenS_f tl]

/-- A region that draws its order: reads, sums and calls l, new variables fs of the type T (they hold zs), then the rest tl in one forced order. -/
theorem wp_region_fl {id : Nat} {a : Act} {w : World} (T : TypeId) (zs : List Value) (l : List Sg) (fs tl : List Nat) (hm : P.follows .mixedOrders = true) (hB : rfB ops T l fs tl = true)
    (hz : ∀ w, (Instr.alloc T true (.tuple #[])).run P w = .ok (.pointer (some ⟨w.heap.size, 0, none⟩)) (w.alloc (.cells zs.toArray T (0, 0))))
    (hQ : ∀ c a (d : Tmp) v w, Q (.panic c) (a.put (some d) v) w → Q (.panic c) a w)
    (h : wpGS P ops w (fun a' => endF P ops Q w T zs tl fs (fun w' => Below w.heap.size w w') [] a') l a) :
    (Code.region id ops true).wp P Q a w := by
  simp only [rfB, Bool.and_eq_true, decide_eq_true_eq] at hB
  obtain ⟨⟨⟨⟨⟨⟨⟨hs, h1⟩, h2⟩, h3⟩, h4⟩, hn⟩, htl⟩, hfl⟩ := hB
  refine wp_region_any hm ?_
  have hcl : Closed ops (Array.replicate ops.size false) := fun j oj _ hl => (by simp [Array.getElem?_replicate] at hl; split at hl <;> simp at hl)
  have hC : GC w (fun w' => Below w.heap.size w w') := ⟨fun _ h => h, fun _ _ h h' => below_to h h'⟩
  have htl' : ∀ i ∈ tl, i < ops.size := fun i hi => by simpa using List.all_eq_true.1 htl i hi
  have key : wpF P ops Q w (flOf fs T zs) tl (fs.length + lenS l) (Array.replicate ops.size false) (fun w' => Below w.heap.size w w') [] a := by
    refine F_gs hs hC l _ a hcl h1 h (fun a' hcl' k' => ?_)
    refine F_end (fun listed a w hl hsb he hcl => ?_) fs _ _ _ a' hcl' h2 h3 h4 k'
    have h5 := X_sched (P := P) (Q := Q) (C := fun _ => True) (E := fun _ => true) (n := 0) hs hQ (tl.map .f) listed a w hcl hsb trivial (fun a2 w2 _ k2 => ⟨by simpa using he, k2⟩) (X_of_list tl a w htl' hl)
    rw [lenS_f, Nat.zero_add] at h5
    exact wpAny_of_X _ _ _ _ h5
  have h6 := F_sound (fl := flOf fs T zs) (tl := tl) (fun i o T' zs' ho hf => ?_) _ _ _ _ a hC (fun _ _ b hb => by cases hb) key { w with drawn := w.drawn + 1 } ((Below.refl w.heap.size w).drew)
  · rw [hn] at h6; exact h6
  · unfold flOf at hf
    split at hf
    · rename_i hc
      cases hf
      have h7 := List.all_eq_true.1 hfl i (by simpa using hc)
      simp only [ho, Bool.and_eq_true] at h7
      obtain ⟨dst, op, type, pos, after, guard⟩ := o
      cases op <;> simp only [Bool.false_eq_true, and_false] at h7
      rename_i t
      simp only [beq_iff_eq, Option.isNone_iff_eq_none] at h7
      obtain ⟨h8, rfl⟩ := h7
      refine ⟨by funext y; simp [Region.wanted, h8], fun a w => ?_⟩
      show ((Instr.alloc t true (.tuple #[])).bind fun x => Sem.pure (Next.value x)).run P w = _
      rw [Sem.run_bind', hz w]
      rfl
    · cases hf

theorem wpGS_nil {K : Act → Prop} {a : Act} (h : K a) : wpGS P ops w0 K [] a := h
theorem wpGS_t {K : Act → Prop} {is : List Nat} {r : List Sg} {a : Act} (h : wpQuiet P ops (fun w' => ∃ e, w' = grow w0 e) (fun a' => wpGS P ops w0 K r a') (opsAt ops is) a) : wpGS P ops w0 K (.t is :: r) a := h
theorem wpGS_f {K : Act → Prop} {i : Nat} {o : Oper} {r : List Sg} {a : Act} (v : Value) (ho : ops[i]? = some o) (hw : Region.wanted o (yielded ops a.tmps) = true)
    (h1 : ∀ w, Below w0.heap.size w0 w → gqAt P o a w v) (h2 : wpGS P ops w0 K r (a.put o.dst v)) : wpGS P ops w0 K (.f i :: r) a := by
  simp only [wpGS, ho, hw, if_true]
  exact ⟨v, h1, h2⟩
end

end Go.Proofs.Ythlcmlngmcoknaa
