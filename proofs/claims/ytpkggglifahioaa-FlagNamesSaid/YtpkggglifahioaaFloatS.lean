/- What is proved here: a region that draws its order, in which new blocks are made at any moment while calls and appends follow one another, may be walked in one order, the new blocks known only by what they hold. No condition but the Bool that is asked. -/
import Derived.Test.YtpkggglifahioaaSched
import Derived.Test.YtpkggglifahioaaFloat
namespace Go.Proofs.Ytpkggglifahioaa
open Go.RowKit

/-- w' is w with new blocks; of the old ones those of bs alone may have changed. -/
structure Mod (bs : List Nat) (w w' : World) : Prop where
  os : w'.os = w.os
  tape : w'.tape = w.tape
  output : w'.output = w.output
  size : w.heap.size ≤ w'.heap.size
  block : ∀ b, b < w.heap.size → b ∉ bs → w'.heap[b]? = w.heap[b]?
theorem Mod.of_below {bs : List Nat} {w w' : World} (h : Below w.heap.size w w') : Mod bs w w' := ⟨h.os, h.tape, h.output, h.size, fun b hb _ => h.block b hb⟩
theorem Mod.of_grown {bs : List Nat} {p : Nat} {w w' : World} (h : w.grownBy w' (some p)) (hp : p ∈ bs) : Mod bs w w' :=
  ⟨h.os, h.tape, h.output, h.size, fun b hb hn => h.block b hb (fun e => hn (by simp only [Option.some.injEq] at e; rw [e]; exact hp))⟩
theorem Mod.own {bs : List Nat} {w w' : World} (h : Mod bs w w') {b : Nat} {T : TypeId} {cs : List Value} (ho : Own w b T cs) (hb : b ∉ bs) : Own w' b T cs := by
  unfold Own at *; rw [h.block b (Array.getElem?_eq_some_iff.1 ho).1 hb]; exact ho
theorem Mod.below {bs : List Nat} {w0 w w' : World} (h : Mod bs w w') (hb : Below w0.heap.size w0 w) (hbs : ∀ b ∈ bs, w0.heap.size ≤ b) : Below w0.heap.size w0 w' :=
  ⟨h.os.trans hb.os, h.tape.trans hb.tape, h.output.trans hb.output, Nat.le_trans hb.size h.size, fun b hlt => by
    rw [h.block b (Nat.lt_of_lt_of_le hlt hb.size) (fun hm => by have := hbs b hm; omega)]; exact hb.block b hlt⟩

/-- A new block: its type, what it holds, and the value that leads to it. -/
structure FlS where
  T : TypeId
  zs : List Value
  val : Nat → Value
inductive It where
  | fl (k : Nat)
  | op (i : Nat)
  | tk (i : Nat)

section
variable {P : Program} {ops : Array Oper} {Q : Exit → Act → World → Prop} {w0 : World} {fv : Nat → Option FlS} {K : Act → World → Prop}

/-- The walk: new blocks where they are first wanted, and the operations that follow one another; memory may grow before each. -/
def wpFl (P : Program) (ops : Array Oper) (Q : Exit → Act → World → Prop) (w0 : World) (fv : Nat → Option FlS) (K : Act → World → Prop) : List It → List Nat → Act → World → Prop
  | [], _, a, w => ∀ w1, Below w.heap.size w w1 → K a w1
  | .fl k :: r, bs, a, w => match fv k with
    | some f => ∀ b w1, Below w.heap.size w w1 → Own w1 b f.T f.zs → w0.heap.size ≤ b → b ∉ bs → wpFl P ops Q w0 fv K r (b :: bs) (a.put ((ops[k]?).bind (·.dst)) (f.val b)) w1
    | none => False
  | .op i :: r, bs, a, w => match ops[i]? with
    | some o => ∀ w1, Below w.heap.size w w1 → o.wp P a w1 (fun a' w' => Mod bs w1 w' ∧ wpFl P ops Q w0 fv K r bs a' w') Q
    | none => False
  | .tk i :: r, bs, a, w => wpQuiet P ops (fun _ => True) (fun a' => wpFl P ops Q w0 fv K r bs a' w) (opsAt ops [i]) a

def dstOf (ops : Array Oper) (k : Nat) : Option Tmp := (ops[k]?).bind (·.dst)
/-- The act with the new blocks that were made early. -/
def putE (ops : Array Oper) (fv : Nat → Option FlS) : List (Nat × Nat) → Act → Act
  | [], a => a
  | (k, b) :: e, a => (putE ops fv e a).put (dstOf ops k) (match fv k with | some f => f.val b | none => undef)

theorem putE_comm {d : Option Tmp} (v : Value) : ∀ (e : List (Nat × Nat)) (a : Act), (∀ p ∈ e, ∀ x, d = some x → dstOf ops p.1 ≠ some x) → putE ops fv e (a.put d v) = (putE ops fv e a).put d v
  | [], a, _ => rfl
  | (k, b) :: e, a, h => by
    simp only [putE]
    rw [putE_comm v e a (fun p hp => h p (List.mem_cons_of_mem _ hp)), Act.put_comm _ v _ (fun x hx => h (k, b) (by simp) x hx)]
theorem putE_take {k b : Nat} : ∀ (e : List (Nat × Nat)) (a : Act), (k, b) ∈ e → (e.map (·.1)).Nodup → (∀ p ∈ e, ∀ q ∈ e, p.1 ≠ q.1 → ∀ x, dstOf ops p.1 = some x → dstOf ops q.1 ≠ some x) →
    ∃ e', putE ops fv e a = putE ops fv e' (a.put (dstOf ops k) (match fv k with | some f => f.val b | none => undef)) ∧ (∀ p, p ∈ e' ↔ p ∈ e ∧ p.1 ≠ k) ∧ (e'.map (·.1)).Nodup ∧ ((e.map (·.2)).Nodup → (e'.map (·.2)).Nodup)
  | [], a, h, _, _ => by cases h
  | (k', b') :: e, a, h, hn, hd => by
    simp only [List.map_cons, List.nodup_cons] at hn
    by_cases hk : k' = k
    · subst hk
      have hb : b' = b := by
        rcases List.mem_cons.1 h with h | h
        · cases h; rfl
        · exact absurd (List.mem_map.2 ⟨(k', b), h, rfl⟩) hn.1
      subst hb
      refine ⟨e, ?_, fun p => ⟨fun hp => ⟨List.mem_cons_of_mem _ hp, fun e' => hn.1 (List.mem_map.2 ⟨p, hp, e'⟩)⟩, fun hp => ?_⟩, hn.2, fun hB => ?_⟩
      · simp only [putE]
        rw [putE_comm _ e a (fun p hp x hx => fun hy => hd (k', b') (by simp) p (List.mem_cons_of_mem _ hp) (fun e' => hn.1 (List.mem_map.2 ⟨p, hp, e'.symm⟩)) x hx hy)]
      · rcases List.mem_cons.1 hp.1 with h | h
        · exact absurd (by rw [h]) hp.2
        · exact h
      · simp only [List.map_cons, List.nodup_cons] at hB; exact hB.2
    · have h' : (k, b) ∈ e := by
        rcases List.mem_cons.1 h with h | h
        · cases h; exact absurd rfl hk
        · exact h
      obtain ⟨e', h1, h2, h3, h4⟩ := putE_take e a h' hn.2 (fun p hp q hq => hd p (List.mem_cons_of_mem _ hp) q (List.mem_cons_of_mem _ hq))
      refine ⟨(k', b') :: e', by simp only [putE]; rw [h1], fun p => ?_, ?_, fun hB => ?_⟩
      · simp only [List.mem_cons, h2]
        constructor
        · rintro (rfl | ⟨h5, h6⟩)
          · exact ⟨.inl rfl, hk⟩
          · exact ⟨.inr h5, h6⟩
        · rintro ⟨rfl | h5, h6⟩
          · exact .inl rfl
          · exact .inr ⟨h5, h6⟩
      · simp only [List.map_cons, List.nodup_cons]
        refine ⟨fun hm => ?_, h3⟩
        obtain ⟨p, hp, he⟩ := List.mem_map.1 hm
        exact hn.1 (List.mem_map.2 ⟨p, ((h2 p).1 hp).1, he⟩)
      · simp only [List.map_cons, List.nodup_cons] at hB ⊢
        refine ⟨fun hm => ?_, h4 hB.2⟩
        obtain ⟨p, hp, he⟩ := List.mem_map.1 hm
        exact hB.1 (List.mem_map.2 ⟨p, ((h2 p).1 hp).1, he⟩)

theorem wp_putE {o : Oper} {K K2 : Act → World → Prop} {w : World} (hs : ∀ cs b, o.op ≠ .select cs b) (hQ : ∀ c a (d : Tmp) v w, Q (.panic c) a w → Q (.panic c) (a.put (some d) v) w) :
    ∀ (e : List (Nat × Nat)) (a : Act), (∀ p ∈ e, ∀ x, dstOf ops p.1 = some x → x ∉ o.looksAt ops ∧ o.dst ≠ some x) → (∀ a' w', K a' w' → K2 (putE ops fv e a') w') → o.wp P a w K Q → o.wp P (putE ops fv e a) w K2 Q
  | [], a, _, hK, h => Oper.wp_mono hK h
  | (k, b) :: e, a, hp, hK, h => by
    simp only [putE]
    have h1 := wp_putE (K2 := fun a' w' => K2 (a'.put (dstOf ops k) (match fv k with | some f => f.val b | none => undef)) w') hs hQ e a (fun p hp' => hp p (List.mem_cons_of_mem _ hp')) (fun a' w' h' => hK a' w' h') h
    cases hd : dstOf ops k with
    | none => rw [hd] at h1; exact h1
    | some d =>
      rw [hd] at h1
      obtain ⟨g1, g2⟩ := hp (k, b) (by simp) d hd
      exact wp_put (ops := ops) hs g1 g2 (fun c a w => hQ c a d _ w) (fun a' w' h' => h') h1

/-- What has come up, but for the new blocks of U, which have not. -/
structure LR (U : List Nat) (L listed : Array Bool) : Prop where
  hU : ∀ j ∈ U, listed.getD j true = false
  hN : ∀ j, j ∉ U → listed.getD j true = L.getD j true ∧ listed.getD j false = L.getD j false
  hA : ∀ j ∈ U, L.getD j false = true
  hS : listed.size = L.size
theorem in_lt {l : Array Bool} {j : Nat} (h : l.getD j true = false) : j < l.size := by
  rcases Nat.lt_or_ge j l.size with h' | h'
  · exact h'
  · simp [Array.getElem?_eq_none h'] at h
theorem not_both {l : Array Bool} {j : Nat} (h : l.getD j true = false) (h2 : l.getD j false = true) : False := by
  have hj := in_lt h
  simp [hj] at h h2
  rw [h] at h2; cases h2
theorem set_true {l : Array Bool} {j : Nat} (h : j < l.size) (d : Bool) : (l.setIfInBounds j true).getD j d = true := by simp [h]
theorem LR.setU {U : List Nat} {L listed : Array Bool} (h : LR U L listed) {j : Nat} (hj : j ∈ U) (hn : U.Nodup) : LR (U.erase j) L (listed.setIfInBounds j true) := by
  have hjl := in_lt (h.hU j hj)
  refine ⟨fun x hx => ?_, fun x hx => ?_, fun x hx => h.hA x (List.mem_of_mem_erase hx), by simpa using h.hS⟩
  · have hne : j ≠ x := fun e => by subst e; exact (List.Nodup.not_mem_erase hn) hx
    rw [getD_set_ne true hne]; exact h.hU x (List.mem_of_mem_erase hx)
  · by_cases e : j = x
    · subst e
      have hA := h.hA j hj
      have hL : j < L.size := by rw [← h.hS]; exact hjl
      have hT : L.getD j true = true := by simp [hL] at hA ⊢; exact hA
      rw [set_true hjl, set_true hjl, hA, hT]
      exact ⟨rfl, rfl⟩
    · have hx' : x ∉ U := fun hm => hx ((List.mem_erase_of_ne (Ne.symm e)).2 hm)
      rw [getD_set_ne true e, getD_set_ne false e]
      exact h.hN x hx'
theorem LR.setI {U : List Nat} {L listed : Array Bool} (h : LR U L listed) {i : Nat} (hi : i ∉ U) : LR U (L.setIfInBounds i true) (listed.setIfInBounds i true) := by
  refine ⟨fun x hx => ?_, fun x hx => ?_, fun x hx => ?_, by simpa using h.hS⟩
  · have hne : i ≠ x := fun e => hi (e ▸ hx)
    rw [getD_set_ne true hne]; exact h.hU x hx
  · by_cases e : i = x
    · subst e
      rcases Nat.lt_or_ge i listed.size with h' | h'
      · rw [set_true h', set_true h', set_true (by rw [← h.hS]; exact h'), set_true (by rw [← h.hS]; exact h')]; exact ⟨rfl, rfl⟩
      · rw [Array.setIfInBounds_eq_of_size_le h', Array.setIfInBounds_eq_of_size_le (by rw [← h.hS]; exact h')]; exact h.hN i hi
    · rw [getD_set_ne true e, getD_set_ne false e, getD_set_ne true e, getD_set_ne false e]
      exact h.hN x hx
  · have hne : i ≠ x := fun e => hi (e ▸ hx)
    rw [getD_set_ne false hne]; exact h.hA x hx
theorem LR.nil {L listed : Array Bool} (h : LR [] L listed) : listed = L := by
  apply Array.ext h.hS
  intro i h1 h2
  have := (h.hN i (by simp)).1
  simpa [h1, h2] using this
theorem LR.ready {U : List Nat} {L listed : Array Bool} (h : LR U L listed) {j : Nat} (hj : j ∈ Region.ready .any ops listed) (hn : j ∉ U) : j ∈ Region.ready .any ops L := by
  obtain ⟨h1, o, ho, h2⟩ := mem_ready.1 hj
  refine mem_ready.2 ⟨by rw [← (h.hN j hn).1]; exact h1, o, ho, fun e he hb => ?_⟩
  have h3 := h2 e he hb
  by_cases hm : e.on ∈ U
  · exact h.hA _ hm
  · rw [← (h.hN _ hm).2]; exact h3

def floatsOf : List It → List Nat
  | [] => []
  | .fl k :: r => k :: floatsOf r
  | .op _ :: r => floatsOf r
  | .tk _ :: r => floatsOf r
def opsC : List It → Nat
  | [] => 0
  | .fl _ :: r => opsC r
  | .op _ :: r => opsC r + 1
  | .tk _ :: r => opsC r + 1
def nextOp (tl : List Nat) : List It → Option Nat
  | [] => tl.head?
  | .fl _ :: r => nextOp tl r
  | .op i :: _ => some i
  | .tk i :: _ => some i
/-- Operation c waits for k. -/
def waitsB (ops : Array Oper) (c k : Nat) : Bool := match ops[c]? with | some o => o.after.any fun e => Region.binds .any e && e.on == k | none => false
def unmark (is : List Nat) (l : Array Bool) : Array Bool := is.foldl (fun l i => l.setIfInBounds i false) l
def itB (ops : Array Oper) (tl : List Nat) : List It → Array Bool → Bool
  | [], L => schedB ops (fun _ => true) true (tl.map .f) L && (Region.ready .any ops (markS (tl.map .f) L)).isEmpty && (List.range ops.size).all fun j => L.getD j true || tl.contains j
  | .fl k :: r, L => (match nextOp tl r with | some c => decide (Region.ready .any ops L = [c]) && waitsB ops c k | none => false) && itB ops tl r L
  | .op i :: r, L => decide (Region.ready .any ops L = [i]) && (match ops[i]? with
      | some o => o.guard.isNone && (floatsOf r).all fun k => match dstOf ops k with | some d => !(o.looksAt ops).contains d && o.dst != some d | none => false
      | none => false) && itB ops tl r (L.setIfInBounds i true)
  | .tk i :: r, L => (Region.ready .any ops L).contains i && (match ops[i]? with
      | some o => o.guard.isNone && plainB o.op && (o.after.all fun e => !(floatsOf r).contains e.on) && ((floatsOf r).all fun k => match dstOf ops k with | some d => !(o.looksAt ops).contains d && o.dst != some d | none => false) &&
        (List.range ops.size).all fun j => (L.getD j true && !(floatsOf r).contains j) || j == i || (match ops[j]? with | some oj => (oj.after.any fun e => Region.binds .any e && e.on == i) || o.apart ops oj | none => true)
      | none => false) && (tl.all fun j => afterB ops ops.size j i) && itB ops tl r (L.setIfInBounds i true)

theorem waits_no {c k : Nat} {listed : Array Bool} (hc : c ∈ Region.ready .any ops listed) (hw : waitsB ops c k = true) (hk : listed.getD k true = false) : False := by
  obtain ⟨_, o, ho, h2⟩ := mem_ready.1 hc
  unfold waitsB at hw
  rw [ho] at hw
  obtain ⟨e, he, hb⟩ := Array.any_eq_true'.1 hw
  simp only [Bool.and_eq_true, beq_iff_eq] at hb
  have := h2 e he hb.1
  rw [hb.2] at this
  exact not_both hk this


def FlC (P : Program) (ops : Array Oper) (Q : Exit → Act → World → Prop) (w0 : World) (fv : Nat → Option FlS) (tl : List Nat) (n : Nat) (items : List It) : Prop :=
    ∀ (U : List Nat) (early : List (Nat × Nat)) (L listed : Array Bool) (bs : List Nat) (a : Act) (w w' : World),
      wpFl P ops Q w0 fv (fun a w => wpList P ops Q (opsAt ops tl) a w) items bs a w → Below w.heap.size w w' → Below w0.heap.size w0 w' →
      (∀ p ∈ early, ∃ f, fv p.1 = some f ∧ Own w' p.2 f.T f.zs ∧ w0.heap.size ≤ p.2 ∧ p.2 ∉ bs) → (early.map (·.1)).Nodup → (early.map (·.2)).Nodup → (∀ b ∈ bs, b < w'.heap.size) → (∀ b ∈ bs, w0.heap.size ≤ b) →
      (∀ k, k ∈ floatsOf items ↔ k ∈ U ∨ ∃ b, (k, b) ∈ early) → (∀ k ∈ U, ∀ b, (k, b) ∉ early) → (∀ k ∈ U, ∃ f, fv k = some f) → (floatsOf items).Nodup → U.Nodup → LR U L listed → Closed ops listed → itB ops tl items L = true → n = U.length + opsC items →
      wpAnyX P ops Q (fun x => Below w0.heap.size w0 x) (fun j => !tl.contains j) (tl.length + n) listed (putE ops fv early a) w'

theorem nodup2 {e : List (Nat × Nat)} (h : (e.map (·.2)).Nodup) {p q : Nat × Nat} (hp : p ∈ e) (hq : q ∈ e) (hpq : p.2 = q.2) : p = q := by
  induction e with
  | nil => cases hp
  | cons x e ih =>
    simp only [List.map_cons, List.nodup_cons] at h
    rcases List.mem_cons.1 hp with rfl | hp'
    · rcases List.mem_cons.1 hq with rfl | hq'
      · rfl
      · exact absurd (List.mem_map.2 ⟨q, hq', hpq.symm⟩) h.1
    · rcases List.mem_cons.1 hq with rfl | hq'
      · exact absurd (List.mem_map.2 ⟨p, hp', hpq⟩) h.1
      · exact ih h.2 hp' hq'

/-- A new block that was made early, where it is wanted. -/
theorem Fl_eat {tl : List Nat} (hdd : ∀ k k' f f', fv k = some f → fv k' = some f' → k ≠ k' → ∀ x, dstOf ops k = some x → dstOf ops k' ≠ some x) {n : Nat} {r : List It} {k : Nat} (ih : FlC P ops Q w0 fv tl n r)
    {U : List Nat} {early : List (Nat × Nat)} {L listed : Array Bool} {bs : List Nat} {a : Act} {w w' : World} {b : Nat} (hkb : (k, b) ∈ early)
    (h : wpFl P ops Q w0 fv (fun a w => wpList P ops Q (opsAt ops tl) a w) (.fl k :: r) bs a w) (hb : Below w.heap.size w w') (hb0 : Below w0.heap.size w0 w')
    (he : ∀ p ∈ early, ∃ f, fv p.1 = some f ∧ Own w' p.2 f.T f.zs ∧ w0.heap.size ≤ p.2 ∧ p.2 ∉ bs) (he1 : (early.map (·.1)).Nodup) (he2 : (early.map (·.2)).Nodup) (hbs : ∀ b ∈ bs, b < w'.heap.size) (hbl : ∀ b ∈ bs, w0.heap.size ≤ b)
    (hf : ∀ k', k' ∈ floatsOf (.fl k :: r) ↔ k' ∈ U ∨ ∃ b, (k', b) ∈ early) (hUe : ∀ k ∈ U, ∀ b, (k, b) ∉ early) (hUf : ∀ k ∈ U, ∃ f, fv k = some f) (hfn : (floatsOf (.fl k :: r)).Nodup) (hUn : U.Nodup) (hLR : LR U L listed) (hcl : Closed ops listed) (hB : itB ops tl (.fl k :: r) L = true) (hn : n = U.length + opsC (.fl k :: r)) :
    wpAnyX P ops Q (fun x => Below w0.heap.size w0 x) (fun j => !tl.contains j) (tl.length + n) listed (putE ops fv early a) w' := by
  obtain ⟨f, hfk, ho, hlo, hnb⟩ := he (k, b) hkb
  simp only [floatsOf, List.nodup_cons] at hfn
  have hdist : ∀ p ∈ early, ∀ q ∈ early, p.1 ≠ q.1 → ∀ x, dstOf ops p.1 = some x → dstOf ops q.1 ≠ some x := fun p hp q hq hne x hx => by
    obtain ⟨f1, h1, _⟩ := he p hp
    obtain ⟨f2, h2, _⟩ := he q hq
    exact hdd p.1 q.1 f1 f2 h1 h2 hne x hx
  obtain ⟨e', g1, g2, g3, g4⟩ := putE_take (fv := fv) early a hkb he1 hdist
  rw [g1, hfk]
  simp only [wpFl, hfk] at h
  simp only [itB, Bool.and_eq_true] at hB
  refine ih U e' L listed (b :: bs) _ w' w' (h b w' hb ho hlo hnb) (Below.refl _ _) hb0 (fun p hp => ?_) g3 (g4 he2) (fun x hx => ?_) (fun x hx => ?_) (fun k' => ?_) (fun k' hk' b' hb' => hUe k' hk' b' ((g2 _).1 hb').1) hUf hfn.2 hUn hLR hcl hB.2 hn
  · obtain ⟨hp1, hp2⟩ := (g2 p).1 hp
    obtain ⟨f1, h1, h2, h3, h4⟩ := he p hp1
    refine ⟨f1, h1, h2, h3, fun hm => ?_⟩
    rcases List.mem_cons.1 hm with e | hm
    · exact hp2 (by rw [nodup2 he2 hp1 hkb e])
    · exact h4 hm
  · rcases List.mem_cons.1 hx with rfl | hx
    · exact ho.lt
    · exact hbs x hx
  · rcases List.mem_cons.1 hx with rfl | hx
    · exact hlo
    · exact hbl x hx
  · have h1 := hf k'
    simp only [floatsOf, List.mem_cons] at h1
    constructor
    · intro hm
      rcases h1.1 (.inr hm) with h2 | ⟨b', h2⟩
      · exact .inl h2
      · exact .inr ⟨b', (g2 _).2 ⟨h2, fun e => hfn.1 (by simp only at e; rw [← e]; exact hm)⟩⟩
    · intro hm
      have h3 : k' = k ∨ k' ∈ floatsOf r := h1.2 (hm.imp id (fun ⟨b', hb'⟩ => ⟨b', ((g2 _).1 hb').1⟩))
      rcases h3 with rfl | h3
      · rcases hm with hm | ⟨b', hb'⟩
        · exact absurd hkb (hUe _ hm b)
        · exact absurd rfl ((g2 _).1 hb').2
      · exact h3

/-- A new block is made, early or in time. -/
theorem Fl_make {tl : List Nat} (hfl : ∀ k f, fv k = some f → ∃ o, ops[k]? = some o ∧ o.guard.isNone = true ∧ (∀ e ∈ o.after, Region.binds .any e = false) ∧ ∀ (a : Act) w, (execOp a.eval o).run P w = .ok (.value (f.val w.heap.size)) (w.alloc (.cells f.zs.toArray f.T (0, 0))))
    {n : Nat} {items : List It} (ih : FlC P ops Q w0 fv tl n items) {U : List Nat} {early : List (Nat × Nat)} {L listed : Array Bool} {bs : List Nat} {a : Act} {w w' : World} {j : Nat} (hj : j ∈ U) (hjr : j ∈ Region.ready .any ops listed)
    (h : wpFl P ops Q w0 fv (fun a w => wpList P ops Q (opsAt ops tl) a w) items bs a w) (hb : Below w.heap.size w w') (hb0 : Below w0.heap.size w0 w')
    (he : ∀ p ∈ early, ∃ f, fv p.1 = some f ∧ Own w' p.2 f.T f.zs ∧ w0.heap.size ≤ p.2 ∧ p.2 ∉ bs) (he1 : (early.map (·.1)).Nodup) (he2 : (early.map (·.2)).Nodup) (hbs : ∀ b ∈ bs, b < w'.heap.size) (hbl : ∀ b ∈ bs, w0.heap.size ≤ b)
    (hf : ∀ k', k' ∈ floatsOf items ↔ k' ∈ U ∨ ∃ b, (k', b) ∈ early) (hUe : ∀ k ∈ U, ∀ b, (k, b) ∉ early) (hUf : ∀ k ∈ U, ∃ f, fv k = some f) (hfn : (floatsOf items).Nodup) (hUn : U.Nodup) (hLR : LR U L listed) (hcl : Closed ops listed) (hB : itB ops tl items L = true) (hn : n + 1 = U.length + opsC items) :
    wpOp P ops Q j (fun a' x' => ((!tl.contains j) = true → Below w0.heap.size w0 x') ∧ wpAnyX P ops Q (fun x => Below w0.heap.size w0 x) (fun j => !tl.contains j) (tl.length + n) (listed.setIfInBounds j true) a' x') (putE ops fv early a) w' := by
  obtain ⟨f, hfj⟩ := hUf j hj
  obtain ⟨o, ho, hg, _, hrun⟩ := hfl j f hfj
  unfold wpOp
  simp only [ho, wanted_none hg, if_true]
  refine .inl ?_
  unfold Oper.wp
  rw [hrun]
  simp only [Oper.upon]
  have hbn := ba1 w' (.cells f.zs.toArray f.T (0, 0))
  have key := ih (U.erase j) ((j, w'.heap.size) :: early) L (listed.setIfInBounds j true) bs a w (w'.alloc (.cells f.zs.toArray f.T (0, 0))) h (below_to hb hbn) (below_to hb0 hbn) ?_ ?_ ?_ ?_ hbl ?_ ?_ ?_ hfn (hUn.erase j) (hLR.setU hj hUn) (hcl.set hjr) hB (by rw [List.length_erase_of_mem hj]; have := List.length_pos_of_mem hj; omega)
  · have e : putE ops fv ((j, w'.heap.size) :: early) a = (putE ops fv early a).put o.dst (f.val w'.heap.size) := by simp [putE, dstOf, ho, hfj]
    rw [e] at key
    exact ⟨fun _ => below_to hb0 hbn, key⟩
  · intro p hp
    rcases List.mem_cons.1 hp with rfl | hp
    · exact ⟨f, hfj, Own.new w' f.T f.zs, hb0.size, fun hm => Nat.lt_irrefl _ (hbs _ hm)⟩
    · obtain ⟨f1, h1, h2, h3, h4⟩ := he p hp
      exact ⟨f1, h1, h2.below hbn, h3, h4⟩
  · simp only [List.map_cons, List.nodup_cons]
    exact ⟨fun hm => by obtain ⟨p, hp, e⟩ := List.mem_map.1 hm; exact hUe j hj p.2 (by rw [← e]; exact hp), he1⟩
  · simp only [List.map_cons, List.nodup_cons]
    refine ⟨fun hm => ?_, he2⟩
    obtain ⟨p, hp, e⟩ := List.mem_map.1 hm
    obtain ⟨_, _, h2, _⟩ := he p hp
    have := h2.lt
    omega
  · exact fun b hm => Nat.lt_of_lt_of_le (hbs b hm) hbn.size
  · intro k'
    rw [hf k']
    constructor
    · rintro (h1 | ⟨b, h1⟩)
      · by_cases e : k' = j
        · subst e; exact .inr ⟨w'.heap.size, by simp⟩
        · exact .inl ((List.mem_erase_of_ne e).2 h1)
      · exact .inr ⟨b, List.mem_cons_of_mem _ h1⟩
    · rintro (h1 | ⟨b, h1⟩)
      · exact .inl (List.mem_of_mem_erase h1)
      · rcases List.mem_cons.1 h1 with e | h1
        · cases e; exact .inl hj
        · exact .inr ⟨b, h1⟩
  · intro k' hk' b hm
    rcases List.mem_cons.1 hm with e | hm
    · cases e; exact (List.Nodup.not_mem_erase hUn) hk'
    · exact hUe k' (List.mem_of_mem_erase hk') b hm
  · exact fun k' hk' => hUf k' (List.mem_of_mem_erase hk')

theorem ready_fl {U : List Nat} {L listed : Array Bool} (hfl : ∀ k f, fv k = some f → ∃ o, ops[k]? = some o ∧ o.guard.isNone = true ∧ (∀ e ∈ o.after, Region.binds .any e = false) ∧ ∀ (a : Act) w, (execOp a.eval o).run P w = .ok (.value (f.val w.heap.size)) (w.alloc (.cells f.zs.toArray f.T (0, 0))))
    (hLR : LR U L listed) {k : Nat} {f : FlS} (hk : k ∈ U) (hfk : fv k = some f) : k ∈ Region.ready .any ops listed := by
  obtain ⟨o, ho, _, hb, _⟩ := hfl k f hfk
  exact mem_ready.2 ⟨hLR.hU k hk, o, ho, fun e he hbb => by rw [hb e he] at hbb; cases hbb⟩

theorem yields_putE {o : Oper} {v : Value} {C : World → Prop} (hs : ∀ cs b, o.op ≠ .select cs b) : ∀ (e : List (Nat × Nat)) (a : Act), (∀ p ∈ e, ∀ x, dstOf ops p.1 = some x → x ∉ o.looksAt ops) → YieldsIf P ops C o v a → YieldsIf P ops C o v (putE ops fv e a)
  | [], _, _, h => h
  | (k, b) :: e, a, hp, h => by
    have ih := yields_putE hs e a (fun p hp' => hp p (List.mem_cons_of_mem _ hp')) h
    simp only [putE]
    have hx : ∀ d, dstOf ops k = some d → d ∉ o.looksAt ops := fun d hd => hp (k, b) (by simp) d hd
    unfold YieldsIf at *
    rw [execOp_put (ops := ops) o hs _ _ _ hx, wanted_put (ops := ops) o _ _ _ hx]
    exact ih

theorem lenS_map : ∀ tl : List Nat, lenS (tl.map .f) = tl.length
  | [] => rfl
  | i :: tl => by simp [lenS, lenS_map tl]

theorem Fl_run (hs : Region.noSelect ops = true) {tl : List Nat} (hQ : ∀ c a (d : Tmp) v w, Q (.panic c) (a.put (some d) v) w → Q (.panic c) a w) (hQ2 : ∀ c a (d : Tmp) v w, Q (.panic c) a w → Q (.panic c) (a.put (some d) v) w)
    (hfl : ∀ k f, fv k = some f → ∃ o, ops[k]? = some o ∧ o.guard.isNone = true ∧ (∀ e ∈ o.after, Region.binds .any e = false) ∧ ∀ (a : Act) w, (execOp a.eval o).run P w = .ok (.value (f.val w.heap.size)) (w.alloc (.cells f.zs.toArray f.T (0, 0))))
    (hdd : ∀ k k' f f', fv k = some f → fv k' = some f' → k ≠ k' → ∀ x, dstOf ops k = some x → dstOf ops k' ≠ some x)
    (htl : ∀ i ∈ tl, i < ops.size) :
    ∀ (n : Nat) (items : List It), FlC P ops Q w0 fv tl n items := by
  intro n
  induction n with
  | zero =>
    intro items
    induction items with
    | nil =>
      intro U early L listed bs a w w' h hb hb0 he he1 he2 hbs hbl hf hUe hUf hfn hUn hLR hcl hB hn
      have hU : U = [] := List.eq_nil_of_length_eq_zero (by simp only [opsC] at hn; omega)
      subst hU
      have hE : early = [] := by
        cases early with
        | nil => rfl
        | cons p e => exact absurd ((hf p.1).2 (.inr ⟨p.2, by simp⟩)) (by simp [floatsOf])
      subst hE
      obtain rfl := hLR.nil
      simp only [itB, Bool.and_eq_true, and_assoc] at hB
      have h5 := X_sched (P := P) (Q := Q) (C := fun _ => True) (E := fun _ => true) (n := 0) hs hQ (tl.map .f) listed a w' hcl hB.1 trivial (fun a2 w2 _ k2 => ⟨by simpa using hB.2.1, k2⟩) (X_of_list tl a w' htl (h w' hb))
      rw [lenS_map, Nat.zero_add] at h5
      refine X_of_any _ _ _ _ (fun j hj hun => ?_) h5
      have h6 := List.all_eq_true.1 hB.2.2 j (List.mem_range.2 hj)
      rw [hun, Bool.false_or] at h6
      rw [h6]; rfl
    | cons it r ih =>
      intro U early L listed bs a w w' h hb hb0 he he1 he2 hbs hbl hf hUe hUf hfn hUn hLR hcl hB hn
      cases it with
      | op i => simp only [opsC] at hn; omega
      | tk i => simp only [opsC] at hn; omega
      | fl k =>
        have hU : U = [] := List.eq_nil_of_length_eq_zero (by simp only [opsC] at hn; omega)
        have hk : ∃ b, (k, b) ∈ early := by
          rcases (hf k).1 (by simp [floatsOf]) with h1 | h1
          · rw [hU] at h1; cases h1
          · exact h1
        obtain ⟨b, hkb⟩ := hk
        exact Fl_eat hdd ih hkb h hb hb0 he he1 he2 hbs hbl hf hUe hUf hfn hUn hLR hcl hB hn
  | succ n IH =>
    intro items
    induction items with
    | nil =>
      intro U early L listed bs a w w' h hb hb0 he he1 he2 hbs hbl hf hUe hUf hfn hUn hLR hcl hB hn
      cases U with
      | nil => simp [opsC] at hn
      | cons k U => exact absurd ((hf k).2 (.inl (by simp))) (by simp [floatsOf])
    | cons it r ih =>
      intro U early L listed bs a w w' h hb hb0 he he1 he2 hbs hbl hf hUe hUf hfn hUn hLR hcl hB hn
      cases it with
      | fl k =>
        rcases (hf k).1 (by simp [floatsOf]) with hkU | ⟨b, hkb⟩
        · obtain ⟨f, hfk⟩ := hUf k hkU
          have hkr := ready_fl hfl hLR hkU hfk
          refine ⟨fun h0 => (by rw [h0] at hkr; cases hkr), fun j hj => ?_⟩
          by_cases hjU : j ∈ U
          · exact Fl_make hfl (IH _) hjU hj h hb hb0 he he1 he2 hbs hbl hf hUe hUf hfn hUn hLR hcl hB hn
          · exfalso
            have hjL := hLR.ready hj hjU
            simp only [itB, Bool.and_eq_true] at hB
            have hB1 := hB.1
            split at hB1
            · rename_i c _
              simp only [Bool.and_eq_true, decide_eq_true_eq] at hB1
              rw [hB1.1] at hjL
              have hjc : j = c := by simpa using hjL
              subst hjc
              exact waits_no hj hB1.2 (hLR.hU k hkU)
            · cases hB1
        · exact Fl_eat hdd ih hkb h hb hb0 he he1 he2 hbs hbl hf hUe hUf hfn hUn hLR hcl hB hn
      | tk i =>
        have hB0 := hB
        simp only [itB, Bool.and_eq_true, List.contains_iff_mem] at hB0
        obtain ⟨⟨⟨hrL, hB1⟩, hta⟩, hB2⟩ := hB0
        obtain ⟨o, ho⟩ : ∃ o, ops[i]? = some o := let ⟨_, o, ho, _⟩ := mem_ready.1 hrL; ⟨o, ho⟩
        rw [ho] at hB1
        simp only [Bool.and_eq_true] at hB1
        obtain ⟨⟨⟨⟨hg, hp⟩, haf⟩, hfd⟩, hall⟩ := hB1
        have hfU : ∀ k, k ∈ U → k ∈ floatsOf r := fun k hk => by have := (hf k).2 (.inl hk); simpa [floatsOf] using this
        have hiU : i ∉ U := fun hm => by
          have h1 := hLR.hA i hm
          exact not_both (mem_ready.1 hrL).1 h1
        have hir : i ∈ Region.ready .any ops listed := by
          obtain ⟨h1, o', ho', h2⟩ := mem_ready.1 hrL
          refine mem_ready.2 ⟨by rw [(hLR.hN i hiU).1]; exact h1, o', ho', fun e he' hbb => ?_⟩
          obtain rfl : o = o' := Option.some.inj (ho.symm.trans ho')
          have h3 : e.on ∉ U := fun hm => by
            have h4 := Array.all_eq_true'.1 haf e he'
            simp only [Bool.not_eq_true'] at h4
            have h5 : (floatsOf r).contains e.on = true := by simpa using hfU _ hm
            rw [h4] at h5; cases h5
          rw [(hLR.hN _ h3).2]
          exact h2 e he' hbb
        simp only [wpFl] at h
        have e0 : opsAt ops [i] = [o] := by simp [opsAt, ho]
        rw [e0] at h
        obtain ⟨v, hy, hnx⟩ := quiet_plain (K := wpQuiet P ops (fun _ => True) _ []) hp h
        have hsel := Region.noSelect_spec hs
        have hy2 : YieldsIf P ops (fun x => Below w0.heap.size w0 x) o v a := hy.imp (fun ⟨g1, g2⟩ => ⟨g1, fun w _ => g2 w trivial⟩) id
        have hdst : ∀ p ∈ early, ∀ x, dstOf ops p.1 = some x → x ∉ o.looksAt ops ∧ o.dst ≠ some x := fun p hp' x hx => by
          have hm : p.1 ∈ floatsOf r := by
            have := (hf p.1).2 (.inr ⟨p.2, hp'⟩)
            simpa [floatsOf] using this
          have h3 := List.all_eq_true.1 hfd p.1 hm
          rw [hx] at h3
          simp only [Bool.and_eq_true, Bool.not_eq_true', bne_iff_ne] at h3
          refine ⟨fun hm' => ?_, h3.2⟩
          have h4 : (o.looksAt ops).contains x = true := by simpa using hm'
          rw [h3.1] at h4; cases h4
        have hy3 := yields_putE (fv := fv) (fun cs b => hsel i o cs b ho) early a (fun p hp' x hx => (hdst p hp' x hx).1) hy2
        have key := IH r U early (L.setIfInBounds i true) (listed.setIfInBounds i true) bs (a.put o.dst v) w w' hnx hb hb0 he he1 he2 hbs hbl (by simpa [floatsOf] using hf) hUe hUf (by simpa [floatsOf] using hfn) hUn (hLR.setI hiU) (hcl.set hir) hB2 (by simp only [opsC] at hn; omega)
        rw [putE_comm v early a (fun p hp' x hx hx' => (hdst p hp' x hx').2 hx)] at key
        refine wpAnyX_first ho hsel (fun c a' w' hh => by
          cases hd : o.dst with
          | none => rw [hd] at hh; exact hh
          | some d => rw [hd] at hh; exact hQ c a' d v w' hh) ops.size (tl.length + n) listed _ w' hcl (fun j oj hj hne hun hno => ?_) (fun j oj hj hne hun hno => ?_) hir hy3 hb0 key
        · have h3 := List.all_eq_true.1 hall j (List.mem_range.2 (Array.getElem?_eq_some_iff.1 hj).1)
          simp only [hj, Bool.or_eq_true, Bool.and_eq_true, beq_iff_eq, hne, or_false] at h3
          rcases h3 with h3 | h3
          · exfalso
            by_cases hjU : j ∈ U
            · have h5 : (floatsOf r).contains j = true := by simpa using hfU _ hjU
              rw [h5] at h3; exact absurd h3.2 (by simp)
            · rw [(hLR.hN j hjU).1, h3.1] at hun; cases hun
          · rcases h3 with h3 | h3
            · exfalso
              obtain ⟨e, he', hbb⟩ := Array.any_eq_true'.1 h3
              simp only [Bool.and_eq_true, beq_iff_eq] at hbb
              exact hno e he' hbb.1 hbb.2
            · exact h3
        · cases htc : tl.contains j with
          | false => rfl
          | true =>
            have h3 := List.all_eq_true.1 hta j (by simpa using htc)
            rw [h3] at hno; cases hno
      | op i =>
        have hB0 := hB
        simp only [itB, Bool.and_eq_true, decide_eq_true_eq] at hB0
        obtain ⟨⟨hrL, hB1⟩, hB2⟩ := hB0
        have hne : Region.ready .any ops listed ≠ [] := by
          cases hU : U with
          | nil =>
            subst hU
            obtain rfl := hLR.nil
            rw [hrL]; simp
          | cons k U' =>
            have hkU : k ∈ U := by rw [hU]; simp
            obtain ⟨f, hfk⟩ := hUf k hkU
            have hkr := ready_fl hfl hLR hkU hfk
            exact fun h0 => (by rw [h0] at hkr; cases hkr)
        refine ⟨fun h0 => absurd h0 hne, fun j hj => ?_⟩
        by_cases hjU : j ∈ U
        · exact Fl_make hfl (IH _) hjU hj h hb hb0 he he1 he2 hbs hbl hf hUe hUf hfn hUn hLR hcl hB hn
        · have hjL := hLR.ready hj hjU
          rw [hrL] at hjL
          have hji : j = i := by simpa using hjL
          subst hji
          obtain ⟨_, o, ho, _⟩ := mem_ready.1 hj
          rw [ho] at hB1
          simp only [Bool.and_eq_true] at hB1
          unfold wpOp
          simp only [ho, wanted_none hB1.1, if_true]
          refine .inl ?_
          simp only [wpFl, ho] at h
          refine wp_putE (ops := ops) (fv := fv) (Region.noSelect_spec hs j o · · ho) hQ2 early a (fun p hp x hx => ?_) (fun a' w'' h' => ?_) (h w' hb)
          · have hm : p.1 ∈ floatsOf r := by
              have := (hf p.1).2 (.inr ⟨p.2, hp⟩)
              simpa [floatsOf] using this
            have h3 := List.all_eq_true.1 hB1.2 p.1 hm
            rw [hx] at h3
            simp only [Bool.and_eq_true, Bool.not_eq_true', bne_iff_ne] at h3
            refine ⟨fun hm' => ?_, h3.2⟩
            have h4 : (o.looksAt ops).contains x = true := by simpa using hm'
            rw [h3.1] at h4; cases h4
          · have hbN := h'.1.below hb0 hbl
            refine ⟨fun _ => hbN, ?_⟩
            refine IH r U early (L.setIfInBounds j true) (listed.setIfInBounds j true) bs a' w'' w'' h'.2 (Below.refl _ _) hbN (fun p hp => ?_) he1 he2 (fun b hm => Nat.lt_of_lt_of_le (hbs b hm) h'.1.size) hbl (by simpa [floatsOf] using hf) hUe hUf (by simpa [floatsOf] using hfn) hUn (hLR.setI hjU) (hcl.set hj) hB2 (by simp only [opsC] at hn; omega)
            obtain ⟨f1, h1, h2, h3, h4⟩ := he p hp
            exact ⟨f1, h1, h'.1.own h2 h4, h3, h4⟩

def fvOf : List (Nat × FlS) → Nat → Option FlS
  | [], _ => none
  | p :: r, k => if p.1 = k then some p.2 else fvOf r k
def allRun (P : Program) (ops : Array Oper) : List (Nat × FlS) → Prop
  | [] => True
  | p :: r => (∀ (a : Act) W, (execOp a.eval (ops[p.1]?.getD default)).run P W = .ok (.value (p.2.val W.heap.size)) (W.alloc (.cells p.2.zs.toArray p.2.T (0, 0)))) ∧ allRun P ops r
theorem fv_mem {k : Nat} {f : FlS} : ∀ {l : List (Nat × FlS)}, fvOf l k = some f → (k, f) ∈ l
  | [], h => by cases h
  | p :: r, h => by
    unfold fvOf at h
    split at h
    · rename_i e; cases h; subst e; simp
    · exact List.mem_cons_of_mem _ (fv_mem h)
theorem mem_fv {k : Nat} : ∀ {l : List (Nat × FlS)}, k ∈ l.map (·.1) → ∃ f, fvOf l k = some f
  | [], h => by cases h
  | p :: r, h => by
    unfold fvOf
    split
    · exact ⟨_, rfl⟩
    · rename_i e
      rcases List.mem_cons.1 h with h | h
      · exact absurd h.symm e
      · exact mem_fv h
theorem run_mem : ∀ {l : List (Nat × FlS)} {p : Nat × FlS}, allRun P ops l → p ∈ l → ∀ (a : Act) W, (execOp a.eval (ops[p.1]?.getD default)).run P W = .ok (.value (p.2.val W.heap.size)) (W.alloc (.cells p.2.zs.toArray p.2.T (0, 0)))
  | [], _, _, h => by cases h
  | q :: r, p, h, hp => by
    rcases List.mem_cons.1 hp with rfl | hp
    · exact h.1
    · exact run_mem h.2 hp
theorem mark_ne {j : Nat} (d : Bool) : ∀ (is : List Nat) (l : Array Bool), j ∉ is → (mark is l).getD j d = l.getD j d
  | [], _, _ => rfl
  | i :: is, l, h => by
    simp only [List.mem_cons, not_or] at h
    show (mark is (l.setIfInBounds i true)).getD j d = _
    rw [mark_ne d is _ h.2, getD_set_ne d (Ne.symm h.1)]
theorem mark_size : ∀ (is : List Nat) (l : Array Bool), (mark is l).size = l.size
  | [], _ => rfl
  | i :: is, l => by show (mark is (l.setIfInBounds i true)).size = _; rw [mark_size is]; simp
theorem mark_in {j : Nat} : ∀ (is : List Nat) (l : Array Bool), j ∈ is → j < l.size → (mark is l).getD j false = true
  | [], _, h, _ => by cases h
  | i :: is, l, h, hj => by
    show (mark is (l.setIfInBounds i true)).getD j false = true
    by_cases hm : j ∈ is
    · exact mark_in is _ hm (by simpa using hj)
    · rcases List.mem_cons.1 h with rfl | h
      · rw [mark_ne false is _ hm]; exact set_true hj false
      · exact absurd h hm

def nodupB : List Nat → Bool
  | [] => true
  | x :: l => !l.contains x && nodupB l
theorem nodupB_spec : ∀ {l : List Nat}, nodupB l = true → l.Nodup
  | [], _ => List.nodup_nil
  | x :: l, h => by
    simp only [nodupB, Bool.and_eq_true, Bool.not_eq_true'] at h
    exact List.nodup_cons.2 ⟨fun hm => by have : l.contains x = true := by simpa using hm
                                          rw [h.1] at this; exact Bool.false_ne_true this, nodupB_spec h.2⟩
/-- The Bool that 'wp_region_fs' asks. -/
def fsB (ops : Array Oper) (m : List Nat) (items : List It) (tl fs : List Nat) : Bool :=
  Region.noSelect ops && takeB ops (fun j => !tl.contains j) true m (Array.replicate ops.size false) && itB ops tl items (mark (floatsOf items) (mark m (Array.replicate ops.size false))) && nodupB (floatsOf items) &&
  decide (tl.length + ((floatsOf items).length + opsC items) + m.length = ops.size) && (tl.all fun i => decide (i < ops.size)) && decide (fs = floatsOf items) &&
  (fs.all fun k => (match ops[k]? with | some o => o.guard.isNone && o.after.all (fun e => !Region.binds .any e) | none => false) && !(mark m (Array.replicate ops.size false)).getD k true && fs.all fun k' => k == k' || dstOf ops k != dstOf ops k')

/-- A region that draws its order: operations m that look at old memory alone; then the new blocks fl and what follows one another, in one order; then tl. -/
theorem wp_region_fs {id : Nat} {a : Act} {w : World} (fl : List (Nat × FlS)) (m : List Nat) (items : List It) (tl : List Nat) (hm : P.follows .mixedOrders = true) (hB : fsB ops m items tl (fl.map (·.1)) = true) (hrun : allRun P ops fl)
    (hQ : ∀ c a (d : Tmp) v w, Q (.panic c) (a.put (some d) v) w → Q (.panic c) a w) (hQ2 : ∀ c a (d : Tmp) v w, Q (.panic c) a w → Q (.panic c) (a.put (some d) v) w)
    (h : wpQuiet P ops (fun w' => ∃ e, w' = grow w e) (fun a' => wpFl P ops Q w (fvOf fl) (fun a w => wpList P ops Q (opsAt ops tl) a w) items [] a' w) (opsAt ops m) a) :
    (Code.region id ops true).wp P Q a w := by
  simp only [fsB, Bool.and_eq_true, decide_eq_true_eq] at hB
  obtain ⟨⟨⟨⟨⟨⟨⟨hs, h1⟩, h2⟩, h3⟩, hn⟩, htl⟩, hfs⟩, hfl⟩ := hB
  have htl' : ∀ i ∈ tl, i < ops.size := fun i hi => by simpa using List.all_eq_true.1 htl i hi
  have hfv : ∀ k f, fvOf fl k = some f → k ∈ fl.map (·.1) := fun k f hk => List.mem_map.2 ⟨(k, f), fv_mem hk, rfl⟩
  refine wp_region_any hm ?_
  have hw : Below w.heap.size w ({ w with drawn := w.drawn + 1 } : World) := (Below.refl w.heap.size w).drew
  have hC : (fun w' => ∃ e, w' = grow w e) = (fun w' => Below w.heap.size w w') := by
    funext w'; exact propext ⟨fun ⟨e, he⟩ => he ▸ below_grow w e, grow_of⟩
  rw [hC] at h
  have hcl : Closed ops (Array.replicate ops.size false) := fun j oj _ hl => (by simp [Array.getElem?_replicate] at hl; split at hl <;> simp at hl)
  rw [show ops.size = (tl.length + ((floatsOf items).length + opsC items)) + m.length by omega]
  rw [← hn] at h1 h2 hfl hcl
  refine wpAny_of_X _ _ _ _ (take_read (S := fun w' => Below w.heap.size w w') (E := fun j => !tl.contains j) hs hQ hw m _ a hcl h1 h fun a' h' => ?_)
  have hcl' := closed_mark m _ true _ hcl h1
  have hk : ∀ k ∈ floatsOf items, (mark m (Array.replicate (tl.length + ((floatsOf items).length + opsC items) + m.length) false)).getD k true = false := fun k hk => by
    have := List.all_eq_true.1 hfl k (by rw [hfs]; exact hk)
    simp only [Bool.and_eq_true, Bool.not_eq_true'] at this
    exact this.1.2
  refine Fl_run hs hQ hQ2 (fun k f hkf => ?_) (fun k k' f f' hkf hkf' hne x hx hx' => ?_) htl' _ items (floatsOf items) [] (mark (floatsOf items) (mark m _)) (mark m _) [] a' w _ h' ((Below.refl w.heap.size w).drew) hw (fun p hp => by cases hp) List.nodup_nil List.nodup_nil (fun b hb => by cases hb) (fun b hb => by cases hb) (fun k => by simp) (fun k _ b hb => by cases hb) (fun k hk' => mem_fv (by rw [hfs]; exact hk')) (nodupB_spec h3) (nodupB_spec h3) ⟨hk, fun j hj => ⟨(mark_ne true _ _ hj).symm, (mark_ne false _ _ hj).symm⟩, fun j hj => mark_in _ _ hj (in_lt (hk j hj)), (mark_size _ _).symm⟩ hcl' h2 rfl
  · have h4 := List.all_eq_true.1 hfl k (hfv k f hkf)
    simp only [Bool.and_eq_true] at h4
    have h5 := h4.1.1
    cases ho : ops[k]? with
    | none => rw [ho] at h5; cases h5
    | some o =>
      rw [ho] at h5
      simp only [Bool.and_eq_true] at h5
      refine ⟨o, rfl, h5.1, fun e he => ?_, fun a w => ?_⟩
      · have := Array.all_eq_true'.1 h5.2 e he
        simpa using this
      · have h6 := run_mem hrun (fv_mem hkf) a w
        simp only [ho, Option.getD_some] at h6
        exact h6
  · have h4 := List.all_eq_true.1 hfl k (hfv k f hkf)
    simp only [Bool.and_eq_true] at h4
    have h5 := List.all_eq_true.1 h4.2 k' (hfv k' f' hkf')
    simp only [Bool.or_eq_true, beq_iff_eq, hne, false_or, bne_iff_ne] at h5
    exact h5 (by rw [hx, hx'])
theorem wpFl_fl {k : Nat} {f : FlS} {r : List It} {bs : List Nat} {a : Act} {w : World} (hf : fv k = some f) (h : ∀ b w1, Below w.heap.size w w1 → Own w1 b f.T f.zs → w0.heap.size ≤ b → b ∉ bs → wpFl P ops Q w0 fv K r (b :: bs) (a.put ((ops[k]?).bind (·.dst)) (f.val b)) w1) : wpFl P ops Q w0 fv K (.fl k :: r) bs a w := by
  simp only [wpFl, hf]; exact h
theorem wpFl_op {i : Nat} {o : Oper} {r : List It} {bs : List Nat} {a : Act} {w : World} (ho : ops[i]? = some o)
    (h : ∀ w1, Below w.heap.size w w1 → ∀ K' : Act → World → Prop, (∀ a' w', Mod bs w1 w' → wpFl P ops Q w0 fv K r bs a' w' → K' a' w') → o.wp P a w1 K' Q) : wpFl P ops Q w0 fv K (.op i :: r) bs a w := by
  simp only [wpFl, ho]; exact fun w1 hw1 => h w1 hw1 _ fun _ _ h1 h2 => ⟨h1, h2⟩
theorem wpFl_tk {i : Nat} {r : List It} {bs : List Nat} {a : Act} {w : World} (h : wpQuiet P ops (fun _ => True) (fun a' => wpFl P ops Q w0 fv K r bs a' w) (opsAt ops [i]) a) : wpFl P ops Q w0 fv K (.tk i :: r) bs a w := h
theorem wpFl_nil {bs : List Nat} {a : Act} {w : World} (h : ∀ w1, Below w.heap.size w w1 → K a w1) : wpFl P ops Q w0 fv K [] bs a w := h
end

end Go.Proofs.Ytpkggglifahioaa
