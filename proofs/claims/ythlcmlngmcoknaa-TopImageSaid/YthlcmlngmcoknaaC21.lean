/- What is proved here: contracts of functions and plain facts, several texts in one; each one says ahead what it proves, and its conditions. -/
import Derived.RangeFuncNested
import Derived.OrdersIn
import Derived.Test.YthlcmlngmcoknaaC01
/- What is proved here: inside a fence, a region that draws its order, by what is known behind each operation; and a loop over an iterator that stores into old memory. Conditions: as each theorem says. -/
namespace Go.Proofs.Ythlcmlngmcoknaa
open Go.RowKit

/-- Blocks below D lie as they lay, but one. -/
structure KeepD (D b7 : Nat) (W W' : World) : Prop where
  os : W'.os = W.os
  tape : W'.tape = W.tape
  output : W'.output = W.output
  size : W.heap.size ≤ W'.heap.size
  block : ∀ b, b < D → b ≠ b7 → W'.heap[b]? = W.heap[b]?
theorem KeepD.refl (D b7 : Nat) (W : World) : KeepD D b7 W W := ⟨rfl, rfl, rfl, Nat.le_refl _, fun _ _ _ => rfl⟩
theorem KeepD.trans {D b7 : Nat} {X Y Z : World} (h : KeepD D b7 X Y) (k : KeepD D b7 Y Z) : KeepD D b7 X Z :=
  ⟨k.os.trans h.os, k.tape.trans h.tape, k.output.trans h.output, Nat.le_trans h.size k.size, fun b hb hn => (k.block b hb hn).trans (h.block b hb hn)⟩
theorem KeepD.of_below {D b7 : Nat} {X Y : World} (h : Below D X Y) : KeepD D b7 X Y := ⟨h.os, h.tape, h.output, h.size, fun b hb _ => h.block b hb⟩
theorem KeepD.setCell {D b7 : Nat} {X Y : World} (h : KeepD D b7 X Y) {p : Addr} (hp : D ≤ p.block ∨ p.block = b7) (v : Value) : KeepD D b7 X (Y.setCell p v) :=
  h.trans ⟨rfl, rfl, rfl, by show _ ≤ (Y.heap.modify _ _).size; rw [Array.size_modify]; exact Nat.le_refl _, fun b hb hn => Below.heap_setCell Y p v b (by omega)⟩
theorem KeepD.putObj {D b7 : Nat} {X Y : World} (h : KeepD D b7 X Y) {l : Nat} (hl : D ≤ l) (o : Obj) : KeepD D b7 X (Y.putObj l o) :=
  h.trans ⟨rfl, rfl, rfl, by simp, fun b hb _ => World.putObj_heap_other (by omega)⟩
theorem KeepD.own {D b7 : Nat} {X Y : World} (h : KeepD D b7 X Y) {b : Nat} {T : TypeId} {cs : List Value} (ho : Own X b T cs) (hb : b < D) (hn : b ≠ b7) : Own Y b T cs := (h.block b hb hn).trans ho
theorem KeepD.below {D b7 : Nat} {w0 X Y : World} (h : KeepD D b7 X Y) (hb : Below w0.heap.size w0 X) (h1 : w0.heap.size ≤ D) (h2 : w0.heap.size ≤ b7) : Below w0.heap.size w0 Y :=
  ⟨h.os.trans hb.os, h.tape.trans hb.tape, h.output.trans hb.output, Nat.le_trans hb.size h.size, fun b hlt => (h.block b (by omega) (by omega)).trans (hb.block b hlt)⟩

section
variable {F : Fence} {n : Nat} {P : Program} {ops : Array Oper} {Q : Exit → Act → World → Prop}
def lowB (ops : Array Oper) : Bool := (List.range ops.size).all fun i => match ops[i]? with | some o => o.after.all (fun e => decide (e.on < i)) | none => true
theorem lowB_spec (h : lowB ops = true) {i : Nat} {o : Oper} (ho : ops[i]? = some o) : ∀ e ∈ o.after, e.on < i := fun e he => by
  have hi : i < ops.size := (Array.getElem?_eq_some_iff.1 ho).1
  have := List.all_eq_true.1 h i (List.mem_range.2 hi)
  simp only [ho] at this
  have := Array.all_eq_true'.1 this e he
  simpa using this
theorem anyIn_inv (hlow : lowB ops = true) (J : Array Bool → Act → World → Prop)
    (hstep : ∀ listed a w, J listed a w → ∀ i ∈ Region.ready .any ops listed, wpOpIn F n P ops Q i (fun a2 w2 => J (listed.setIfInBounds i true) a2 w2) a w)
    (hend : ∀ listed a w, (∀ i, i < ops.size → listed.getD i true = true) → J listed a w → Q .normal a w) :
    ∀ (m : Nat) (U : List Nat) (listed : Array Bool) (a : Act) (w : World), U.length = m → U.Nodup → listed.size = ops.size → (∀ i, i ∈ U ↔ i < ops.size ∧ listed.getD i true = false) → J listed a w → wpAnyIn F n P .any ops Q m listed a w := by
  intro m
  induction m with
  | zero =>
    intro U listed a w hU _ hsz hm hJ
    have hU0 : U = [] := List.length_eq_zero_iff.1 hU
    subst hU0
    have all : ∀ i, i < ops.size → listed.getD i true = true := fun i hi => by
      cases hb : listed.getD i true with
      | true => rfl
      | false => exact absurd ((hm i).2 ⟨hi, hb⟩) (by simp)
    refine ⟨List.eq_nil_iff_forall_not_mem.2 fun i hi => ?_, hend listed a w all hJ⟩
    obtain ⟨hun, o, ho, _⟩ := mem_ready.1 hi
    have := all i (Array.getElem?_eq_some_iff.1 ho).1
    rw [hun] at this; cases this
  | succ m ih =>
    intro U listed a w hU hn hsz hm hJ
    refine ⟨fun h0 => ?_, fun i hi => ?_⟩
    · exfalso
      have key : ∀ i, i ∈ U → ∃ j, j ∈ Region.ready .any ops listed := by
        intro i
        induction i using Nat.strongRecOn with
        | ind i ihi =>
          intro hi
          obtain ⟨h1, h2⟩ := (hm i).1 hi
          obtain ⟨o, ho⟩ : ∃ o, ops[i]? = some o := ⟨_, Array.getElem?_eq_getElem h1⟩
          by_cases hall : ∀ e ∈ o.after, Region.binds .any e = true → listed.getD e.on false = true
          · exact ⟨i, mem_ready.2 ⟨h2, o, ho, hall⟩⟩
          · have : ∃ e, e ∈ o.after ∧ Region.binds .any e = true ∧ ¬ listed.getD e.on false = true := by
              apply Classical.byContradiction
              intro hno
              exact hall fun e he hb => Classical.byContradiction fun hx => hno ⟨e, he, hb, hx⟩
            obtain ⟨e, he, _, hx⟩ := this
            have hlt := lowB_spec hlow ho e he
            refine ihi e.on hlt ((hm e.on).2 ⟨by omega, ?_⟩)
            have hs : e.on < listed.size := by omega
            simp [hs] at hx ⊢
            exact hx
      cases U with
      | nil => cases hU
      | cons u U =>
        obtain ⟨j, hj⟩ := key u (by simp)
        rw [h0] at hj; cases hj
    · obtain ⟨hun, o, ho, _⟩ := mem_ready.1 hi
      have hlt : i < ops.size := (Array.getElem?_eq_some_iff.1 ho).1
      have hiU : i ∈ U := (hm i).2 ⟨hlt, hun⟩
      refine wpOpIn_mono (fun a' w' hJ' => ih (U.erase i) _ a' w' ?_ (hn.erase i) (by simpa using hsz) (fun j => ?_) hJ') (hstep listed a w hJ i hi)
      · rw [List.length_erase_of_mem hiU, hU]; rfl
      · rw [hn.mem_erase_iff, hm j]
        by_cases hij : i = j
        · subst hij
          have hs : i < listed.size := by omega
          simp [hs]
        · rw [getD_set_ne true hij]
          constructor
          · intro h; exact h.2
          · intro h; exact ⟨fun e => hij e.symm, h⟩
/-- **A region that draws its order, inside a fence, by what is known behind each operation.** -/
theorem wpIn_region_inv {id : Nat} {a : Act} {w : World} (hm : P.follows .mixedOrders = true) (hlow : lowB ops = true) (J : Array Bool → Act → World → Prop)
    (h0 : J (Array.replicate ops.size false) a { w with drawn := w.drawn + 1 })
    (hstep : ∀ listed a w, J listed a w → ∀ i ∈ Region.ready .any ops listed, wpOpIn F n P ops Q i (fun a2 w2 => J (listed.setIfInBounds i true) a2 w2) a w)
    (hend : ∀ listed a w, (∀ i, i < ops.size → listed.getD i true = true) → J listed a w → Q .normal a w) : (Code.region id ops true).wpIn F n P Q a w := by
  refine wpIn_region_any hm (anyIn_inv hlow J hstep hend ops.size (List.range ops.size) _ a _ (List.length_range) List.nodup_range (by simp) (fun i => ?_) h0)
  simp only [List.mem_range]
  constructor
  · intro h
    exact ⟨h, by simp [h]⟩
  · exact fun h => h.1

/-- The record of a loop over an iterator. -/
def lrec (fn : FuncId) (tmps : Array Value) (ps : Array Tmp) (assign body : Code) (D : Nat) (st : LoopState) (pe : Option Code) : Loop :=
  { state := st, pending := pe, fn, tmps, params := ps, assign, body, defers := D }
/-- **A loop over an iterator that is known by one call.** -/
theorem wpIn_rangeFunc_mem {g : Operand} {ps : Array Tmp} {assign body : Code} {a : Act} {w : World} (hro : F.round = none) (h1 : 1 ≤ n) {gf : Nat} {lb : Array Value} (hg : a.eval g = .func (.func gf) #[] lb) (hFg : F.fn gf)
    (eg : ∀ args w, (callFunc gf args).run P w = .ok (.enter gf args) w) (I : World → Prop) (Ix : Code → World → Prop)
    (hI : ∀ W o, I W → I (W.putObj (w.heap.size + 1) o)) (hIx : ∀ c W o, Ix c W → Ix c (W.putObj (w.heap.size + 1) o))
    (hcall : ∀ fn, F.fn fn → CallsIn F (n - 1) P gf (#[.func (.yield (w.heap.size + 1)) #[] #[]] ++ lb) ((w.alloc (.deferred (some []))).alloc (.loop (lrec fn a.tmps ps assign body w.heap.size .ready none)))
      (fun e W' => (∃ v, e = .returned v) ∧ W'.heap[w.heap.size]? = some (.deferred (some [])) ∧ ((I W' ∧ W'.heap[w.heap.size + 1]? = some (.loop (lrec fn a.tmps ps assign body w.heap.size .ready none))) ∨
        (∃ c, Ix c W' ∧ W'.heap[w.heap.size + 1]? = some (.loop (lrec fn a.tmps ps assign body w.heap.size .done (some c)))))))
    (hdone : ∀ W, I W → W.heap[w.heap.size]? = some (.deferred (some [])) → Q .normal { a with defers := { target := .collected w.heap.size, args := #[] } :: a.defers } W)
    (hstop : ∀ c W, Ix c W → W.heap[w.heap.size]? = some (.deferred (some [])) → c.wpIn F n P Q { a with defers := { target := .collected w.heap.size, args := #[] } :: a.defers } W) :
    (Code.rangeFunc g ps assign body).wpIn F n P Q a w := by
  refine wpIn_rangeFunc ?_
  intro fn hfn
  rw [hro]
  obtain ⟨W1, hW1⟩ : ∃ W1, W1 = (w.alloc (.deferred (some []))).alloc (.loop (lrec fn a.tmps ps assign body w.heap.size .ready none)) := ⟨_, rfl⟩
  have hc := hcall fn hfn
  rw [← hW1] at hc
  refine ⟨w.heap.size + 1, [{ target := .collected w.heap.size, args := #[] }], W1, { target := .fn (.func gf) lb, args := #[.func (.yield (w.heap.size + 1)) #[] #[]] }, W1, gf,
    #[.func (.yield (w.heap.size + 1)) #[] #[]] ++ lb, W1, by rw [hW1]; exact run_enterLoop_outer _ _ _ _ _, ?_, ?_, ?_, fun _ => h1, ?_⟩
  · simp only [resolve, hg]
    simp [go_sem]
  · intro f' hf'; simp [Target.leads] at hf'; subst hf'; exact hFg
  · simp [invoke, go_sem, eg]
  · refine hc.mono ?_
    rintro e W2 ⟨⟨v, rfl⟩, hk, (⟨hi, hl⟩ | ⟨c, hi, hl⟩)⟩
    · exact ⟨none, _, run_endLoop (P := P) hl (by simp [lrec]), hdone _ (hI _ _ hi) ((World.putObj_heap_other (by omega)).trans hk)⟩
    · exact ⟨some c, _, run_endLoop (P := P) hl (by simp [lrec]), hstop c _ (hIx c _ _ hi) ((World.putObj_heap_other (by omega)).trans hk)⟩
/-- **A round.** -/
theorem yieldAt_mem {l : Nat} {W : World} {fn : FuncId} {tmps : Array Value} {ps : Array Tmp} {assign body : Code} {D : Nat} {args : Array Value} {R : Ending → World → Prop}
    (hl : W.heap[l]? = some (.loop (lrec fn tmps ps assign body D .ready none))) (hs : args.size = ps.size) (hfn : F.fn fn)
    (h : assign.wpIn (F.inRound l) n P (Exit.then (fun a1 w1 => w1.heap[l]? = some (.loop (lrec fn tmps ps assign body D .ready none)) ∧ body.wpIn (F.inRound l) n P (roundPost P l R) a1 (w1.putObj l (.loop (lrec fn tmps ps assign body D .busy none)))) (fun _ _ _ => False))
      { tmps := (ps.zip args).foldl (fun t (p, v) => t.setIfInBounds p v) tmps, defers := [] } W) : YieldAt F n P l args W R := by
  refine ⟨fn, _, assign, body, run_yield hl hs, roundIn_of_wpIn hfn (wpIn_mono h ?_)⟩
  intro e a1 w1 hq
  cases e with
  | normal =>
    obtain ⟨h1, h2⟩ := hq
    exact ⟨_, run_beginRound h1 rfl, h2⟩
  | ret => exact hq
  | exit id => exact hq
  | goto t => exact hq
  | panic ch => exact hq
  | outgrown => exact hq
end
end Go.Proofs.Ythlcmlngmcoknaa
