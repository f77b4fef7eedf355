/- What is proved here: contracts of functions and plain facts, several texts in one; each one says ahead what it proves, and its conditions. -/
import Derived.WalkKit
import Derived.WalkSpells
import Derived.WalkLawsBesides
import Derived.Deep.QuietTactic
import Derived.BigQuiet
import Derived.Deep.RegionHeld3
import Derived.Deep.DrawnRows
import Derived.Deep.AppendLies
import Derived.Lib.Hide
import Derived.LoopN
import Derived.Maps.AppendAt
/- What is proved here: small general facts used by all the walks of this seat (growing worlds, quiet regions over a growing world, slices that hold known cells). No condition. -/
namespace Go.Proofs.Ythlcmlngmcoknaa
open Go.RowKit

theorem ret_int {k : IntKind} {a b : Int} (h : a = b) : Ending.returned (.int k a) = .returned (.int k b) := by rw [h]
theorem ret_bool {a b : Bool} (h : a = b) : Ending.returned (.bool a) = .returned (.bool b) := by rw [h]

/-- w after something that changed no block of w. -/
noncomputable def grow (w e : World) : World := open Classical in if Below w.heap.size w e then e else w
theorem below_grow (w e : World) : Below w.heap.size w (grow w e) := by
  unfold grow; split
  · assumption
  · exact Below.refl _ _
theorem grow_of {w w' : World} (h : Below w.heap.size w w') : ∃ e, w' = grow w e := ⟨w', by unfold grow; rw [if_pos h]⟩
theorem below_to {w w1 w2 : World} (h1 : Below w.heap.size w w1) (h2 : Below w1.heap.size w1 w2) : Below w.heap.size w w2 :=
  h1.trans (h2.mono h1.size)
theorem below_cell {w w' : World} (hb : Below w.heap.size w w') {a : Addr} {v : Value} (h : w.cell? a = some v) : w'.cell? a = some v :=
  (hb.cell (World.block_lt_of_cell? w a h)).trans h
theorem grow_cell {w : World} {a : Addr} {v : Value} (h : w.cell? a = some v) : ∀ e, (grow w e).cell? a = some v :=
  fun e => below_cell (below_grow w e) h
theorem below_heap {w w' : World} (hb : Below w.heap.size w w') {b : Nat} {o : Obj} (h : w.heap[b]? = some o) : w'.heap[b]? = some o := by
  rw [hb.block b (Array.getElem?_eq_some_iff.1 h).1]; exact h
theorem below_drewN (w : World) (n : Nat) : Below w.heap.size w (w.drewN n) := ⟨rfl, rfl, rfl, Nat.le_refl _, fun _ _ => rfl⟩

theorem ba1 (w : World) (o1 : Obj) : Below w.heap.size w (w.alloc o1) := (Below.refl _ _).alloc (Nat.le_refl _) _
theorem ba2 (w : World) (o1 o2 : Obj) : Below w.heap.size w ((w.alloc o1).alloc o2) := (ba1 w o1).alloc (by simp) _
theorem ba3 (w : World) (o1 o2 o3 : Obj) : Below w.heap.size w (((w.alloc o1).alloc o2).alloc o3) := (ba2 w o1 o2).alloc (by simp; omega) _
theorem ba4 (w : World) (o1 o2 o3 o4 : Obj) : Below w.heap.size w ((((w.alloc o1).alloc o2).alloc o3).alloc o4) := (ba3 w o1 o2 o3).alloc (by simp; omega) _
theorem bd {B : Nat} {w w' : World} (h : Below B w w') (n : Nat) : Below B w (w'.drewN n) := ⟨h.os, h.tape, h.output, h.size, h.block⟩

/-- What a growth gives the walk: old cells and marks read as before. -/
theorem bcell {W w1 : World} (hb : Below W.heap.size W w1) : (∀ b o, b < W.heap.size → w1.cell? ⟨b, o, none⟩ = W.cell? ⟨b, o, none⟩) ∧ (∀ b o, b < W.heap.size → w1.frozen? ⟨b, o, none⟩ = W.frozen? ⟨b, o, none⟩) :=
  ⟨fun b o h => hb.cell (p := ⟨b, o, none⟩) h, fun b o h => hb.frozen (p := ⟨b, o, none⟩) h⟩
theorem bsz1 {w w1 : World} {o1 : Obj} (hb : Below (w.alloc o1).heap.size (w.alloc o1) w1) : w.heap.size < w1.heap.size := by
  have := hb.size; simp at this; omega
theorem bsz2 {w w1 : World} {o1 o2 : Obj} (hb : Below ((w.alloc o1).alloc o2).heap.size ((w.alloc o1).alloc o2) w1) : w.heap.size < w1.heap.size ∧ w.heap.size + 1 < w1.heap.size := by
  have := hb.size; simp at this; omega
theorem bsz3 {w w1 : World} {o1 o2 o3 : Obj} (hb : Below (((w.alloc o1).alloc o2).alloc o3).heap.size (((w.alloc o1).alloc o2).alloc o3) w1) : w.heap.size < w1.heap.size ∧ w.heap.size + 1 < w1.heap.size ∧ w.heap.size + 1 + 1 < w1.heap.size := by
  have := hb.size; simp at this; omega
theorem bsz4 {w w1 : World} {o1 o2 o3 o4 : Obj} (hb : Below ((((w.alloc o1).alloc o2).alloc o3).alloc o4).heap.size ((((w.alloc o1).alloc o2).alloc o3).alloc o4) w1) : w.heap.size < w1.heap.size ∧ w.heap.size + 1 < w1.heap.size ∧ w.heap.size + 1 + 1 < w1.heap.size ∧ w.heap.size + 1 + 1 + 1 < w1.heap.size := by
  have := hb.size; simp at this; omega
theorem lt_below {w w1 : World} {k : Nat} (hb : Below w.heap.size w w1) (h : k < w.heap.size) : k < w1.heap.size := Nat.lt_of_lt_of_le h hb.size

section
variable {P : Program} {id : Nat} {Q : Exit → Act → World → Prop} {a : Act} {w : World} {l : List Oper}
/-- A region that draws its order, whose operations read old memory and whose calls make new memory alone: one walk of the text's order. -/
theorem wp_region_grow (hm : P.follows .mixedOrders = true) (hB : Region.lexB .any l.toArray = true)
    (h : wpQuiet P l.toArray (fun w' => ∃ e, w' = grow w e) (fun a' => ∀ w', (∃ e, w' = grow w e) → Q .normal a' w') l a) : (Code.region id l.toArray true).wp P Q a w :=
  wp_region_quiet (C := fun w' => ∃ e, w' = grow w e) hm hB (grow_of ((Below.refl w.heap.size w).drew)) (by simpa using h)
end
theorem Calls.grow_of {P : Program} {f : FuncId} {args : Array Value} {w e : World} {v : Value}
    (h : Calls P f args (grow w e) fun en w' => en = .returned v ∧ Below (grow w e).heap.size (grow w e) w') : Calls P f args (grow w e) fun en w'' => en = .returned v ∧ ∃ e2, w'' = grow w e2 :=
  h.mono fun _ _ ⟨he, hb⟩ => ⟨he, @Go.Proofs.Ythlcmlngmcoknaa.grow_of w _ (below_to (below_grow w e) hb)⟩
theorem Calls.grow_of_drew {P : Program} {f : FuncId} {args : Array Value} {w e : World} {v : Value}
    (h : Calls P f args (grow w e) fun en w' => en = .returned v ∧ ∃ n, w' = (grow w e).drewN n) : Calls P f args (grow w e) fun en w'' => en = .returned v ∧ ∃ e2, w'' = grow w e2 :=
  h.mono fun _ w' ⟨he, n, hn⟩ => ⟨he, @Go.Proofs.Ythlcmlngmcoknaa.grow_of w w' (by rw [hn]; exact below_to (below_grow w e) (below_drewN _ n))⟩
theorem Calls.grow_of_same {P : Program} {f : FuncId} {args : Array Value} {w e : World} {v : Value}
    (h : Calls P f args (grow w e) fun en w' => en = .returned v ∧ grow w e = w') : Calls P f args (grow w e) fun en w'' => en = .returned v ∧ ∃ e2, w'' = grow w e2 :=
  h.mono fun _ w' ⟨he, hn⟩ => ⟨he, ⟨e, hn.symm⟩⟩

theorem Calls.quiet_same {P : Program} {f : FuncId} {args : Array Value} {w : World} {n : Nat} {v : Value}
    (h : Calls P f args (w.drewN n) fun e w' => e = .returned v ∧ w.drewN n = w') : Calls P f args (w.drewN n) fun e w'' => e = .returned v ∧ ∃ m, w'' = w.drewN m :=
  h.mono fun _ _ ⟨he, hm⟩ => ⟨he, n, hm.symm⟩

/-- The slice value v has n elements, and its cells hold cs (an element may take several cells). -/
def Sl (w : World) (v : Value) (n : Nat) (cs : List Value) : Prop :=
  ∃ (ad : Option Addr) (cap : Nat), v = .slice ad n cap ∧ n ≤ cap ∧ n ≤ 9223372036854775807 ∧ ∀ i x, cs[i]? = some x → ∃ b off, ad = some ⟨b, off, none⟩ ∧ w.cell? ⟨b, off + i, none⟩ = some x
theorem Sl.below {w w' : World} {v : Value} {n : Nat} {cs : List Value} (h : Sl w v n cs) (hb : Below w.heap.size w w') : Sl w' v n cs := by
  obtain ⟨ad, cap, h1, h2, h3, h4⟩ := h
  refine ⟨ad, cap, h1, h2, h3, fun i x hx => ?_⟩
  obtain ⟨b, off, e, hc⟩ := h4 i x hx
  exact ⟨b, off, e, below_cell hb hc⟩
theorem Sl.grow {w : World} {v : Value} {n : Nat} {cs : List Value} (h : Sl w v n cs) (e : World) : Sl (grow w e) v n cs := h.below (below_grow w e)
/-- A slice of bools. -/
def SB (w : World) (v : Value) (xs : List Bool) : Prop := Sl w v xs.length (xs.map Value.bool)
/-- A slice of ints. -/
def SI (w : World) (v : Value) (xs : List Int) : Prop := Sl w v xs.length (xs.map (Value.int .i64))
theorem SB.below {w w' : World} {v : Value} {xs : List Bool} (h : SB w v xs) (hb : Below w.heap.size w w') : SB w' v xs := Sl.below h hb
theorem SI.below {w w' : World} {v : Value} {xs : List Int} (h : SI w v xs) (hb : Below w.heap.size w w') : SI w' v xs := Sl.below h hb
theorem SB.grow {w : World} {v : Value} {xs : List Bool} (h : SB w v xs) (e : World) : SB (grow w e) v xs := Sl.grow h e
theorem SI.grow {w : World} {v : Value} {xs : List Int} (h : SI w v xs) (e : World) : SI (grow w e) v xs := Sl.grow h e
theorem SB.open {w : World} {v : Value} {xs : List Bool} (h : SB w v xs) : ∃ ad cap, v = .slice ad xs.length cap ∧ xs.length ≤ cap ∧ xs.length ≤ 9223372036854775807 ∧
    Hid (∀ i (h : i < xs.length), ∃ b off, ad = some ⟨b, off, none⟩ ∧ w.cell? ⟨b, off + i, none⟩ = some (.bool xs[i])) := by
  obtain ⟨ad, cap, h1, h2, h3, h4⟩ := h
  exact ⟨ad, cap, h1, h2, h3, fun i hi => h4 i _ (by simp [hi])⟩
theorem SI.open {w : World} {v : Value} {xs : List Int} (h : SI w v xs) : ∃ ad cap, v = .slice ad xs.length cap ∧ xs.length ≤ cap ∧ xs.length ≤ 9223372036854775807 ∧
    Hid (∀ i (h : i < xs.length), ∃ b off, ad = some ⟨b, off, none⟩ ∧ w.cell? ⟨b, off + i, none⟩ = some (.int .i64 xs[i])) := by
  obtain ⟨ad, cap, h1, h2, h3, h4⟩ := h
  exact ⟨ad, cap, h1, h2, h3, fun i hi => h4 i _ (by simp [hi])⟩

/-- Block g is a row of the call's own, of elements of type T, and holds the cells cs. -/
def Own (w : World) (g : Nat) (T : TypeId) (cs : List Value) : Prop := w.heap[g]? = some (.cells cs.toArray T (0, 0))
theorem Own.cell {w : World} {g : Nat} {T : TypeId} {cs : List Value} (h : Own w g T cs) (k : Nat) (hk : k < cs.length) : w.cell? ⟨g, k, none⟩ = some cs[k] := by
  unfold Own at h; simp [World.cell?, h, hk]
theorem Own.free {w : World} {g : Nat} {T : TypeId} {cs : List Value} (h : Own w g T cs) (k : Nat) : w.frozen? ⟨g, k, none⟩ = false := by
  unfold Own at h; simp [World.frozen?, h]
theorem Own.lt {w : World} {g : Nat} {T : TypeId} {cs : List Value} (h : Own w g T cs) : g < w.heap.size := (Array.getElem?_eq_some_iff.1 h).1
theorem Own.below {w w' : World} {g : Nat} {T : TypeId} {cs : List Value} (h : Own w g T cs) (hb : Below w.heap.size w w') : Own w' g T cs := below_heap hb h
theorem Own.set {w : World} {g : Nat} {T : TypeId} {cs : List Value} (h : Own w g T cs) (k : Nat) (v : Value) : Own (w.setCell ⟨g, k, none⟩ v) g T (cs.set k v) := by
  unfold Own at *
  simp [World.setCell, Array.getElem?_modify, h]
theorem Own.other {w : World} {g g' : Nat} {T : TypeId} {cs : List Value} (h : Own w g T cs) (hne : g ≠ g') (k : Nat) (v : Value) : Own (w.setCell ⟨g', k, none⟩ v) g T cs := by
  unfold Own at *
  rw [Below.heap_setCell _ _ _ _ (by simpa using hne)]; exact h
theorem Own.alloc {w : World} {g : Nat} {T : TypeId} {cs : List Value} (h : Own w g T cs) (o : Obj) : Own (w.alloc o) g T cs := h.below (ba1 w o)
theorem Own.drewN {w : World} {g : Nat} {T : TypeId} {cs : List Value} (h : Own w g T cs) (n : Nat) : Own (w.drewN n) g T cs := h
theorem Own.drew {w : World} {g : Nat} {T : TypeId} {cs : List Value} (h : Own w g T cs) : Own w.drew g T cs := h
theorem Own.new (w : World) (T : TypeId) (cs : List Value) : Own (w.alloc (.cells cs.toArray T (0, 0))) w.heap.size T cs := by
  unfold Own; exact heap_alloc_new w _
theorem cell_set {w : World} {a : Addr} {v : Value} (h : w.cell? a = some v) {p : Addr} (hne : a.block ≠ p.block) (u : Value) : (w.setCell p u).cell? a = some v := by
  rw [← h]; exact World.cell?_of_block (Below.heap_setCell _ _ _ _ hne)
theorem frozen_set {w : World} {a : Addr} {v : Bool} (h : w.frozen? a = v) {p : Addr} (hne : a.block ≠ p.block) (u : Value) : (w.setCell p u).frozen? a = v := by
  rw [← h]; exact World.frozen?_of_block (Below.heap_setCell _ _ _ _ hne)
theorem Own.sl {w : World} {g : Nat} {T : TypeId} {cs : List Value} {n : Nat} (h : Own w g T cs) (cap : Nat) (hc : n ≤ cap) (hm : n ≤ 9223372036854775807) (ds : List Value) (hd : ds <+: cs) : Sl w (.slice (some ⟨g, 0, none⟩) n cap) n ds := by
  refine ⟨_, cap, rfl, hc, hm, fun i x hx => ⟨g, 0, rfl, ?_⟩⟩
  obtain ⟨r, rfl⟩ := hd
  have hi : i < ds.length := by
    rcases Nat.lt_or_ge i ds.length with h | h
    · exact h
    · simp [h] at hx
  rw [Nat.zero_add, h.cell i (by simp; omega)]
  rw [List.getElem_append_left hi]
  simpa [hi] using hx

theorem own_first (w : World) (T : TypeId) (cs : List Value) (o : Obj) : Own ((w.alloc (.cells cs.toArray T (0, 0))).alloc o) w.heap.size T cs := (Own.new w T cs).alloc o
theorem own_second (w : World) (T : TypeId) (cs : List Value) (o : Obj) : Own ((w.alloc o).alloc (.cells cs.toArray T (0, 0))) (w.heap.size + 1) T cs := by
  have h := Own.new (w.alloc o) T cs
  rw [show (w.alloc o).heap.size = w.heap.size + 1 from by simp] at h
  exact h

/-- One more element of a row that is filled from the left. -/
theorem fill_set {α : Type} (Z : List α) (d : α) (f : α → Value) (k n : Nat) (hZ : Z.length = n) (hk : k < n) (z : α) (hz : Z[k]? = some z) :
    ((Z.take k ++ List.replicate (n - k) d).map f).set k (f z) = (Z.take (k + 1) ++ List.replicate (n - (k + 1)) d).map f := by
  apply List.ext_getElem?
  intro i
  have hz' : Z[k]'(by omega) = z := by simpa [show k < Z.length by omega] using hz
  rw [List.getElem?_set]
  split
  · rename_i h; subst h
    rw [if_pos (by simp; omega), List.getElem?_map, List.getElem?_append_left (by simp; omega)]
    simp [List.getElem?_take, hz]
  · rename_i h
    rw [List.getElem?_map, List.getElem?_map]
    congr 1
    rcases Nat.lt_or_ge i k with h1 | h1
    · rw [List.getElem?_append_left (by simp; omega), List.getElem?_append_left (by simp; omega), List.getElem?_take_of_lt h1, List.getElem?_take_of_lt (by omega)]
    · rw [List.getElem?_append_right (by simp; omega), List.getElem?_append_right (by simp; omega)]
      simp only [List.getElem?_replicate, List.length_take]
      congr 1
      simp only [eq_iff_iff]; omega
theorem frozen_below {w w' : World} (hb : Below w.heap.size w w') {b o : Nat} {x : Bool} (hlt : b < w.heap.size) (h : w.frozen? ⟨b, o, none⟩ = x) : w'.frozen? ⟨b, o, none⟩ = x :=
  (hb.frozen (p := ⟨b, o, none⟩) hlt).trans h

/-- A slice value that lies from block B on, or nowhere. -/
def Frv (B : Nat) : Value → Prop
  | .slice (some a) _ _ => B ≤ a.block
  | _ => True
theorem Frv.mono {B B' : Nat} {v : Value} (h : Frv B v) (hB : B' ≤ B) : Frv B' v := by
  unfold Frv at *; split at h
  · exact Nat.le_trans hB h
  · trivial
theorem Sl.low {w : World} {v : Value} {n : Nat} {cs : List Value} {B : Nat} (h : Sl w v n cs) (hf : Frv B v) {p : Addr} (hp : p.block < B) (x : Value) : Sl (w.setCell p x) v n cs := by
  obtain ⟨ad, cap, h1, h2, h3, h4⟩ := h
  refine ⟨ad, cap, h1, h2, h3, fun i y hy => ?_⟩
  obtain ⟨b, off, e, hc⟩ := h4 i y hy
  refine ⟨b, off, e, cell_set hc ?_ x⟩
  subst e h1
  simp only [Frv] at hf
  simp only
  omega
theorem SB.low {w : World} {v : Value} {xs : List Bool} {B : Nat} (h : SB w v xs) (hf : Frv B v) {p : Addr} (hp : p.block < B) (x : Value) : SB (w.setCell p x) v xs := Sl.low h hf hp x
theorem SI.low {w : World} {v : Value} {xs : List Int} {B : Nat} (h : SI w v xs) (hf : Frv B v) {p : Addr} (hp : p.block < B) (x : Value) : SI (w.setCell p x) v xs := Sl.low h hf hp x

end Go.Proofs.Ythlcmlngmcoknaa

/- What is proved here: a region that draws its order may be walked so: first the operations that look at no memory, then those that read old memory, then the others, which follow one another in one forced order. No condition but the Bool that is asked. -/
namespace Go.Proofs.Ythlcmlngmcoknaa
open Go.RowKit

/-- What a primitive operation does to memory: it makes new blocks and reads, no more. -/
def Gr {α : Type} : Sem α → Prop
  | .pure _ => True
  | .load _ _ k => ∀ v, Gr (k v)
  | .store _ _ _ _ => False
  | .new _ k => ∀ r, Gr (k r)
  | .shape _ k => ∀ s, Gr (k s)
  | .freeze _ _ _ => False
  | .frozen _ k => ∀ b, Gr (k b)
  | .getObj _ k => ∀ o, Gr (k o)
  | .setObj _ _ _ => False
  | .choose _ k => ∀ n, Gr (k n)
  | .sys _ _ => False
  | .program k => ∀ p, Gr (k p)
  | .mark _ k => Gr k
  | .halt _ => True

theorem Gr.bind {α β : Type} : ∀ (s : Sem α) (f : α → Sem β), Gr s → (∀ x, Gr (f x)) → Gr (s.bind f)
  | .pure a, f, _, hf => hf a
  | .load _ _ k, f, h, hf => fun v => Gr.bind (k v) f (h v) hf
  | .store _ _ _ _, _, h, _ => h.elim
  | .new _ k, f, h, hf => fun r => Gr.bind (k r) f (h r) hf
  | .shape _ k, f, h, hf => fun r => Gr.bind (k r) f (h r) hf
  | .freeze _ _ _, _, h, _ => h.elim
  | .frozen _ k, f, h, hf => fun r => Gr.bind (k r) f (h r) hf
  | .getObj _ k, f, h, hf => fun r => Gr.bind (k r) f (h r) hf
  | .setObj _ _ _, _, h, _ => h.elim
  | .choose _ k, f, h, hf => fun r => Gr.bind (k r) f (h r) hf
  | .sys _ _, _, h, _ => h.elim
  | .program k, f, h, hf => fun r => Gr.bind (k r) f (h r) hf
  | .mark _ k, f, h, hf => Gr.bind k f h hf
  | .halt _, _, _, _ => trivial

theorem Gr.run {α : Type} {P : Program} : ∀ (s : Sem α) (w w' : World) (x : α), Gr s → s.run P w = .ok x w' → Below w.heap.size w w'
  | .pure a, w, w', x, _, h => by simp only [Sem.run] at h; cases h; exact Below.refl _ _
  | .load m a k, w, w', x, hg, h => by
    simp only [Sem.run] at h
    split at h
    · exact Gr.run _ _ _ _ (hg _) h
    · split at h
      · exact Gr.run _ _ _ _ (hg _) h
      · cases h
  | .store _ _ _ _, _, _, _, hg, _ => hg.elim
  | .new o k, w, w', x, hg, h => by
    simp only [Sem.run] at h
    exact below_to (ba1 w o) (Gr.run _ _ _ _ (hg _) h)
  | .shape _ k, w, w', x, hg, h => by simp only [Sem.run] at h; exact Gr.run _ _ _ _ (hg _) h
  | .freeze _ _ _, _, _, _, hg, _ => hg.elim
  | .frozen _ k, w, w', x, hg, h => by simp only [Sem.run] at h; exact Gr.run _ _ _ _ (hg _) h
  | .getObj _ k, w, w', x, hg, h => by
    simp only [Sem.run] at h
    split at h
    · cases h
    · exact Gr.run _ _ _ _ (hg _) h
    · cases h
  | .setObj _ _ _, _, _, _, hg, _ => hg.elim
  | .choose q k, w, w', x, hg, h => by
    simp only [Sem.run] at h
    split at h
    · exact Gr.run _ _ _ _ (hg _) h
    · exact below_to (below_drewN w 1) (Gr.run _ _ _ _ (hg _) h)
  | .sys _ _, _, _, _, hg, _ => hg.elim
  | .program k, w, w', x, hg, h => by simp only [Sem.run] at h; exact Gr.run _ _ _ _ (hg _) h
  | .mark _ k, w, w', x, hg, h => by simp only [Sem.run] at h; exact Gr.run k _ _ _ hg h
  | .halt _, _, _, _, _, h => by simp only [Sem.run] at h; cases h

theorem gr_typeInfo (t : TypeId) : Gr (typeInfo t) := by
  unfold typeInfo
  refine Gr.bind _ _ (fun p => trivial) fun p => ?_
  split <;> trivial
theorem gr_underlying (t : TypeId) : Gr (underlying t) := by
  unfold underlying
  refine Gr.bind _ _ (fun p => trivial) fun p => ?_
  split <;> trivial
theorem gr_zeroValue (t : TypeId) : Gr (zeroValue t) := by
  unfold zeroValue
  refine Gr.bind _ _ (gr_typeInfo t) fun p => ?_
  split <;> trivial
theorem gr_sizeOf (t : TypeId) : Gr (sizeOf t) := by
  unfold sizeOf
  exact Gr.bind _ _ (gr_typeInfo t) fun p => trivial
theorem gr_newRow (t : TypeId) (cs : Array Value) : Gr (newRow t cs) := by
  unfold newRow
  exact Gr.bind _ _ (fun p => trivial) fun p => trivial

/-- The operations that make one new block. -/
def keepB : Op → Bool
  | .alloc _ | .box .. | .buildSlice .. | .makeSlice .. => true
  | _ => false

theorem gr_makeSlice (t : TypeId) (l c : Value) : Gr (Instr.makeSlice t l c) := by
  have hi : ∀ v, Gr (asIntOf v) := fun v => by unfold asIntOf; split <;> trivial
  have hi2 : ∀ v, Gr (asInt v) := fun v => Gr.bind _ _ (hi v) fun _ => trivial
  have hp : ∀ (α : Type) (m : String), Gr (runtimePanic (α := α) (.error m)) := fun α m => Gr.bind _ _ (fun p => trivial) fun p => trivial
  have hc : ∀ q, Gr (choose q) := fun q _ => trivial
  have hr : ∀ n, Gr (askRoom n) := fun n => by unfold askRoom; split <;> trivial
  unfold Instr.makeSlice
  repeat' (first | exact trivial | exact gr_typeInfo _ | exact gr_underlying _ | exact gr_sizeOf _ | exact gr_newRow _ _ | exact gr_zeroValue _ | exact hi2 _ | exact hp _ _ | exact hc _ | exact hr _ | (refine Gr.bind _ _ ?_ (fun _ => ?_)) | (dsimp only) | split)

theorem gr_keep (ρ : Operand → Value) (o : Oper) (h : keepB o.op = true) : Gr (execOp ρ o) := by
  obtain ⟨dst, op, type, pos, after, guard⟩ := o
  cases op <;> simp only [keepB, Bool.false_eq_true] at h
  case alloc t =>
    refine Gr.bind _ _ ?_ fun _ => trivial
    unfold Instr.alloc
    refine Gr.bind _ _ (gr_zeroValue _) fun z => ?_
    exact Gr.bind _ _ (gr_newRow _ _) fun _ => trivial
  case box t v =>
    refine Gr.bind _ _ ?_ fun _ => trivial
    exact Gr.bind _ _ (gr_newRow _ _) fun _ => trivial
  case buildSlice t n ps =>
    refine Gr.bind _ _ ?_ fun _ => trivial
    unfold Instr.buildSlice
    repeat' (first | exact trivial | exact gr_typeInfo _ | exact gr_underlying _ | exact gr_sizeOf _ | exact gr_newRow _ _ | exact gr_zeroValue _ | (refine Gr.bind _ _ ?_ (fun _ => ?_)) | (dsimp only) | split)
  case makeSlice t l c => exact Gr.bind _ _ (gr_makeSlice _ _ _) fun _ => trivial

/-- The operations that hand back a value and are no call of a Go function. -/
def plainB : Op → Bool
  | .move _ | .assign _ | .pick .. | .build .. | .load .. | .binOp .. | .unOp .. | .convert .. | .fieldAddr .. | .field .. | .indexAddr .. | .index .. | .extract .. | .slice .. | .makeFunc .. => true
  | .call { callee := .builtin b, .. } => (match b with | .len | .cap | .max | .min => true | _ => false)
  | _ => false

theorem run_valued {P : Program} {w w' : World} (s : Sem Value) {nx : Next} (h : (s.bind fun x => Sem.pure (Next.value x)).run P w = .ok nx w') : ∃ v, nx = .value v := by
  rw [Sem.run_bind'] at h
  cases hr : s.run P w with
  | ok v w1 => rw [hr] at h; simp only [Result.andThen_ok, Sem.run] at h; cases h; exact ⟨v, rfl⟩
  | halt x w1 => rw [hr] at h; simp at h

theorem plain_run {P : Program} {w w' : World} (ρ : Operand → Value) (o : Oper) (hp : plainB o.op = true) {nx : Next} (h : (execOp ρ o).run P w = .ok nx w') : ∃ v, nx = .value v := by
  obtain ⟨dst, op, type, pos, after, guard⟩ := o
  cases op <;> simp only [plainB, Bool.false_eq_true] at hp
  case call c =>
    obtain ⟨callee, args, argTypes⟩ := c
    cases callee <;> simp only [plainB, Bool.false_eq_true] at hp
    rename_i b
    cases b <;> simp only [Bool.false_eq_true] at hp
    all_goals exact run_valued _ h
  case move => exact ⟨_, by simp only [execOp] at h; exact (by cases h; rfl)⟩
  case assign => exact ⟨_, by simp only [execOp] at h; exact (by cases h; rfl)⟩
  case pick c a b => exact run_valued ((asBool (ρ c)).bind fun t => .pure (if t then ρ a else ρ b)) (by rw [Sem.bind_assoc']; exact h)
  all_goals exact run_valued _ h

section
variable {P : Program} {ops : Array Oper} {Q : Exit → Act → World → Prop} {S : World → Prop} {E : Nat → Bool}

/-- Whatever order is picked from here on; behind an operation that E names, S holds. -/
def wpAnyX (P : Program) (ops : Array Oper) (Q : Exit → Act → World → Prop) (S : World → Prop) (E : Nat → Bool) : Nat → Array Bool → Act → World → Prop
  | 0, listed, a, w => Region.ready .any ops listed = [] ∧ Q .normal a w
  | fuel + 1, listed, a, w =>
    (Region.ready .any ops listed = [] → Q .normal a w) ∧
    ∀ i ∈ Region.ready .any ops listed, wpOp P ops Q i (fun a' w' => (E i = true → S w') ∧ wpAnyX P ops Q S E fuel (listed.setIfInBounds i true) a' w') a w

theorem wpAny_of_X : ∀ (fuel : Nat) (listed : Array Bool) (a : Act) (w : World), wpAnyX P ops Q S E fuel listed a w → wpAny P .any ops Q fuel listed a w
  | 0, _, _, _, h => h
  | fuel + 1, _, _, _, h => ⟨h.1, fun i hi => wpOp_mono (fun a' w' h' => wpAny_of_X fuel _ a' w' h'.2) (h.2 i hi)⟩

/-- Operation j comes after i, by the edges. -/
def afterB (ops : Array Oper) : Nat → Nat → Nat → Bool
  | 0, _, _ => false
  | f + 1, j, i => match ops[j]? with
    | some oj => (oj.after.any fun e => Region.binds .any e && e.on == i) || (oj.after.any fun e => Region.binds .any e && afterB ops f e.on i)
    | none => false
/-- What has come up is closed under the edges. -/
def Closed (ops : Array Oper) (listed : Array Bool) : Prop := ∀ j oj, ops[j]? = some oj → listed.getD j false = true → ∀ e ∈ oj.after, Region.binds .any e = true → listed.getD e.on false = true
theorem Closed.set {listed : Array Bool} {i : Nat} (h : Closed ops listed) (hi : i ∈ Region.ready .any ops listed) : Closed ops (listed.setIfInBounds i true) := by
  obtain ⟨_, oi, hoi, hall⟩ := mem_ready.1 hi
  intro j oj hj hl e he hb
  by_cases hij : i = j
  · subst hij
    have : oj = oi := Option.some.inj (hj.symm.trans hoi)
    subst this
    exact getD_set_true (hall e he hb)
  · rw [getD_set_ne false hij] at hl
    exact getD_set_true (h j oj hj hl e he hb)
theorem after_listed {listed : Array Bool} (hc : Closed ops listed) {i : Nat} : ∀ (f j : Nat) (oj : Oper), ops[j]? = some oj → (∀ e ∈ oj.after, Region.binds .any e = true → listed.getD e.on false = true) →
    afterB ops f j i = true → listed.getD i false = true
  | 0, _, _, _, _, h => by cases h
  | f + 1, j, oj, hj, hall, h => by
    simp only [afterB, hj, Bool.or_eq_true] at h
    rcases h with h | h
    · obtain ⟨e, he, hb⟩ := Array.any_eq_true'.1 h
      simp only [Bool.and_eq_true, beq_iff_eq] at hb
      rw [← hb.2]; exact hall e he hb.1
    · obtain ⟨e, he, hb⟩ := Array.any_eq_true'.1 h
      simp only [Bool.and_eq_true] at hb
      have hl := hall e he hb.1
      cases ho : ops[e.on]? with
      | none => have := hb.2; cases f <;> simp [afterB, ho] at this
      | some o => exact after_listed hc f e.on o ho (fun e' he' hb' => hc e.on o ho hl e' he' hb') hb.2

/-- An operation that may come up now, and that yields its value in every world that meets S, may be taken first. -/
theorem wpAnyX_first {i : Nat} {oi : Oper} {v : Value} (hi : ops[i]? = some oi) (hsel : ∀ (j : Nat) (o : Oper) cs b, ops[j]? = some o → o.op ≠ .select cs b)
    (hQ : ∀ c a w, Q (.panic c) (a.put oi.dst v) w → Q (.panic c) a w) (F : Nat) :
    ∀ (fuel : Nat) (listed : Array Bool) (a : Act) (w : World), Closed ops listed →
      (∀ j oj, ops[j]? = some oj → j ≠ i → listed.getD j true = false → (∀ e ∈ oj.after, Region.binds .any e = true → e.on ≠ i) → oi.apart ops oj = true) →
      (∀ j oj, ops[j]? = some oj → j ≠ i → listed.getD j true = false → afterB ops F j i = false → E j = true) →
      i ∈ Region.ready .any ops listed → YieldsIf P ops S oi v a → S w →
      wpAnyX P ops Q S E fuel (listed.setIfInBounds i true) (a.put oi.dst v) w → wpAnyX P ops Q S E (fuel + 1) listed a w := by
  intro fuel
  induction fuel with
  | zero =>
    intro listed a w _ _ _ hr hy hS H
    refine ⟨fun h => (by rw [h] at hr; cases hr), fun j hj => ?_⟩
    by_cases hji : j = i
    · subst hji; exact hy.wpOp hi hS ⟨fun _ => hS, H⟩
    · have := ready_mono hj hji
      rw [H.1] at this
      cases this
  | succ fuel ih =>
    intro listed a w hcl hfree hfE hr hy hS H
    refine ⟨fun h => (by rw [h] at hr; cases hr), fun j hj => ?_⟩
    by_cases hji : j = i
    · subst hji; exact hy.wpOp hi hS ⟨fun _ => hS, H⟩
    · have h1 := H.2 j (ready_mono hj hji)
      obtain ⟨hjun, oj, hoj, hall⟩ := mem_ready.1 hj
      have hiun : listed.getD i false = true → False := fun h1 => by
        have h0 := (mem_ready.1 hr).1
        rcases Nat.lt_or_ge i listed.size with h' | h'
        · simp [h'] at h0 h1; rw [h0] at h1; cases h1
        · simp [Array.getElem?_eq_none h'] at h1
      have hnot : ∀ e ∈ oj.after, Region.binds .any e = true → e.on ≠ i := fun e he hb heq => by
        have h1 := hall e he hb
        rw [heq] at h1
        exact hiun h1
      have hap := hfree j oj hoj hji hjun hnot
      have hE : E j = true := hfE j oj hoj hji hjun (by
        cases hab : afterB ops F j i with
        | false => rfl
        | true => exact (hiun (after_listed hcl F j oj hoj hall hab)).elim)
      have h2 := wpOp_putIf hoj hap (fun cs b => hsel i oi cs b hi) (fun cs b => hsel j oj cs b hoj) hQ hy h1
      refine wpOp_mono (fun a' w' h3 => ⟨h3.2.1, ih (listed.setIfInBounds j true) a' w' (hcl.set hj) ?_ ?_ (ready_mono hr (Ne.symm hji)) h3.1 (h3.2.1 hE) ?_⟩) h2
      · intro k ok hk hki hun hno
        refine hfree k ok hk hki ?_ hno
        by_cases hjk : j = k
        · subst hjk; exact hjun
        · rw [getD_set_ne true hjk] at hun; exact hun
      · intro k ok hk hki hun hno
        refine hfE k ok hk hki ?_ hno
        by_cases hjk : j = k
        · subst hjk; exact hjun
        · rw [getD_set_ne true hjk] at hun; exact hun
      · rw [Array.setIfInBounds_comm _ _ hji]
        exact h3.2.2

theorem keep_valued {w w' : World} (ρ : Operand → Value) (o : Oper) (hp : keepB o.op = true) {nx : Next} (h : (execOp ρ o).run P w = .ok nx w') : ∃ v, nx = .value v := by
  obtain ⟨dst, op, type, pos, after, guard⟩ := o
  cases op <;> simp only [keepB, Bool.false_eq_true] at hp
  all_goals exact run_valued _ h

/-- An operation that makes one new block keeps what old memory says. -/
theorem wpOp_keep (hS : ∀ w w', S w → Below w.heap.size w w' → S w') {k : Nat} {o : Oper} (ho : ops[k]? = some o) (hk : keepB o.op = true) {K : Act → World → Prop} {a : Act} {w : World} (hw : S w)
    (h : wpOp P ops Q k K a w) : wpOp P ops Q k (fun a' w' => S w' ∧ K a' w') a w := by
  unfold wpOp at *
  simp only [ho] at *
  split
  · rename_i hwt
    simp only [hwt, if_true] at h
    rcases h with h | h
    · left
      unfold Oper.wp at *
      cases hr : (execOp a.eval o).run P w with
      | ok nx w' =>
        rw [hr] at h
        obtain ⟨v, rfl⟩ := keep_valued _ o hk hr
        exact ⟨hS _ _ hw (Gr.run _ _ _ _ (gr_keep _ o hk) hr), h⟩
      | halt x w' =>
        rw [hr] at h
        cases x <;> simp only [Oper.upon] at h ⊢ <;> exact h
    · exact .inr h
  · rename_i hwt
    simp only [hwt] at h
    exact ⟨hw, h⟩

/-- The operations with these numbers. -/
def opsAt (ops : Array Oper) : List Nat → List Oper
  | [] => []
  | i :: is => ops[i]?.getD default :: opsAt ops is
def mark (is : List Nat) (listed : Array Bool) : Array Bool := is.foldl (fun l i => l.setIfInBounds i true) listed

def takeB (ops : Array Oper) (E : Nat → Bool) (strict : Bool) : List Nat → Array Bool → Bool
  | [], _ => true
  | i :: is, listed =>
    (Region.ready .any ops listed).contains i && Region.free .any ops listed i && (match ops[i]? with | some o => plainB o.op | none => false) &&
    (!strict || (List.range ops.size).all fun j => listed.getD j true || j == i || E j || afterB ops ops.size j i) &&
    takeB ops E strict is (listed.setIfInBounds i true)

theorem quiet_plain {C : World → Prop} {o : Oper} {a : Act} {K : Act → Prop} (hp : plainB o.op = true) (h : if Region.wanted o (yielded ops a.tmps) then o.quiet P a C K else K (a.put o.dst undef)) :
    ∃ v, YieldsIf P ops C o v a ∧ K (a.put o.dst v) := by
  by_cases hw : Region.wanted o (yielded ops a.tmps) = true
  · rw [if_pos hw] at h
    obtain ⟨v, h1, h2⟩ := h
    refine ⟨v, .inl ⟨hw, fun w hC => ?_⟩, h2⟩
    have h3 := h1 w hC
    unfold Oper.quietAt at h3
    cases hr : (execOp a.eval o).run P w with
    | ok nx w' =>
      obtain ⟨u, rfl⟩ := plain_run _ o hp hr
      rw [hr] at h3
      simp only [Oper.quietUpon] at h3
      rw [h3.1, h3.2]
    | halt x w' => rw [hr] at h3; simp only [Oper.quietUpon] at h3
  · rw [if_neg hw] at h
    exact ⟨undef, .inr ⟨by simpa using hw, rfl⟩, h⟩

theorem take_pure (hs : Region.noSelect ops = true) (hQ : ∀ c a (d : Tmp) v w, Q (.panic c) (a.put (some d) v) w → Q (.panic c) a w) {K : Act → Prop} {w : World} {fuel : Nat} :
    ∀ (is : List Nat) (listed : Array Bool) (a : Act), takeB ops (fun _ => true) false is listed = true → wpQuiet P ops (fun _ => True) K (opsAt ops is) a →
      (∀ a', K a' → wpAny P .any ops Q fuel (mark is listed) a' w) → wpAny P .any ops Q (fuel + is.length) listed a w
  | [], listed, a, _, h, hK => hK a h
  | i :: is, listed, a, hB, h, hK => by
    simp only [takeB, Bool.and_eq_true] at hB
    obtain ⟨⟨⟨⟨hr, hf⟩, hp⟩, _⟩, hB'⟩ := hB
    cases ho : ops[i]? with
    | none => rw [ho] at hp; cases hp
    | some o =>
      rw [ho] at hp
      have e : opsAt ops (i :: is) = o :: opsAt ops is := by simp [opsAt, ho]
      rw [e] at h
      obtain ⟨v, hy, hn⟩ := quiet_plain (K := wpQuiet P ops (fun _ => True) K (opsAt ops is)) hp h
      have hy' : Yields P ops o v a := hy.imp (fun ⟨h1, h2⟩ => ⟨h1, fun w => h2 w trivial⟩) id
      have ih := take_pure hs hQ (w := w) (fuel := fuel) is (listed.setIfInBounds i true) (a.put o.dst v) hB' hn (fun a' h' => hK a' h')
      exact wpAny_take ho hs hf hr (fun c a' w' hh => by
        cases hd : o.dst with
        | none => rw [hd] at hh; exact hh
        | some d => rw [hd] at hh; exact hQ c a' d v w' hh) hy' ih

theorem take_read (hs : Region.noSelect ops = true) (hQ : ∀ c a (d : Tmp) v w, Q (.panic c) (a.put (some d) v) w → Q (.panic c) a w) {K : Act → Prop} {w : World} (hw : S w) {fuel : Nat} :
    ∀ (is : List Nat) (listed : Array Bool) (a : Act), Closed ops listed → takeB ops E true is listed = true → wpQuiet P ops S K (opsAt ops is) a →
      (∀ a', K a' → wpAnyX P ops Q S E fuel (mark is listed) a' w) → wpAnyX P ops Q S E (fuel + is.length) listed a w
  | [], listed, a, _, _, h, hK => hK a h
  | i :: is, listed, a, hcl, hB, h, hK => by
    simp only [takeB, Bool.and_eq_true] at hB
    obtain ⟨⟨⟨⟨hr, hf⟩, hp⟩, hl⟩, hB'⟩ := hB
    cases ho : ops[i]? with
    | none => rw [ho] at hp; cases hp
    | some o =>
      rw [ho] at hp
      have e : opsAt ops (i :: is) = o :: opsAt ops is := by simp [opsAt, ho]
      rw [e] at h
      obtain ⟨v, hy, hn⟩ := quiet_plain (K := wpQuiet P ops S K (opsAt ops is)) hp h
      have ih := take_read hs hQ hw (fuel := fuel) is (listed.setIfInBounds i true) (a.put o.dst v) (hcl.set (by simpa using hr)) hB' hn (fun a' h' => hK a' h')
      refine wpAnyX_first ho (Region.noSelect_spec hs) (fun c a' w' hh => by
        cases hd : o.dst with
        | none => rw [hd] at hh; exact hh
        | some d => rw [hd] at hh; exact hQ c a' d v w' hh) ops.size (fuel + is.length) listed a w hcl (fun j oj hj hne hun hno => Region.free_spec ho hf j oj hj hne hun hno) ?_ (by simpa using hr) hy hw ih
      intro j oj hj hne hun hno
      simp only [Bool.not_true, Bool.false_or] at hl
      have h1 := List.all_eq_true.1 hl j (List.mem_range.2 (Array.getElem?_eq_some_iff.1 hj).1)
      simpa only [hun, hno, Bool.false_or, Bool.or_false, Bool.or_eq_true, beq_iff_eq, hne, false_or] using h1

theorem closed_mark : ∀ (is : List Nat) (E' : Nat → Bool) (st : Bool) (listed : Array Bool), Closed ops listed → takeB ops E' st is listed = true → Closed ops (mark is listed)
  | [], _, _, _, h, _ => h
  | i :: is, E', st, listed, h, hB => by
    simp only [takeB, Bool.and_eq_true] at hB
    obtain ⟨⟨⟨⟨hr, _⟩, _⟩, _⟩, hB'⟩ := hB
    exact closed_mark is E' st _ (h.set (by simpa using hr)) hB'

/-- The rest follows one another in one forced order; while S is known, what E names makes new blocks alone. -/
def seqX (ops : Array Oper) (E : Nat → Bool) : List Nat → Array Bool → Bool → Bool
  | [], listed, _ => (Region.ready .any ops listed).isEmpty
  | k :: ks, listed, ok => decide (Region.ready .any ops listed = [k]) && (!E k || (ok && match ops[k]? with | some o => keepB o.op | none => false)) && seqX ops E ks (listed.setIfInBounds k true) (ok && E k)

theorem tail_seq (hS : ∀ w w', S w → Below w.heap.size w w' → S w') : ∀ (ks : List Nat) (listed : Array Bool) (ok : Bool) (a : Act) (w : World), seqX ops E ks listed ok = true → (ok = true → S w) →
    wpList P ops Q (opsAt ops ks) a w → wpAnyX P ops Q S E ks.length listed a w
  | [], listed, ok, a, w, hB, _, h => ⟨by simpa [seqX] using hB, h⟩
  | k :: ks, listed, ok, a, w, hB, hw, h => by
    simp only [seqX, Bool.and_eq_true, decide_eq_true_eq] at hB
    obtain ⟨⟨hr, hE⟩, hB'⟩ := hB
    have hk : k ∈ Region.ready .any ops listed := by rw [hr]; simp
    obtain ⟨_, o, ho, _⟩ := mem_ready.1 hk
    refine ⟨fun h1 => (by rw [hr] at h1; cases h1), fun i hi => ?_⟩
    rw [hr] at hi
    have hik : i = k := by simpa using hi
    subst hik
    have e : opsAt ops (i :: ks) = o :: opsAt ops ks := by simp [opsAt, ho]
    rw [e] at h
    have hh : wpOp P ops Q i (wpList P ops Q (opsAt ops ks)) a w := by unfold wpOp; simp only [ho]; exact h
    cases hEi : E i with
    | false =>
      rw [hEi, Bool.and_false] at hB'
      exact wpOp_mono (fun a' w' h' => ⟨(fun hc => by cases hc), tail_seq hS ks _ _ a' w' hB' (fun hc => by cases hc) h'⟩) hh
    | true =>
      rw [hEi] at hE hB'
      simp only [Bool.not_true, Bool.false_or, Bool.and_eq_true, ho] at hE
      rw [hE.1, Bool.and_self] at hB'
      exact wpOp_mono (fun a' w' h' => ⟨fun _ => h'.1, tail_seq hS ks _ _ a' w' hB' (fun _ => h'.1) h'.2⟩) (wpOp_keep hS ho hE.2 (hw hE.1) hh)

/-- The Bool that 'wp_region_mt' asks. -/
def mtB (ops : Array Oper) (m0 m1 tl : List Nat) : Bool :=
  Region.noSelect ops && takeB ops (fun _ => true) false m0 (Array.replicate ops.size false) &&
  takeB ops (fun j => m1.contains j || match ops[j]? with | some o => keepB o.op | none => true) true m1 (mark m0 (Array.replicate ops.size false)) &&
  seqX ops (fun j => m1.contains j || match ops[j]? with | some o => keepB o.op | none => true) tl (mark m1 (mark m0 (Array.replicate ops.size false))) true && decide (m0.length + m1.length + tl.length = ops.size)

/-- A region that draws its order: the operations m0 look at no memory, m1 read old memory, tl follow in one forced order. -/
theorem wp_region_mt {id : Nat} {a : Act} {w : World} (m0 m1 tl : List Nat) (hm : P.follows .mixedOrders = true) (hB : mtB ops m0 m1 tl = true)
    (hQ : ∀ c a (d : Tmp) v w, Q (.panic c) (a.put (some d) v) w → Q (.panic c) a w)
    (h : wpQuiet P ops (fun _ => True) (fun a1 => wpQuiet P ops (fun w' => ∃ e, w' = grow w e) (fun a2 => wpList P ops Q (opsAt ops tl) a2 w.drew) (opsAt ops m1) a1) (opsAt ops m0) a) :
    (Code.region id ops true).wp P Q a w := by
  simp only [mtB, Bool.and_eq_true, decide_eq_true_eq] at hB
  obtain ⟨⟨⟨⟨hs, h0⟩, h1⟩, h2⟩, hn⟩ := hB
  refine wp_region_any hm ?_
  rw [show ops.size = (tl.length + m1.length) + m0.length by omega]
  have hS : ∀ w1 w2 : World, (∃ e, w1 = grow w e) → Below w1.heap.size w1 w2 → ∃ e, w2 = grow w e := fun w1 w2 ⟨e, he⟩ hb => by
    subst he; exact grow_of (below_to (below_grow w e) hb)
  have hw : ∃ e, ({ w with drawn := w.drawn + 1 } : World) = grow w e := grow_of ((Below.refl w.heap.size w).drew)
  have h0' := h0
  have h1' := h1
  have h2' := h2
  rw [show ops.size = (tl.length + m1.length) + m0.length by omega] at h0' h1' h2'
  refine take_pure hs hQ m0 _ a h0' h fun a1 k1 => ?_
  refine wpAny_of_X _ _ _ _ (take_read (S := fun w' => ∃ e, w' = grow w e) hs hQ hw m1 _ a1 (closed_mark m0 _ _ _ (fun j oj _ hl => (by simp [Array.getElem?_replicate] at hl; split at hl <;> simp at hl)) h0') h1' k1 fun a2 k2 => ?_)
  exact tail_seq hS tl _ true a2 _ h2' (fun _ => hw) k2

/-- These operations follow one another; behind each of them S is shown. -/
def wpFlag (P : Program) (ops : Array Oper) (Q : Exit → Act → World → Prop) (S : World → Prop) (K : Act → World → Prop) : List Oper → Act → World → Prop
  | [], a, w => K a w
  | o :: rest, a, w => if Region.wanted o (yielded ops a.tmps) then o.wp P a w (fun a' w' => S w' ∧ wpFlag P ops Q S K rest a' w') Q else wpFlag P ops Q S K rest (a.put o.dst undef) w

theorem wpFlag_nil {K : Act → World → Prop} {a : Act} {w : World} (h : K a w) : wpFlag P ops Q S K [] a w := h
theorem wpFlag_want {K : Act → World → Prop} {a : Act} {w : World} {o : Oper} {rest : List Oper} (hw : Region.wanted o (yielded ops a.tmps) = true)
    (h : ∀ K' : Act → World → Prop, (∀ a' w', S w' → wpFlag P ops Q S K rest a' w' → K' a' w') → o.wp P a w K' Q) : wpFlag P ops Q S K (o :: rest) a w := by
  unfold wpFlag
  rw [if_pos hw]
  exact h _ fun _ _ h1 h2 => ⟨h1, h2⟩
theorem wpFlag_skip {K : Act → World → Prop} {a : Act} {w : World} {o : Oper} {rest : List Oper} (hw : Region.wanted o (yielded ops a.tmps) = false)
    (h : wpFlag P ops Q S K rest (a.put o.dst undef) w) : wpFlag P ops Q S K (o :: rest) a w := by
  unfold wpFlag
  rw [if_neg (by rw [hw]; exact Bool.false_ne_true)]
  exact h

def seqF (ops : Array Oper) : List Nat → Array Bool → Bool
  | [], _ => true
  | k :: ks, listed => decide (Region.ready .any ops listed = [k]) && seqF ops ks (listed.setIfInBounds k true)

theorem flag_seq {K : Act → World → Prop} {n : Nat} : ∀ (ks : List Nat) (listed : Array Bool) (a : Act) (w : World), seqF ops ks listed = true → S w →
    (∀ a' w', S w' → K a' w' → wpAnyX P ops Q S E n (mark ks listed) a' w') →
    wpFlag P ops Q S K (opsAt ops ks) a w → wpAnyX P ops Q S E (n + ks.length) listed a w
  | [], listed, a, w, _, hw, hK, h => hK a w hw h
  | k :: ks, listed, a, w, hB, hw, hK, h => by
    simp only [seqF, Bool.and_eq_true, decide_eq_true_eq] at hB
    obtain ⟨hr, hB'⟩ := hB
    have hk : k ∈ Region.ready .any ops listed := by rw [hr]; simp
    obtain ⟨_, o, ho, _⟩ := mem_ready.1 hk
    refine ⟨fun h1 => (by rw [hr] at h1; cases h1), fun i hi => ?_⟩
    rw [hr] at hi
    have hik : i = k := by simpa using hi
    subst hik
    have e : opsAt ops (i :: ks) = o :: opsAt ops ks := by simp [opsAt, ho]
    rw [e] at h
    unfold wpFlag at h
    unfold wpOp
    simp only [ho]
    split
    · rename_i hwt
      simp only [hwt, if_true] at h
      exact .inl (Oper.wp_mono (fun a' w' h' => ⟨fun _ => h'.1, flag_seq ks _ a' w' hB' h'.1 hK h'.2⟩) h)
    · rename_i hwt
      simp only [hwt] at h
      exact ⟨fun _ => hw, flag_seq ks _ _ w hB' hw hK h⟩

/-- The Bool that 'wp_region_mc' asks. -/
def mcB (ops : Array Oper) (m0 m1 cl tl : List Nat) : Bool :=
  Region.noSelect ops && takeB ops (fun _ => true) false m0 (Array.replicate ops.size false) &&
  takeB ops (fun j => m1.contains j || cl.contains j || match ops[j]? with | some o => keepB o.op | none => true) true m1 (mark m0 (Array.replicate ops.size false)) &&
  seqF ops cl (mark m1 (mark m0 (Array.replicate ops.size false))) &&
  seqX ops (fun j => m1.contains j || cl.contains j || match ops[j]? with | some o => keepB o.op | none => true) tl (mark cl (mark m1 (mark m0 (Array.replicate ops.size false)))) true && decide (m0.length + m1.length + cl.length + tl.length = ops.size)

/-- As 'wp_region_mt', with calls cl that only make memory ahead of the rest. -/
theorem wp_region_mc {id : Nat} {a : Act} {w : World} (m0 m1 cl tl : List Nat) (hm : P.follows .mixedOrders = true) (hB : mcB ops m0 m1 cl tl = true)
    (hQ : ∀ c a (d : Tmp) v w, Q (.panic c) (a.put (some d) v) w → Q (.panic c) a w)
    (h : wpQuiet P ops (fun _ => True) (fun a1 => wpQuiet P ops (fun w' => ∃ e, w' = grow w e) (fun a2 => wpFlag P ops Q (fun w' => Below w.heap.size w w') (wpList P ops Q (opsAt ops tl)) (opsAt ops cl) a2 w.drew) (opsAt ops m1) a1) (opsAt ops m0) a) :
    (Code.region id ops true).wp P Q a w := by
  simp only [mcB, Bool.and_eq_true, decide_eq_true_eq] at hB
  obtain ⟨⟨⟨⟨⟨hs, h0⟩, h1⟩, h3⟩, h2⟩, hn⟩ := hB
  refine wp_region_any hm ?_
  have hS : ∀ w1 w2 : World, Below w.heap.size w w1 → Below w1.heap.size w1 w2 → Below w.heap.size w w2 := fun w1 w2 a b => below_to a b
  have hw : Below w.heap.size w ({ w with drawn := w.drawn + 1 } : World) := (Below.refl w.heap.size w).drew
  have hsz : ops.size = ((tl.length + cl.length) + m1.length) + m0.length := by omega
  have h0' := h0
  have h1' := h1
  have h2' := h2
  have h3' := h3
  rw [hsz] at h0' h1' h2' h3' ⊢
  refine take_pure hs hQ m0 _ a h0' h fun a1 k1 => ?_
  have hC : (fun w' => ∃ e, w' = grow w e) = (fun w' => Below w.heap.size w w') := by
    funext w'; exact propext ⟨fun ⟨e, he⟩ => he ▸ below_grow w e, grow_of⟩
  rw [hC] at k1
  refine wpAny_of_X _ _ _ _ (take_read (S := fun w' => Below w.heap.size w w') hs hQ hw m1 _ a1 (closed_mark m0 _ _ _ (fun j oj _ hl => (by simp [Array.getElem?_replicate] at hl; split at hl <;> simp at hl)) h0') h1' k1 fun a2 k2 => ?_)
  refine flag_seq cl _ a2 _ h3' hw (fun a3 w3 hw3 k3 => ?_) k2
  exact tail_seq hS tl _ true a3 w3 h2' (fun _ => hw3) k3
end

end Go.Proofs.Ythlcmlngmcoknaa

/- What is proved here: a region that draws its order may be walked along one schedule: operations that may be taken at once, and operations whose turn is forced. No condition but the Bool that is asked. -/
namespace Go.Proofs.Ythlcmlngmcoknaa
open Go.RowKit

/-- A part of a schedule: operations that are taken first, or one whose turn is forced. -/
inductive Sg where
  | t (is : List Nat)
  | f (i : Nat)

section
variable {P : Program} {ops : Array Oper} {Q : Exit → Act → World → Prop} {C : World → Prop} {E : Nat → Bool} {K : Act → World → Prop}

def wpX (P : Program) (ops : Array Oper) (Q : Exit → Act → World → Prop) (C : World → Prop) (K : Act → World → Prop) : List Sg → Act → World → Prop
  | [], a, w => K a w
  | .t is :: r, a, w => wpQuiet P ops C (fun a' => wpX P ops Q C K r a' w) (opsAt ops is) a
  | .f i :: r, a, w => match ops[i]? with
    | some o => if Region.wanted o (yielded ops a.tmps) then o.wp P a w (fun a' w' => C w' ∧ wpX P ops Q C K r a' w') Q ∨ (o.asks P a w ∧ LetsOut Q) else wpX P ops Q C K r (a.put o.dst undef) w
    | none => False

def markS : List Sg → Array Bool → Array Bool
  | [], listed => listed
  | .t is :: r, listed => markS r (mark is listed)
  | .f i :: r, listed => markS r (listed.setIfInBounds i true)
def lenS : List Sg → Nat
  | [] => 0
  | .t is :: r => lenS r + is.length
  | .f _ :: r => lenS r + 1

def schedB (ops : Array Oper) (E : Nat → Bool) (strict : Bool) : List Sg → Array Bool → Bool
  | [], _ => true
  | .t is :: r, listed => takeB ops E strict is listed && schedB ops E strict r (mark is listed)
  | .f i :: r, listed => decide (Region.ready .any ops listed = [i]) && schedB ops E strict r (listed.setIfInBounds i true)

theorem X_sched (hs : Region.noSelect ops = true) (hQ : ∀ c a (d : Tmp) v w, Q (.panic c) (a.put (some d) v) w → Q (.panic c) a w) {n : Nat} :
    ∀ (l : List Sg) (listed : Array Bool) (a : Act) (w : World), Closed ops listed → schedB ops E true l listed = true → C w →
      (∀ a' w', C w' → K a' w' → wpAnyX P ops Q C E n (markS l listed) a' w') → wpX P ops Q C K l a w → wpAnyX P ops Q C E (n + lenS l) listed a w
  | [], listed, a, w, _, _, hw, hK, h => hK a w hw h
  | .t is :: r, listed, a, w, hcl, hB, hw, hK, h => by
    simp only [schedB, Bool.and_eq_true] at hB
    rw [show n + lenS (.t is :: r) = n + lenS r + is.length from (Nat.add_assoc _ _ _).symm]
    exact take_read (S := C) hs hQ hw (fuel := n + lenS r) is listed a hcl hB.1 h fun a' h' => X_sched hs hQ r _ a' w (closed_mark is E true _ hcl hB.1) hB.2 hw hK h'
  | .f i :: r, listed, a, w, hcl, hB, hw, hK, h => by
    simp only [schedB, Bool.and_eq_true, decide_eq_true_eq] at hB
    obtain ⟨hr, hB'⟩ := hB
    have hk : i ∈ Region.ready .any ops listed := by rw [hr]; simp
    obtain ⟨_, o, ho, _⟩ := mem_ready.1 hk
    refine ⟨fun h1 => (by rw [hr] at h1; cases h1), fun j hj => ?_⟩
    rw [hr] at hj
    have hji : j = i := by simpa using hj
    subst hji
    simp only [wpX, ho] at h
    unfold wpOp
    simp only [ho]
    split
    · rename_i hwt
      simp only [hwt, if_true] at h
      exact h.imp (Oper.wp_mono (fun a' w' h' => ⟨fun _ => h'.1, X_sched hs hQ r _ a' w' (hcl.set hk) hB' h'.1 hK h'.2⟩)) id
    · rename_i hwt
      simp only [hwt] at h
      exact ⟨fun _ => hw, X_sched hs hQ r _ _ w (hcl.set hk) hB' hw hK h⟩

/-- What has come up, and the operations that E does not name, need no more of S. -/
theorem X_of_any {C' : World → Prop} {E' : Nat → Bool} : ∀ (fuel : Nat) (listed : Array Bool) (a : Act) (w : World), (∀ j, j < ops.size → listed.getD j true = false → E j = false) →
    wpAnyX P ops Q C' E' fuel listed a w → wpAnyX P ops Q C E fuel listed a w
  | 0, _, _, _, _, h => h
  | fuel + 1, listed, a, w, hE, h => ⟨h.1, fun i hi => wpOp_mono (fun a' w' h' => ⟨(fun hEi => by
      obtain ⟨hun, o, ho, _⟩ := mem_ready.1 hi
      have := hE i (Array.getElem?_eq_some_iff.1 ho).1 hun
      rw [this] at hEi; cases hEi), X_of_any fuel _ a' w' (fun j hj hun => hE j hj (by
        by_cases hij : i = j
        · subst hij; exact (mem_ready.1 hi).1
        · rwa [getD_set_ne true hij] at hun)) h'.2⟩) (h.2 i hi)⟩

def inS (l : List Sg) (j : Nat) : Bool := l.any fun | .t is => is.contains j | .f i => i == j

/-- The Bool that 'wp_region_s' asks. -/
def sB (ops : Array Oper) (l1 l2 : List Sg) : Bool :=
  Region.noSelect ops && schedB ops (inS l1) true l1 (Array.replicate ops.size false) &&
  schedB ops (fun _ => true) true l2 (markS l1 (Array.replicate ops.size false)) && decide (lenS l2 + lenS l1 = ops.size) &&
  ((List.range ops.size).all fun j => (markS l1 (Array.replicate ops.size false)).getD j true || !inS l1 j) &&
  (Region.ready .any ops (markS l2 (markS l1 (Array.replicate ops.size false)))).isEmpty

theorem closed_markS : ∀ (l : List Sg) (E' : Nat → Bool) (listed : Array Bool), Closed ops listed → schedB ops E' true l listed = true → Closed ops (markS l listed)
  | [], _, _, h, _ => h
  | .t is :: r, E', listed, h, hB => by
    simp only [schedB, Bool.and_eq_true] at hB
    exact closed_markS r E' _ (closed_mark is E' true _ h hB.1) hB.2
  | .f i :: r, E', listed, h, hB => by
    simp only [schedB, Bool.and_eq_true, decide_eq_true_eq] at hB
    exact closed_markS r E' _ (h.set (by rw [hB.1]; simp)) hB.2

/-- A region that draws its order, walked along a schedule: l1 while only new memory is made (old memory is read there), l2 behind it. -/
theorem wp_region_s {id : Nat} {a : Act} {w : World} (l1 l2 : List Sg) (hm : P.follows .mixedOrders = true) (hB : sB ops l1 l2 = true)
    (hQ : ∀ c a (d : Tmp) v w, Q (.panic c) (a.put (some d) v) w → Q (.panic c) a w)
    (h : wpX P ops Q (fun w' => ∃ e, w' = grow w e) (fun a' w' => wpX P ops Q (fun _ => True) (fun a2 w2 => Q .normal a2 w2) l2 a' w') l1 a w.drew) :
    (Code.region id ops true).wp P Q a w := by
  simp only [sB, Bool.and_eq_true, decide_eq_true_eq, List.isEmpty_iff] at hB
  obtain ⟨⟨⟨⟨⟨hs, h1⟩, h2⟩, hn⟩, hE⟩, he⟩ := hB
  refine wp_region_any hm ?_
  have hw : ∃ e, ({ w with drawn := w.drawn + 1 } : World) = grow w e := grow_of ((Below.refl w.heap.size w).drew)
  have hcl : Closed ops (Array.replicate ops.size false) := fun j oj _ hl => (by simp [Array.getElem?_replicate] at hl; split at hl <;> simp at hl)
  rw [← hn]
  rw [← hn] at h1 h2 hE he hcl
  refine wpAny_of_X _ _ _ _ (X_sched (C := fun w' => ∃ e, w' = grow w e) (E := inS l1) hs hQ l1 _ a _ hcl h1 hw (fun a' w' _ k' => ?_) h)
  refine X_of_any (C' := fun _ => True) (E' := fun _ => true) _ _ _ _ (fun j hj hun => ?_) ?_
  · have := List.all_eq_true.1 hE j (List.mem_range.2 (by rw [hn]; exact hj))
    simpa [hun] using this
  · have := X_sched (P := P) (Q := Q) (C := fun _ => True) (E := fun _ => true) (n := 0) hs hQ l2 _ a' w' (closed_markS l1 _ _ hcl h1) h2 trivial (fun a2 w2 _ k2 => ⟨he, k2⟩) k'
    simpa using this

theorem quiet_mono {K1 K2 : Act → Prop} (hK : ∀ a, K1 a → K2 a) : ∀ (l : List Oper) (a : Act), wpQuiet P ops C K1 l a → wpQuiet P ops C K2 l a
  | [], a, h => hK a h
  | o :: l, a, h => by
    unfold wpQuiet at h ⊢
    split
    · rename_i hw
      rw [if_pos hw] at h
      obtain ⟨v, h1, h2⟩ := h
      exact ⟨v, h1, quiet_mono hK l _ h2⟩
    · rename_i hw
      rw [if_neg hw] at h
      exact quiet_mono hK l _ h
theorem X_mono {K1 K2 : Act → World → Prop} (hK : ∀ a w, K1 a w → K2 a w) : ∀ (l : List Sg) (a : Act) (w : World), wpX P ops Q C K1 l a w → wpX P ops Q C K2 l a w
  | [], a, w, h => hK a w h
  | .t is :: r, a, w, h => quiet_mono (fun a' h' => X_mono hK r a' w h') _ a h
  | .f i :: r, a, w, h => by
    unfold wpX at h ⊢
    split
    · rename_i o ho
      simp only [ho] at h
      split
      · rename_i hw
        rw [if_pos hw] at h
        exact h.imp (Oper.wp_mono (fun a' w' h' => ⟨h'.1, X_mono hK r a' w' h'.2⟩)) id
      · rename_i hw
        rw [if_neg hw] at h
        exact X_mono hK r _ w h
    · rename_i ho
      simp only [ho] at h
theorem X_of_list : ∀ (tl : List Nat) (a : Act) (w : World), (∀ i ∈ tl, i < ops.size) → wpList P ops Q (opsAt ops tl) a w → wpX P ops Q (fun _ => True) (fun a2 w2 => Q .normal a2 w2) (tl.map .f) a w
  | [], a, w, _, h => h
  | i :: tl, a, w, hl, h => by
    have hi := hl i (by simp)
    have ho : ops[i]? = some ops[i] := Array.getElem?_eq_getElem hi
    have e : opsAt ops (i :: tl) = ops[i] :: opsAt ops tl := by simp [opsAt, ho]
    rw [e] at h
    simp only [List.map_cons, wpX, ho]
    unfold wpList at h
    split
    · rename_i hwt
      rw [if_pos hwt] at h
      exact h.imp (Oper.wp_mono (fun a' w' h' => ⟨trivial, X_of_list tl a' w' (fun j hj => hl j (by simp [hj])) h'⟩)) id
    · rename_i hwt
      rw [if_neg hwt] at h
      exact X_of_list tl _ w (fun j hj => hl j (by simp [hj])) h
/-- The same, the rest in one forced order. -/
theorem wp_region_st {id : Nat} {a : Act} {w : World} (l1 : List Sg) (tl : List Nat) (hm : P.follows .mixedOrders = true) (hB : (sB ops l1 (tl.map .f) && tl.all fun i => decide (i < ops.size)) = true)
    (hQ : ∀ c a (d : Tmp) v w, Q (.panic c) (a.put (some d) v) w → Q (.panic c) a w)
    (h : wpX P ops Q (fun w' => ∃ e, w' = grow w e) (fun a' w' => wpList P ops Q (opsAt ops tl) a' w') l1 a w.drew) :
    (Code.region id ops true).wp P Q a w := by
  simp only [Bool.and_eq_true] at hB
  have hl : ∀ i ∈ tl, i < ops.size := fun i hi => by simpa using List.all_eq_true.1 hB.2 i hi
  refine wp_region_s l1 (tl.map .f) hm hB.1 hQ ?_
  exact X_mono (fun a' w' h' => X_of_list tl a' w' hl h') l1 a _ h

theorem wpX_t {is : List Nat} {r : List Sg} {a : Act} {w : World} (h : wpQuiet P ops C (fun a' => wpX P ops Q C K r a' w) (opsAt ops is) a) : wpX P ops Q C K (.t is :: r) a w := h
theorem wpX_f {i : Nat} {o : Oper} {r : List Sg} {a : Act} {w : World} (ho : ops[i]? = some o) (hw : Region.wanted o (yielded ops a.tmps) = true)
    (h : ∀ K' : Act → World → Prop, (∀ a' w', C w' → wpX P ops Q C K r a' w' → K' a' w') → o.wp P a w K' Q) : wpX P ops Q C K (.f i :: r) a w := by
  simp only [wpX, ho, hw, if_true]
  exact .inl (h _ fun _ _ h1 h2 => ⟨h1, h2⟩)
theorem wpX_skip {i : Nat} {o : Oper} {r : List Sg} {a : Act} {w : World} (ho : ops[i]? = some o) (hw : Region.wanted o (yielded ops a.tmps) = false)
    (h : wpX P ops Q C K r (a.put o.dst undef) w) : wpX P ops Q C K (.f i :: r) a w := by
  simp only [wpX, ho, hw]
  exact h
theorem wpX_nil {a : Act} {w : World} (h : K a w) : wpX P ops Q C K [] a w := h
end

/-- A world is known by what is said of it alone. -/
theorem wp_gen {P : Program} {c : Code} {Q : Exit → Act → World → Prop} {a : Act} {w : World} (F : World → Prop) (hF : F w) (h : ∀ W, F W → c.wp P Q a W) : c.wp P Q a w := h w hF
theorem rounds_gen {P : Program} {c : Code} {Q : Exit → Act → World → Prop} {n : Nat} {a : Act} {w : World} (F : World → Prop) (hF : F w) (h : ∀ W, F W → Code.rounds P c Q n a W) : Code.rounds P c Q n a w := h w hF
/-- Old memory reads as before. -/
theorem grow_lt (W e : World) (b o : Nat) (h : b < W.heap.size) : (grow W e).cell? ⟨b, o, none⟩ = W.cell? ⟨b, o, none⟩ := (below_grow W e).cell (p := ⟨b, o, none⟩) h
theorem Own.rules {w : World} {g : Nat} {T : TypeId} {cs : List Value} (h : Own w g T cs) : (∀ o, w.cell? ⟨g, o, none⟩ = cs[o]?) ∧ (∀ o, w.frozen? ⟨g, o, none⟩ = false) := by
  refine ⟨fun o => ?_, fun o => h.free o⟩
  unfold Own at h
  simp [World.cell?, h]
theorem own_third (w : World) (T : TypeId) (cs : List Value) (o1 o2 : Obj) : Own (((w.alloc o1).alloc o2).alloc (.cells cs.toArray T (0, 0))) (w.heap.size + 1 + 1) T cs := by
  have h := Own.new ((w.alloc o1).alloc o2) T cs
  rw [show ((w.alloc o1).alloc o2).heap.size = w.heap.size + 1 + 1 from by simp] at h
  exact h

end Go.Proofs.Ythlcmlngmcoknaa

/- What is proved here: slices of slices of numbers: what their cells hold, opened row by row. No condition. -/
namespace Go.Proofs.Ythlcmlngmcoknaa
open Go.RowKit

/-- A slice of slices of numbers. -/
def SS (w : World) (v : Value) (xss : List (List Int)) : Prop :=
  ∃ vs : List Value, vs.length = xss.length ∧ Sl w v xss.length vs ∧ ∀ i (h : i < xss.length) (h' : i < vs.length), SI w vs[i] xss[i]
theorem SS.below {w w' : World} {v : Value} {xss : List (List Int)} (h : SS w v xss) (hb : Below w.heap.size w w') : SS w' v xss := by
  obtain ⟨vs, h1, h2, h3⟩ := h
  exact ⟨vs, h1, h2.below hb, fun i hi hi' => (h3 i hi hi').below hb⟩
theorem SS.open {w : World} {v : Value} {xss : List (List Int)} (h : SS w v xss) : ∃ ad cap, v = .slice ad xss.length cap ∧ xss.length ≤ cap ∧ xss.length ≤ 9223372036854775807 ∧
    Hid (∀ i (h : i < xss.length), ∃ b off ad' cap', ad = some ⟨b, off, none⟩ ∧ w.cell? ⟨b, off + i, none⟩ = some (.slice ad' xss[i].length cap') ∧ xss[i].length ≤ cap' ∧ xss[i].length ≤ 9223372036854775807 ∧ SI w (.slice ad' xss[i].length cap') xss[i]) := by
  obtain ⟨vs, h1, ⟨ad, cap, e, h2, h3, h4⟩, h5⟩ := h
  refine ⟨ad, cap, e, h2, h3, fun i hi => ?_⟩
  have hi' : i < vs.length := by omega
  obtain ⟨b, off, e1, c1⟩ := h4 i vs[i] (by simp [hi'])
  have h6 := h5 i hi hi'
  obtain ⟨ad', cap', e2, h7, h8, _⟩ := h6
  refine ⟨b, off, ad', cap', e1, ?_, h7, h8, ?_⟩
  · rw [c1, e2]
  · rw [← e2]; exact h5 i hi hi'
end Go.Proofs.Ythlcmlngmcoknaa

/- What is proved here: what an append of one element to a row of the call's own leaves. Condition: the row has fewer than a million elements of at most 100 bytes. -/
namespace Go.Proofs.Ythlcmlngmcoknaa
open Go.RowKit

section
variable {P : Program} {ops : Array Oper} {rest : List Oper} {o : Oper} {a : Act} {Q : Exit → Act → World → Prop}

/-- 'out = append(out, y)': out is nil or a row of the call's own from block B on; y lies in a block of its own. -/
theorem wpList_app (W : World) (hgd : o.guard = none) (s x : Operand) (t : TypeId) (ho : o.op = .call { callee := .builtin .append, args := #[s, x], argTypes := #[t, t] })
    (B : Nat) (T : TypeId) (size bytes : Nat) (z : Value) (ht : P.underlying t = some (.slice T)) (hi : (P.info? T).map (fun i => (i.zero, i.size, i.bytes)) = some (some z, size, bytes)) (hz : z.cells.size = size) (hsz : 0 < size) (hby : bytes ≤ 100)
    (ov : Value) (k : Nat) (cs : List Value) (hs : a.eval s = ov) (ow : W.ownsRow B T size ov k cs) (hk : k < 1000000) (hB : B ≤ W.heap.size)
    (p : Nat) (ys : List Value) (fr : Nat × Nat) (hx : a.eval x = .slice (some ⟨p, 0, none⟩) 1 1) (hp : W.heap[p]? = some (.cells ys.toArray T fr)) (hy : ys.length = size) (h1 : ∀ u ∈ ys, u.oneCell' = true)
    (h : ∀ g cap w2, w2.ownsRow B T size (.slice (some ⟨g, 0, none⟩) (k + 1) cap) (k + 1) (cs ++ ys) → B ≤ g → Below B W w2 → wpList P ops Q rest (a.put o.dst (.slice (some ⟨g, 0, none⟩) (k + 1) cap)) w2) :
    wpList P ops Q (o :: rest) a W := by
  obtain ⟨i0, hi0, hz0, hz1, hz2⟩ := info_parts hi
  refine wpList_append_lies W hgd s x t ho B T i0 z size bytes ht hi0 hz0 hz1 hz2 hz hsz ov k cs hs ow ⟨p, 0, none⟩ 1 1 ys hx (by omega) (World.news_of_block (cs := ys.toArray) (t := T) (fr := fr) hp) h1 (by omega) (by unfold maxLen; omega)
    (by
      have : (k + 1) * bytes ≤ 1000000 * 100 := Nat.mul_le_mul (by omega) hby
      omega) hB _ rfl ?_
  intro g cap w2 hown hgrow hat hlt
  have hov : ∀ b, ov.ownBlock = some b → B ≤ b := fun b hb => by
    obtain ⟨_, h2⟩ := ow
    rcases h2 with ⟨h2, _⟩ | ⟨g', cap', cur, h2, h3, _⟩
    · rw [h2] at hb; cases hb
    · rw [h2] at hb; simp only [Value.ownBlock, Option.some.injEq] at hb; omega
  have hg : B ≤ g := by
    rcases hat with hat | hat
    · exact hov g hat
    · omega
  exact h g cap w2 hown hg ((Below.refl B W).grown hgrow hB hov)
end

theorem below_cell_at {B : Nat} {w w' : World} (hb : Below B w w') {b o : Nat} {v : Value} (hlt : b < B) (h : w.cell? ⟨b, o, none⟩ = some v) : w'.cell? ⟨b, o, none⟩ = some v := (hb.cell (p := ⟨b, o, none⟩) hlt).trans h
theorem below_frozen_at {B : Nat} {w w' : World} (hb : Below B w w') {b o : Nat} {x : Bool} (hlt : b < B) (h : w.frozen? ⟨b, o, none⟩ = x) : w'.frozen? ⟨b, o, none⟩ = x := (hb.frozen (p := ⟨b, o, none⟩) hlt).trans h
theorem Own.at {B : Nat} {w w' : World} {g : Nat} {T : TypeId} {cs : List Value} (h : Own w g T cs) (hb : Below B w w') (hlt : g < B) : Own w' g T cs := by
  unfold Own at *; rw [hb.block g hlt]; exact h
/-- A row of the call's own, as a slice. -/
theorem owns_sl {w : World} {B : Nat} {T : TypeId} {size : Nat} {v : Value} {n : Nat} {cs : List Value} (h : w.ownsRow B T size v n cs) (hn : n ≤ 9223372036854775807) : Sl w v n cs := by
  obtain ⟨hl, h2⟩ := h
  rcases h2 with ⟨rfl, rfl⟩ | ⟨g, cap, cur, rfl, hg, hh, hc, hm, hsz, ht⟩
  · have : cs = [] := List.eq_nil_of_length_eq_zero (by simpa using hl)
    subst this
    exact ⟨none, 0, rfl, Nat.le_refl _, hn, fun i x hx => by simp at hx⟩
  · refine ⟨_, cap, rfl, hc, hn, fun i x hx => ⟨g, 0, rfl, ?_⟩⟩
    have hi : i < n * size := by
      rw [← hl]
      rcases Nat.lt_or_ge i cs.length with h | h
      · exact h
      · simp [h] at hx
    rw [← ht] at hx
    simp only [World.cell?, hh, Nat.zero_add]
    rw [List.getElem?_take_of_lt hi] at hx
    simpa using hx
theorem owns_frv {w : World} {B : Nat} {T : TypeId} {size : Nat} {v : Value} {n : Nat} {cs : List Value} (h : w.ownsRow B T size v n cs) : Frv B v := by
  obtain ⟨_, h2⟩ := h
  rcases h2 with ⟨rfl, _⟩ | ⟨g, cap, cur, rfl, hg, _⟩
  · trivial
  · exact hg
theorem owns_at {w w' : World} {B : Nat} {T : TypeId} {size : Nat} {v : Value} {n : Nat} {cs : List Value} (h : w.ownsRow B T size v n cs) (hb : Below w.heap.size w w') : w'.ownsRow B T size v n cs := by
  obtain ⟨hl, h2⟩ := h
  refine ⟨hl, ?_⟩
  rcases h2 with h2 | ⟨g, cap, cur, h3, hg, hh, r⟩
  · exact .inl h2
  · exact .inr ⟨g, cap, cur, h3, hg, below_heap hb hh, r⟩
theorem owns_set_low {w : World} {B : Nat} {T : TypeId} {size : Nat} {v : Value} {n : Nat} {cs : List Value} (h : w.ownsRow B T size v n cs) {p : Addr} (hp : p.block < B) (x : Value) : (w.setCell p x).ownsRow B T size v n cs := ownsRow_setCell_below h hp x

end Go.Proofs.Ythlcmlngmcoknaa

/- What is proved here: what 'append([]T{}, xs...)' leaves. Condition: at most a million elements. -/
namespace Go.Proofs.Ythlcmlngmcoknaa
open Go.RowKit

section
variable {P : Program} {ops : Array Oper} {o : Oper} {a : Act} {Q : Exit → Act → World → Prop} {K : Act → World → Prop} {E : Prop}

theorem run_append_nothing (W : World) (base : Nat) (t ty e : TypeId) (i : TypeInfo) (size : Nat) (ht : P.underlying t = some (.slice e)) (hi : P.info? e = some i)
    (v : Value) (n c : Nat) (xs : List Value) (hown : W.ownsRow base e size v n xs) :
    (Builtin.append_ #[t, t] ty #[v, .slice none 0 c]).run P W = .ok v W := by
  rcases hown.2 with ⟨rfl, rfl⟩ | ⟨g, cap, cur, rfl, _, _, hnc, _⟩
  · simp [Builtin.append_, run_underlying ht, sizeOf, typeInfo, hi, Builtin.lenOf, Builtin.firstCells]
  · simp [Builtin.append_, run_underlying ht, sizeOf, typeInfo, hi, Builtin.lenOf, Builtin.firstCells, hnc, storeCells]

/-- 'append([]T{}, v...)': what comes out lies in block p or in a new one; no other block has changed. -/
theorem run_own (W : World) (t ty T : TypeId) (size bytes : Nat) (z : Value) (ht : P.underlying t = some (.slice T)) (hi : (P.info? T).map (fun i => (i.zero, i.size, i.bytes)) = some (some z, size, bytes)) (hz : z.cells.size = size) (hsz : 0 < size) (hby : bytes ≤ 100)
    (p : Nat) (hp : W.heap[p]? = some (.cells #[] T (0, 0))) (v : Value) (n : Nat) (cs : List Value) (hv : Sl W v n cs) (hl : cs.length = n * size) (h1 : ∀ u ∈ cs, u.oneCell' = true) (hn : n ≤ 1000000) :
    ∃ g cap w', (Builtin.append_ #[t, t] ty #[.slice (some ⟨p, 0, none⟩) 0 0, v]).run P W = .ok (.slice (some ⟨g, 0, none⟩) n cap) w' ∧ w'.ownsRow p T size (.slice (some ⟨g, 0, none⟩) n cap) n cs ∧ (g = p ∨ g = W.heap.size) ∧ W.grownBy w' (some p) := by
  obtain ⟨i0, hi0, hz0, hz1, hz2⟩ := info_parts hi
  have hown : W.ownsRow p T size (.slice (some ⟨p, 0, none⟩) 0 0) 0 [] := ⟨by simp, .inr ⟨p, 0, #[], rfl, Nat.le_refl _, hp, Nat.le_refl _, by unfold maxLen; omega, by simp, by simp⟩⟩
  have hpl : p < W.heap.size := (Array.getElem?_eq_some_iff.1 hp).1
  obtain ⟨ad, c, rfl, h2, h3, h4⟩ := hv
  cases ad with
  | none =>
    have hn0 : cs = [] := by
      cases cs with
      | nil => rfl
      | cons x cs => obtain ⟨b, off, hb, _⟩ := h4 0 x rfl; cases hb
    have hn1 : n = 0 := by
      subst hn0
      simp only [List.length_nil] at hl
      rcases Nat.eq_zero_or_pos n with h | h
      · exact h
      · have := Nat.mul_pos h hsz; omega
    subst hn0 hn1
    exact ⟨p, 0, W, run_append_nothing W p t ty T i0 size ht hi0 _ 0 c [] hown, hown, .inl rfl, ⟨rfl, rfl, rfl, Nat.le_refl _, fun _ _ _ => rfl⟩⟩
  | some ad =>
    have hb : n * bytes ≤ 140737488355328 := by
      have : n * bytes ≤ 1000000 * 100 := Nat.mul_le_mul hn hby
      omega
    have hnews : ∀ j u, cs[j]? = some u → W.cell? (ad.add j) = some u := fun j u hj => by
      obtain ⟨b, off, e, hc⟩ := h4 j u hj
      simp only [Option.some.injEq] at e
      subst e
      unfold Addr.add
      split
      · rename_i hj0; subst hj0; exact hc
      · exact hc
    obtain ⟨v', w', hr, ho, hg, hnil, hat⟩ := run_append_own_at W p t ty T i0 z size bytes ht hi0 hz0 hz1 hz2 hz hsz _ 0 [] hown ad n c cs hl hnews h1 (by unfold maxLen; omega) (by rw [Nat.zero_add]; exact hb) (by omega)
    rw [Nat.zero_add, List.nil_append] at ho
    have ho' := ho
    obtain ⟨_, ho2⟩ := ho
    rcases ho2 with ⟨hv', hn0⟩ | ⟨g, cap, cur, hv', _⟩
    · have := (hnil.1 hv').1; cases this
    · subst hv'
      refine ⟨g, cap, w', hr, ho', ?_, hg⟩
      simp only [Value.ownBlock, Option.some.injEq] at hat
      exact hat

theorem wp_own (W : World) (s x : Operand) (t : TypeId) (ho : o.op = .call { callee := .builtin .append, args := #[s, x], argTypes := #[t, t] })
    (T : TypeId) (size bytes : Nat) (z : Value) (ht : P.underlying t = some (.slice T)) (hi : (P.info? T).map (fun i => (i.zero, i.size, i.bytes)) = some (some z, size, bytes)) (hz : z.cells.size = size) (hsz : 0 < size) (hby : bytes ≤ 100)
    (p : Nat) (hs : a.eval s = .slice (some ⟨p, 0, none⟩) 0 0) (hp : W.heap[p]? = some (.cells #[] T (0, 0))) (v : Value) (n : Nat) (cs : List Value) (hx : a.eval x = v) (hv : Sl W v n cs) (hl : cs.length = n * size) (h1 : ∀ u ∈ cs, u.oneCell' = true) (hn : n ≤ 1000000)
    (h : ∀ g cap w', w'.ownsRow p T size (.slice (some ⟨g, 0, none⟩) n cap) n cs → (g = p ∨ g = W.heap.size) → W.grownBy w' (some p) → K (a.put o.dst (.slice (some ⟨g, 0, none⟩) n cap)) w') : Oper.wp P o a W K Q := by
  obtain ⟨g, cap, w', hr, h2, h3, h4⟩ := run_own (P := P) W t o.type T size bytes z ht hi hz hsz hby p hp v n cs hv hl h1 hn
  unfold Oper.wp execOp
  simp only [ho, resolve, invoke, builtin, Sem.run_bind, Sem.run_pure, Result.andThen_ok, List.map_toArray, List.map_cons, List.map_nil, hs, hx, hr]
  exact h g cap w' h2 h3 h4

/-- At a step of a region that draws its order. -/
theorem step_own (W : World) (hgd : o.guard = none) (s x : Operand) (t : TypeId) (ho : o.op = .call { callee := .builtin .append, args := #[s, x], argTypes := #[t, t] })
    (T : TypeId) (size bytes : Nat) (z : Value) (ht : P.underlying t = some (.slice T)) (hi : (P.info? T).map (fun i => (i.zero, i.size, i.bytes)) = some (some z, size, bytes)) (hz : z.cells.size = size) (hsz : 0 < size) (hby : bytes ≤ 100)
    (p : Nat) (hs : a.eval s = .slice (some ⟨p, 0, none⟩) 0 0) (hp : W.heap[p]? = some (.cells #[] T (0, 0))) (v : Value) (n : Nat) (cs : List Value) (hx : a.eval x = v) (hv : Sl W v n cs) (hl : cs.length = n * size) (h1 : ∀ u ∈ cs, u.oneCell' = true) (hn : n ≤ 1000000)
    (h : ∀ g cap w', w'.ownsRow p T size (.slice (some ⟨g, 0, none⟩) n cap) n cs → (g = p ∨ g = W.heap.size) → W.grownBy w' (some p) → K (a.put o.dst (.slice (some ⟨g, 0, none⟩) n cap)) w') :
    if Region.wanted o (yielded ops a.tmps) = true then Oper.wp P o a W K Q else E := by
  have hw : Region.wanted o (yielded ops a.tmps) = true := by simp [Region.wanted, hgd]
  rw [if_pos hw]
  obtain ⟨g, cap, w', hr, h2, h3, h4⟩ := run_own (P := P) W t o.type T size bytes z ht hi hz hsz hby p hp v n cs hv hl h1 hn
  unfold Oper.wp execOp
  simp only [ho, resolve, invoke, builtin, Sem.run_bind, Sem.run_pure, Result.andThen_ok, List.map_toArray, List.map_cons, List.map_nil, hs, hx, hr]
  exact h g cap w' h2 h3 h4
theorem wpList_own {rest : List Oper} (W : World) (hgd : o.guard = none) (s x : Operand) (t : TypeId) (ho : o.op = .call { callee := .builtin .append, args := #[s, x], argTypes := #[t, t] })
    (T : TypeId) (size bytes : Nat) (z : Value) (ht : P.underlying t = some (.slice T)) (hi : (P.info? T).map (fun i => (i.zero, i.size, i.bytes)) = some (some z, size, bytes)) (hz : z.cells.size = size) (hsz : 0 < size) (hby : bytes ≤ 100)
    (p : Nat) (hs : a.eval s = .slice (some ⟨p, 0, none⟩) 0 0) (hp : W.heap[p]? = some (.cells #[] T (0, 0))) (v : Value) (n : Nat) (cs : List Value) (hx : a.eval x = v) (hv : Sl W v n cs) (hl : cs.length = n * size) (h1 : ∀ u ∈ cs, u.oneCell' = true) (hn : n ≤ 1000000)
    (h : ∀ g cap w', w'.ownsRow p T size (.slice (some ⟨g, 0, none⟩) n cap) n cs → (g = p ∨ g = W.heap.size) → W.grownBy w' (some p) → wpList P ops Q rest (a.put o.dst (.slice (some ⟨g, 0, none⟩) n cap)) w') :
    wpList P ops Q (o :: rest) a W := by
  unfold wpList
  have hw : Region.wanted o (yielded ops a.tmps) = true := by simp [Region.wanted, hgd]
  rw [if_pos hw]
  exact .inl (wp_own W s x t ho T size bytes z ht hi hz hsz hby p hs hp v n cs hx hv hl h1 hn h)
end

theorem grown_low {W w' : World} {p B b o : Nat} {v : Value} (hg : W.grownBy w' (some p)) (hB : B ≤ p) (hb : b < B) (h : W.cell? ⟨b, o, none⟩ = some v) : w'.cell? ⟨b, o, none⟩ = some v :=
  (World.cell?_of_block (hg.block b (World.block_lt_of_cell? W _ h) (by simp; omega))).trans h
theorem grown_below {W w' : World} {p B : Nat} {w : World} (hg : W.grownBy w' (some p)) (hB : B ≤ p) (h : Below B w W) (hs : B ≤ W.heap.size) : Below B w w' :=
  h.grown hg hs (fun k hk => by simp only [Option.some.injEq] at hk; omega)
theorem grown_own {W w' : World} {p b : Nat} {T : TypeId} {cs : List Value} (hg : W.grownBy w' (some p)) (hne : b ≠ p) (h : Own W b T cs) : Own w' b T cs := by
  unfold Own at *; rw [hg.block b (Array.getElem?_eq_some_iff.1 h).1 (by simpa using hne)]; exact h

theorem one_bools (xs : List Bool) : ∀ u ∈ xs.map Value.bool, u.oneCell' = true := fun u hu => by
  obtain ⟨b, _, rfl⟩ := List.mem_map.1 hu; rfl
theorem one_ints (xs : List Int) : ∀ u ∈ xs.map (Value.int .i64), u.oneCell' = true := fun u hu => by
  obtain ⟨b, _, rfl⟩ := List.mem_map.1 hu; rfl

end Go.Proofs.Ythlcmlngmcoknaa

/- What is proved here: a region that draws its order, in which a new variable is made at any moment while other operations follow one another, may be walked in one order. No condition but the Bool that is asked. -/
namespace Go.Proofs.Ythlcmlngmcoknaa
open Go.RowKit

section
variable {P : Program} {ops : Array Oper} {Q : Exit → Act → World → Prop} {S : World → Prop} {E : Nat → Bool} {T : TypeId} {zs : List Value}

/-- A chain of operations: behind each, S holds, every block that holds zs as T holds it still, and memory may grow before the next. -/
def wpCh (P : Program) (Q : Exit → Act → World → Prop) (S : World → Prop) (T : TypeId) (zs : List Value) (K : Act → World → Prop) : List Oper → Act → World → Prop
  | [], a, w => K a w
  | o :: rest, a, w => o.wp P a w (fun a' w' => S w' ∧ (∀ b, Own w b T zs → Own w' b T zs) ∧ ∀ w'', Below w'.heap.size w' w'' → wpCh P Q S T zs K rest a' w'') Q

theorem wpCh_nil {K : Act → World → Prop} {a : Act} {w : World} (h : K a w) : wpCh P Q S T zs K [] a w := h
theorem wpCh_cons {K : Act → World → Prop} {a : Act} {w : World} {o : Oper} {rest : List Oper}
    (h : ∀ K' : Act → World → Prop, (∀ a' w', S w' → (∀ b, Own w b T zs → Own w' b T zs) → (∀ w'', Below w'.heap.size w' w'' → wpCh P Q S T zs K rest a' w'') → K' a' w') → o.wp P a w K' Q) : wpCh P Q S T zs K (o :: rest) a w := by
  unfold wpCh
  exact h _ fun _ _ h1 h2 h3 => ⟨h1, h2, h3⟩

theorem wp_put {o : Oper} {d : Tmp} {v : Value} {K K2 : Act → World → Prop} {a : Act} {w : World} (hs : ∀ cs b, o.op ≠ .select cs b) (h1 : d ∉ o.looksAt ops) (h2 : o.dst ≠ some d)
    (hQ : ∀ c a w, Q (.panic c) a w → Q (.panic c) (a.put (some d) v) w) (hK : ∀ a' w', K a' w' → K2 (a'.put (some d) v) w') (h : o.wp P a w K Q) : o.wp P (a.put (some d) v) w K2 Q := by
  have he : execOp (a.put (some d) v).eval o = execOp a.eval o := execOp_put (ops := ops) o hs a (some d) v (fun d' hd => by cases hd; exact h1)
  have hc : ∀ u, (a.put (some d) v).put o.dst u = (a.put o.dst u).put (some d) v := fun u => Act.put_comm a v u (fun d' hd => by cases hd; exact h2)
  unfold Oper.wp at *
  rw [he]
  generalize (execOp a.eval o).run P w = r at *
  cases r with
  | ok n w' =>
    cases n <;> simp only [Oper.upon] at h ⊢
    case value u => rw [hc]; exact hK _ _ h
    case skip => rw [hc]; exact hK _ _ h
    case defer dd =>
      rw [Act.put_defers, ← Act.put_comm _ undef v (fun d' hd hd2 => h2 (by rw [hd, hd2]))]
      exact hK _ _ h
    case enter f args =>
      refine Calls.mono h fun e w'' he => ?_
      cases e with
      | returned u => show K2 _ _; rw [hc]; exact hK _ _ he
      | panicked c => exact hQ _ _ _ he
      | outgrown => exact he
    case row row args => exact Rows.mono h fun u w'' he => by rw [hc]; exact hK _ _ he
  | halt x w' =>
    cases x <;> simp only [Oper.upon] at h ⊢
    case panic u => exact hQ _ _ _ h

/-- The chain, the new variable made already. -/
def chFl (ops : Array Oper) (E : Nat → Bool) (d0 : Tmp) (tl : List Nat) : List Nat → Array Bool → Bool
  | [], listed => seqX ops E tl listed true
  | c :: cs, listed => decide (Region.ready .any ops listed = [c]) && (match ops[c]? with | some o => !(o.looksAt ops).contains d0 && o.dst != some d0 && o.guard.isNone | none => false) && chFl ops E d0 tl cs (listed.setIfInBounds c true)
def chA (ops : Array Oper) (E : Nat → Bool) (k0 : Nat) (d0 : Tmp) (tl : List Nat) : List Nat → Array Bool → Bool
  | [], listed => decide (Region.ready .any ops listed = [k0]) && chFl ops E d0 tl [] (listed.setIfInBounds k0 true)
  | c :: cs, listed => (decide (Region.ready .any ops listed = [c, k0]) || decide (Region.ready .any ops listed = [k0, c])) && (match ops[c]? with | some o => o.guard.isNone | none => false) && chFl ops E d0 tl (c :: cs) (listed.setIfInBounds k0 true) && chA ops E k0 d0 tl cs (listed.setIfInBounds c true)

theorem wanted_none {o : Oper} (h : o.guard.isNone = true) (y : Nat → Option Bool) : Region.wanted o y = true := by
  unfold Region.wanted
  cases hg : o.guard with
  | none => rfl
  | some g => rw [hg] at h; cases h

theorem run_chB (hS : ∀ w w', S w → Below w.heap.size w w' → S w') (hs : Region.noSelect ops = true) (hQ : ∀ c a (d : Tmp) v w, Q (.panic c) a w → Q (.panic c) (a.put (some d) v) w) {d0 : Tmp} {tl : List Nat} {B0 : Nat} :
    ∀ (cs : List Nat) (listed : Array Bool) (a : Act) (w : World) (b : Nat), chFl ops E d0 tl cs listed = true → S w → Own w b T zs → B0 ≤ b →
      (∀ w'', Below w.heap.size w w'' → wpCh P Q S T zs (fun a3 w3 => ∀ b, Own w3 b T zs → B0 ≤ b → wpList P ops Q (opsAt ops tl) (a3.put (some d0) (.pointer (some ⟨b, 0, none⟩))) w3) (opsAt ops cs) a w'') →
      wpAnyX P ops Q S E (tl.length + cs.length) listed (a.put (some d0) (.pointer (some ⟨b, 0, none⟩))) w
  | [], listed, a, w, b, hB, hw, ho, hb, h => tail_seq hS tl listed true _ w hB (fun _ => hw) (h w (Below.refl _ _) b ho hb)
  | c :: cs, listed, a, w, b, hB, hw, ho, hb, h => by
    simp only [chFl, Bool.and_eq_true, decide_eq_true_eq] at hB
    obtain ⟨⟨hr, hc⟩, hB'⟩ := hB
    have hk : c ∈ Region.ready .any ops listed := by rw [hr]; simp
    obtain ⟨_, o, hoc, _⟩ := mem_ready.1 hk
    rw [hoc] at hc
    simp only [Bool.and_eq_true, Bool.not_eq_true', bne_iff_ne] at hc
    refine ⟨fun h1 => (by rw [hr] at h1; cases h1), fun i hi => ?_⟩
    rw [hr] at hi
    have hik : i = c := by simpa using hi
    subst hik
    have e : opsAt ops (i :: cs) = o :: opsAt ops cs := by simp [opsAt, hoc]
    have h0 := h w (Below.refl _ _)
    rw [e] at h0
    unfold wpOp
    simp only [hoc, wanted_none hc.2, if_true]
    refine .inl (wp_put (ops := ops) (fun x y => Region.noSelect_spec hs i o x y hoc) (by simpa using hc.1.1) hc.1.2 (fun c a w => hQ c a d0 _ w) ?_ h0)
    rintro a' w' ⟨h1, h2, h3⟩
    exact ⟨fun _ => h1, run_chB hS hs hQ cs _ a' w' b hB' h1 (h2 b ho) hb h3⟩

theorem run_chA (hS : ∀ w w', S w → Below w.heap.size w w' → S w') (hs : Region.noSelect ops = true) (hQ : ∀ c a (d : Tmp) v w, Q (.panic c) a w → Q (.panic c) (a.put (some d) v) w) {k0 : Nat} {d0 : Tmp} {tl : List Nat} {B0 : Nat} {o0 : Oper} (hk0 : ops[k0]? = some o0) (hd0 : o0.dst = some d0) (hg0 : o0.guard.isNone = true)
    (hrun : ∀ ρ W, (execOp ρ o0).run P W = .ok (.value (.pointer (some ⟨W.heap.size, 0, none⟩))) (W.alloc (.cells zs.toArray T (0, 0)))) :
    ∀ (cs : List Nat) (listed : Array Bool) (a : Act) (w : World), chA ops E k0 d0 tl cs listed = true → S w → B0 ≤ w.heap.size →
      (∀ w'', Below w.heap.size w w'' → wpCh P Q S T zs (fun a3 w3 => ∀ b, Own w3 b T zs → B0 ≤ b → wpList P ops Q (opsAt ops tl) (a3.put (some d0) (.pointer (some ⟨b, 0, none⟩))) w3) (opsAt ops cs) a w'') →
      (∀ w1 w2, S w1 → S w2 → True) →
      (∀ w', S w' → B0 ≤ w'.heap.size) →
      wpAnyX P ops Q S E (tl.length + cs.length + 1) listed a w
  | [], listed, a, w, hB, hw, hb, h, _, hsz => by
    simp only [chA, Bool.and_eq_true, decide_eq_true_eq] at hB
    refine ⟨fun h1 => (by rw [hB.1] at h1; cases h1), fun i hi => ?_⟩
    rw [hB.1] at hi
    have hik : i = k0 := by simpa using hi
    subst hik
    unfold wpOp
    simp only [hk0, wanted_none hg0, if_true]
    refine .inl ?_
    unfold Oper.wp
    rw [hrun]
    simp only [Oper.upon, hd0]
    have hx := ba1 w (.cells zs.toArray T (0, 0))
    exact ⟨fun _ => hS _ _ hw hx, run_chB hS hs hQ [] _ a _ w.heap.size hB.2 (hS _ _ hw hx) (Own.new w T zs) hb fun w'' hw'' => h w'' (below_to hx hw'')⟩
  | c :: cs, listed, a, w, hB, hw, hb, h, ht, hsz => by
    simp only [chA, Bool.and_eq_true, Bool.or_eq_true, decide_eq_true_eq] at hB
    obtain ⟨⟨⟨hr, hc⟩, hB1⟩, hB2⟩ := hB
    have hk : c ∈ Region.ready .any ops listed := by rcases hr with hr | hr <;> (rw [hr]; simp)
    obtain ⟨_, o, hoc, _⟩ := mem_ready.1 hk
    rw [hoc] at hc
    refine ⟨fun h1 => (by rcases hr with hr | hr <;> (rw [hr] at h1; cases h1)), fun i hi => ?_⟩
    have hik : i = c ∨ i = k0 := by
      rcases hr with hr | hr
      · rw [hr] at hi; simpa using hi
      · rw [hr] at hi; simp at hi; exact hi.symm
    by_cases hi0 : i = k0
    · subst hi0
      unfold wpOp
      simp only [hk0, wanted_none hg0, if_true]
      refine .inl ?_
      unfold Oper.wp
      rw [hrun]
      simp only [Oper.upon, hd0]
      have hx := ba1 w (.cells zs.toArray T (0, 0))
      exact ⟨fun _ => hS _ _ hw hx, run_chB hS hs hQ (c :: cs) _ a _ w.heap.size hB1 (hS _ _ hw hx) (Own.new w T zs) hb fun w'' hw'' => h w'' (below_to hx hw'')⟩
    · have hic : i = c := hik.resolve_right hi0
      subst hic
      have e : opsAt ops (i :: cs) = o :: opsAt ops cs := by simp [opsAt, hoc]
      have h0 := h w (Below.refl _ _)
      rw [e] at h0
      unfold wpOp
      simp only [hoc, wanted_none hc, if_true]
      refine .inl (Oper.wp_mono ?_ h0)
      rintro a' w' ⟨h1, h2, h3⟩
      exact ⟨fun _ => h1, run_chA hS hs hQ hk0 hd0 hg0 hrun cs _ a' w' hB2 h1 (hsz w' h1) h3 ht hsz⟩

/-- The Bool that 'wp_region_fa' asks. -/
def faB (ops : Array Oper) (k0 : Nat) (d0 : Tmp) (m0 m1 cl tl : List Nat) : Bool :=
  Region.noSelect ops && takeB ops (fun _ => true) false m0 (Array.replicate ops.size false) &&
  takeB ops (fun j => m1.contains j || cl.contains j || j == k0 || match ops[j]? with | some o => keepB o.op | none => true) true m1 (mark m0 (Array.replicate ops.size false)) &&
  chA ops (fun j => m1.contains j || cl.contains j || j == k0 || match ops[j]? with | some o => keepB o.op | none => true) k0 d0 tl cl (mark m1 (mark m0 (Array.replicate ops.size false))) &&
  decide (m0.length + m1.length + cl.length + 1 + tl.length = ops.size) && (match ops[k0]? with | some o => o.guard.isNone && o.dst == some d0 | none => false)

/-- A region that draws its order and makes a variable (operation k0, of type T) at any moment: pure operations m0, reads m1, a chain cl, then the rest tl. -/
theorem wp_region_fa {id : Nat} {a : Act} {w : World} (k0 : Nat) (d0 : Tmp) (T : TypeId) (zs : List Value) (m0 m1 cl tl : List Nat) (hm : P.follows .mixedOrders = true) (hB : faB ops k0 d0 m0 m1 cl tl = true)
    (hrun : ∀ ρ W, (execOp ρ (ops[k0]?.getD default)).run P W = .ok (.value (.pointer (some ⟨W.heap.size, 0, none⟩))) (W.alloc (.cells zs.toArray T (0, 0))))
    (hQ : ∀ c a (d : Tmp) v w, Q (.panic c) (a.put (some d) v) w → Q (.panic c) a w) (hQ2 : ∀ c a (d : Tmp) v w, Q (.panic c) a w → Q (.panic c) (a.put (some d) v) w)
    (h : wpQuiet P ops (fun _ => True) (fun a1 => wpQuiet P ops (fun w' => ∃ e, w' = grow w e) (fun a2 => ∀ w1, Below w.heap.size w w1 → wpCh P Q (fun w' => Below w.heap.size w w') T zs (fun a3 w3 => ∀ b, Own w3 b T zs → w.heap.size ≤ b → wpList P ops Q (opsAt ops tl) (a3.put (some d0) (.pointer (some ⟨b, 0, none⟩))) w3) (opsAt ops cl) a2 w1) (opsAt ops m1) a1) (opsAt ops m0) a) :
    (Code.region id ops true).wp P Q a w := by
  simp only [faB, Bool.and_eq_true, decide_eq_true_eq] at hB
  obtain ⟨⟨⟨⟨⟨hs, h0⟩, h1⟩, h2⟩, hn⟩, hk⟩ := hB
  cases hk0 : ops[k0]? with
  | none => rw [hk0] at hk; cases hk
  | some o0 =>
    rw [hk0] at hk hrun
    simp only [Bool.and_eq_true, beq_iff_eq] at hk
    simp only [Option.getD_some] at hrun
    refine wp_region_any hm ?_
    have hS : ∀ w1 w2 : World, Below w.heap.size w w1 → Below w1.heap.size w1 w2 → Below w.heap.size w w2 := fun w1 w2 a b => below_to a b
    have hw : Below w.heap.size w ({ w with drawn := w.drawn + 1 } : World) := (Below.refl w.heap.size w).drew
    have hsz : ops.size = ((tl.length + cl.length + 1) + m1.length) + m0.length := by omega
    have h0' := h0
    have h1' := h1
    have h2' := h2
    rw [hsz] at h0' h1' h2' ⊢
    refine take_pure hs hQ m0 _ a h0' h fun a1 k1 => ?_
    have hC : (fun w' => ∃ e, w' = grow w e) = (fun w' => Below w.heap.size w w') := by
      funext w'; exact propext ⟨fun ⟨e, he⟩ => he ▸ below_grow w e, grow_of⟩
    rw [hC] at k1
    refine wpAny_of_X _ _ _ _ (take_read (S := fun w' => Below w.heap.size w w') hs hQ hw m1 _ a1 (closed_mark m0 _ _ _ (fun j oj _ hl => (by simp [Array.getElem?_replicate] at hl; split at hl <;> simp at hl)) h0') h1' k1 fun a2 k2 => ?_)
    exact run_chA (T := T) (zs := zs) hS hs hQ2 hk0 hk.2 hk.1 hrun cl _ a2 _ h2' hw (Nat.le_refl _) (fun w'' hw'' => k2 w'' (below_to hw hw'')) (fun _ _ _ _ => trivial) (fun w' hw' => hw'.size)
end

end Go.Proofs.Ythlcmlngmcoknaa

/- What is proved here: a region that draws its order, in which new blocks are made at any moment while calls and appends follow one another, may be walked in one order, the new blocks known only by what they hold. No condition but the Bool that is asked. -/
namespace Go.Proofs.Ythlcmlngmcoknaa
open Go.RowKit

/-- w' is w with new blocks; of the old ones those of bs alone may have changed. -/
structure Mod (bs : List Nat) (w w' : World) : Prop where
  os : w'.os = w.os
  tape : w'.tape = w.tape
  output : w'.output = w.output
  size : w.heap.size ≤ w'.heap.size
  block : ∀ b, b < w.heap.size → b ∉ bs → w'.heap[b]? = w.heap[b]?
theorem Mod.of_below {bs : List Nat} {w w' : World} (h : Below w.heap.size w w') : Mod bs w w' := ⟨h.os, h.tape, h.output, h.size, fun b hb _ => h.block b hb⟩
theorem Mod.of_grown {bs : List Nat} {p : Nat} {w w' : World} (h : w.grownBy w' (some p)) (hp : p ∈ bs) : Mod bs w w' :=
  ⟨h.os, h.tape, h.output, h.size, fun b hb hn => h.block b hb (fun e => hn (by simp only [Option.some.injEq] at e; rw [e]; exact hp))⟩
theorem Mod.own {bs : List Nat} {w w' : World} (h : Mod bs w w') {b : Nat} {T : TypeId} {cs : List Value} (ho : Own w b T cs) (hb : b ∉ bs) : Own w' b T cs := by
  unfold Own at *; rw [h.block b (Array.getElem?_eq_some_iff.1 ho).1 hb]; exact ho
theorem Mod.below {bs : List Nat} {w0 w w' : World} (h : Mod bs w w') (hb : Below w0.heap.size w0 w) (hbs : ∀ b ∈ bs, w0.heap.size ≤ b) : Below w0.heap.size w0 w' :=
  ⟨h.os.trans hb.os, h.tape.trans hb.tape, h.output.trans hb.output, Nat.le_trans hb.size h.size, fun b hlt => by
    rw [h.block b (Nat.lt_of_lt_of_le hlt hb.size) (fun hm => by have := hbs b hm; omega)]; exact hb.block b hlt⟩

/-- A new block: its type, what it holds, and the value that leads to it. -/
structure FlS where
  T : TypeId
  zs : List Value
  val : Nat → Value
inductive It where
  | fl (k : Nat)
  | op (i : Nat)
  | tk (i : Nat)

section
variable {P : Program} {ops : Array Oper} {Q : Exit → Act → World → Prop} {w0 : World} {fv : Nat → Option FlS} {K : Act → World → Prop}

/-- The walk: new blocks where they are first wanted, and the operations that follow one another; memory may grow before each. -/
def wpFl (P : Program) (ops : Array Oper) (Q : Exit → Act → World → Prop) (w0 : World) (fv : Nat → Option FlS) (K : Act → World → Prop) : List It → List Nat → Act → World → Prop
  | [], _, a, w => ∀ w1, Below w.heap.size w w1 → K a w1
  | .fl k :: r, bs, a, w => match fv k with
    | some f => ∀ b w1, Below w.heap.size w w1 → Own w1 b f.T f.zs → w0.heap.size ≤ b → b ∉ bs → wpFl P ops Q w0 fv K r (b :: bs) (a.put ((ops[k]?).bind (·.dst)) (f.val b)) w1
    | none => False
  | .op i :: r, bs, a, w => match ops[i]? with
    | some o => ∀ w1, Below w.heap.size w w1 → o.wp P a w1 (fun a' w' => Mod bs w1 w' ∧ wpFl P ops Q w0 fv K r bs a' w') Q
    | none => False
  | .tk i :: r, bs, a, w => wpQuiet P ops (fun _ => True) (fun a' => wpFl P ops Q w0 fv K r bs a' w) (opsAt ops [i]) a

def dstOf (ops : Array Oper) (k : Nat) : Option Tmp := (ops[k]?).bind (·.dst)
/-- The act with the new blocks that were made early. -/
def putE (ops : Array Oper) (fv : Nat → Option FlS) : List (Nat × Nat) → Act → Act
  | [], a => a
  | (k, b) :: e, a => (putE ops fv e a).put (dstOf ops k) (match fv k with | some f => f.val b | none => undef)

theorem putE_comm {d : Option Tmp} (v : Value) : ∀ (e : List (Nat × Nat)) (a : Act), (∀ p ∈ e, ∀ x, d = some x → dstOf ops p.1 ≠ some x) → putE ops fv e (a.put d v) = (putE ops fv e a).put d v
  | [], a, _ => rfl
  | (k, b) :: e, a, h => by
    simp only [putE]
    rw [putE_comm v e a (fun p hp => h p (List.mem_cons_of_mem _ hp)), Act.put_comm _ v _ (fun x hx => h (k, b) (by simp) x hx)]
theorem putE_take {k b : Nat} : ∀ (e : List (Nat × Nat)) (a : Act), (k, b) ∈ e → (e.map (·.1)).Nodup → (∀ p ∈ e, ∀ q ∈ e, p.1 ≠ q.1 → ∀ x, dstOf ops p.1 = some x → dstOf ops q.1 ≠ some x) →
    ∃ e', putE ops fv e a = putE ops fv e' (a.put (dstOf ops k) (match fv k with | some f => f.val b | none => undef)) ∧ (∀ p, p ∈ e' ↔ p ∈ e ∧ p.1 ≠ k) ∧ (e'.map (·.1)).Nodup ∧ ((e.map (·.2)).Nodup → (e'.map (·.2)).Nodup)
  | [], a, h, _, _ => by cases h
  | (k', b') :: e, a, h, hn, hd => by
    simp only [List.map_cons, List.nodup_cons] at hn
    by_cases hk : k' = k
    · subst hk
      have hb : b' = b := by
        rcases List.mem_cons.1 h with h | h
        · cases h; rfl
        · exact absurd (List.mem_map.2 ⟨(k', b), h, rfl⟩) hn.1
      subst hb
      refine ⟨e, ?_, fun p => ⟨fun hp => ⟨List.mem_cons_of_mem _ hp, fun e' => hn.1 (List.mem_map.2 ⟨p, hp, e'⟩)⟩, fun hp => ?_⟩, hn.2, fun hB => ?_⟩
      · simp only [putE]
        rw [putE_comm _ e a (fun p hp x hx => fun hy => hd (k', b') (by simp) p (List.mem_cons_of_mem _ hp) (fun e' => hn.1 (List.mem_map.2 ⟨p, hp, e'.symm⟩)) x hx hy)]
      · rcases List.mem_cons.1 hp.1 with h | h
        · exact absurd (by rw [h]) hp.2
        · exact h
      · simp only [List.map_cons, List.nodup_cons] at hB; exact hB.2
    · have h' : (k, b) ∈ e := by
        rcases List.mem_cons.1 h with h | h
        · cases h; exact absurd rfl hk
        · exact h
      obtain ⟨e', h1, h2, h3, h4⟩ := putE_take e a h' hn.2 (fun p hp q hq => hd p (List.mem_cons_of_mem _ hp) q (List.mem_cons_of_mem _ hq))
      refine ⟨(k', b') :: e', by simp only [putE]; rw [h1], fun p => ?_, ?_, fun hB => ?_⟩
      · simp only [List.mem_cons, h2]
        constructor
        · rintro (rfl | ⟨h5, h6⟩)
          · exact ⟨.inl rfl, hk⟩
          · exact ⟨.inr h5, h6⟩
        · rintro ⟨rfl | h5, h6⟩
          · exact .inl rfl
          · exact .inr ⟨h5, h6⟩
      · simp only [List.map_cons, List.nodup_cons]
        refine ⟨fun hm => ?_, h3⟩
        obtain ⟨p, hp, he⟩ := List.mem_map.1 hm
        exact hn.1 (List.mem_map.2 ⟨p, ((h2 p).1 hp).1, he⟩)
      · simp only [List.map_cons, List.nodup_cons] at hB ⊢
        refine ⟨fun hm => ?_, h4 hB.2⟩
        obtain ⟨p, hp, he⟩ := List.mem_map.1 hm
        exact hB.1 (List.mem_map.2 ⟨p, ((h2 p).1 hp).1, he⟩)

theorem wp_putE {o : Oper} {K K2 : Act → World → Prop} {w : World} (hs : ∀ cs b, o.op ≠ .select cs b) (hQ : ∀ c a (d : Tmp) v w, Q (.panic c) a w → Q (.panic c) (a.put (some d) v) w) :
    ∀ (e : List (Nat × Nat)) (a : Act), (∀ p ∈ e, ∀ x, dstOf ops p.1 = some x → x ∉ o.looksAt ops ∧ o.dst ≠ some x) → (∀ a' w', K a' w' → K2 (putE ops fv e a') w') → o.wp P a w K Q → o.wp P (putE ops fv e a) w K2 Q
  | [], a, _, hK, h => Oper.wp_mono hK h
  | (k, b) :: e, a, hp, hK, h => by
    simp only [putE]
    have h1 := wp_putE (K2 := fun a' w' => K2 (a'.put (dstOf ops k) (match fv k with | some f => f.val b | none => undef)) w') hs hQ e a (fun p hp' => hp p (List.mem_cons_of_mem _ hp')) (fun a' w' h' => hK a' w' h') h
    cases hd : dstOf ops k with
    | none => rw [hd] at h1; exact h1
    | some d =>
      rw [hd] at h1
      obtain ⟨g1, g2⟩ := hp (k, b) (by simp) d hd
      exact wp_put (ops := ops) hs g1 g2 (fun c a w => hQ c a d _ w) (fun a' w' h' => h') h1

/-- What has come up, but for the new blocks of U, which have not. -/
structure LR (U : List Nat) (L listed : Array Bool) : Prop where
  hU : ∀ j ∈ U, listed.getD j true = false
  hN : ∀ j, j ∉ U → listed.getD j true = L.getD j true ∧ listed.getD j false = L.getD j false
  hA : ∀ j ∈ U, L.getD j false = true
  hS : listed.size = L.size
theorem in_lt {l : Array Bool} {j : Nat} (h : l.getD j true = false) : j < l.size := by
  rcases Nat.lt_or_ge j l.size with h' | h'
  · exact h'
  · simp [Array.getElem?_eq_none h'] at h
theorem not_both {l : Array Bool} {j : Nat} (h : l.getD j true = false) (h2 : l.getD j false = true) : False := by
  have hj := in_lt h
  simp [hj] at h h2
  rw [h] at h2; cases h2
theorem set_true {l : Array Bool} {j : Nat} (h : j < l.size) (d : Bool) : (l.setIfInBounds j true).getD j d = true := by simp [h]
theorem LR.setU {U : List Nat} {L listed : Array Bool} (h : LR U L listed) {j : Nat} (hj : j ∈ U) (hn : U.Nodup) : LR (U.erase j) L (listed.setIfInBounds j true) := by
  have hjl := in_lt (h.hU j hj)
  refine ⟨fun x hx => ?_, fun x hx => ?_, fun x hx => h.hA x (List.mem_of_mem_erase hx), by simpa using h.hS⟩
  · have hne : j ≠ x := fun e => by subst e; exact (List.Nodup.not_mem_erase hn) hx
    rw [getD_set_ne true hne]; exact h.hU x (List.mem_of_mem_erase hx)
  · by_cases e : j = x
    · subst e
      have hA := h.hA j hj
      have hL : j < L.size := by rw [← h.hS]; exact hjl
      have hT : L.getD j true = true := by simp [hL] at hA ⊢; exact hA
      rw [set_true hjl, set_true hjl, hA, hT]
      exact ⟨rfl, rfl⟩
    · have hx' : x ∉ U := fun hm => hx ((List.mem_erase_of_ne (Ne.symm e)).2 hm)
      rw [getD_set_ne true e, getD_set_ne false e]
      exact h.hN x hx'
theorem LR.setI {U : List Nat} {L listed : Array Bool} (h : LR U L listed) {i : Nat} (hi : i ∉ U) : LR U (L.setIfInBounds i true) (listed.setIfInBounds i true) := by
  refine ⟨fun x hx => ?_, fun x hx => ?_, fun x hx => ?_, by simpa using h.hS⟩
  · have hne : i ≠ x := fun e => hi (e ▸ hx)
    rw [getD_set_ne true hne]; exact h.hU x hx
  · by_cases e : i = x
    · subst e
      rcases Nat.lt_or_ge i listed.size with h' | h'
      · rw [set_true h', set_true h', set_true (by rw [← h.hS]; exact h'), set_true (by rw [← h.hS]; exact h')]; exact ⟨rfl, rfl⟩
      · rw [Array.setIfInBounds_eq_of_size_le h', Array.setIfInBounds_eq_of_size_le (by rw [← h.hS]; exact h')]; exact h.hN i hi
    · rw [getD_set_ne true e, getD_set_ne false e, getD_set_ne true e, getD_set_ne false e]
      exact h.hN x hx
  · have hne : i ≠ x := fun e => hi (e ▸ hx)
    rw [getD_set_ne false hne]; exact h.hA x hx
theorem LR.nil {L listed : Array Bool} (h : LR [] L listed) : listed = L := by
  apply Array.ext h.hS
  intro i h1 h2
  have := (h.hN i (by simp)).1
  simpa [h1, h2] using this
theorem LR.ready {U : List Nat} {L listed : Array Bool} (h : LR U L listed) {j : Nat} (hj : j ∈ Region.ready .any ops listed) (hn : j ∉ U) : j ∈ Region.ready .any ops L := by
  obtain ⟨h1, o, ho, h2⟩ := mem_ready.1 hj
  refine mem_ready.2 ⟨by rw [← (h.hN j hn).1]; exact h1, o, ho, fun e he hb => ?_⟩
  have h3 := h2 e he hb
  by_cases hm : e.on ∈ U
  · exact h.hA _ hm
  · rw [← (h.hN _ hm).2]; exact h3

def floatsOf : List It → List Nat
  | [] => []
  | .fl k :: r => k :: floatsOf r
  | .op _ :: r => floatsOf r
  | .tk _ :: r => floatsOf r
def opsC : List It → Nat
  | [] => 0
  | .fl _ :: r => opsC r
  | .op _ :: r => opsC r + 1
  | .tk _ :: r => opsC r + 1
def nextOp (tl : List Nat) : List It → Option Nat
  | [] => tl.head?
  | .fl _ :: r => nextOp tl r
  | .op i :: _ => some i
  | .tk i :: _ => some i
/-- Operation c waits for k. -/
def waitsB (ops : Array Oper) (c k : Nat) : Bool := match ops[c]? with | some o => o.after.any fun e => Region.binds .any e && e.on == k | none => false
def unmark (is : List Nat) (l : Array Bool) : Array Bool := is.foldl (fun l i => l.setIfInBounds i false) l
def itB (ops : Array Oper) (tl : List Nat) : List It → Array Bool → Bool
  | [], L => schedB ops (fun _ => true) true (tl.map .f) L && (Region.ready .any ops (markS (tl.map .f) L)).isEmpty && (List.range ops.size).all fun j => L.getD j true || tl.contains j
  | .fl k :: r, L => (match nextOp tl r with | some c => decide (Region.ready .any ops L = [c]) && waitsB ops c k | none => false) && itB ops tl r L
  | .op i :: r, L => decide (Region.ready .any ops L = [i]) && (match ops[i]? with
      | some o => o.guard.isNone && (floatsOf r).all fun k => match dstOf ops k with | some d => !(o.looksAt ops).contains d && o.dst != some d | none => false
      | none => false) && itB ops tl r (L.setIfInBounds i true)
  | .tk i :: r, L => (Region.ready .any ops L).contains i && (match ops[i]? with
      | some o => o.guard.isNone && plainB o.op && (o.after.all fun e => !(floatsOf r).contains e.on) && ((floatsOf r).all fun k => match dstOf ops k with | some d => !(o.looksAt ops).contains d && o.dst != some d | none => false) &&
        (List.range ops.size).all fun j => (L.getD j true && !(floatsOf r).contains j) || j == i || (match ops[j]? with | some oj => (oj.after.any fun e => Region.binds .any e && e.on == i) || o.apart ops oj | none => true)
      | none => false) && (tl.all fun j => afterB ops ops.size j i) && itB ops tl r (L.setIfInBounds i true)

theorem waits_no {c k : Nat} {listed : Array Bool} (hc : c ∈ Region.ready .any ops listed) (hw : waitsB ops c k = true) (hk : listed.getD k true = false) : False := by
  obtain ⟨_, o, ho, h2⟩ := mem_ready.1 hc
  unfold waitsB at hw
  rw [ho] at hw
  obtain ⟨e, he, hb⟩ := Array.any_eq_true'.1 hw
  simp only [Bool.and_eq_true, beq_iff_eq] at hb
  have := h2 e he hb.1
  rw [hb.2] at this
  exact not_both hk this


def FlC (P : Program) (ops : Array Oper) (Q : Exit → Act → World → Prop) (w0 : World) (fv : Nat → Option FlS) (tl : List Nat) (n : Nat) (items : List It) : Prop :=
    ∀ (U : List Nat) (early : List (Nat × Nat)) (L listed : Array Bool) (bs : List Nat) (a : Act) (w w' : World),
      wpFl P ops Q w0 fv (fun a w => wpList P ops Q (opsAt ops tl) a w) items bs a w → Below w.heap.size w w' → Below w0.heap.size w0 w' →
      (∀ p ∈ early, ∃ f, fv p.1 = some f ∧ Own w' p.2 f.T f.zs ∧ w0.heap.size ≤ p.2 ∧ p.2 ∉ bs) → (early.map (·.1)).Nodup → (early.map (·.2)).Nodup → (∀ b ∈ bs, b < w'.heap.size) → (∀ b ∈ bs, w0.heap.size ≤ b) →
      (∀ k, k ∈ floatsOf items ↔ k ∈ U ∨ ∃ b, (k, b) ∈ early) → (∀ k ∈ U, ∀ b, (k, b) ∉ early) → (∀ k ∈ U, ∃ f, fv k = some f) → (floatsOf items).Nodup → U.Nodup → LR U L listed → Closed ops listed → itB ops tl items L = true → n = U.length + opsC items →
      wpAnyX P ops Q (fun x => Below w0.heap.size w0 x) (fun j => !tl.contains j) (tl.length + n) listed (putE ops fv early a) w'

theorem nodup2 {e : List (Nat × Nat)} (h : (e.map (·.2)).Nodup) {p q : Nat × Nat} (hp : p ∈ e) (hq : q ∈ e) (hpq : p.2 = q.2) : p = q := by
  induction e with
  | nil => cases hp
  | cons x e ih =>
    simp only [List.map_cons, List.nodup_cons] at h
    rcases List.mem_cons.1 hp with rfl | hp'
    · rcases List.mem_cons.1 hq with rfl | hq'
      · rfl
      · exact absurd (List.mem_map.2 ⟨q, hq', hpq.symm⟩) h.1
    · rcases List.mem_cons.1 hq with rfl | hq'
      · exact absurd (List.mem_map.2 ⟨p, hp', hpq⟩) h.1
      · exact ih h.2 hp' hq'

/-- A new block that was made early, where it is wanted. -/
theorem Fl_eat {tl : List Nat} (hdd : ∀ k k' f f', fv k = some f → fv k' = some f' → k ≠ k' → ∀ x, dstOf ops k = some x → dstOf ops k' ≠ some x) {n : Nat} {r : List It} {k : Nat} (ih : FlC P ops Q w0 fv tl n r)
    {U : List Nat} {early : List (Nat × Nat)} {L listed : Array Bool} {bs : List Nat} {a : Act} {w w' : World} {b : Nat} (hkb : (k, b) ∈ early)
    (h : wpFl P ops Q w0 fv (fun a w => wpList P ops Q (opsAt ops tl) a w) (.fl k :: r) bs a w) (hb : Below w.heap.size w w') (hb0 : Below w0.heap.size w0 w')
    (he : ∀ p ∈ early, ∃ f, fv p.1 = some f ∧ Own w' p.2 f.T f.zs ∧ w0.heap.size ≤ p.2 ∧ p.2 ∉ bs) (he1 : (early.map (·.1)).Nodup) (he2 : (early.map (·.2)).Nodup) (hbs : ∀ b ∈ bs, b < w'.heap.size) (hbl : ∀ b ∈ bs, w0.heap.size ≤ b)
    (hf : ∀ k', k' ∈ floatsOf (.fl k :: r) ↔ k' ∈ U ∨ ∃ b, (k', b) ∈ early) (hUe : ∀ k ∈ U, ∀ b, (k, b) ∉ early) (hUf : ∀ k ∈ U, ∃ f, fv k = some f) (hfn : (floatsOf (.fl k :: r)).Nodup) (hUn : U.Nodup) (hLR : LR U L listed) (hcl : Closed ops listed) (hB : itB ops tl (.fl k :: r) L = true) (hn : n = U.length + opsC (.fl k :: r)) :
    wpAnyX P ops Q (fun x => Below w0.heap.size w0 x) (fun j => !tl.contains j) (tl.length + n) listed (putE ops fv early a) w' := by
  obtain ⟨f, hfk, ho, hlo, hnb⟩ := he (k, b) hkb
  simp only [floatsOf, List.nodup_cons] at hfn
  have hdist : ∀ p ∈ early, ∀ q ∈ early, p.1 ≠ q.1 → ∀ x, dstOf ops p.1 = some x → dstOf ops q.1 ≠ some x := fun p hp q hq hne x hx => by
    obtain ⟨f1, h1, _⟩ := he p hp
    obtain ⟨f2, h2, _⟩ := he q hq
    exact hdd p.1 q.1 f1 f2 h1 h2 hne x hx
  obtain ⟨e', g1, g2, g3, g4⟩ := putE_take (fv := fv) early a hkb he1 hdist
  rw [g1, hfk]
  simp only [wpFl, hfk] at h
  simp only [itB, Bool.and_eq_true] at hB
  refine ih U e' L listed (b :: bs) _ w' w' (h b w' hb ho hlo hnb) (Below.refl _ _) hb0 (fun p hp => ?_) g3 (g4 he2) (fun x hx => ?_) (fun x hx => ?_) (fun k' => ?_) (fun k' hk' b' hb' => hUe k' hk' b' ((g2 _).1 hb').1) hUf hfn.2 hUn hLR hcl hB.2 hn
  · obtain ⟨hp1, hp2⟩ := (g2 p).1 hp
    obtain ⟨f1, h1, h2, h3, h4⟩ := he p hp1
    refine ⟨f1, h1, h2, h3, fun hm => ?_⟩
    rcases List.mem_cons.1 hm with e | hm
    · exact hp2 (by rw [nodup2 he2 hp1 hkb e])
    · exact h4 hm
  · rcases List.mem_cons.1 hx with rfl | hx
    · exact ho.lt
    · exact hbs x hx
  · rcases List.mem_cons.1 hx with rfl | hx
    · exact hlo
    · exact hbl x hx
  · have h1 := hf k'
    simp only [floatsOf, List.mem_cons] at h1
    constructor
    · intro hm
      rcases h1.1 (.inr hm) with h2 | ⟨b', h2⟩
      · exact .inl h2
      · exact .inr ⟨b', (g2 _).2 ⟨h2, fun e => hfn.1 (by simp only at e; rw [← e]; exact hm)⟩⟩
    · intro hm
      have h3 : k' = k ∨ k' ∈ floatsOf r := h1.2 (hm.imp id (fun ⟨b', hb'⟩ => ⟨b', ((g2 _).1 hb').1⟩))
      rcases h3 with rfl | h3
      · rcases hm with hm | ⟨b', hb'⟩
        · exact absurd hkb (hUe _ hm b)
        · exact absurd rfl ((g2 _).1 hb').2
      · exact h3

/-- A new block is made, early or in time. -/
theorem Fl_make {tl : List Nat} (hfl : ∀ k f, fv k = some f → ∃ o, ops[k]? = some o ∧ o.guard.isNone = true ∧ (∀ e ∈ o.after, Region.binds .any e = false) ∧ ∀ (a : Act) w, (execOp a.eval o).run P w = .ok (.value (f.val w.heap.size)) (w.alloc (.cells f.zs.toArray f.T (0, 0))))
    {n : Nat} {items : List It} (ih : FlC P ops Q w0 fv tl n items) {U : List Nat} {early : List (Nat × Nat)} {L listed : Array Bool} {bs : List Nat} {a : Act} {w w' : World} {j : Nat} (hj : j ∈ U) (hjr : j ∈ Region.ready .any ops listed)
    (h : wpFl P ops Q w0 fv (fun a w => wpList P ops Q (opsAt ops tl) a w) items bs a w) (hb : Below w.heap.size w w') (hb0 : Below w0.heap.size w0 w')
    (he : ∀ p ∈ early, ∃ f, fv p.1 = some f ∧ Own w' p.2 f.T f.zs ∧ w0.heap.size ≤ p.2 ∧ p.2 ∉ bs) (he1 : (early.map (·.1)).Nodup) (he2 : (early.map (·.2)).Nodup) (hbs : ∀ b ∈ bs, b < w'.heap.size) (hbl : ∀ b ∈ bs, w0.heap.size ≤ b)
    (hf : ∀ k', k' ∈ floatsOf items ↔ k' ∈ U ∨ ∃ b, (k', b) ∈ early) (hUe : ∀ k ∈ U, ∀ b, (k, b) ∉ early) (hUf : ∀ k ∈ U, ∃ f, fv k = some f) (hfn : (floatsOf items).Nodup) (hUn : U.Nodup) (hLR : LR U L listed) (hcl : Closed ops listed) (hB : itB ops tl items L = true) (hn : n + 1 = U.length + opsC items) :
    wpOp P ops Q j (fun a' x' => ((!tl.contains j) = true → Below w0.heap.size w0 x') ∧ wpAnyX P ops Q (fun x => Below w0.heap.size w0 x) (fun j => !tl.contains j) (tl.length + n) (listed.setIfInBounds j true) a' x') (putE ops fv early a) w' := by
  obtain ⟨f, hfj⟩ := hUf j hj
  obtain ⟨o, ho, hg, _, hrun⟩ := hfl j f hfj
  unfold wpOp
  simp only [ho, wanted_none hg, if_true]
  refine .inl ?_
  unfold Oper.wp
  rw [hrun]
  simp only [Oper.upon]
  have hbn := ba1 w' (.cells f.zs.toArray f.T (0, 0))
  have key := ih (U.erase j) ((j, w'.heap.size) :: early) L (listed.setIfInBounds j true) bs a w (w'.alloc (.cells f.zs.toArray f.T (0, 0))) h (below_to hb hbn) (below_to hb0 hbn) ?_ ?_ ?_ ?_ hbl ?_ ?_ ?_ hfn (hUn.erase j) (hLR.setU hj hUn) (hcl.set hjr) hB (by rw [List.length_erase_of_mem hj]; have := List.length_pos_of_mem hj; omega)
  · have e : putE ops fv ((j, w'.heap.size) :: early) a = (putE ops fv early a).put o.dst (f.val w'.heap.size) := by simp [putE, dstOf, ho, hfj]
    rw [e] at key
    exact ⟨fun _ => below_to hb0 hbn, key⟩
  · intro p hp
    rcases List.mem_cons.1 hp with rfl | hp
    · exact ⟨f, hfj, Own.new w' f.T f.zs, hb0.size, fun hm => Nat.lt_irrefl _ (hbs _ hm)⟩
    · obtain ⟨f1, h1, h2, h3, h4⟩ := he p hp
      exact ⟨f1, h1, h2.below hbn, h3, h4⟩
  · simp only [List.map_cons, List.nodup_cons]
    exact ⟨fun hm => by obtain ⟨p, hp, e⟩ := List.mem_map.1 hm; exact hUe j hj p.2 (by rw [← e]; exact hp), he1⟩
  · simp only [List.map_cons, List.nodup_cons]
    refine ⟨fun hm => ?_, he2⟩
    obtain ⟨p, hp, e⟩ := List.mem_map.1 hm
    obtain ⟨_, _, h2, _⟩ := he p hp
    have := h2.lt
    omega
  · exact fun b hm => Nat.lt_of_lt_of_le (hbs b hm) hbn.size
  · intro k'
    rw [hf k']
    constructor
    · rintro (h1 | ⟨b, h1⟩)
      · by_cases e : k' = j
        · subst e; exact .inr ⟨w'.heap.size, by simp⟩
        · exact .inl ((List.mem_erase_of_ne e).2 h1)
      · exact .inr ⟨b, List.mem_cons_of_mem _ h1⟩
    · rintro (h1 | ⟨b, h1⟩)
      · exact .inl (List.mem_of_mem_erase h1)
      · rcases List.mem_cons.1 h1 with e | h1
        · cases e; exact .inl hj
        · exact .inr ⟨b, h1⟩
  · intro k' hk' b hm
    rcases List.mem_cons.1 hm with e | hm
    · cases e; exact (List.Nodup.not_mem_erase hUn) hk'
    · exact hUe k' (List.mem_of_mem_erase hk') b hm
  · exact fun k' hk' => hUf k' (List.mem_of_mem_erase hk')

theorem ready_fl {U : List Nat} {L listed : Array Bool} (hfl : ∀ k f, fv k = some f → ∃ o, ops[k]? = some o ∧ o.guard.isNone = true ∧ (∀ e ∈ o.after, Region.binds .any e = false) ∧ ∀ (a : Act) w, (execOp a.eval o).run P w = .ok (.value (f.val w.heap.size)) (w.alloc (.cells f.zs.toArray f.T (0, 0))))
    (hLR : LR U L listed) {k : Nat} {f : FlS} (hk : k ∈ U) (hfk : fv k = some f) : k ∈ Region.ready .any ops listed := by
  obtain ⟨o, ho, _, hb, _⟩ := hfl k f hfk
  exact mem_ready.2 ⟨hLR.hU k hk, o, ho, fun e he hbb => by rw [hb e he] at hbb; cases hbb⟩

theorem yields_putE {o : Oper} {v : Value} {C : World → Prop} (hs : ∀ cs b, o.op ≠ .select cs b) : ∀ (e : List (Nat × Nat)) (a : Act), (∀ p ∈ e, ∀ x, dstOf ops p.1 = some x → x ∉ o.looksAt ops) → YieldsIf P ops C o v a → YieldsIf P ops C o v (putE ops fv e a)
  | [], _, _, h => h
  | (k, b) :: e, a, hp, h => by
    have ih := yields_putE hs e a (fun p hp' => hp p (List.mem_cons_of_mem _ hp')) h
    simp only [putE]
    have hx : ∀ d, dstOf ops k = some d → d ∉ o.looksAt ops := fun d hd => hp (k, b) (by simp) d hd
    unfold YieldsIf at *
    rw [execOp_put (ops := ops) o hs _ _ _ hx, wanted_put (ops := ops) o _ _ _ hx]
    exact ih

theorem lenS_map : ∀ tl : List Nat, lenS (tl.map .f) = tl.length
  | [] => rfl
  | i :: tl => by simp [lenS, lenS_map tl]

theorem Fl_run (hs : Region.noSelect ops = true) {tl : List Nat} (hQ : ∀ c a (d : Tmp) v w, Q (.panic c) (a.put (some d) v) w → Q (.panic c) a w) (hQ2 : ∀ c a (d : Tmp) v w, Q (.panic c) a w → Q (.panic c) (a.put (some d) v) w)
    (hfl : ∀ k f, fv k = some f → ∃ o, ops[k]? = some o ∧ o.guard.isNone = true ∧ (∀ e ∈ o.after, Region.binds .any e = false) ∧ ∀ (a : Act) w, (execOp a.eval o).run P w = .ok (.value (f.val w.heap.size)) (w.alloc (.cells f.zs.toArray f.T (0, 0))))
    (hdd : ∀ k k' f f', fv k = some f → fv k' = some f' → k ≠ k' → ∀ x, dstOf ops k = some x → dstOf ops k' ≠ some x)
    (htl : ∀ i ∈ tl, i < ops.size) :
    ∀ (n : Nat) (items : List It), FlC P ops Q w0 fv tl n items := by
  intro n
  induction n with
  | zero =>
    intro items
    induction items with
    | nil =>
      intro U early L listed bs a w w' h hb hb0 he he1 he2 hbs hbl hf hUe hUf hfn hUn hLR hcl hB hn
      have hU : U = [] := List.eq_nil_of_length_eq_zero (by simp only [opsC] at hn; omega)
      subst hU
      have hE : early = [] := by
        cases early with
        | nil => rfl
        | cons p e => exact absurd ((hf p.1).2 (.inr ⟨p.2, by simp⟩)) (by simp [floatsOf])
      subst hE
      obtain rfl := hLR.nil
      simp only [itB, Bool.and_eq_true, and_assoc] at hB
      have h5 := X_sched (P := P) (Q := Q) (C := fun _ => True) (E := fun _ => true) (n := 0) hs hQ (tl.map .f) listed a w' hcl hB.1 trivial (fun a2 w2 _ k2 => ⟨by simpa using hB.2.1, k2⟩) (X_of_list tl a w' htl (h w' hb))
      rw [lenS_map, Nat.zero_add] at h5
      refine X_of_any _ _ _ _ (fun j hj hun => ?_) h5
      have h6 := List.all_eq_true.1 hB.2.2 j (List.mem_range.2 hj)
      rw [hun, Bool.false_or] at h6
      rw [h6]; rfl
    | cons it r ih =>
      intro U early L listed bs a w w' h hb hb0 he he1 he2 hbs hbl hf hUe hUf hfn hUn hLR hcl hB hn
      cases it with
      | op i => simp only [opsC] at hn; omega
      | tk i => simp only [opsC] at hn; omega
      | fl k =>
        have hU : U = [] := List.eq_nil_of_length_eq_zero (by simp only [opsC] at hn; omega)
        have hk : ∃ b, (k, b) ∈ early := by
          rcases (hf k).1 (by simp [floatsOf]) with h1 | h1
          · rw [hU] at h1; cases h1
          · exact h1
        obtain ⟨b, hkb⟩ := hk
        exact Fl_eat hdd ih hkb h hb hb0 he he1 he2 hbs hbl hf hUe hUf hfn hUn hLR hcl hB hn
  | succ n IH =>
    intro items
    induction items with
    | nil =>
      intro U early L listed bs a w w' h hb hb0 he he1 he2 hbs hbl hf hUe hUf hfn hUn hLR hcl hB hn
      cases U with
      | nil => simp [opsC] at hn
      | cons k U => exact absurd ((hf k).2 (.inl (by simp))) (by simp [floatsOf])
    | cons it r ih =>
      intro U early L listed bs a w w' h hb hb0 he he1 he2 hbs hbl hf hUe hUf hfn hUn hLR hcl hB hn
      cases it with
      | fl k =>
        rcases (hf k).1 (by simp [floatsOf]) with hkU | ⟨b, hkb⟩
        · obtain ⟨f, hfk⟩ := hUf k hkU
          have hkr := ready_fl hfl hLR hkU hfk
          refine ⟨fun h0 => (by rw [h0] at hkr; cases hkr), fun j hj => ?_⟩
          by_cases hjU : j ∈ U
          · exact Fl_make hfl (IH _) hjU hj h hb hb0 he he1 he2 hbs hbl hf hUe hUf hfn hUn hLR hcl hB hn
          · exfalso
            have hjL := hLR.ready hj hjU
            simp only [itB, Bool.and_eq_true] at hB
            have hB1 := hB.1
            split at hB1
            · rename_i c _
              simp only [Bool.and_eq_true, decide_eq_true_eq] at hB1
              rw [hB1.1] at hjL
              have hjc : j = c := by simpa using hjL
              subst hjc
              exact waits_no hj hB1.2 (hLR.hU k hkU)
            · cases hB1
        · exact Fl_eat hdd ih hkb h hb hb0 he he1 he2 hbs hbl hf hUe hUf hfn hUn hLR hcl hB hn
      | tk i =>
        have hB0 := hB
        simp only [itB, Bool.and_eq_true, List.contains_iff_mem] at hB0
        obtain ⟨⟨⟨hrL, hB1⟩, hta⟩, hB2⟩ := hB0
        obtain ⟨o, ho⟩ : ∃ o, ops[i]? = some o := let ⟨_, o, ho, _⟩ := mem_ready.1 hrL; ⟨o, ho⟩
        rw [ho] at hB1
        simp only [Bool.and_eq_true] at hB1
        obtain ⟨⟨⟨⟨hg, hp⟩, haf⟩, hfd⟩, hall⟩ := hB1
        have hfU : ∀ k, k ∈ U → k ∈ floatsOf r := fun k hk => by have := (hf k).2 (.inl hk); simpa [floatsOf] using this
        have hiU : i ∉ U := fun hm => by
          have h1 := hLR.hA i hm
          exact not_both (mem_ready.1 hrL).1 h1
        have hir : i ∈ Region.ready .any ops listed := by
          obtain ⟨h1, o', ho', h2⟩ := mem_ready.1 hrL
          refine mem_ready.2 ⟨by rw [(hLR.hN i hiU).1]; exact h1, o', ho', fun e he' hbb => ?_⟩
          obtain rfl : o = o' := Option.some.inj (ho.symm.trans ho')
          have h3 : e.on ∉ U := fun hm => by
            have h4 := Array.all_eq_true'.1 haf e he'
            simp only [Bool.not_eq_true'] at h4
            have h5 : (floatsOf r).contains e.on = true := by simpa using hfU _ hm
            rw [h4] at h5; cases h5
          rw [(hLR.hN _ h3).2]
          exact h2 e he' hbb
        simp only [wpFl] at h
        have e0 : opsAt ops [i] = [o] := by simp [opsAt, ho]
        rw [e0] at h
        obtain ⟨v, hy, hnx⟩ := quiet_plain (K := wpQuiet P ops (fun _ => True) _ []) hp h
        have hsel := Region.noSelect_spec hs
        have hy2 : YieldsIf P ops (fun x => Below w0.heap.size w0 x) o v a := hy.imp (fun ⟨g1, g2⟩ => ⟨g1, fun w _ => g2 w trivial⟩) id
        have hdst : ∀ p ∈ early, ∀ x, dstOf ops p.1 = some x → x ∉ o.looksAt ops ∧ o.dst ≠ some x := fun p hp' x hx => by
          have hm : p.1 ∈ floatsOf r := by
            have := (hf p.1).2 (.inr ⟨p.2, hp'⟩)
            simpa [floatsOf] using this
          have h3 := List.all_eq_true.1 hfd p.1 hm
          rw [hx] at h3
          simp only [Bool.and_eq_true, Bool.not_eq_true', bne_iff_ne] at h3
          refine ⟨fun hm' => ?_, h3.2⟩
          have h4 : (o.looksAt ops).contains x = true := by simpa using hm'
          rw [h3.1] at h4; cases h4
        have hy3 := yields_putE (fv := fv) (fun cs b => hsel i o cs b ho) early a (fun p hp' x hx => (hdst p hp' x hx).1) hy2
        have key := IH r U early (L.setIfInBounds i true) (listed.setIfInBounds i true) bs (a.put o.dst v) w w' hnx hb hb0 he he1 he2 hbs hbl (by simpa [floatsOf] using hf) hUe hUf (by simpa [floatsOf] using hfn) hUn (hLR.setI hiU) (hcl.set hir) hB2 (by simp only [opsC] at hn; omega)
        rw [putE_comm v early a (fun p hp' x hx hx' => (hdst p hp' x hx').2 hx)] at key
        refine wpAnyX_first ho hsel (fun c a' w' hh => by
          cases hd : o.dst with
          | none => rw [hd] at hh; exact hh
          | some d => rw [hd] at hh; exact hQ c a' d v w' hh) ops.size (tl.length + n) listed _ w' hcl (fun j oj hj hne hun hno => ?_) (fun j oj hj hne hun hno => ?_) hir hy3 hb0 key
        · have h3 := List.all_eq_true.1 hall j (List.mem_range.2 (Array.getElem?_eq_some_iff.1 hj).1)
          simp only [hj, Bool.or_eq_true, Bool.and_eq_true, beq_iff_eq, hne, or_false] at h3
          rcases h3 with h3 | h3
          · exfalso
            by_cases hjU : j ∈ U
            · have h5 : (floatsOf r).contains j = true := by simpa using hfU _ hjU
              rw [h5] at h3; exact absurd h3.2 (by simp)
            · rw [(hLR.hN j hjU).1, h3.1] at hun; cases hun
          · rcases h3 with h3 | h3
            · exfalso
              obtain ⟨e, he', hbb⟩ := Array.any_eq_true'.1 h3
              simp only [Bool.and_eq_true, beq_iff_eq] at hbb
              exact hno e he' hbb.1 hbb.2
            · exact h3
        · cases htc : tl.contains j with
          | false => rfl
          | true =>
            have h3 := List.all_eq_true.1 hta j (by simpa using htc)
            rw [h3] at hno; cases hno
      | op i =>
        have hB0 := hB
        simp only [itB, Bool.and_eq_true, decide_eq_true_eq] at hB0
        obtain ⟨⟨hrL, hB1⟩, hB2⟩ := hB0
        have hne : Region.ready .any ops listed ≠ [] := by
          cases hU : U with
          | nil =>
            subst hU
            obtain rfl := hLR.nil
            rw [hrL]; simp
          | cons k U' =>
            have hkU : k ∈ U := by rw [hU]; simp
            obtain ⟨f, hfk⟩ := hUf k hkU
            have hkr := ready_fl hfl hLR hkU hfk
            exact fun h0 => (by rw [h0] at hkr; cases hkr)
        refine ⟨fun h0 => absurd h0 hne, fun j hj => ?_⟩
        by_cases hjU : j ∈ U
        · exact Fl_make hfl (IH _) hjU hj h hb hb0 he he1 he2 hbs hbl hf hUe hUf hfn hUn hLR hcl hB hn
        · have hjL := hLR.ready hj hjU
          rw [hrL] at hjL
          have hji : j = i := by simpa using hjL
          subst hji
          obtain ⟨_, o, ho, _⟩ := mem_ready.1 hj
          rw [ho] at hB1
          simp only [Bool.and_eq_true] at hB1
          unfold wpOp
          simp only [ho, wanted_none hB1.1, if_true]
          refine .inl ?_
          simp only [wpFl, ho] at h
          refine wp_putE (ops := ops) (fv := fv) (Region.noSelect_spec hs j o · · ho) hQ2 early a (fun p hp x hx => ?_) (fun a' w'' h' => ?_) (h w' hb)
          · have hm : p.1 ∈ floatsOf r := by
              have := (hf p.1).2 (.inr ⟨p.2, hp⟩)
              simpa [floatsOf] using this
            have h3 := List.all_eq_true.1 hB1.2 p.1 hm
            rw [hx] at h3
            simp only [Bool.and_eq_true, Bool.not_eq_true', bne_iff_ne] at h3
            refine ⟨fun hm' => ?_, h3.2⟩
            have h4 : (o.looksAt ops).contains x = true := by simpa using hm'
            rw [h3.1] at h4; cases h4
          · have hbN := h'.1.below hb0 hbl
            refine ⟨fun _ => hbN, ?_⟩
            refine IH r U early (L.setIfInBounds j true) (listed.setIfInBounds j true) bs a' w'' w'' h'.2 (Below.refl _ _) hbN (fun p hp => ?_) he1 he2 (fun b hm => Nat.lt_of_lt_of_le (hbs b hm) h'.1.size) hbl (by simpa [floatsOf] using hf) hUe hUf (by simpa [floatsOf] using hfn) hUn (hLR.setI hjU) (hcl.set hj) hB2 (by simp only [opsC] at hn; omega)
            obtain ⟨f1, h1, h2, h3, h4⟩ := he p hp
            exact ⟨f1, h1, h'.1.own h2 h4, h3, h4⟩

def fvOf : List (Nat × FlS) → Nat → Option FlS
  | [], _ => none
  | p :: r, k => if p.1 = k then some p.2 else fvOf r k
def allRun (P : Program) (ops : Array Oper) : List (Nat × FlS) → Prop
  | [] => True
  | p :: r => (∀ (a : Act) W, (execOp a.eval (ops[p.1]?.getD default)).run P W = .ok (.value (p.2.val W.heap.size)) (W.alloc (.cells p.2.zs.toArray p.2.T (0, 0)))) ∧ allRun P ops r
theorem fv_mem {k : Nat} {f : FlS} : ∀ {l : List (Nat × FlS)}, fvOf l k = some f → (k, f) ∈ l
  | [], h => by cases h
  | p :: r, h => by
    unfold fvOf at h
    split at h
    · rename_i e; cases h; subst e; simp
    · exact List.mem_cons_of_mem _ (fv_mem h)
theorem mem_fv {k : Nat} : ∀ {l : List (Nat × FlS)}, k ∈ l.map (·.1) → ∃ f, fvOf l k = some f
  | [], h => by cases h
  | p :: r, h => by
    unfold fvOf
    split
    · exact ⟨_, rfl⟩
    · rename_i e
      rcases List.mem_cons.1 h with h | h
      · exact absurd h.symm e
      · exact mem_fv h
theorem run_mem : ∀ {l : List (Nat × FlS)} {p : Nat × FlS}, allRun P ops l → p ∈ l → ∀ (a : Act) W, (execOp a.eval (ops[p.1]?.getD default)).run P W = .ok (.value (p.2.val W.heap.size)) (W.alloc (.cells p.2.zs.toArray p.2.T (0, 0)))
  | [], _, _, h => by cases h
  | q :: r, p, h, hp => by
    rcases List.mem_cons.1 hp with rfl | hp
    · exact h.1
    · exact run_mem h.2 hp
theorem mark_ne {j : Nat} (d : Bool) : ∀ (is : List Nat) (l : Array Bool), j ∉ is → (mark is l).getD j d = l.getD j d
  | [], _, _ => rfl
  | i :: is, l, h => by
    simp only [List.mem_cons, not_or] at h
    show (mark is (l.setIfInBounds i true)).getD j d = _
    rw [mark_ne d is _ h.2, getD_set_ne d (Ne.symm h.1)]
theorem mark_size : ∀ (is : List Nat) (l : Array Bool), (mark is l).size = l.size
  | [], _ => rfl
  | i :: is, l => by show (mark is (l.setIfInBounds i true)).size = _; rw [mark_size is]; simp
theorem mark_in {j : Nat} : ∀ (is : List Nat) (l : Array Bool), j ∈ is → j < l.size → (mark is l).getD j false = true
  | [], _, h, _ => by cases h
  | i :: is, l, h, hj => by
    show (mark is (l.setIfInBounds i true)).getD j false = true
    by_cases hm : j ∈ is
    · exact mark_in is _ hm (by simpa using hj)
    · rcases List.mem_cons.1 h with rfl | h
      · rw [mark_ne false is _ hm]; exact set_true hj false
      · exact absurd h hm

def nodupB : List Nat → Bool
  | [] => true
  | x :: l => !l.contains x && nodupB l
theorem nodupB_spec : ∀ {l : List Nat}, nodupB l = true → l.Nodup
  | [], _ => List.nodup_nil
  | x :: l, h => by
    simp only [nodupB, Bool.and_eq_true, Bool.not_eq_true'] at h
    exact List.nodup_cons.2 ⟨fun hm => by have : l.contains x = true := by simpa using hm
                                          rw [h.1] at this; exact Bool.false_ne_true this, nodupB_spec h.2⟩
/-- The Bool that 'wp_region_fs' asks. -/
def fsB (ops : Array Oper) (m : List Nat) (items : List It) (tl fs : List Nat) : Bool :=
  Region.noSelect ops && takeB ops (fun j => !tl.contains j) true m (Array.replicate ops.size false) && itB ops tl items (mark (floatsOf items) (mark m (Array.replicate ops.size false))) && nodupB (floatsOf items) &&
  decide (tl.length + ((floatsOf items).length + opsC items) + m.length = ops.size) && (tl.all fun i => decide (i < ops.size)) && decide (fs = floatsOf items) &&
  (fs.all fun k => (match ops[k]? with | some o => o.guard.isNone && o.after.all (fun e => !Region.binds .any e) | none => false) && !(mark m (Array.replicate ops.size false)).getD k true && fs.all fun k' => k == k' || dstOf ops k != dstOf ops k')

/-- A region that draws its order: operations m that look at old memory alone; then the new blocks fl and what follows one another, in one order; then tl. -/
theorem wp_region_fs {id : Nat} {a : Act} {w : World} (fl : List (Nat × FlS)) (m : List Nat) (items : List It) (tl : List Nat) (hm : P.follows .mixedOrders = true) (hB : fsB ops m items tl (fl.map (·.1)) = true) (hrun : allRun P ops fl)
    (hQ : ∀ c a (d : Tmp) v w, Q (.panic c) (a.put (some d) v) w → Q (.panic c) a w) (hQ2 : ∀ c a (d : Tmp) v w, Q (.panic c) a w → Q (.panic c) (a.put (some d) v) w)
    (h : wpQuiet P ops (fun w' => ∃ e, w' = grow w e) (fun a' => wpFl P ops Q w (fvOf fl) (fun a w => wpList P ops Q (opsAt ops tl) a w) items [] a' w) (opsAt ops m) a) :
    (Code.region id ops true).wp P Q a w := by
  simp only [fsB, Bool.and_eq_true, decide_eq_true_eq] at hB
  obtain ⟨⟨⟨⟨⟨⟨⟨hs, h1⟩, h2⟩, h3⟩, hn⟩, htl⟩, hfs⟩, hfl⟩ := hB
  have htl' : ∀ i ∈ tl, i < ops.size := fun i hi => by simpa using List.all_eq_true.1 htl i hi
  have hfv : ∀ k f, fvOf fl k = some f → k ∈ fl.map (·.1) := fun k f hk => List.mem_map.2 ⟨(k, f), fv_mem hk, rfl⟩
  refine wp_region_any hm ?_
  have hw : Below w.heap.size w ({ w with drawn := w.drawn + 1 } : World) := (Below.refl w.heap.size w).drew
  have hC : (fun w' => ∃ e, w' = grow w e) = (fun w' => Below w.heap.size w w') := by
    funext w'; exact propext ⟨fun ⟨e, he⟩ => he ▸ below_grow w e, grow_of⟩
  rw [hC] at h
  have hcl : Closed ops (Array.replicate ops.size false) := fun j oj _ hl => (by simp [Array.getElem?_replicate] at hl; split at hl <;> simp at hl)
  rw [show ops.size = (tl.length + ((floatsOf items).length + opsC items)) + m.length by omega]
  rw [← hn] at h1 h2 hfl hcl
  refine wpAny_of_X _ _ _ _ (take_read (S := fun w' => Below w.heap.size w w') (E := fun j => !tl.contains j) hs hQ hw m _ a hcl h1 h fun a' h' => ?_)
  have hcl' := closed_mark m _ true _ hcl h1
  have hk : ∀ k ∈ floatsOf items, (mark m (Array.replicate (tl.length + ((floatsOf items).length + opsC items) + m.length) false)).getD k true = false := fun k hk => by
    have := List.all_eq_true.1 hfl k (by rw [hfs]; exact hk)
    simp only [Bool.and_eq_true, Bool.not_eq_true'] at this
    exact this.1.2
  refine Fl_run hs hQ hQ2 (fun k f hkf => ?_) (fun k k' f f' hkf hkf' hne x hx hx' => ?_) htl' _ items (floatsOf items) [] (mark (floatsOf items) (mark m _)) (mark m _) [] a' w _ h' ((Below.refl w.heap.size w).drew) hw (fun p hp => by cases hp) List.nodup_nil List.nodup_nil (fun b hb => by cases hb) (fun b hb => by cases hb) (fun k => by simp) (fun k _ b hb => by cases hb) (fun k hk' => mem_fv (by rw [hfs]; exact hk')) (nodupB_spec h3) (nodupB_spec h3) ⟨hk, fun j hj => ⟨(mark_ne true _ _ hj).symm, (mark_ne false _ _ hj).symm⟩, fun j hj => mark_in _ _ hj (in_lt (hk j hj)), (mark_size _ _).symm⟩ hcl' h2 rfl
  · have h4 := List.all_eq_true.1 hfl k (hfv k f hkf)
    simp only [Bool.and_eq_true] at h4
    have h5 := h4.1.1
    cases ho : ops[k]? with
    | none => rw [ho] at h5; cases h5
    | some o =>
      rw [ho] at h5
      simp only [Bool.and_eq_true] at h5
      refine ⟨o, rfl, h5.1, fun e he => ?_, fun a w => ?_⟩
      · have := Array.all_eq_true'.1 h5.2 e he
        simpa using this
      · have h6 := run_mem hrun (fv_mem hkf) a w
        simp only [ho, Option.getD_some] at h6
        exact h6
  · have h4 := List.all_eq_true.1 hfl k (hfv k f hkf)
    simp only [Bool.and_eq_true] at h4
    have h5 := List.all_eq_true.1 h4.2 k' (hfv k' f' hkf')
    simp only [Bool.or_eq_true, beq_iff_eq, hne, false_or, bne_iff_ne] at h5
    exact h5 (by rw [hx, hx'])
theorem wpFl_fl {k : Nat} {f : FlS} {r : List It} {bs : List Nat} {a : Act} {w : World} (hf : fv k = some f) (h : ∀ b w1, Below w.heap.size w w1 → Own w1 b f.T f.zs → w0.heap.size ≤ b → b ∉ bs → wpFl P ops Q w0 fv K r (b :: bs) (a.put ((ops[k]?).bind (·.dst)) (f.val b)) w1) : wpFl P ops Q w0 fv K (.fl k :: r) bs a w := by
  simp only [wpFl, hf]; exact h
theorem wpFl_op {i : Nat} {o : Oper} {r : List It} {bs : List Nat} {a : Act} {w : World} (ho : ops[i]? = some o)
    (h : ∀ w1, Below w.heap.size w w1 → ∀ K' : Act → World → Prop, (∀ a' w', Mod bs w1 w' → wpFl P ops Q w0 fv K r bs a' w' → K' a' w') → o.wp P a w1 K' Q) : wpFl P ops Q w0 fv K (.op i :: r) bs a w := by
  simp only [wpFl, ho]; exact fun w1 hw1 => h w1 hw1 _ fun _ _ h1 h2 => ⟨h1, h2⟩
theorem wpFl_tk {i : Nat} {r : List It} {bs : List Nat} {a : Act} {w : World} (h : wpQuiet P ops (fun _ => True) (fun a' => wpFl P ops Q w0 fv K r bs a' w) (opsAt ops [i]) a) : wpFl P ops Q w0 fv K (.tk i :: r) bs a w := h
theorem wpFl_nil {bs : List Nat} {a : Act} {w : World} (h : ∀ w1, Below w.heap.size w w1 → K a w1) : wpFl P ops Q w0 fv K [] bs a w := h
end

end Go.Proofs.Ythlcmlngmcoknaa

/- What is proved here: stores into new blocks change those alone. No condition. -/
namespace Go.Proofs.Ythlcmlngmcoknaa
open Go.RowKit

theorem Mod.refl (bs : List Nat) (w : World) : Mod bs w w := ⟨rfl, rfl, rfl, Nat.le_refl _, fun _ _ _ => rfl⟩
theorem Mod.set {bs : List Nat} {w w' : World} (h : Mod bs w w') {p : Addr} (hp : p.block ∈ bs) (v : Value) : Mod bs w (w'.setCell p v) :=
  ⟨h.os, h.tape, h.output, by have := h.size; simpa [World.setCell] using this, fun b hb hn => by
    rw [Below.heap_setCell _ _ _ _ (fun e => hn (by rw [e]; exact hp))]; exact h.block b hb hn⟩
theorem run_value {P : Program} {s : Sem Value} {v : Value} {w w' : World} (h : s.run P w = .ok v w') : (do pure (Next.value (← s)) : Sem Next).run P w = .ok (.value v) w' := by
  simp [h]
end Go.Proofs.Ythlcmlngmcoknaa

/- What is proved here: a region that draws its order, in which a load may come before or after a store to another block, may be walked in one order: two lists of operations that are taken first, each under what it needs of the world, then operations whose turn is forced. No condition but the Bool that is asked. -/
namespace Go.Proofs.Ythlcmlngmcoknaa
open Go.RowKit

section
variable {P : Program} {ops : Array Oper} {Q : Exit → Act → World → Prop} {R : Nat → World → Prop} {S : World → Prop}

/-- Whatever order is picked from here on; behind operation i, R i holds. -/
def wpAnyR (P : Program) (ops : Array Oper) (Q : Exit → Act → World → Prop) (R : Nat → World → Prop) : Nat → Array Bool → Act → World → Prop
  | 0, listed, a, w => Region.ready .any ops listed = [] ∧ Q .normal a w
  | fuel + 1, listed, a, w =>
    (Region.ready .any ops listed = [] → Q .normal a w) ∧
    ∀ i ∈ Region.ready .any ops listed, wpOp P ops Q i (fun a' w' => R i w' ∧ wpAnyR P ops Q R fuel (listed.setIfInBounds i true) a' w') a w

theorem wpAny_of_R : ∀ (fuel : Nat) (listed : Array Bool) (a : Act) (w : World), wpAnyR P ops Q R fuel listed a w → wpAny P .any ops Q fuel listed a w
  | 0, _, _, _, h => h
  | fuel + 1, _, _, _, h => ⟨h.1, fun i hi => wpOp_mono (fun a' w' h' => wpAny_of_R fuel _ a' w' h'.2) (h.2 i hi)⟩

theorem wpAnyR_first {i : Nat} {oi : Oper} {v : Value} (hi : ops[i]? = some oi) (hsel : ∀ (j : Nat) (o : Oper) cs b, ops[j]? = some o → o.op ≠ .select cs b)
    (hQ : ∀ c a w, Q (.panic c) (a.put oi.dst v) w → Q (.panic c) a w) (F : Nat) (hRi : ∀ w', S w' → R i w') :
    ∀ (fuel : Nat) (listed : Array Bool) (a : Act) (w : World), Closed ops listed →
      (∀ j oj, ops[j]? = some oj → j ≠ i → listed.getD j true = false → (∀ e ∈ oj.after, Region.binds .any e = true → e.on ≠ i) → oi.apart ops oj = true) →
      (∀ j oj, ops[j]? = some oj → j ≠ i → listed.getD j true = false → afterB ops F j i = false → ∀ w', R j w' → S w') →
      i ∈ Region.ready .any ops listed → YieldsIf P ops S oi v a → S w →
      wpAnyR P ops Q R fuel (listed.setIfInBounds i true) (a.put oi.dst v) w → wpAnyR P ops Q R (fuel + 1) listed a w := by
  intro fuel
  induction fuel with
  | zero =>
    intro listed a w _ _ _ hr hy hS H
    refine ⟨fun h => (by rw [h] at hr; cases hr), fun j hj => ?_⟩
    by_cases hji : j = i
    · subst hji; exact hy.wpOp hi hS ⟨hRi _ hS, H⟩
    · have := ready_mono hj hji
      rw [H.1] at this
      cases this
  | succ fuel ih =>
    intro listed a w hcl hfree hfE hr hy hS H
    refine ⟨fun h => (by rw [h] at hr; cases hr), fun j hj => ?_⟩
    by_cases hji : j = i
    · subst hji; exact hy.wpOp hi hS ⟨hRi _ hS, H⟩
    · have h1 := H.2 j (ready_mono hj hji)
      obtain ⟨hjun, oj, hoj, hall⟩ := mem_ready.1 hj
      have hiun : listed.getD i false = true → False := fun h1 => by
        have h0 := (mem_ready.1 hr).1
        rcases Nat.lt_or_ge i listed.size with h' | h'
        · simp [h'] at h0 h1; rw [h0] at h1; cases h1
        · simp [Array.getElem?_eq_none h'] at h1
      have hnot : ∀ e ∈ oj.after, Region.binds .any e = true → e.on ≠ i := fun e he hb heq => by
        have h1 := hall e he hb
        rw [heq] at h1
        exact hiun h1
      have hap := hfree j oj hoj hji hjun hnot
      have hE : ∀ w', R j w' → S w' := hfE j oj hoj hji hjun (by
        cases hab : afterB ops F j i with
        | false => rfl
        | true => exact (hiun (after_listed hcl F j oj hoj hall hab)).elim)
      have h2 := wpOp_putIf hoj hap (fun cs b => hsel i oi cs b hi) (fun cs b => hsel j oj cs b hoj) hQ hy h1
      refine wpOp_mono (fun a' w' h3 => ⟨h3.2.1, ih (listed.setIfInBounds j true) a' w' (hcl.set hj) ?_ ?_ (ready_mono hr (Ne.symm hji)) h3.1 (hE _ h3.2.1) ?_⟩) h2
      · intro k ok hk hki hun hno
        refine hfree k ok hk hki ?_ hno
        by_cases hjk : j = k
        · subst hjk; exact hjun
        · rw [getD_set_ne true hjk] at hun; exact hun
      · intro k ok hk hki hun hno
        refine hfE k ok hk hki ?_ hno
        by_cases hjk : j = k
        · subst hjk; exact hjun
        · rw [getD_set_ne true hjk] at hun; exact hun
      · rw [Array.setIfInBounds_comm _ _ hji]
        exact h3.2.2

theorem take_readR (E : Nat → Bool) (hRE : ∀ j w', E j = true → R j w' → S w') (hs : Region.noSelect ops = true) (hQ : ∀ c a (d : Tmp) v w, Q (.panic c) (a.put (some d) v) w → Q (.panic c) a w) {K : Act → Prop} {w : World} (hw : S w) {fuel : Nat} :
    ∀ (is : List Nat) (listed : Array Bool) (a : Act), Closed ops listed → (∀ i ∈ is, ∀ w', S w' → R i w') → takeB ops E true is listed = true → wpQuiet P ops S K (opsAt ops is) a →
      (∀ a', K a' → wpAnyR P ops Q R fuel (mark is listed) a' w) → wpAnyR P ops Q R (fuel + is.length) listed a w
  | [], listed, a, _, _, _, h, hK => hK a h
  | i :: is, listed, a, hcl, hRi, hB, h, hK => by
    simp only [takeB, Bool.and_eq_true] at hB
    obtain ⟨⟨⟨⟨hr, hf⟩, hp⟩, hl⟩, hB'⟩ := hB
    cases ho : ops[i]? with
    | none => rw [ho] at hp; cases hp
    | some o =>
      rw [ho] at hp
      have e : opsAt ops (i :: is) = o :: opsAt ops is := by simp [opsAt, ho]
      rw [e] at h
      obtain ⟨v, hy, hn⟩ := quiet_plain (K := wpQuiet P ops S K (opsAt ops is)) hp h
      have ih := take_readR E hRE hs hQ hw (fuel := fuel) is (listed.setIfInBounds i true) (a.put o.dst v) (hcl.set (by simpa using hr)) (fun k hk => hRi k (by simp [hk])) hB' hn (fun a' h' => hK a' h')
      refine wpAnyR_first (S := S) ho (Region.noSelect_spec hs) (fun c a' w' hh => by
        cases hd : o.dst with
        | none => rw [hd] at hh; exact hh
        | some d => rw [hd] at hh; exact hQ c a' d v w' hh) ops.size (hRi i (by simp)) (fuel + is.length) listed a w hcl (fun j oj hj hne hun hno => Region.free_spec ho hf j oj hj hne hun hno) ?_ (by simpa using hr) hy hw ih
      intro j oj hj hne hun hno w'
      refine hRE j w' ?_
      simp only [Bool.not_true, Bool.false_or] at hl
      have h5 := List.all_eq_true.1 hl j (List.mem_range.2 (Array.getElem?_eq_some_iff.1 hj).1)
      simp only [Bool.or_eq_true, beq_iff_eq, hne, or_false, hun, Bool.false_eq_true, hno, false_or] at h5
      exact h5

/-- Operations whose turn is forced; behind operation i, R i holds. -/
def wpFo (P : Program) (ops : Array Oper) (Q : Exit → Act → World → Prop) (R : Nat → World → Prop) : List Nat → Act → World → Prop
  | [], a, w => Q .normal a w
  | i :: r, a, w => match ops[i]? with
    | some o => if Region.wanted o (yielded ops a.tmps) then o.wp P a w (fun a' w' => R i w' ∧ wpFo P ops Q R r a' w') Q ∨ (o.asks P a w ∧ LetsOut Q) else R i w ∧ wpFo P ops Q R r (a.put o.dst undef) w
    | none => False
def forcedB (ops : Array Oper) : List Nat → Array Bool → Bool
  | [], listed => (Region.ready .any ops listed).isEmpty
  | i :: r, listed => decide (Region.ready .any ops listed = [i]) && forcedB ops r (listed.setIfInBounds i true)
theorem forcedR : ∀ (l : List Nat) (listed : Array Bool) (a : Act) (w : World), forcedB ops l listed = true → wpFo P ops Q R l a w → wpAnyR P ops Q R l.length listed a w
  | [], listed, a, w, hB, h => ⟨by simpa [forcedB] using hB, h⟩
  | i :: r, listed, a, w, hB, h => by
    simp only [forcedB, Bool.and_eq_true, decide_eq_true_eq] at hB
    obtain ⟨hr, hB'⟩ := hB
    have hk : i ∈ Region.ready .any ops listed := by rw [hr]; simp
    obtain ⟨_, o, ho, _⟩ := mem_ready.1 hk
    refine ⟨fun h1 => (by rw [hr] at h1; cases h1), fun j hj => ?_⟩
    rw [hr] at hj
    have hji : j = i := by simpa using hj
    subst hji
    simp only [wpFo, ho] at h
    unfold wpOp
    simp only [ho]
    split
    · rename_i hwt
      simp only [hwt, if_true] at h
      exact h.imp (Oper.wp_mono (fun a' w' h' => ⟨h'.1, forcedR r _ a' w' hB' h'.2⟩)) id
    · rename_i hwt
      simp only [hwt] at h
      exact ⟨h.1, forcedR r _ _ w hB' h.2⟩
def ttB (ops : Array Oper) (E1 E2 : List Nat) (is1 is2 fs : List Nat) : Bool :=
  Region.noSelect ops && takeB ops (fun j => E1.contains j) true is1 (Array.replicate ops.size false) && takeB ops (fun j => E2.contains j) true is2 (mark is1 (Array.replicate ops.size false)) &&
  forcedB ops fs (mark is2 (mark is1 (Array.replicate ops.size false))) && decide (fs.length + is2.length + is1.length = ops.size) && (is1.all fun i => !E2.contains i)
/-- A region that draws its order: is1 is taken first under S1, then is2 under S2, which says more; then fs in its forced order. -/
theorem wp_region_tt {id : Nat} {a : Act} {w : World} (S1 S2 : World → Prop) (E1 E2 : List Nat) (is1 is2 fs : List Nat) (hm : P.follows .mixedOrders = true) (hB : ttB ops E1 E2 is1 is2 fs = true)
    (hQ : ∀ c a (d : Tmp) v w, Q (.panic c) (a.put (some d) v) w → Q (.panic c) a w) (h21 : ∀ w, S2 w → S1 w) (hw : S2 w.drew)
    (h : wpQuiet P ops S1 (fun a1 => wpQuiet P ops S2 (fun a2 => wpFo P ops Q (fun i w' => (E1.contains i = true → S1 w') ∧ (E2.contains i = true → S2 w')) fs a2 w.drew) (opsAt ops is2) a1) (opsAt ops is1) a) :
    (Code.region id ops true).wp P Q a w := by
  simp only [ttB, Bool.and_eq_true, decide_eq_true_eq] at hB
  obtain ⟨⟨⟨⟨⟨hs, h1⟩, h2⟩, h3⟩, hn⟩, h4⟩ := hB
  refine wp_region_any hm ?_
  have hcl : Closed ops (Array.replicate ops.size false) := fun j oj _ hl => (by simp [Array.getElem?_replicate] at hl; split at hl <;> simp at hl)
  rw [← hn]
  rw [← hn] at h1 h2 h3 hcl
  refine wpAny_of_R _ _ _ _ (take_readR (S := S1) (R := fun i w' => (E1.contains i = true → S1 w') ∧ (E2.contains i = true → S2 w')) (fun j => E1.contains j) (fun j w' hE hR => hR.1 hE) hs hQ (h21 _ hw) is1 _ a hcl (fun i hi w' hS => ⟨fun _ => hS, fun hE => ?_⟩) h1 h (fun a1 k1 => ?_))
  · have := List.all_eq_true.1 h4 i hi
    rw [hE] at this; cases this
  · refine take_readR (S := S2) (fun j => E2.contains j) (fun j w' hE hR => hR.2 hE) hs hQ hw is2 _ a1 (closed_mark is1 _ true _ hcl h1) (fun i _ w' hS => ⟨fun _ => h21 _ hS, fun _ => hS⟩) h2 k1 (fun a2 k2 => ?_)
    exact forcedR fs _ a2 _ h3 k2
/-- A schedule, then operations that look at no memory, then the rest in one forced order. -/
theorem wp_region_stt {id : Nat} {a : Act} {w : World} (l1 : List Sg) (is tl : List Nat) (hm : P.follows .mixedOrders = true) (hB : (sB ops l1 (.t is :: tl.map .f) && tl.all fun i => decide (i < ops.size)) = true)
    (hQ : ∀ c a (d : Tmp) v w, Q (.panic c) (a.put (some d) v) w → Q (.panic c) a w)
    (h : wpX P ops Q (fun w' => ∃ e, w' = grow w e) (fun a' w' => wpQuiet P ops (fun _ => True) (fun a2 => wpList P ops Q (opsAt ops tl) a2 w') (opsAt ops is) a') l1 a w.drew) :
    (Code.region id ops true).wp P Q a w := by
  simp only [Bool.and_eq_true] at hB
  have hl : ∀ i ∈ tl, i < ops.size := fun i hi => by simpa using List.all_eq_true.1 hB.2 i hi
  refine wp_region_s l1 (.t is :: tl.map .f) hm hB.1 hQ ?_
  exact X_mono (fun a' w' h' => quiet_mono (fun a2 h2 => X_of_list tl a2 w' hl h2) _ _ h') l1 a _ h
theorem wpFo_gen {r : List Nat} {a : Act} {w : World} (F : World → Prop) (hF : F w) (h : ∀ W, F W → wpFo P ops Q R r a W) : wpFo P ops Q R r a w := h w hF
theorem wpFo_nil {a : Act} {w : World} (h : Q .normal a w) : wpFo P ops Q R [] a w := h
theorem wpFo_op {i : Nat} {o : Oper} {r : List Nat} {a : Act} {w : World} (ho : ops[i]? = some o) (hw : Region.wanted o (yielded ops a.tmps) = true)
    (h : ∀ K' : Act → World → Prop, (∀ a' w', R i w' → wpFo P ops Q R r a' w' → K' a' w') → o.wp P a w K' Q) : wpFo P ops Q R (i :: r) a w := by
  simp only [wpFo, ho, hw, if_true]
  exact .inl (h _ fun _ _ h1 h2 => ⟨h1, h2⟩)
end
/-- e where it meets S, else w. -/
noncomputable def keepW (S : World → Prop) (w e : World) : World := open Classical in if S e then e else w
theorem keepW_of {S : World → Prop} {w W : World} (h : S W) : ∃ e, W = keepW S w e := ⟨W, by unfold keepW; rw [if_pos h]⟩
theorem keepW_is {S : World → Prop} {w : World} (hw : S w) (e : World) : S (keepW S w e) := by
  unfold keepW; split
  · assumption
  · exact hw
end Go.Proofs.Ythlcmlngmcoknaa
