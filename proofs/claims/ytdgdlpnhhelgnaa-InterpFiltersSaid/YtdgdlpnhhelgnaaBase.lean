/- What is proved here: small general facts used by all the walks of this seat (growing worlds, quiet regions over a growing world, slices that hold known cells). No condition. -/
import Derived.WalkKit
import Derived.WalkSpells
import Derived.WalkLawsBesides
import Derived.Deep.QuietTactic
import Derived.BigQuiet
import Derived.Deep.RegionHeld3
import Derived.Deep.DrawnRows
import Derived.Deep.AppendLies
import Derived.Lib.Hide
namespace Go.Proofs.Ytdgdlpnhhelgnaa
open Go.RowKit

theorem ret_int {k : IntKind} {a b : Int} (h : a = b) : Ending.returned (.int k a) = .returned (.int k b) := by rw [h]
theorem ret_bool {a b : Bool} (h : a = b) : Ending.returned (.bool a) = .returned (.bool b) := by rw [h]

/-- w after something that changed no block of w. -/
noncomputable def grow (w e : World) : World := open Classical in if Below w.heap.size w e then e else w
theorem below_grow (w e : World) : Below w.heap.size w (grow w e) := by
  unfold grow; split
  · assumption
  · exact Below.refl _ _
theorem grow_of {w w' : World} (h : Below w.heap.size w w') : ∃ e, w' = grow w e := ⟨w', by unfold grow; rw [if_pos h]⟩
theorem below_to {w w1 w2 : World} (h1 : Below w.heap.size w w1) (h2 : Below w1.heap.size w1 w2) : Below w.heap.size w w2 :=
  h1.trans (h2.mono h1.size)
theorem below_cell {w w' : World} (hb : Below w.heap.size w w') {a : Addr} {v : Value} (h : w.cell? a = some v) : w'.cell? a = some v :=
  (hb.cell (World.block_lt_of_cell? w a h)).trans h
theorem grow_cell {w : World} {a : Addr} {v : Value} (h : w.cell? a = some v) : ∀ e, (grow w e).cell? a = some v :=
  fun e => below_cell (below_grow w e) h
theorem below_heap {w w' : World} (hb : Below w.heap.size w w') {b : Nat} {o : Obj} (h : w.heap[b]? = some o) : w'.heap[b]? = some o := by
  rw [hb.block b (Array.getElem?_eq_some_iff.1 h).1]; exact h
theorem below_drewN (w : World) (n : Nat) : Below w.heap.size w (w.drewN n) := ⟨rfl, rfl, rfl, Nat.le_refl _, fun _ _ => rfl⟩

theorem ba1 (w : World) (o1 : Obj) : Below w.heap.size w (w.alloc o1) := (Below.refl _ _).alloc (Nat.le_refl _) _
theorem ba2 (w : World) (o1 o2 : Obj) : Below w.heap.size w ((w.alloc o1).alloc o2) := (ba1 w o1).alloc (by simp) _
theorem ba3 (w : World) (o1 o2 o3 : Obj) : Below w.heap.size w (((w.alloc o1).alloc o2).alloc o3) := (ba2 w o1 o2).alloc (by simp; omega) _
theorem ba4 (w : World) (o1 o2 o3 o4 : Obj) : Below w.heap.size w ((((w.alloc o1).alloc o2).alloc o3).alloc o4) := (ba3 w o1 o2 o3).alloc (by simp; omega) _
theorem bd {B : Nat} {w w' : World} (h : Below B w w') (n : Nat) : Below B w (w'.drewN n) := ⟨h.os, h.tape, h.output, h.size, h.block⟩

/-- What a growth gives the walk: old cells and marks read as before. -/
theorem bcell {W w1 : World} (hb : Below W.heap.size W w1) : (∀ b o, b < W.heap.size → w1.cell? ⟨b, o, none⟩ = W.cell? ⟨b, o, none⟩) ∧ (∀ b o, b < W.heap.size → w1.frozen? ⟨b, o, none⟩ = W.frozen? ⟨b, o, none⟩) :=
  ⟨fun b o h => hb.cell (p := ⟨b, o, none⟩) h, fun b o h => hb.frozen (p := ⟨b, o, none⟩) h⟩
theorem bsz1 {w w1 : World} {o1 : Obj} (hb : Below (w.alloc o1).heap.size (w.alloc o1) w1) : w.heap.size < w1.heap.size := by
  have := hb.size; simp at this; omega
theorem bsz2 {w w1 : World} {o1 o2 : Obj} (hb : Below ((w.alloc o1).alloc o2).heap.size ((w.alloc o1).alloc o2) w1) : w.heap.size < w1.heap.size ∧ w.heap.size + 1 < w1.heap.size := by
  have := hb.size; simp at this; omega
theorem bsz3 {w w1 : World} {o1 o2 o3 : Obj} (hb : Below (((w.alloc o1).alloc o2).alloc o3).heap.size (((w.alloc o1).alloc o2).alloc o3) w1) : w.heap.size < w1.heap.size ∧ w.heap.size + 1 < w1.heap.size ∧ w.heap.size + 1 + 1 < w1.heap.size := by
  have := hb.size; simp at this; omega
theorem bsz4 {w w1 : World} {o1 o2 o3 o4 : Obj} (hb : Below ((((w.alloc o1).alloc o2).alloc o3).alloc o4).heap.size ((((w.alloc o1).alloc o2).alloc o3).alloc o4) w1) : w.heap.size < w1.heap.size ∧ w.heap.size + 1 < w1.heap.size ∧ w.heap.size + 1 + 1 < w1.heap.size ∧ w.heap.size + 1 + 1 + 1 < w1.heap.size := by
  have := hb.size; simp at this; omega
theorem lt_below {w w1 : World} {k : Nat} (hb : Below w.heap.size w w1) (h : k < w.heap.size) : k < w1.heap.size := Nat.lt_of_lt_of_le h hb.size

section
variable {P : Program} {id : Nat} {Q : Exit → Act → World → Prop} {a : Act} {w : World} {l : List Oper}
/-- A region that draws its order, whose operations read old memory and whose calls make new memory alone: one walk of the text's order. -/
theorem wp_region_grow (hm : P.follows .mixedOrders = true) (hB : Region.lexB .any l.toArray = true)
    (h : wpQuiet P l.toArray (fun w' => ∃ e, w' = grow w e) (fun a' => ∀ w', (∃ e, w' = grow w e) → Q .normal a' w') l a) : (Code.region id l.toArray true).wp P Q a w :=
  wp_region_quiet (C := fun w' => ∃ e, w' = grow w e) hm hB (grow_of ((Below.refl w.heap.size w).drew)) (by simpa using h)
end
theorem Calls.grow_of {P : Program} {f : FuncId} {args : Array Value} {w e : World} {v : Value}
    (h : Calls P f args (grow w e) fun en w' => en = .returned v ∧ Below (grow w e).heap.size (grow w e) w') : Calls P f args (grow w e) fun en w'' => en = .returned v ∧ ∃ e2, w'' = grow w e2 :=
  h.mono fun _ _ ⟨he, hb⟩ => ⟨he, @Go.Proofs.Ytdgdlpnhhelgnaa.grow_of w _ (below_to (below_grow w e) hb)⟩
theorem Calls.grow_of_drew {P : Program} {f : FuncId} {args : Array Value} {w e : World} {v : Value}
    (h : Calls P f args (grow w e) fun en w' => en = .returned v ∧ ∃ n, w' = (grow w e).drewN n) : Calls P f args (grow w e) fun en w'' => en = .returned v ∧ ∃ e2, w'' = grow w e2 :=
  h.mono fun _ w' ⟨he, n, hn⟩ => ⟨he, @Go.Proofs.Ytdgdlpnhhelgnaa.grow_of w w' (by rw [hn]; exact below_to (below_grow w e) (below_drewN _ n))⟩
theorem Calls.grow_of_same {P : Program} {f : FuncId} {args : Array Value} {w e : World} {v : Value}
    (h : Calls P f args (grow w e) fun en w' => en = .returned v ∧ grow w e = w') : Calls P f args (grow w e) fun en w'' => en = .returned v ∧ ∃ e2, w'' = grow w e2 :=
  h.mono fun _ w' ⟨he, hn⟩ => ⟨he, ⟨e, hn.symm⟩⟩

theorem Calls.quiet_same {P : Program} {f : FuncId} {args : Array Value} {w : World} {n : Nat} {v : Value}
    (h : Calls P f args (w.drewN n) fun e w' => e = .returned v ∧ w.drewN n = w') : Calls P f args (w.drewN n) fun e w'' => e = .returned v ∧ ∃ m, w'' = w.drewN m :=
  h.mono fun _ _ ⟨he, hm⟩ => ⟨he, n, hm.symm⟩

/-- The slice value v has n elements, and its cells hold cs (an element may take several cells). -/
def Sl (w : World) (v : Value) (n : Nat) (cs : List Value) : Prop :=
  ∃ (ad : Option Addr) (cap : Nat), v = .slice ad n cap ∧ n ≤ cap ∧ n ≤ 9223372036854775807 ∧ ∀ i x, cs[i]? = some x → ∃ b off, ad = some ⟨b, off, none⟩ ∧ w.cell? ⟨b, off + i, none⟩ = some x
theorem Sl.below {w w' : World} {v : Value} {n : Nat} {cs : List Value} (h : Sl w v n cs) (hb : Below w.heap.size w w') : Sl w' v n cs := by
  obtain ⟨ad, cap, h1, h2, h3, h4⟩ := h
  refine ⟨ad, cap, h1, h2, h3, fun i x hx => ?_⟩
  obtain ⟨b, off, e, hc⟩ := h4 i x hx
  exact ⟨b, off, e, below_cell hb hc⟩
theorem Sl.grow {w : World} {v : Value} {n : Nat} {cs : List Value} (h : Sl w v n cs) (e : World) : Sl (grow w e) v n cs := h.below (below_grow w e)
/-- A slice of bools. -/
def SB (w : World) (v : Value) (xs : List Bool) : Prop := Sl w v xs.length (xs.map Value.bool)
/-- A slice of ints. -/
def SI (w : World) (v : Value) (xs : List Int) : Prop := Sl w v xs.length (xs.map (Value.int .i64))
theorem SB.below {w w' : World} {v : Value} {xs : List Bool} (h : SB w v xs) (hb : Below w.heap.size w w') : SB w' v xs := Sl.below h hb
theorem SI.below {w w' : World} {v : Value} {xs : List Int} (h : SI w v xs) (hb : Below w.heap.size w w') : SI w' v xs := Sl.below h hb
theorem SB.grow {w : World} {v : Value} {xs : List Bool} (h : SB w v xs) (e : World) : SB (grow w e) v xs := Sl.grow h e
theorem SI.grow {w : World} {v : Value} {xs : List Int} (h : SI w v xs) (e : World) : SI (grow w e) v xs := Sl.grow h e
theorem SB.open {w : World} {v : Value} {xs : List Bool} (h : SB w v xs) : ∃ ad cap, v = .slice ad xs.length cap ∧ xs.length ≤ cap ∧ xs.length ≤ 9223372036854775807 ∧
    Hid (∀ i (h : i < xs.length), ∃ b off, ad = some ⟨b, off, none⟩ ∧ w.cell? ⟨b, off + i, none⟩ = some (.bool xs[i])) := by
  obtain ⟨ad, cap, h1, h2, h3, h4⟩ := h
  exact ⟨ad, cap, h1, h2, h3, fun i hi => h4 i _ (by simp [hi])⟩
theorem SI.open {w : World} {v : Value} {xs : List Int} (h : SI w v xs) : ∃ ad cap, v = .slice ad xs.length cap ∧ xs.length ≤ cap ∧ xs.length ≤ 9223372036854775807 ∧
    Hid (∀ i (h : i < xs.length), ∃ b off, ad = some ⟨b, off, none⟩ ∧ w.cell? ⟨b, off + i, none⟩ = some (.int .i64 xs[i])) := by
  obtain ⟨ad, cap, h1, h2, h3, h4⟩ := h
  exact ⟨ad, cap, h1, h2, h3, fun i hi => h4 i _ (by simp [hi])⟩

/-- Block g is a row of the call's own, of elements of type T, and holds the cells cs. -/
def Own (w : World) (g : Nat) (T : TypeId) (cs : List Value) : Prop := w.heap[g]? = some (.cells cs.toArray T (0, 0))
theorem Own.cell {w : World} {g : Nat} {T : TypeId} {cs : List Value} (h : Own w g T cs) (k : Nat) (hk : k < cs.length) : w.cell? ⟨g, k, none⟩ = some cs[k] := by
  unfold Own at h; simp [World.cell?, h, hk]
theorem Own.free {w : World} {g : Nat} {T : TypeId} {cs : List Value} (h : Own w g T cs) (k : Nat) : w.frozen? ⟨g, k, none⟩ = false := by
  unfold Own at h; simp [World.frozen?, h]
theorem Own.lt {w : World} {g : Nat} {T : TypeId} {cs : List Value} (h : Own w g T cs) : g < w.heap.size := (Array.getElem?_eq_some_iff.1 h).1
theorem Own.below {w w' : World} {g : Nat} {T : TypeId} {cs : List Value} (h : Own w g T cs) (hb : Below w.heap.size w w') : Own w' g T cs := below_heap hb h
theorem Own.set {w : World} {g : Nat} {T : TypeId} {cs : List Value} (h : Own w g T cs) (k : Nat) (v : Value) : Own (w.setCell ⟨g, k, none⟩ v) g T (cs.set k v) := by
  unfold Own at *
  simp [World.setCell, Array.getElem?_modify, h]
theorem Own.other {w : World} {g g' : Nat} {T : TypeId} {cs : List Value} (h : Own w g T cs) (hne : g ≠ g') (k : Nat) (v : Value) : Own (w.setCell ⟨g', k, none⟩ v) g T cs := by
  unfold Own at *
  rw [Below.heap_setCell _ _ _ _ (by simpa using hne)]; exact h
theorem Own.alloc {w : World} {g : Nat} {T : TypeId} {cs : List Value} (h : Own w g T cs) (o : Obj) : Own (w.alloc o) g T cs := h.below (ba1 w o)
theorem Own.drewN {w : World} {g : Nat} {T : TypeId} {cs : List Value} (h : Own w g T cs) (n : Nat) : Own (w.drewN n) g T cs := h
theorem Own.drew {w : World} {g : Nat} {T : TypeId} {cs : List Value} (h : Own w g T cs) : Own w.drew g T cs := h
theorem Own.new (w : World) (T : TypeId) (cs : List Value) : Own (w.alloc (.cells cs.toArray T (0, 0))) w.heap.size T cs := by
  unfold Own; exact heap_alloc_new w _
theorem cell_set {w : World} {a : Addr} {v : Value} (h : w.cell? a = some v) {p : Addr} (hne : a.block ≠ p.block) (u : Value) : (w.setCell p u).cell? a = some v := by
  rw [← h]; exact World.cell?_of_block (Below.heap_setCell _ _ _ _ hne)
theorem frozen_set {w : World} {a : Addr} {v : Bool} (h : w.frozen? a = v) {p : Addr} (hne : a.block ≠ p.block) (u : Value) : (w.setCell p u).frozen? a = v := by
  rw [← h]; exact World.frozen?_of_block (Below.heap_setCell _ _ _ _ hne)
theorem Own.sl {w : World} {g : Nat} {T : TypeId} {cs : List Value} {n : Nat} (h : Own w g T cs) (cap : Nat) (hc : n ≤ cap) (hm : n ≤ 9223372036854775807) (ds : List Value) (hd : ds <+: cs) : Sl w (.slice (some ⟨g, 0, none⟩) n cap) n ds := by
  refine ⟨_, cap, rfl, hc, hm, fun i x hx => ⟨g, 0, rfl, ?_⟩⟩
  obtain ⟨r, rfl⟩ := hd
  have hi : i < ds.length := by
    rcases Nat.lt_or_ge i ds.length with h | h
    · exact h
    · simp [h] at hx
  rw [Nat.zero_add, h.cell i (by simp; omega)]
  rw [List.getElem_append_left hi]
  simpa [hi] using hx

theorem own_first (w : World) (T : TypeId) (cs : List Value) (o : Obj) : Own ((w.alloc (.cells cs.toArray T (0, 0))).alloc o) w.heap.size T cs := (Own.new w T cs).alloc o
theorem own_second (w : World) (T : TypeId) (cs : List Value) (o : Obj) : Own ((w.alloc o).alloc (.cells cs.toArray T (0, 0))) (w.heap.size + 1) T cs := by
  have h := Own.new (w.alloc o) T cs
  rw [show (w.alloc o).heap.size = w.heap.size + 1 from by simp] at h
  exact h

/-- One more element of a row that is filled from the left. -/
theorem fill_set {α : Type} (Z : List α) (d : α) (f : α → Value) (k n : Nat) (hZ : Z.length = n) (hk : k < n) (z : α) (hz : Z[k]? = some z) :
    ((Z.take k ++ List.replicate (n - k) d).map f).set k (f z) = (Z.take (k + 1) ++ List.replicate (n - (k + 1)) d).map f := by
  apply List.ext_getElem?
  intro i
  have hz' : Z[k]'(by omega) = z := by simpa [show k < Z.length by omega] using hz
  rw [List.getElem?_set]
  split
  · rename_i h; subst h
    rw [if_pos (by simp; omega), List.getElem?_map, List.getElem?_append_left (by simp; omega)]
    simp [List.getElem?_take, hz]
  · rename_i h
    rw [List.getElem?_map, List.getElem?_map]
    congr 1
    rcases Nat.lt_or_ge i k with h1 | h1
    · rw [List.getElem?_append_left (by simp; omega), List.getElem?_append_left (by simp; omega), List.getElem?_take_of_lt h1, List.getElem?_take_of_lt (by omega)]
    · rw [List.getElem?_append_right (by simp; omega), List.getElem?_append_right (by simp; omega)]
      simp only [List.getElem?_replicate, List.length_take]
      congr 1
      simp only [eq_iff_iff]; omega
theorem frozen_below {w w' : World} (hb : Below w.heap.size w w') {b o : Nat} {x : Bool} (hlt : b < w.heap.size) (h : w.frozen? ⟨b, o, none⟩ = x) : w'.frozen? ⟨b, o, none⟩ = x :=
  (hb.frozen (p := ⟨b, o, none⟩) hlt).trans h

/-- A slice value that lies from block B on, or nowhere. -/
def Frv (B : Nat) : Value → Prop
  | .slice (some a) _ _ => B ≤ a.block
  | _ => True
theorem Frv.mono {B B' : Nat} {v : Value} (h : Frv B v) (hB : B' ≤ B) : Frv B' v := by
  unfold Frv at *; split at h
  · exact Nat.le_trans hB h
  · trivial
theorem Sl.low {w : World} {v : Value} {n : Nat} {cs : List Value} {B : Nat} (h : Sl w v n cs) (hf : Frv B v) {p : Addr} (hp : p.block < B) (x : Value) : Sl (w.setCell p x) v n cs := by
  obtain ⟨ad, cap, h1, h2, h3, h4⟩ := h
  refine ⟨ad, cap, h1, h2, h3, fun i y hy => ?_⟩
  obtain ⟨b, off, e, hc⟩ := h4 i y hy
  refine ⟨b, off, e, cell_set hc ?_ x⟩
  subst e h1
  simp only [Frv] at hf
  simp only
  omega
theorem SB.low {w : World} {v : Value} {xs : List Bool} {B : Nat} (h : SB w v xs) (hf : Frv B v) {p : Addr} (hp : p.block < B) (x : Value) : SB (w.setCell p x) v xs := Sl.low h hf hp x
theorem SI.low {w : World} {v : Value} {xs : List Int} {B : Nat} (h : SI w v xs) (hf : Frv B v) {p : Addr} (hp : p.block < B) (x : Value) : SI (w.setCell p x) v xs := Sl.low h hf hp x

end Go.Proofs.Ytdgdlpnhhelgnaa
