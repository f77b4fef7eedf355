/- What is proved here: contracts of functions and plain facts, several texts in one; each one says ahead what it proves, and its conditions. -/
import Derived.Test.YthlcmlngmcoknaaC02
import Derived.Test.YthlcmlngmcoknaaC05
/- What is proved here: a region that draws its order may be walked along a tree: reads that may be taken at once, operations whose turn is forced, and places where either of two operations comes next. No condition but the Bool that is asked. -/
namespace Go.Proofs.Ythlcmlngmcoknaa
open Go.RowKit

/-- A tree of a walk: reads, a forced operation, one of two operations; the rest in a forced order. -/
inductive Tr where
  | nil (tl : List Nat)
  | t (is : List Nat) (r : Tr)
  | f (i : Nat) (r : Tr)
  | two (i : Nat) (ri : Tr) (j : Nat) (rj : Tr)
section
variable {P : Program} {ops : Array Oper} {Q : Exit → Act → World → Prop} {S : World → Prop} {E : Nat → Bool}
def stepT (P : Program) (ops : Array Oper) (Q : Exit → Act → World → Prop) (S : World → Prop) (i : Nat) (K : Act → World → Prop) (a : Act) (w : World) : Prop :=
  match ops[i]? with
  | some o => if Region.wanted o (yielded ops a.tmps) then o.wp P a w (fun a' w' => S w' ∧ K a' w') Q ∨ (o.asks P a w ∧ LetsOut Q) else K (a.put o.dst undef) w
  | none => False
def wpT (P : Program) (ops : Array Oper) (Q : Exit → Act → World → Prop) (S : World → Prop) : Tr → Act → World → Prop
  | .nil tl, a, w => wpList P ops Q (opsAt ops tl) a w
  | .t is r, a, w => wpQuiet P ops S (fun a' => wpT P ops Q S r a' w) (opsAt ops is) a
  | .f i r, a, w => stepT P ops Q S i (fun a' w' => wpT P ops Q S r a' w') a w
  | .two i ri j rj, a, w => stepT P ops Q S i (fun a' w' => wpT P ops Q S ri a' w') a w ∧ stepT P ops Q S j (fun a' w' => wpT P ops Q S rj a' w') a w
def treeB (ops : Array Oper) (E : Nat → Bool) : Tr → Nat → Array Bool → Bool
  | .nil tl, n, L => decide (n = lenS (tl.map .f)) && schedB ops (fun _ => true) true (tl.map .f) L && (Region.ready .any ops (markS (tl.map .f) L)).isEmpty && (tl.all fun i => decide (i < ops.size)) && (List.range ops.size).all fun j => L.getD j true || !E j
  | .t is r, n, L => decide (is.length ≤ n) && takeB ops E true is L && treeB ops E r (n - is.length) (mark is L)
  | .f i r, n, L => decide (0 < n) && decide (Region.ready .any ops L = [i]) && treeB ops E r (n - 1) (L.setIfInBounds i true)
  | .two i ri j rj, n, L => decide (0 < n) && decide (Region.ready .any ops L = [i, j]) && treeB ops E ri (n - 1) (L.setIfInBounds i true) && treeB ops E rj (n - 1) (L.setIfInBounds j true)
theorem step_any {i n : Nat} {listed : Array Bool} {a : Act} {w : World} {K : Act → World → Prop} (hw : S w) (h : stepT P ops Q S i K a w) (hK : ∀ a' w', S w' → K a' w' → wpAnyX P ops Q S E n (listed.setIfInBounds i true) a' w') :
    wpOp P ops Q i (fun a' w' => (E i = true → S w') ∧ wpAnyX P ops Q S E n (listed.setIfInBounds i true) a' w') a w := by
  unfold stepT at h
  unfold wpOp
  cases ho : ops[i]? with
  | none => simp only [ho] at h
  | some o =>
    simp only [ho] at h
    simp only []
    split
    · rename_i hwt
      simp only [hwt, if_true] at h
      exact h.imp (Oper.wp_mono (fun a' w' h' => ⟨fun _ => h'.1, hK a' w' h'.1 h'.2⟩)) id
    · rename_i hwt
      simp only [hwt] at h
      exact ⟨fun _ => hw, hK _ w hw h⟩
theorem T_sched (hs : Region.noSelect ops = true) (hQ : ∀ c a (d : Tmp) v w, Q (.panic c) (a.put (some d) v) w → Q (.panic c) a w) :
    ∀ (t : Tr) (n : Nat) (listed : Array Bool) (a : Act) (w : World), Closed ops listed → treeB ops E t n listed = true → S w → wpT P ops Q S t a w → wpAnyX P ops Q S E n listed a w
  | .nil tl, n, listed, a, w, hcl, hB, hw, h => by
    simp only [treeB, Bool.and_eq_true, decide_eq_true_eq, List.isEmpty_iff] at hB
    obtain ⟨⟨⟨⟨hn, h2⟩, he⟩, hl0⟩, hE⟩ := hB
    have hl : ∀ i ∈ tl, i < ops.size := fun i hi => by simpa using List.all_eq_true.1 hl0 i hi
    refine X_of_any (C' := fun _ => True) (E' := fun _ => true) _ _ _ _ (fun j hj hun => ?_) ?_
    · have := List.all_eq_true.1 hE j (List.mem_range.2 hj)
      simpa [hun] using this
    · have := X_sched (P := P) (Q := Q) (C := fun _ => True) (E := fun _ => true) (n := 0) hs hQ (tl.map .f) _ a w hcl h2 trivial (fun a2 w2 _ k2 => ⟨he, k2⟩) (X_of_list tl a w hl h)
      rw [hn]; simpa using this
  | .t is r, n, listed, a, w, hcl, hB, hw, h => by
    simp only [treeB, Bool.and_eq_true, decide_eq_true_eq] at hB
    obtain ⟨⟨hn, h1⟩, h2⟩ := hB
    have := take_read (S := S) (E := E) hs hQ hw (fuel := n - is.length) is listed a hcl h1 h fun a' h' => T_sched hs hQ r _ _ a' w (closed_mark is E true _ hcl h1) h2 hw h'
    rw [Nat.sub_add_cancel hn] at this
    exact this
  | .f i r, n, listed, a, w, hcl, hB, hw, h => by
    simp only [treeB, Bool.and_eq_true, decide_eq_true_eq] at hB
    obtain ⟨⟨hn, hr⟩, h2⟩ := hB
    obtain ⟨m, rfl⟩ : ∃ m, n = m + 1 := ⟨n - 1, by omega⟩
    have hk : i ∈ Region.ready .any ops listed := by rw [hr]; simp
    refine ⟨fun h1 => (by rw [hr] at h1; cases h1), fun j hj => ?_⟩
    rw [hr] at hj
    have hji : j = i := by simpa using hj
    subst hji
    exact step_any hw h fun a' w' hw' h' => T_sched hs hQ r m _ a' w' (hcl.set hk) h2 hw' h'
  | .two i ri k rk, n, listed, a, w, hcl, hB, hw, h => by
    simp only [treeB, Bool.and_eq_true, decide_eq_true_eq] at hB
    obtain ⟨⟨⟨hn, hr⟩, h2⟩, h3⟩ := hB
    obtain ⟨m, rfl⟩ : ∃ m, n = m + 1 := ⟨n - 1, by omega⟩
    have hki : i ∈ Region.ready .any ops listed := by rw [hr]; simp
    have hkk : k ∈ Region.ready .any ops listed := by rw [hr]; simp
    refine ⟨fun h1 => (by rw [hr] at h1; cases h1), fun j hj => ?_⟩
    rw [hr] at hj
    have hji : j = i ∨ j = k := by simpa using hj
    rcases hji with rfl | rfl
    · exact step_any hw h.1 fun a' w' hw' h' => T_sched hs hQ ri m _ a' w' (hcl.set hki) h2 hw' h'
    · exact step_any hw h.2 fun a' w' hw' h' => T_sched hs hQ rk m _ a' w' (hcl.set hkk) h3 hw' h'
def trTail : Tr → List Nat
  | .nil tl => tl
  | .t _ r => trTail r
  | .f _ r => trTail r
  | .two _ ri _ _ => trTail ri
/-- A region that draws its order, walked along a tree; S holds behind each operation but those of the tail. -/
theorem wp_region_tree {id : Nat} {a : Act} {w : World} (S : World → Prop) (t : Tr) (hm : P.follows .mixedOrders = true) (hB : (Region.noSelect ops && treeB ops (fun j => !(trTail t).contains j) t ops.size (Array.replicate ops.size false)) = true)
    (hQ : ∀ c a (d : Tmp) v w, Q (.panic c) (a.put (some d) v) w → Q (.panic c) a w) (hw : S w.drew) (h : wpT P ops Q S t a w.drew) : (Code.region id ops true).wp P Q a w := by
  simp only [Bool.and_eq_true] at hB
  refine wp_region_any hm ?_
  have hcl : Closed ops (Array.replicate ops.size false) := fun j oj _ hl => (by simp [Array.getElem?_replicate] at hl; split at hl <;> simp at hl)
  exact wpAny_of_X _ _ _ _ (T_sched (S := S) hB.1 hQ t _ _ a _ hcl hB.2 hw h)
theorem wpT_t {is : List Nat} {r : Tr} {a : Act} {w : World} (h : wpQuiet P ops S (fun a' => wpT P ops Q S r a' w) (opsAt ops is) a) : wpT P ops Q S (.t is r) a w := h
theorem wpT_f {i : Nat} {o : Oper} {r : Tr} {a : Act} {w : World} (ho : ops[i]? = some o) (hw : Region.wanted o (yielded ops a.tmps) = true)
    (h : ∀ K' : Act → World → Prop, (∀ a' w', S w' → wpT P ops Q S r a' w' → K' a' w') → o.wp P a w K' Q) : wpT P ops Q S (.f i r) a w := by
  simp only [wpT, stepT, ho, hw, if_true]
  exact .inl (h _ fun _ _ h1 h2 => ⟨h1, h2⟩)
theorem wpT_two {i j : Nat} {ri rj : Tr} {a : Act} {w : World} (h1 : wpT P ops Q S (.f i ri) a w) (h2 : wpT P ops Q S (.f j rj) a w) : wpT P ops Q S (.two i ri j rj) a w := ⟨h1, h2⟩
theorem wpT_nil {tl : List Nat} {a : Act} {w : World} (h : wpList P ops Q (opsAt ops tl) a w) : wpT P ops Q S (.nil tl) a w := h
/-- What one append leaves of the other rows. -/
theorem Kept.keep {W w2 : World} {ov : Value} {g n cap B : Nat} (h : Kept W w2 ov (.slice (some ⟨g, 0, none⟩) n cap)) : Keep B W w2 ov g where
  row := fun hr ha => h.row hr ha
  apart := fun hr ha k cap' b h1 h2 => h.apart hr ha b h1 (by simpa [Value.ownBlock] using h2)
theorem own_slice {w : World} {B size n : Nat} {T : TypeId} {v : Value} {cs : List Value} (h : w.ownsRow B T size v (n + 1) cs) : ∃ g cap, v = .slice (some ⟨g, 0, none⟩) (n + 1) cap := by
  obtain ⟨h0, h3⟩ := h
  rcases h3 with ⟨_, h5⟩ | ⟨g, cap, cur, h4, _⟩
  · exact absurd h5 (by omega)
  · exact ⟨g, cap, h4⟩
theorem owns_lt {w : World} {B size n : Nat} {T : TypeId} {v : Value} {cs : List Value} (h : w.ownsRow B T size v n cs) : ∀ b, v.ownBlock = some b → B ≤ b := fun _ hb => (row_lt h hb).1
end
end Go.Proofs.Ythlcmlngmcoknaa

/- What is proved here: many rows that a call has made, each in a block of its own: what an append to one of them, a new one, a store into one leaves. No condition. -/
namespace Go.Proofs.Ythlcmlngmcoknaa
open Go.RowKit

/-- A row of one-cell elements: its type, its value, its length, its cells. -/
structure Ent where
  T : TypeId
  v : Value
  n : Nat
  cs : List Value
def Many (W : World) (B : Nat) (L : List Ent) : Prop := (∀ e ∈ L, W.ownsRow B e.T 1 e.v e.n e.cs) ∧ L.Pairwise fun a b => Apart a.v b.v
section
variable {W W2 : World} {B : Nat} {L L1 L2 : List Ent} {e e' : Ent}
theorem Many.get (h : Many W B L) (he : e ∈ L) : W.ownsRow B e.T 1 e.v e.n e.cs := h.1 e he
theorem Many.below (h : Many W B L) (hb : Below W.heap.size W W2) : Many W2 B L := ⟨fun e he => owns_at (h.1 e he) hb, h.2⟩
theorem Many.low (h : Many W B L) {p : Addr} (hp : p.block < B) (x : Value) : Many (W.setCell p x) B L := ⟨fun e he => owns_set_low (h.1 e he) hp x, h.2⟩
theorem many_nil (W : World) (B : Nat) : Many W B [] := ⟨fun e he => (by cases he), List.Pairwise.nil⟩
/-- The row e gives way to e'; the others lie apart from both. -/
theorem Many.swap (h : Many W B (L1 ++ e :: L2)) (hk : ∀ x ∈ L1 ++ L2, Apart x.v e.v → W2.ownsRow B x.T 1 x.v x.n x.cs) (ha : ∀ x ∈ L1 ++ L2, Apart x.v e.v → Apart x.v e'.v) (ho : W2.ownsRow B e'.T 1 e'.v e'.n e'.cs) : Many W2 B (L1 ++ e' :: L2) := by
  obtain ⟨h1, h2⟩ := h
  rw [List.pairwise_append, List.pairwise_cons] at h2
  obtain ⟨p1, ⟨p2, p3⟩, p4⟩ := h2
  have a1 : ∀ x ∈ L1, Apart x.v e.v := fun x hx => p4 x hx e (by simp)
  have a2 : ∀ x ∈ L2, Apart x.v e.v := fun x hx => (p2 x hx).symm
  refine ⟨fun x hx => ?_, ?_⟩
  · rcases List.mem_append.1 hx with h | h
    · exact hk x (by simp [h]) (a1 x h)
    · rcases List.mem_cons.1 h with rfl | h
      · exact ho
      · exact hk x (by simp [h]) (a2 x h)
  · rw [List.pairwise_append, List.pairwise_cons]
    refine ⟨p1, ⟨fun x hx => (ha x (by simp [hx]) (a2 x hx)).symm, p3⟩, fun x hx y hy => ?_⟩
    rcases List.mem_cons.1 hy with rfl | hy
    · exact ha x (by simp [hx]) (a1 x hx)
    · exact p4 x hx y (by simp [hy])
/-- An append to the row e. -/
theorem Many.app (h : Many W B (L1 ++ e :: L2)) (hk : Kept W W2 e.v e'.v) (ho : W2.ownsRow B e'.T 1 e'.v e'.n e'.cs) : Many W2 B (L1 ++ e' :: L2) :=
  h.swap (fun x hx ha => hk.row (h.1 x (by rcases List.mem_append.1 hx with q | q <;> simp [q])) ha) (fun x hx ha => hk.apart (h.1 x (by rcases List.mem_append.1 hx with q | q <;> simp [q])) ha) ho
/-- A new row. -/
theorem Many.add (h : Many W B L) (hb : Below W.heap.size W W2) (hB : B ≤ W.heap.size) (hr : W2.ownsRow W.heap.size e.T 1 e.v e.n e.cs) : Many W2 B (e :: L) := by
  obtain ⟨h1, h2⟩ := h
  refine ⟨fun x hx => ?_, List.pairwise_cons.2 ⟨fun y hy => (apart_new (h1 y hy) hr).symm, h2⟩⟩
  rcases List.mem_cons.1 hx with q | q
  · rw [q]; exact owns_mono hr hB
  · exact owns_at (h1 x q) hb
theorem Many.drop (h : Many W B (L1 ++ e :: L2)) : Many W B (L1 ++ L2) :=
  ⟨fun x hx => h.1 x (by rcases List.mem_append.1 hx with q | q <;> simp [q]), h.2.sublist (List.Sublist.append_left (List.sublist_cons_self e L2) L1)⟩
theorem Many.rot (h : Many W B (e :: L)) : Many W B (L ++ [e]) := by
  obtain ⟨h1, h2⟩ := h
  rw [List.pairwise_cons] at h2
  refine ⟨fun x hx => h1 x (by rcases List.mem_append.1 hx with q | q <;> simp_all), List.pairwise_append.2 ⟨h2.2, List.pairwise_singleton _ _, fun x hx y hy => ?_⟩⟩
  rw [List.mem_singleton.1 hy]; exact (h2.1 x hx).symm
/-- A store into a row of whole numbers. -/
theorem row_put {w : World} {B n g cap i : Nat} {T : TypeId} {xs : List Int} (h : w.ownsRow B T 1 (.slice (some ⟨g, 0, none⟩) n cap) n (ics xs)) (hl : xs.length = n) (hi : i < n) (v : Int) :
    (w.setCell ⟨g, i, none⟩ (.int .i64 v)).ownsRow B T 1 (.slice (some ⟨g, 0, none⟩) n cap) n (ics (xs.set i v)) ∧ w.cell? ⟨g, i, none⟩ = some (.int .i64 (xs.getD i 0)) ∧ w.frozen? ⟨g, i, none⟩ = false ∧ g < w.heap.size ∧ B ≤ g ∧ n ≤ cap := by
  obtain ⟨_, h2⟩ := h
  rcases h2 with ⟨h2, _⟩ | ⟨b, cap', cur, h3, hg, hh, h4, h5, h6, h7⟩
  · cases h2
  · cases h3
    have hs := (Array.getElem?_eq_some_iff.1 hh).1
    have ow : Own w g T cur.toList := by unfold Own; exact hh
    rw [Nat.mul_one] at h7
    have hil : i < cur.toList.length := by simp; omega
    have ec : cur.toList[i] = .int .i64 (xs.getD i 0) := by
      have e1 : (cur.toList.take n)[i]? = (ics xs)[i]? := by rw [h7]
      rw [List.getElem?_take_of_lt hi, List.getElem?_eq_getElem hil] at e1
      simpa [ics, show i < xs.length by omega] using e1
    refine ⟨⟨by rw [ics_len]; simp; omega, .inr ⟨g, cap, (cur.toList.set i (.int .i64 v)).toArray, rfl, hg, ow.set i _, h4, h5, by simp; omega, ?_⟩⟩, by rw [ow.cell i hil, ec], ow.free i, hs, hg, h4⟩
    rw [Nat.mul_one]
    show (cur.toList.set i (.int .i64 v)).take n = _
    rw [List.take_set, h7]
    simp [ics, List.map_set]
theorem Many.store {g n cap i : Nat} {T : TypeId} {xs : List Int} (h : Many W B (L1 ++ ⟨T, .slice (some ⟨g, 0, none⟩) n cap, n, ics xs⟩ :: L2)) (hl : xs.length = n) (hi : i < n) (v : Int) :
    Many (W.setCell ⟨g, i, none⟩ (.int .i64 v)) B (L1 ++ ⟨T, .slice (some ⟨g, 0, none⟩) n cap, n, ics (xs.set i v)⟩ :: L2) := by
  refine h.swap (e' := ⟨T, .slice (some ⟨g, 0, none⟩) n cap, n, ics (xs.set i v)⟩) (fun x hx ha => ?_) (fun x hx ha => ha) (row_put (h.1 ⟨T, .slice (some ⟨g, 0, none⟩) n cap, n, ics xs⟩ (by simp)) hl hi v).1
  have hr := h.1 x (by rcases List.mem_append.1 hx with q | q <;> simp [q])
  exact ownsRow_setCell_other hr (fun e => ha g e rfl) _
/-- The row's cells. -/
theorem row_cell {w : World} {T : TypeId} {ad : Option Addr} {n m cap i : Nat} {cs : List Value} (h : w.ownsRow B T 1 (.slice ad m cap) n cs) (hi : i < cs.length) (hn : n ≤ 1000) : ∃ g, ad = some ⟨g, 0, none⟩ ∧ m = n ∧ n ≤ cap ∧ w.cell? ⟨g, i, none⟩ = some cs[i] ∧ B ≤ g := by
  have h2 := h.2
  rcases h2 with ⟨h3, h4⟩ | ⟨g, cap', cur, h3, hg, hh, h4, _⟩
  · have := h.1; omega
  · obtain ⟨ad2, cap2, hv, _, _, hc⟩ := owns_sl h (by omega)
    obtain ⟨b, off, e1, e2⟩ := hc i cs[i] (List.getElem?_eq_getElem hi)
    cases h3
    cases hv
    cases e1
    rw [Nat.zero_add] at e2
    exact ⟨_, rfl, rfl, h4, e2, hg⟩
/-- Two boxes and many rows that a call builds. -/
structure Ro (y0 : World) (b0 : Nat) (Ts : TypeId) (W : World) (L : List Ent) (x1 y1 x2 y2 : Value) : Prop where
  many : Many W (b0 + 2) L
  boxT : Own W b0 Ts [x1, y1]
  boxU : Own W (b0 + 1) Ts [x2, y2]
  low : y0.heap.size ≤ b0
  bel : Below y0.heap.size y0 W
variable {y0 : World} {b0 : Nat} {Ts : TypeId} {x1 y1 x2 y2 : Value}
theorem Ro.sz (h : Ro y0 b0 Ts W L x1 y1 x2 y2) : b0 + 2 ≤ W.heap.size := h.boxU.lt
theorem Ro.below (h : Ro y0 b0 Ts W L x1 y1 x2 y2) (hb : Below W.heap.size W W2) : Ro y0 b0 Ts W2 L x1 y1 x2 y2 := ⟨h.many.below hb, h.boxT.below hb, h.boxU.below hb, h.low, below_to h.bel hb⟩
theorem Ro.app (h : Ro y0 b0 Ts W (L1 ++ e :: L2) x1 y1 x2 y2) (hk : Kept W W2 e.v e'.v) (ho : W2.ownsRow (b0 + 2) e'.T 1 e'.v e'.n e'.cs) : Ro y0 b0 Ts W2 (L1 ++ e' :: L2) x1 y1 x2 y2 := by
  have he := h.many.1 e (by simp)
  refine ⟨h.many.app hk ho, ?_, ?_, h.low, h.bel.trans ((hk.below h.sz fun b hb => (row_lt he hb).1).mono (by have := h.low; omega))⟩
  · unfold Own; rw [hk.grown.block b0 h.boxT.lt (fun e1 => by have := (row_lt he e1.symm).1; omega)]; exact h.boxT
  · unfold Own; rw [hk.grown.block (b0 + 1) h.boxU.lt (fun e1 => by have := (row_lt he e1.symm).1; omega)]; exact h.boxU
theorem Ro.add (h : Ro y0 b0 Ts W L x1 y1 x2 y2) (hb : Below W.heap.size W W2) (hr : W2.ownsRow W.heap.size e.T 1 e.v e.n e.cs) : Ro y0 b0 Ts W2 (e :: L) x1 y1 x2 y2 :=
  ⟨h.many.add hb h.sz hr, h.boxT.below hb, h.boxU.below hb, h.low, below_to h.bel hb⟩
theorem Ro.drop (h : Ro y0 b0 Ts W (L1 ++ e :: L2) x1 y1 x2 y2) : Ro y0 b0 Ts W (L1 ++ L2) x1 y1 x2 y2 := ⟨h.many.drop, h.boxT, h.boxU, h.low, h.bel⟩
theorem Ro.rot (h : Ro y0 b0 Ts W (e :: L) x1 y1 x2 y2) : Ro y0 b0 Ts W (L ++ [e]) x1 y1 x2 y2 := ⟨h.many.rot, h.boxT, h.boxU, h.low, h.bel⟩
theorem Ro.setT (h : Ro y0 b0 Ts W L x1 y1 x2 y2) (z z' : Value) : Ro y0 b0 Ts ((W.setCell ⟨b0, 0, none⟩ z).setCell ⟨b0, 1, none⟩ z') L z z' x2 y2 :=
  ⟨(h.many.low (by show b0 < b0 + 2; omega) _).low (by show b0 < b0 + 2; omega) _, (h.boxT.set 0 z).set 1 z', (h.boxU.other (g' := b0) (by omega) 0 z).other (g' := b0) (by omega) 1 z', h.low, (h.bel.setCell h.low _).setCell h.low _⟩
theorem Ro.setU (h : Ro y0 b0 Ts W L x1 y1 x2 y2) (z z' : Value) : Ro y0 b0 Ts ((W.setCell ⟨b0 + 1, 0, none⟩ z).setCell ⟨b0 + 1, 1, none⟩ z') L x1 y1 z z' :=
  ⟨(h.many.low (by show b0 + 1 < b0 + 2; omega) _).low (by show b0 + 1 < b0 + 2; omega) _, (h.boxT.other (g' := b0 + 1) (by omega) 0 z).other (g' := b0 + 1) (by omega) 1 z', (h.boxU.set 0 z).set 1 z', h.low, (h.bel.setCell (by have := h.low; show y0.heap.size ≤ b0 + 1; omega) _).setCell (by have := h.low; show y0.heap.size ≤ b0 + 1; omega) _⟩
theorem Ro.store {g n cap i : Nat} {T : TypeId} {xs : List Int} (h : Ro y0 b0 Ts W (L1 ++ ⟨T, .slice (some ⟨g, 0, none⟩) n cap, n, ics xs⟩ :: L2) x1 y1 x2 y2) (hl : xs.length = n) (hi : i < n) (v : Int) :
    Ro y0 b0 Ts (W.setCell ⟨g, i, none⟩ (.int .i64 v)) (L1 ++ ⟨T, .slice (some ⟨g, 0, none⟩) n cap, n, ics (xs.set i v)⟩ :: L2) x1 y1 x2 y2 := by
  have hg : b0 + 2 ≤ g := (row_put (h.many.1 ⟨T, .slice (some ⟨g, 0, none⟩) n cap, n, ics xs⟩ (by simp)) hl hi v).2.2.2.2.1
  exact ⟨h.many.store hl hi v, h.boxT.other (g' := g) (by omega) i _, h.boxU.other (g' := g) (by omega) i _, h.low, h.bel.setCell (by have := h.low; show y0.heap.size ≤ g; omega) _⟩
/-- An empty row in a block of its own. -/
theorem own_empty {w : World} {p : Nat} {T : TypeId} (h : Own w p T []) {B : Nat} (hB : B ≤ p) : w.ownsRow B T 1 (.slice (some ⟨p, 0, none⟩) 0 0) 0 [] :=
  ⟨rfl, .inr ⟨p, 0, #[], rfl, hB, h, Nat.le_refl _, by decide, rfl, rfl⟩⟩
theorem own_one {w : World} {p : Nat} {T : TypeId} {c : Value} (h : Own w p T [c]) {B : Nat} (hB : B ≤ p) : w.ownsRow B T 1 (.slice (some ⟨p, 0, none⟩) 1 1) 1 [c] :=
  ⟨rfl, .inr ⟨p, 1, #[c], rfl, hB, h, Nat.le_refl _, by decide, rfl, rfl⟩⟩
/-- The rows of a list, with their values. -/
def entR (T : TypeId) (rws : List (Value × List Int)) : List Ent := rws.map fun p => ⟨T, p.1, p.2.length, ics p.2⟩
theorem entR_app (T : TypeId) (rws : List (Value × List Int)) (p : Value × List Int) : entR T (rws ++ [p]) = entR T rws ++ [⟨T, p.1, p.2.length, ics p.2⟩] := by simp [entR]
end
end Go.Proofs.Ythlcmlngmcoknaa
