/- What is proved here: contracts of functions and plain facts, several texts in one; each one says ahead what it proves, and its conditions. -/
import Derived.Maps.AppendAt
import Derived.RangeFuncBox
import Derived.Test.YthlcmlngmcoknaaC22
/- What is proved here: the contract of clean.Clean. Condition: an image, a beam and a cleaning. -/
namespace Go.Proofs.Ythlcmlngmcoknaa
open Go.RowKit
attribute [local go_sem] Oper.semAt_some

/-- A cleaning's result: an image and a log; or none. -/
def clean_post (w : World) (n : Nat) (M N : Nat → Nat → Int) (e : Ending) (w' : World) : Prop :=
  Below w.heap.size w w' ∧ (e = .returned (.tuple #[.slice none 0 0, .slice none 0 0, .int .i64 16]) ∨
    ∃ u vl L, e = .returned (.tuple #[u, vl, .int .i64 0]) ∧ IM w' u n (subL N n L M) ∧ ST w' vl L ∧ LogN n L ∧ ∀ q, q ≤ L.length → inR 1000000000 n (subL N n (L.take q) M))
theorem zip_two (p q : Nat) (u v : Value) (t : Array Value) : ((#[p, q] : Array Tmp).zip #[u, v]).foldl (fun t (p, v) => t.setIfInBounds p v) t = (t.setIfInBounds p u).setIfInBounds q v := by simp
/-- The call of the iterator, by what a round does. -/
theorem clean_call (n m : Nat) (M N : Nat → Nat → Int) (ca cb cc cd : Int) (w0 y4 : World) (adb : Option Addr) (capb Lm g cap : Nat) (rest : List Value) (bb cp : Nat → Nat) (ex : Nat → List Value) (b6 b7 b8 bT D : Nat) (fn : FuncId) (tm : Array Value) (ps : Array Tmp) (asg bd : Code)
    (hb : BM n m N) (hcl : cleanB ca cb cc cd = true) (hr : inR 1000000 n M) (hB : IM w0 (.slice adb m capb) m N) (hcap : n ≤ cap) (MX : MatO y4 w0.heap.size Lm g 23 3 rest bb cp ex n n M) (hy : Below w0.heap.size w0 y4)
    (o1 : Own y4 bT 22 [.slice (some ⟨g, 0, none⟩) n cap]) (o2 : Own y4 (bT + 1) 22 [.slice adb m capb]) (o3 : Own y4 (bT + 2) 56 [.int .i64 ca, .int .i64 cb, .int .i64 cc, .int .i64 cd])
    (e3 : Own y4 b6 22 [.slice (some ⟨g, 0, none⟩) n cap]) (p3 : Own y4 b7 68 [.slice none 0 0]) (p4 : Own y4 b8 30 [.int .i64 0])
    (hF : w0.heap.size ≤ b6 ∧ b6 < b7 ∧ b7 < b8 ∧ b8 < bT ∧ bT = Lm ∧ D = bT + 3 ∧ y4.heap.size = D ∧ b8 < g ∧ g < Lm) (hbk : ∀ b ∈ blks bb n, b8 < b ∧ b < Lm)
    (hY : ∀ L (p : T3) r X, JS w0 b6 b7 b8 D n g cap L X → X.heap[D]? = some (.deferred (some [])) → X.heap[D + 1]? = some (.loop (lrec fn tm ps asg bd D .ready none)) → L.length < 100 → YieldAt Fence.wide 2 Try.prog (D + 1) #[.agg #[.int .i64 p.x, .int .i64 p.y, .int .i64 p.f], .bool r] X (fun e Y =>
      (r = true ∧ e = .returned (.bool true) ∧ (JS w0 b6 b7 b8 D n g cap (L ++ [p]) Y ∧ Y.heap[D]? = some (.deferred (some [])) ∧ Y.heap[D + 1]? = some (.loop (lrec fn tm ps asg bd D .ready none))) ∧ KeepD D b7 X Y) ∨
      (r = false ∧ e = .returned (.bool false) ∧ (JX w0 b6 b7 b8 D Y ∧ Y.heap[D]? = some (.deferred (some [])) ∧ Y.heap[D + 1]? = some (.loop (lrec fn tm ps asg bd D .done (some .ret)))) ∧ Below w0.heap.size X Y))) :
    CallsIn Fence.wide 3 Try.prog 131 #[.func (.yield (D + 1)) #[] #[], .pointer (some ⟨bT, 0, none⟩), .pointer (some ⟨bT + 1, 0, none⟩), .pointer (some ⟨bT + 2, 0, none⟩)] ((y4.alloc (.deferred (some []))).alloc (.loop (lrec fn tm ps asg bd D .ready none))) (fun e W' => (∃ v, e = .returned v) ∧ W'.heap[D]? = some (.deferred (some [])) ∧
      (((∃ L, JS w0 b6 b7 b8 D n g cap L W' ∧ Hid (LogN n L) ∧ Hid (∀ q, q ≤ L.length → inR 1000000000 n (subL N n (L.take q) M)) ∧ MatO W' w0.heap.size Lm g 23 3 rest bb cp ex n n (subL N n L M)) ∧ W'.heap[D + 1]? = some (.loop (lrec fn tm ps asg bd D .ready none))) ∨ (JX w0 b6 b7 b8 D W' ∧ W'.heap[D + 1]? = some (.loop (lrec fn tm ps asg bd D .done (some .ret)))))) := by
  obtain ⟨h1, h2, h3, h4, h5, h6, h7, h8, h9⟩ := hF
  have hd : (y4.alloc (.deferred (some []))).heap[D]? = some (.deferred (some [])) := by rw [← h7]; exact heap_alloc_new y4 _
  have hq := ba2 y4 (.deferred (some [])) (.loop (lrec fn tm ps asg bd D .ready none))
  have hD0 : ((y4.alloc (.deferred (some []))).alloc (.loop (lrec fn tm ps asg bd D .ready none))).heap[D]? = some (.deferred (some [])) := (Below.heap_alloc _ _ _ (by simp; omega)).trans hd
  have hD1 : ((y4.alloc (.deferred (some []))).alloc (.loop (lrec fn tm ps asg bd D .ready none))).heap[D + 1]? = some (.loop (lrec fn tm ps asg bd D .ready none)) := by
    have := heap_alloc_new (y4.alloc (.deferred (some []))) (.loop (lrec fn tm ps asg bd D .ready none))
    rw [World.size_alloc, h7] at this
    exact this
  have hsz : ((y4.alloc (.deferred (some []))).alloc (.loop (lrec fn tm ps asg bd D .ready none))).heap.size = D + 2 := by simp; omega
  have hw := below_to hy hq
  have J0 : JS w0 b6 b7 b8 D n g cap [] ((y4.alloc (.deferred (some []))).alloc (.loop (lrec fn tm ps asg bd D .ready none))) := ⟨by omega, e3.below hq, ⟨none, 0, p3.below hq, World.ownsRow_nil _ _ _ _⟩, p4.below hq, hw, by omega⟩
  have nb : ∀ b, b ∈ blks bb n → w0.heap.size ≤ b ∧ b < D ∧ b ≠ b6 ∧ b ≠ b7 ∧ b ≠ b8 := fun b hb => by have := hbk b hb; omega
  have no : ∀ b, D ≤ b → b ∉ blks bb n := fun b h hb => by have := hbk b hb; omega
  refine (steps1_in n m M N ca cb cc cd w0 (.slice adb m capb) Lm g cap rest bb cp ex D b7 bT (bT + 1) (bT + 2) (D + 1)
    (fun L X => JS w0 b6 b7 b8 D n g cap L X ∧ X.heap[D]? = some (.deferred (some [])) ∧ X.heap[D + 1]? = some (.loop (lrec fn tm ps asg bd D .ready none)))
    (fun X => JX w0 b6 b7 b8 D X ∧ X.heap[D]? = some (.deferred (some [])) ∧ X.heap[D + 1]? = some (.loop (lrec fn tm ps asg bd D .done (some .ret))))
    _ 2 hb hcl (inR_mono hr (by omega)) hB hw hcap (MX.below hq) (o1.below hq) (o2.below hq) (o3.below hq) (by omega) (by omega) ⟨by omega, by omega, fun h => by have := hbk _ h; omega, by omega, by omega, by omega⟩ ?_ ?_ ⟨J0, hD0, hD1⟩).mono ?_
  · rintro L X Y ⟨j1, j2, j3⟩ hm
    have hs := j1.siz
    exact ⟨j1.mod hm nb, (hm.block D (by omega) (no _ (by omega))).trans j2, (hm.block (D + 1) (by omega) (no _ (by omega))).trans j3⟩
  · rintro L p r X ⟨j1, j2, j3⟩ hl _
    exact hY L p r X j1 j2 j3 hl
  · rintro e W' ⟨h, _, (⟨L, ⟨j1, j2, j3⟩, k1, k2, k3⟩ | ⟨j1, j2, j3⟩)⟩
    · exact ⟨h, j2, .inl ⟨⟨L, j1, Lib.hid k1, Lib.hid k2, k3⟩, j3⟩⟩
    · exact ⟨h, j2, .inr ⟨j1, j3⟩⟩
end Go.Proofs.Ythlcmlngmcoknaa

/- What is proved here: the contract of clean.Clean. Condition: an image, a beam and a cleaning. -/
namespace Go.Proofs.Ythlcmlngmcoknaa
open Go.RowKit
attribute [local go_sem] Oper.semAt_some

theorem comp_info41 : (Try.prog.info? 132).map (fun i => (i.zero, i.size, i.bytes)) = some (some (.agg #[.int .i64 0, .int .i64 0, .int .i64 0]), 3, 24) := by kernel_rfl
theorem cell_news {W : World} {p : Nat} {T : TypeId} {cs : List Value} (h : Own W p T cs) : ∀ j u, cs[j]? = some u → W.cell? ((⟨p, 0, none⟩ : Addr).add j) = some u := by
  intro j u hj
  rw [addr_plus, Nat.zero_add]
  obtain ⟨r, _⟩ := h.rules
  rw [r, hj]
theorem grown_own41 {W w' : World} {ov : Option Nat} {b : Nat} {T : TypeId} {cs : List Value} (hg : W.grownBy w' ov) (hne : some b ≠ ov) (h : Own W b T cs) : Own w' b T cs :=
  (hg.block b (Array.getElem?_eq_some_iff.1 h).1 hne).trans h
/-- A component more. -/
theorem JS.app {w0 X Y : World} {b6 b7 b8 D n g cap : Nat} {L : List T3} (h : JS w0 b6 b7 b8 D n g cap L X) {a : Option Addr} {c : Nat} (p : T3) (v' : Value) (ho : Own X b7 68 [.slice a L.length c]) (hr : X.ownsRow (D + 2) 132 3 (.slice a L.length c) L.length (tcs L))
    (h1 : Y.ownsRow (D + 2) 132 3 v' (L.length + 1) (tcs L ++ [.int .i64 p.x, .int .i64 p.y, .int .i64 p.f])) (h2 : X.grownBy Y (Value.slice a L.length c).ownBlock) :
    ∃ g' cap', v' = .slice (some ⟨g', 0, none⟩) (L.length + 1) cap' ∧ Own Y b7 68 [.slice a L.length c] ∧ JS w0 b6 b7 b8 D n g cap (L ++ [p]) (Y.setCell ⟨b7, 0, none⟩ (.slice (some ⟨g', 0, none⟩) (L.length + 1) cap')) ∧ KeepD D b7 X (Y.setCell ⟨b7, 0, none⟩ (.slice (some ⟨g', 0, none⟩) (L.length + 1) cap')) ∧
      (∀ b, D ≤ b → b < D + 2 → (Y.setCell ⟨b7, 0, none⟩ (.slice (some ⟨g', 0, none⟩) (L.length + 1) cap')).heap[b]? = X.heap[b]?) := by
  obtain ⟨g', cap', rfl⟩ := ownsRow_succ h1
  obtain ⟨lt, o6, _, o8, bel, siz⟩ := h
  have hb : ∀ b, b < D + 2 → some b ≠ (Value.slice a L.length c).ownBlock := by
    intro b hb e
    rcases hr.2 with ⟨e1, _⟩ | ⟨gg, cc, cur, e1, hB, _⟩
    · rw [e1] at e; cases e
    · rw [e1] at e; simp [Value.ownBlock] at e; omega
  have k7 := grown_own41 h2 (hb b7 (by omega)) ho
  have kk : KeepD D b7 X Y := ⟨h2.os, h2.tape, h2.output, h2.size, fun b hb' _ => h2.block b (by omega) (hb b (by omega))⟩
  have k3 := kk.setCell (p := ⟨b7, 0, none⟩) (.inr rfl) (.slice (some ⟨g', 0, none⟩) (L.length + 1) cap')
  refine ⟨g', cap', rfl, k7, ⟨lt, (grown_own41 h2 (hb b6 (by omega)) o6).other (by omega) _ _, ⟨some ⟨g', 0, none⟩, cap', ?_, ?_⟩, (grown_own41 h2 (hb b8 (by omega)) o8).other (by omega) _ _, k3.below bel lt.2.2.2.2.2.2.1 (by omega), Nat.le_trans siz k3.size⟩, k3, ?_⟩
  · have := k7.set 0 (.slice (some ⟨g', 0, none⟩) (L.length + 1) cap')
    simpa using this
  · have := owns_set_low h1 (p := ⟨b7, 0, none⟩) (by show b7 < D + 2; omega) (.slice (some ⟨g', 0, none⟩) (L.length + 1) cap')
    rw [List.length_append, tcs_append]
    simpa [tcs, T3.cs] using this
  · intro b h3 h4
    rw [Below.heap_setCell _ _ _ _ (by show b ≠ b7; omega)]
    exact h2.block b (by omega) (hb b h4)
set_option maxRecDepth 100000 in
set_option maxHeartbeats 16000000 in
theorem clean_any (n m : Nat) (M N : Nat → Nat → Int) (ca cb cc cd : Int) (va vb : Value) (w0 : World) (hA : IM w0 va n M) (hB : IM w0 vb m N) (hb : BM n m N) (hr : inR 1000000 n M) (hc : cleanB ca cb cc cd = true) :
    Calls Try.prog 38 #[va, vb, .agg #[.int .i64 ca, .int .i64 cb, .int .i64 cc, .int .i64 cd]] w0 (clean_post w0 n M N) := by
  have A0 := Lib.hid hA
  have B0 := Lib.hid hB
  obtain ⟨ada, capa, rfl, _, _, _⟩ := hA.open
  obtain ⟨adb, capb, rfl, _, _, _⟩ := hB.open
  clear hA hB
  have HCL := Lib.hid hc
  have HB := Lib.hid hb
  have n1 := hb.n1
  have n8 := hb.n8
  have HR := Lib.hid hr
  clear hc hb hr
  refine (callsIn_wide (n := 4)).1 ?_
  refine callsIn_of_wp_marks Try.func38 rfl trivial ?_ rfl
  simp only [Try.ntmps38, List.size_toArray, List.length_cons, List.length_nil, Nat.reduceAdd, Nat.reduceSub, Array.replicate_succ, Array.replicate_zero, List.push_toArray, List.append_toArray, List.nil_append, List.cons_append]
  have p1 := Own.new w0 56 [.int .i64 ca, .int .i64 cb, .int .i64 cc, .int .i64 cd]
  have p2 := Own.new (w0.alloc (.cells #[.int .i64 ca, .int .i64 cb, .int .i64 cc, .int .i64 cd] 56)) 22 [.slice none 0 0]
  have p3 := Own.new ((w0.alloc (.cells #[.int .i64 ca, .int .i64 cb, .int .i64 cc, .int .i64 cd] 56)).alloc (.cells #[.slice none 0 0] 22)) 68 [.slice none 0 0]
  have p4 := Own.new (((w0.alloc (.cells #[.int .i64 ca, .int .i64 cb, .int .i64 cc, .int .i64 cd] 56)).alloc (.cells #[.slice none 0 0] 22)).alloc (.cells #[.slice none 0 0] 68)) 30 [.int .i64 0]
  simp only [World.size_alloc] at p2 p3 p4
  replace p1 := ((p1.alloc (.cells #[.slice none 0 0] 22)).alloc (.cells #[.slice none 0 0] 68)).alloc (.cells #[.int .i64 0] 30)
  replace p2 := (p2.alloc (.cells #[.slice none 0 0] 68)).alloc (.cells #[.int .i64 0] 30)
  replace p3 := p3.alloc (.cells #[.int .i64 0] 30)
  have hy := ba4 w0 (.cells #[.int .i64 ca, .int .i64 cb, .int .i64 cc, .int .i64 cd] 56) (.cells #[.slice none 0 0] 22) (.cells #[.slice none 0 0] 68) (.cells #[.int .i64 0] 30)
  have hsz : ((((w0.alloc (.cells #[.int .i64 ca, .int .i64 cb, .int .i64 cc, .int .i64 cd] 56)).alloc (.cells #[.slice none 0 0] 22)).alloc (.cells #[.slice none 0 0] 68)).alloc (.cells #[.int .i64 0] 30)).heap.size = w0.heap.size + 4 := by simp
  gi_wp2_with fail
  generalize (((w0.alloc (.cells #[.int .i64 ca, .int .i64 cb, .int .i64 cc, .int .i64 cd] 56)).alloc (.cells #[.slice none 0 0] 22)).alloc (.cells #[.slice none 0 0] 68)).alloc (.cells #[.int .i64 0] 30) = X1 at *
  obtain ⟨b8, hb8⟩ : ∃ B, B = w0.heap.size + 1 + 1 + 1 := ⟨_, rfl⟩
  obtain ⟨b7, hb7⟩ : ∃ B, B = w0.heap.size + 1 + 1 := ⟨_, rfl⟩
  obtain ⟨b6, hb6⟩ : ∃ B, B = w0.heap.size + 1 := ⟨_, rfl⟩
  obtain ⟨b5, hb5⟩ : ∃ B, B = w0.heap.size := ⟨_, rfl⟩
  rw [← hb8, ← hb7, ← hb6, ← hb5]
  rw [← hb5] at p1
  rw [← hb6] at p2
  rw [← hb7] at p3
  rw [← hb8] at p4
  have hB6 : b6 = b5 + 1 ∧ b7 = b5 + 2 ∧ b8 = b5 + 3 ∧ X1.heap.size = b5 + 4 := by omega
  have HB6 : Hid (b5 = w0.heap.size ∧ b6 = b5 + 1 ∧ b7 = b5 + 2 ∧ b8 = b5 + 3 ∧ X1.heap.size = b5 + 4) := ⟨hb5, hB6⟩
  have hX1 : b8 < X1.heap.size := by omega
  clear hb6 hb7 hb8 hsz hB6 hb5
  have hA1 := A0.out.below hy
  have hB1 := B0.out.below hy
  refine ⟨trivial, ?_⟩
  refine (callsIn_wide.2 (cleanCheck_any n m M N ca cb cc cd _ _ X1 hA1 hB1 HB.out HR.out HCL.out)).mono ?_
  rintro e y1 ⟨rfl, hq⟩
  clear hA1 hB1
  replace p1 := p1.below hq
  replace p2 := p2.below hq
  replace p3 := p3.below hq
  replace p4 := p4.below hq
  replace hy := below_to hy hq
  have hs1 := hq.size
  clear hq
  obtain ⟨r8, f8⟩ := p4.rules
  have e8 := set_same41 p4
  gi_wp2_with fail
  have hA1 := A0.out.below (below_to (Below.refl _ w0) hy)
  refine ⟨trivial, ?_⟩
  refine (callsIn_wide.2 (copied_any n M _ y1 hA1 n1 n8)).mono ?_
  rintro e y2 ⟨g, cap, rest, bb, cp, ex, rfl, hcap, MX, hq⟩
  clear hA1 r8 f8 e8
  have hs2 := hq.size
  replace p1 := p1.below hq
  replace p2 := p2.below hq
  replace p3 := p3.below hq
  replace p4 := p4.below hq
  replace hy := below_to hy hq
  clear hq
  have H6 := HB6.out
  have BL := Lib.hid MX.blksB
  have gB := MX.base
  replace MX := MX.down (B' := w0.heap.size) (by omega)
  have BN : ∀ b, b < y1.heap.size → b ∉ blks bb n := fun b hb h => by have := BL.out b h; omega
  have BI : ∀ b, b < y1.heap.size → ∀ i, i < n → b ≠ bb i := fun b hb i hi e => BN b hb (by rw [e]; exact blks_mem hi)
  obtain ⟨r5, f5⟩ := p1.rules
  obtain ⟨r6, f6⟩ := p2.rules
  have hne : b5 ≠ b6 := by omega
  replace p1 := p1.other hne 0 (.slice (some ⟨g, 0, none⟩) n cap)
  have e3 := p2.set 0 (.slice (some ⟨g, 0, none⟩) n cap)
  simp only [List.set_cons_zero] at e3
  replace p3 := p3.other (g' := b6) (by omega) 0 (.slice (some ⟨g, 0, none⟩) n cap)
  replace p4 := p4.other (g' := b6) (by omega) 0 (.slice (some ⟨g, 0, none⟩) n cap)
  replace MX := MX.off (b := b6) (by omega) (BI b6 (by omega)) 0 (.slice (some ⟨g, 0, none⟩) n cap)
  replace hy := hy.setCell (p := ⟨b6, 0, none⟩) (show w0.heap.size ≤ b6 by omega) (.slice (some ⟨g, 0, none⟩) n cap)
  have hs3 : (y2.setCell ⟨b6, 0, none⟩ (.slice (some ⟨g, 0, none⟩) n cap)).heap.size = y2.heap.size := World.size_setCell _ _ _
  have HG := Lib.hid gB
  have HN := Lib.hid BN
  clear H6 BN BI gB
  gi_wp2_with fail
  generalize y2.setCell ⟨b6, 0, none⟩ (.slice (some ⟨g, 0, none⟩) n cap) = y3 at *
  clear r5 f5 r6 f6 p2
  refine ⟨trivial, ?_⟩
  refine (callsIn_wide.2 (steps_any (some ⟨g, 0, none⟩) adb n cap m capb ca cb cc cd y3)).mono ?_
  rintro e y4 ⟨rfl, o1, o2, o3, hq, hs4⟩
  replace p1 := p1.below hq
  replace e3 := e3.below hq
  replace p3 := p3.below hq
  replace p4 := p4.below hq
  replace hy := below_to hy hq
  replace MX := MX.below hq
  clear hq
  obtain ⟨bT, hbT⟩ : ∃ B, B = y3.heap.size := ⟨_, rfl⟩
  obtain ⟨Lm, hLm⟩ : ∃ B, B = y2.heap.size := ⟨_, rfl⟩
  rw [← hbT] at o1 o2 o3 ⊢
  rw [← hLm] at MX
  have H6 := HB6.out
  have gB := HG.out
  have HF : Hid (w0.heap.size ≤ b6 ∧ b6 < b7 ∧ b7 < b8 ∧ b8 < bT ∧ bT = Lm ∧ y4.heap.size = bT + 3 ∧ b8 < g ∧ g < Lm) := ⟨by omega, by omega, by omega, by omega, by omega, by omega, by omega, by omega⟩
  have HBK : Hid (∀ b ∈ blks bb n, b8 < b ∧ b < Lm) := fun b hb => by have := BL.out b hb; omega
  clear H6 gB HG HN BL HB6 hs1 hs2 hs3 hs4 hbT hLm hne hX1
  gi_wp2
  refine wpIn_rangeFunc_mem rfl (by omega) (gf := 131) (lb := #[.pointer (some ⟨bT, 0, none⟩), .pointer (some ⟨bT + 1, 0, none⟩), .pointer (some ⟨bT + 2, 0, none⟩)]) rfl trivial (enters_of Try.func131 (by kernel_rfl) rfl)
    (fun W => ∃ L, JS w0 b6 b7 b8 y4.heap.size n g cap L W ∧ Hid (LogN n L) ∧ Hid (∀ q, q ≤ L.length → inR 1000000000 n (subL N n (L.take q) M)) ∧ MatO W w0.heap.size Lm g 23 3 rest bb cp ex n n (subL N n L M))
    (fun c W => c = .ret ∧ JX w0 b6 b7 b8 y4.heap.size W) ?hI ?hIx ?call ?done ?stop
  case hI =>
    rintro W o ⟨L, h1, h2, h3, h4⟩
    have hF := HF.out
    exact ⟨L, h1.put (by omega) (by omega) o, h2, h3, h4.keepD (D := y4.heap.size) (b7 := y4.heap.size) (KeepD.putObj (KeepD.refl _ _ W) (by omega) o) (by omega) (by omega) (fun h => by have := HBK.out _ h; omega)⟩
  case hIx =>
    rintro c W o ⟨rfl, h⟩
    exact ⟨rfl, h.put (by omega) o⟩
  case call =>
    intro fn _
    simp only [List.append_toArray, List.cons_append, List.nil_append]
    refine (clean_call n m M N ca cb cc cd w0 y4 adb capb Lm g cap rest bb cp ex b6 b7 b8 bT y4.heap.size _ _ _ _ _ HB.out HCL.out HR.out B0.out hcap MX hy o1 o2 o3 e3 p3 p4 (by have h := HF.out; exact ⟨h.1, h.2.1, h.2.2.1, h.2.2.2.1, h.2.2.2.2.1, h.2.2.2.2.2.1, rfl, h.2.2.2.2.2.2⟩) HBK.out ?round).mono ?_
    case round =>
      rintro L p r X hj k1 k2 hL
      refine yieldAt_mem k2 rfl trivial ?_
      rw [zip_two]
      simp only [List.setIfInBounds_toArray, List.set_cons_succ, List.set_cons_zero]
      generalize hR : lrec fn _ _ _ _ _ LoopState.ready none = R at k2 ⊢
      generalize hS : lrec fn _ _ _ _ _ LoopState.busy none = S
      generalize hT : lrec fn _ _ _ _ _ LoopState.done (some Code.ret) = T
      have hS1 : ({ S with state := LoopState.ready, pending := none } : Loop) = R := by rw [← hS, ← hR]; rfl
      have hS2 : ({ S with state := LoopState.done, pending := some Code.ret } : Loop) = T := by rw [← hS, ← hT]; rfl
      clear hR hS hT
      obtain ⟨px, py, pf⟩ := p
      cases r with
      | true =>
        gi_wp2
        have hF := HF.out
        have hs := hj.siz
        have hp := ba1 X (.cells #[.int .i64 px, .int .i64 py, .int .i64 pf] 132)
        have oP := Own.new X 132 [.int .i64 px, .int .i64 py, .int .i64 pf]
        refine ⟨(Below.heap_alloc _ _ _ (by omega)).trans k2, ?_⟩
        have j1 := (hj.mod (bs := []) (Mod.of_below hp) (fun b h => by cases h)).put (l := y4.heap.size + 1) (by omega) (by omega) (.loop S)
        replace oP := own_put oP (l := y4.heap.size + 1) (by omega) (.loop S)
        have lY : ((X.alloc (.cells #[.int .i64 px, .int .i64 py, .int .i64 pf] 132)).putObj (y4.heap.size + 1) (.loop S)).heap[y4.heap.size + 1]? = some (.loop S) := World.putObj_heap_same (by have := hp.size; omega)
        have dY : ((X.alloc (.cells #[.int .i64 px, .int .i64 py, .int .i64 pf] 132)).putObj (y4.heap.size + 1) (.loop S)).heap[y4.heap.size]? = some (.deferred (some [])) := (World.putObj_heap_other (by omega)).trans ((Below.heap_alloc _ _ _ (by omega)).trans k1)
        have kY : KeepD y4.heap.size b7 X ((X.alloc (.cells #[.int .i64 px, .int .i64 py, .int .i64 pf] 132)).putObj (y4.heap.size + 1) (.loop S)) := (KeepD.of_below (hp.mono (by omega))).putObj (by omega) _
        obtain ⟨bP, hbP⟩ : ∃ B, B = X.heap.size := ⟨_, rfl⟩
        rw [← hbP] at oP ⊢
        clear hbP hp hs
        generalize (X.alloc (.cells #[.int .i64 px, .int .i64 py, .int .i64 pf] 132)).putObj (y4.heap.size + 1) (.loop S) = Y at *
        obtain ⟨a, c, o7, hr⟩ := j1.row
        have hsY := j1.siz
        have hZ := ba1 Y (.cells #[.int .i64 px, .int .i64 py, .int .i64 pf] 132)
        have oZ := Own.new Y 132 [.int .i64 px, .int .i64 py, .int .i64 pf]
        have j2 := j1.mod (bs := []) (Mod.of_below hZ) (fun b h => by cases h)
        have hr2 := owns_at hr hZ
        have o7z := o7.below hZ
        have lZ := (Below.heap_alloc Y (.cells #[.int .i64 px, .int .i64 py, .int .i64 pf] 132) (y4.heap.size + 1) (by omega)).trans lY
        have dZ := (Below.heap_alloc Y (.cells #[.int .i64 px, .int .i64 py, .int .i64 pf] 132) y4.heap.size (by omega)).trans dY
        have kZ := kY.trans (KeepD.of_below (hZ.mono (by omega)))
        obtain ⟨i0, hi, hz0, hz1, hz2⟩ := info_parts comp_info41
        obtain ⟨r7, f7⟩ := o7.rules
        obtain ⟨rP, fP⟩ := oP.rules
        have szZ : y4.heap.size + 2 ≤ (Y.alloc (.cells #[.int .i64 px, .int .i64 py, .int .i64 pf] 132)).heap.size := by have := hZ.size; omega
        have szY := Lib.hid hsY
        have HFz := Lib.hid hF
        clear hF hsY kY dY lY hZ j1
        gi_wp2_with (gi_at_builtin; refine wpListIn_append_own _ rfl _ _ 68 rfl (y4.heap.size + 2) 132 i0 (.agg #[.int .i64 0, .int .i64 0, .int .i64 0]) 3 24 Try.underlying68 hi hz0 hz1 hz2 rfl (by decide) _ _ _ rfl hr2 ⟨Y.heap.size, 0, none⟩ 1 1 [.int .i64 px, .int .i64 py, .int .i64 pf] rfl rfl (cell_news oZ) (by simp [Value.oneCell']) (by unfold maxLen; omega) (by omega) szZ ?_; intro v1 Z2 hown hgr _; obtain ⟨g1, cap1, rfl, k7, kJ, kK, kB⟩ := j2.app ⟨px, py, pf⟩ v1 o7z hr2 hown hgr; obtain ⟨r7b, f7b⟩ := k7.rules)
        have lZ2 := (kB (y4.heap.size + 1) (by omega) (by omega)).trans lZ
        have dZ2 := (kB y4.heap.size (by omega) (by omega)).trans dZ
        have hE := run_endRound (P := Try.prog) none lZ2
        simp only [Option.isNone_none, if_true, hS1] at hE
        have s1 := kJ.siz
        refine ⟨_, _, hE, .inl ⟨trivial, rfl, ⟨kJ.put (by omega) (by omega) _, (World.putObj_heap_other (by omega)).trans dZ2, World.putObj_heap_same (by omega)⟩, (kZ.trans kK).putObj (by omega) _⟩⟩
      | false =>
        gi_wp2
        have hF := HF.out
        have hs := hj.siz
        have hp := ba1 X (.cells #[.int .i64 px, .int .i64 py, .int .i64 pf] 132)
        refine ⟨(Below.heap_alloc _ _ _ (by omega)).trans k2, ?_⟩
        have j1 := (hj.mod (bs := []) (Mod.of_below hp) (fun b h => by cases h)).put (l := y4.heap.size + 1) (by omega) (by omega) (.loop S)
        have lY : ((X.alloc (.cells #[.int .i64 px, .int .i64 py, .int .i64 pf] 132)).putObj (y4.heap.size + 1) (.loop S)).heap[y4.heap.size + 1]? = some (.loop S) := World.putObj_heap_same (by have := hp.size; omega)
        have dY : ((X.alloc (.cells #[.int .i64 px, .int .i64 py, .int .i64 pf] 132)).putObj (y4.heap.size + 1) (.loop S)).heap[y4.heap.size]? = some (.deferred (some [])) := (World.putObj_heap_other (by omega)).trans ((Below.heap_alloc _ _ _ (by omega)).trans k1)
        have bY : KeepD w0.heap.size w0.heap.size X ((X.alloc (.cells #[.int .i64 px, .int .i64 py, .int .i64 pf] 132)).putObj (y4.heap.size + 1) (.loop S)) := (KeepD.of_below (hp.mono (by omega))).putObj (by omega) _
        clear hp
        generalize (X.alloc (.cells #[.int .i64 px, .int .i64 py, .int .i64 pf] 132)).putObj (y4.heap.size + 1) (.loop S) = Y at *
        obtain ⟨a, c, o7, hr⟩ := j1.row
        have o6 := j1.o6
        have o8 := j1.o8
        obtain ⟨r6, f6⟩ := o6.rules
        obtain ⟨r7, f7⟩ := o7.rules
        obtain ⟨r8, f8⟩ := o8.rules
        have q6 := ((o6.set 0 (.slice none 0 0)).other (g' := b7) (by omega) 0 (.slice none 0 0)).other (g' := b8) (by omega) 0 (.int .i64 16)
        have q7 := ((o7.other (g' := b6) (by omega) 0 (.slice none 0 0)).set 0 (.slice none 0 0)).other (g' := b8) (by omega) 0 (.int .i64 16)
        have q8 := ((o8.other (g' := b6) (by omega) 0 (.slice none 0 0)).other (g' := b7) (by omega) 0 (.slice none 0 0)).set 0 (.int .i64 16)
        have qb := ((j1.bel.setCell (p := ⟨b6, 0, none⟩) (show w0.heap.size ≤ b6 by omega) (.slice none 0 0)).setCell (p := ⟨b7, 0, none⟩) (show w0.heap.size ≤ b7 by omega) (.slice none 0 0)).setCell (p := ⟨b8, 0, none⟩) (show w0.heap.size ≤ b8 by omega) (.int .i64 16)
        have kb := ((bY.setCell (p := ⟨b6, 0, none⟩) (.inl (show w0.heap.size ≤ b6 by omega)) (.slice none 0 0)).setCell (p := ⟨b7, 0, none⟩) (.inl (show w0.heap.size ≤ b7 by omega)) (.slice none 0 0)).setCell (p := ⟨b8, 0, none⟩) (.inl (show w0.heap.size ≤ b8 by omega)) (.int .i64 16)
        have ho : ∀ b, b8 < b → (((Y.setCell ⟨b6, 0, none⟩ (.slice none 0 0)).setCell ⟨b7, 0, none⟩ (.slice none 0 0)).setCell ⟨b8, 0, none⟩ (.int .i64 16)).heap[b]? = Y.heap[b]? := fun b hb => by
          rw [Below.heap_setCell _ _ _ _ (by show b ≠ b8; omega), Below.heap_setCell _ _ _ _ (by show b ≠ b7; omega), Below.heap_setCell _ _ _ _ (by show b ≠ b6; omega)]
        have n1 : b6 ≠ b7 := by omega
        have n2 : b6 ≠ b8 := by omega
        have n3 : b7 ≠ b8 := by omega
        have s1 := j1.siz
        simp only [List.set_cons_zero] at q6 q7 q8
        have HS1 := Lib.hid s1
        have HFz := Lib.hid hF
        have HSS := Lib.hid hs
        clear hF hs s1
        gi_wp2
        have lZ2 := (ho (y4.heap.size + 1) (by have := HFz.out; omega)).trans lY
        have dZ2 := (ho y4.heap.size (by have := HFz.out; omega)).trans dY
        have hE := run_endRound (P := Try.prog) (some Code.ret) lZ2
        have hsz : y4.heap.size + 2 ≤ (((Y.setCell ⟨b6, 0, none⟩ (.slice none 0 0)).setCell ⟨b7, 0, none⟩ (.slice none 0 0)).setCell ⟨b8, 0, none⟩ (.int .i64 16)).heap.size := by
          rw [World.size_setCell, World.size_setCell, World.size_setCell]; exact HS1.out
        generalize ((Y.setCell ⟨b6, 0, none⟩ (.slice none 0 0)).setCell ⟨b7, 0, none⟩ (.slice none 0 0)).setCell ⟨b8, 0, none⟩ (.int .i64 16) = Z at *
        have hF := HFz.out
        simp only [Option.isNone_some, Bool.false_eq_true, if_false, hS2] at hE
        have JXZ : JX w0 b6 b7 b8 y4.heap.size Z := ⟨by omega, q6, q7, q8, qb, hsz⟩
        have kf := kb.putObj (l := y4.heap.size + 1) (by omega) (.loop T)
        refine ⟨_, _, hE, .inr ⟨trivial, rfl, ⟨JXZ.put (by omega) _, (World.putObj_heap_other (by omega)).trans dZ2, World.putObj_heap_same (by omega)⟩, ⟨kf.os, kf.tape, kf.output, kf.size, fun b hb => kf.block b hb (by omega)⟩⟩⟩
    · rintro e W' ⟨h1, h2, (⟨h3, h4⟩ | ⟨h3, h4⟩)⟩
      · exact ⟨h1, h2, .inl ⟨h3, h4⟩⟩
      · exact ⟨h1, h2, .inr ⟨_, ⟨rfl, h3⟩, h4⟩⟩
  case done =>
    rintro W ⟨L, hj, hl, hi, hM⟩ hK
    obtain ⟨a, c, o7, hr⟩ := hj.row
    have hF := Lib.hid HF.out
    have hd := (Below.refl W.heap.size W).drew
    have o6 := hj.o6.below hd
    have o8 := hj.o8.below hd
    replace o7 := o7.below hd
    replace hr := owns_at hr hd
    have hM2 := hM.below hd
    obtain ⟨r6, f6⟩ := o6.rules
    obtain ⟨r7, f7⟩ := o7.rules
    obtain ⟨r8, f8⟩ := o8.rules
    have e6 := set_same41 o6
    have e7 := set_same41 o7
    have e8 := set_same41 o8
    have hb := below_to hj.bel hd
    gi_wp2
    gi_region
    gi_wp2
    refine ⟨by simp, .inl ⟨_, _, rfl, run_takeDeferred (show W.drew.heap[y4.heap.size]? = _ from hK), ?_⟩⟩
    clear r6 r7 r8 f6 f7 f8 e6 e7 e8
    have lt := hj.lt
    replace hF := hF.out
    have hr3 := owns_put hr (l := y4.heap.size) (by omega) (.deferred none)
    obtain ⟨r6, f6⟩ := (own_put o6 (l := y4.heap.size) (by omega) (.deferred none)).rules
    obtain ⟨r7, f7⟩ := (own_put o7 (l := y4.heap.size) (by omega) (.deferred none)).rules
    obtain ⟨r8, f8⟩ := (own_put o8 (l := y4.heap.size) (by omega) (.deferred none)).rules
    have kD := KeepD.putObj (l := y4.heap.size) (KeepD.refl y4.heap.size y4.heap.size W.drew) (by omega) (.deferred none)
    have hM3 := hM2.keepD kD (by omega) (by omega) (fun h => by have := HBK.out _ h; omega)
    have hb3 := kD.below hb (by omega) (by omega)
    refine ⟨.tuple #[.slice (some ⟨g, 0, none⟩) n cap, .slice a L.length c, .int .i64 0], ?_, hb3, .inr ⟨_, _, L, rfl, hM3.im hcap (by omega), owns_ST hr3 (by have := hl.out.1; omega), hl.out, hi.out⟩⟩
    simp [results, Try.results38, go_sem, r6, r7, r8]
  case stop =>
    rintro c W ⟨rfl, h⟩ hK
    obtain ⟨r6, f6⟩ := h.o6.rules
    obtain ⟨r7, f7⟩ := h.o7.rules
    obtain ⟨r8, f8⟩ := h.o8.rules
    gi_wp2
    refine ⟨by simp, .inl ⟨_, _, rfl, run_takeDeferred hK, ?_⟩⟩
    clear r6 r7 r8 f6 f7 f8
    have lt := h.lt
    obtain ⟨r6, f6⟩ := (own_put h.o6 (l := y4.heap.size) (by omega) (.deferred none)).rules
    obtain ⟨r7, f7⟩ := (own_put h.o7 (l := y4.heap.size) (by omega) (.deferred none)).rules
    obtain ⟨r8, f8⟩ := (own_put h.o8 (l := y4.heap.size) (by omega) (.deferred none)).rules
    have kD := KeepD.putObj (l := y4.heap.size) (KeepD.refl y4.heap.size y4.heap.size W) (by omega) (.deferred none)
    have hb3 := kD.below h.bel (by omega) (by omega)
    refine ⟨.tuple #[.slice none 0 0, .slice none 0 0, .int .i64 16], ?_, hb3, .inl rfl⟩
    simp [results, Try.results38, go_sem, r6, r7, r8]
end Go.Proofs.Ythlcmlngmcoknaa
