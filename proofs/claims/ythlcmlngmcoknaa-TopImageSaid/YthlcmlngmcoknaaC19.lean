/- What is proved here: contracts of functions and plain facts, several texts in one; each one says ahead what it proves, and its conditions. -/
import Derived.Test.YthlcmlngmcoknaaC18
import Derived.Test.YthlcmlngmcoknaaC17
import Derived.Laws.OwnMore
/- What is proved here: the contracts of the reference's Blank and Twin of layer 40. Condition: 1 to 8 cells; an image that can be read. -/
namespace Go.Proofs.Ythlcmlngmcoknaa
open Go.RowKit

theorem owns_openI {w : World} {B n : Nat} {T : TypeId} {v : Value} {cs : List Value} (h : w.ownsRow B T 1 v n cs) (hn : 1 ≤ n) : ∃ g cap rest, v = .slice (some ⟨g, 0, none⟩) n cap ∧ n ≤ cap ∧ B ≤ g ∧ Own w g T (cs ++ rest) := by
  obtain ⟨h1, h2⟩ := h
  rcases h2 with ⟨_, h3⟩ | ⟨g, cap, cur, e, hb, hh, hc, _, hs, ht⟩
  · omega
  · refine ⟨g, cap, cur.toList.drop n, e, hc, hb, ?_⟩
    unfold Own
    rw [hh]
    rw [Nat.mul_one] at ht
    rw [← ht, List.take_append_drop]
theorem rows_img {w : World} {B : Nat} {Ti Tr : TypeId} {ov : Value} {n mw : Nat} {R : Nat → List Int} {vs : List Value} (h : RowsB w B Ti Tr ov n R vs) (hn : 1 ≤ n) (hm : 1 ≤ mw) (hR : ∀ i, i < n → (R i).length = mw) :
    ∃ g cap rest bb cp ex, ov = .slice (some ⟨g, 0, none⟩) n cap ∧ n ≤ cap ∧ MatO w B w.heap.size g Tr Ti rest bb cp ex n mw (fun i j => (R i).getD j 0) := by
  obtain ⟨g, cap, rest, e, hc, hb, ho⟩ := owns_openI h.1 hn
  have hl : vs.length = n := by have := h.1.1; omega
  have key : ∀ i : Nat, ∃ z : Nat × Nat × List Value, i < n → vs[i]? = some (.slice (some ⟨z.1, 0, none⟩) mw z.2.1) ∧ B ≤ z.1 ∧ z.1 ≠ g ∧ mw ≤ z.2.1 ∧ Own w z.1 Ti (ics (R i) ++ z.2.2) ∧ ∀ j, j < i → ∀ u', vs[j]? = some u' → u'.ownBlock ≠ some z.1 := fun i => by
    by_cases hi : i < n
    · obtain ⟨u, e1, e2, e3, e4⟩ := h.2 i hi
      rw [hR i hi] at e2
      obtain ⟨b, c, r, eu, h1, h2, h3⟩ := owns_openI e2 hm
      refine ⟨(b, c, r), fun _ => ⟨by rw [e1, eu], h2, fun hbg => ?_, h1, h3, fun j hj u' hu' hc' => ?_⟩⟩
      · exact e3 b (by rw [eu]; rfl) (by rw [e, ← hbg]; rfl)
      · exact e4 j hj u' hu' b hc' (by rw [eu]; rfl)
    · exact ⟨(0, 0, []), fun h => absurd h hi⟩
  obtain ⟨Z, hZ⟩ := Classical.axiomOfChoice key
  refine ⟨g, cap, rest, fun i => (Z i).1, fun i => (Z i).2.1, fun i => (Z i).2.2, e, hc, ?_⟩
  have hvs : vs = mout (fun i => (Z i).1) (fun i => (Z i).2.1) n mw := by
    refine List.ext_getElem? fun i => ?_
    rcases Nat.lt_or_ge i n with hi | hi
    · rw [(hZ i hi).1]; simp [mout, hi]
    · rw [List.getElem?_eq_none (by omega), List.getElem?_eq_none (by rw [mout_len]; omega)]
  refine ⟨by rw [← hvs]; exact ho, ⟨hb, ho.lt⟩, fun i hi => ?_, fun i hi => ?_, fun i j hi hj eb => ?_⟩
  · have := (hZ i hi).2.2.2.2.1
    have er : mrc (fun i j => (R i).getD j 0) mw i = ics (R i) := by
      refine List.ext_getElem? fun j => ?_
      have hRi := hR i hi
      rcases Nat.lt_or_ge j mw with hj | hj
      · have hj' : j < (R i).length := by omega
        simp [mrc, ics, hj, hj']
      · rw [List.getElem?_eq_none (by rw [mrc_len]; omega), List.getElem?_eq_none (by rw [ics_len]; omega)]
    rw [er]; exact this
  · have := hZ i hi
    exact ⟨this.2.1, this.2.2.1, this.2.2.2.1, this.2.2.2.2.1.lt⟩
  · apply Classical.byContradiction
    intro hne
    rcases Nat.lt_or_ge i j with h1 | h1
    · exact (hZ j hj).2.2.2.2.2 i h1 _ (hZ i hi).1 (by simp only [Value.ownBlock]; rw [eb])
    · exact (hZ i hi).2.2.2.2.2 j (by omega) _ (hZ j hj).1 (by simp only [Value.ownBlock]; rw [eb])
theorem img_info : (Try.prog.info? 23).map (fun i => (i.zero, i.size, i.bytes)) = some (some (.slice none 0 0), 1, 24) := by kernel_rfl
set_option maxRecDepth 100000 in
set_option maxHeartbeats 16000000 in
theorem rblank_any (n : Nat) (w : World) (n1 : 1 ≤ n) (n8 : n ≤ 8) :
    Calls Try.prog 32 #[.int .i64 n] w (own_post w n (fun _ _ => 0)) := by
  have MK := mk_ints n (by omega)
  go_enter Try.func32, Try.ntmps32
  go_wp2
  go_loopw [3, 4] (fun av iv wr => ∃ k : Nat, k ≤ n ∧ iv = .int .i64 k ∧ (∃ vs, RowsB wr w.heap.size 3 23 av k (fun _ => List.replicate n 0) vs) ∧ Below w.heap.size w wr) (fun _ iv _ => n - (intOf iv).toNat)
  case atStart => exact ⟨0, Nat.zero_le _, rfl, ⟨[], rowsB_nil _ _ _ _ _⟩, Below.refl _ _⟩
  case round =>
    obtain ⟨k, hk, rfl, ⟨vs, RA⟩, hC⟩ := hrel
    rename World => V
    by_cases hlt : k < n
    · have zC := hC.size
      have h1 := ba1 V (.cells (ics (List.replicate n 0)).toArray 3)
      have h2 := below_to h1 (ba1 (V.alloc (.cells (ics (List.replicate n 0)).toArray 3)) (.cells #[.slice (some ⟨V.heap.size, 0, none⟩) n n] 23))
      have OW : (V.alloc (.cells (ics (List.replicate n 0)).toArray 3)).ownsRow V.heap.size 3 1 (.slice (some ⟨V.heap.size, 0, none⟩) n n) n (ics (List.replicate n 0)) := by
        have := World.ownsRow_lit (base := V.heap.size) (e := 3) (size := 1) V (ics (List.replicate n 0)).toArray n (Nat.le_refl _) (by unfold maxLen; omega) (by simp [ics])
        simpa using this
      have OW2 := owns_at OW (ba1 (V.alloc (.cells (ics (List.replicate n 0)).toArray 3)) (.cells #[.slice (some ⟨V.heap.size, 0, none⟩) n n] 23))
      clear OW h1
      have HP : ((V.alloc (.cells (ics (List.replicate n 0)).toArray 3)).alloc (.cells #[.slice (some ⟨V.heap.size, 0, none⟩) n n] 23)).heap[V.heap.size + 1]? = some (.cells [.slice (some ⟨V.heap.size, 0, none⟩) n n].toArray 23 (0, 0)) := by
        have := heap_alloc_new (V.alloc (.cells (ics (List.replicate n 0)).toArray 3)) (.cells #[.slice (some ⟨V.heap.size, 0, none⟩) n n] 23)
        rwa [World.size_alloc] at this
      have HZ : w.heap.size ≤ ((V.alloc (.cells (ics (List.replicate n 0)).toArray 3)).alloc (.cells #[.slice (some ⟨V.heap.size, 0, none⟩) n n] 23)).heap.size := by simp; omega
      have RA2 := (RA.below h2).1
      have HK : k < 1000000 := by omega
      go_wp2_with (at_builtin; refine wpList_app3 _ rfl _ _ _ rfl w.heap.size 23 1 24 (.slice none 0 0) Try.underlying22 img_info rfl (by omega) (by omega) _ k vs rfl RA2 HK HZ (V.heap.size + 1) [.slice (some ⟨V.heap.size, 0, none⟩) n n] (0, 0) rfl HP rfl (by simp [Value.oneCell']) ?_; intro g cap w2 hown hg hbw hkp)
      have RA3 := RA.push zC h2 (by rw [List.length_replicate]; exact OW2) hown hkp
      have hE := (below_to hC h2).trans (hbw.mono (Nat.le_refl _))
      go_roundw
      case rel => exact ⟨k + 1, by omega, by go_num, ⟨_, RA3⟩, hE⟩
      case measure => simp [intOf]; try omega
    · obtain rfl : k = n := by omega
      obtain ⟨g, cap, rest, bb, cp, ex, rfl, hcap, MX⟩ := rows_img RA n1 n1 (fun i _ => List.length_replicate)
      have MZ := MX.congr (M' := fun _ _ => 0) (fun r c _ hc => by simp [List.getD, hc])
      go_wp2
      refine bodyPost_ret (v := .slice (some ⟨g, 0, none⟩) k cap) (by simp [results, Try.results32, go_sem]) rfl ⟨g, cap, _, _, _, _, rfl, hcap, MZ, hC⟩
theorem ics_row (M : Nat → Nat → Int) (n k : Nat) : ics ((List.range n).map (M k)) = mrc M n k := by simp [ics, mrc]
theorem row_len (M : Nat → Nat → Int) (n k : Nat) : ((List.range n).map (M k)).length = n := by simp
set_option maxRecDepth 100000 in
set_option maxHeartbeats 16000000 in
theorem rtwin_any (n : Nat) (M : Nat → Nat → Int) (v : Value) (w : World) (hA : IM w v n M) (n1 : 1 ≤ n) (n8 : n ≤ 8) :
    Calls Try.prog 92 #[v] w (own_post w n M) := by
  have A0 := Lib.hid hA
  obtain ⟨ada, capa, rfl, ha1, _, _⟩ := hA.open
  clear hA
  go_enter Try.func92, Try.ntmps92
  go_wp2
  go_loopw [3, 4] (fun av iv wr => ∃ k : Nat, k ≤ n ∧ iv = .int .i64 k ∧ (∃ vs, RowsB wr w.heap.size 3 23 av k (fun i => (List.range n).map (M i)) vs) ∧ Below w.heap.size w wr) (fun _ iv _ => n - (intOf iv).toNat)
  case atStart => exact ⟨0, Nat.zero_le _, rfl, ⟨[], rowsB_nil _ _ _ _ _⟩, Below.refl _ _⟩
  case round =>
    obtain ⟨k, hk, rfl, ⟨vs, RA⟩, hC⟩ := hrel
    rename World => V
    by_cases hlt : k < n
    · obtain ⟨_, _, e, _, _, HA⟩ := (A0.out.below hC).open
      cases e
      obtain ⟨b1, o1, b2, o2, c2, e, d1, d2, HD⟩ := HA.out k hlt
      cases e
      clear HA
      have zd := World.block_lt_of_cell? _ _ d1
      simp only at zd
      have zC := hC.size
      have HK : k < 1000000 := by omega
      have hE0 := ba1 V (.cells #[] 3)
      have OE : (V.alloc (.cells #[] 3)).ownsRow V.heap.size 3 1 (.slice (some ⟨V.heap.size, 0, none⟩) 0 0) 0 [] := World.ownsRow_lit V #[] 0 (Nat.le_refl _) (by unfold maxLen; omega) rfl
      have ZE : V.heap.size ≤ (V.alloc (.cells #[] 3)).heap.size := by simp
      have SR : Sl (V.alloc (.cells #[] 3)) (.slice (some ⟨b2, o2, none⟩) n c2) n (mrc M n k) := ⟨_, c2, rfl, d2, by omega, fun i x hx => by
        obtain ⟨hi, rfl⟩ := mrc_get M n k i x hx
        exact ⟨b2, o2, rfl, below_cell hE0 (HD.out i hi)⟩⟩
      have NN : 0 + n ≤ 1000000 := by omega
      have LL : (mrc M n k).length = n * 1 := by rw [mrc_len]; omega
      have RW : ∀ (v1 : Value) (W1 : World), W1.ownsRow V.heap.size 3 1 v1 (0 + n) ([] ++ mrc M n k) → Kept (V.alloc (.cells #[] 3)) W1 (.slice (some ⟨V.heap.size, 0, none⟩) 0 0) v1 → ∃ g1 cp1, v1 = .slice (some ⟨g1, 0, none⟩) n cp1 ∧ Below V.heap.size V W1 ∧ W1.ownsRow V.heap.size 3 1 v1 n (mrc M n k) := fun v1 W1 h1 h2 => by
        rw [Nat.zero_add, List.nil_append] at h1
        obtain ⟨g1, cp1, _, e1, _⟩ := owns_openI h1 n1
        exact ⟨g1, cp1, e1, hE0.trans (h2.below ZE (fun b hb => by simp only [Value.ownBlock, Option.some.injEq] at hb; omega)), h1⟩
      replace RW := Lib.hid RW
      clear hE0
      go_wp2_with (at_builtin; first
        | (refine wpList_apps _ rfl _ _ _ rfl V.heap.size 3 1 8 (.int .i64 0) Try.underlying23 Try.infoInt rfl (by omega) (by omega) (.slice (some ⟨V.heap.size, 0, none⟩) 0 0) 0 [] rfl OE ZE _ n (mrc M n k) rfl SR LL (mrc_one M n k) NN ?_; intro v1 W1 hown1 hk1; obtain ⟨g1, cp1, e1, hW1, hown2⟩ := RW.out v1 W1 hown1 hk1; subst e1; have h2 := below_to hW1 (ba1 W1 (.cells #[.slice (some ⟨g1, 0, none⟩) n cp1] 23)); have HZ := Nat.le_trans zC h2.size; have RA2 := (RA.below h2).1)
        | (refine wpList_app3 _ rfl _ _ _ rfl w.heap.size 23 1 24 (.slice none 0 0) Try.underlying22 img_info rfl (by omega) (by omega) _ k vs rfl RA2 HK HZ W1.heap.size [.slice (some ⟨g1, 0, none⟩) n cp1] (0, 0) rfl (heap_alloc_new W1 _) rfl (by simp [Value.oneCell']) ?_; intro g cap w2 hown hg hbw hkp))
      have RA3 := RA.push zC h2 (by rw [row_len, ics_row]; exact owns_at hown2 (ba1 W1 _)) hown hkp
      have hE := (below_to hC h2).trans (hbw.mono (Nat.le_refl _))
      go_roundw
      case rel => exact ⟨k + 1, by omega, by go_num, ⟨_, RA3⟩, hE⟩
      case measure => simp [intOf]; try omega
    · obtain rfl : k = n := by omega
      obtain ⟨g, cap, rest, bb, cp, ex, rfl, hcap, MX⟩ := rows_img RA n1 n1 (fun i _ => row_len M k i)
      have MZ := MX.congr (M' := M) (fun r c _ hc => by simp [List.getD, hc])
      go_wp2
      refine bodyPost_ret (v := .slice (some ⟨g, 0, none⟩) k cap) (by simp [results, Try.results92, go_sem]) rfl ⟨g, cap, _, _, _, _, rfl, hcap, MZ, hC⟩
end Go.Proofs.Ythlcmlngmcoknaa
