/- What is proved here: contracts of functions and plain facts, several texts in one; each one says ahead what it proves, and its conditions. -/
import Derived.Test.YthlcmlngmcoknaaC05
import Derived.Test.YthlcmlngmcoknaaC19
import Derived.Test.YthlcmlngmcoknaaC17
import Derived.Test.YthlcmlngmcoknaaC09
import Derived.Test.YthlcmlngmcoknaaC03
/- What is proved here: the contract of the reference's Turned of layer 29. Condition: a valid system that can be read. -/
namespace Go.Proofs.Ythlcmlngmcoknaa
open Go.RowKit

theorem orow_info : (Try.prog.info? 23).map (fun i => (i.zero, i.size, i.bytes)) = some (some (.slice none 0 0), 1, 24) := by kernel_rfl
/-- Rows that lie apart from another one. -/
theorem RowsB.keep {W w2 : World} {B g : Nat} {Ti Tr : TypeId} {ov bv : Value} {k : Nat} {R : Nat → List Int} {vs : List Value} (h : RowsB W B Ti Tr ov k R vs) (hk : Keep B W w2 bv g) (ha : Apart ov bv) (hu : ∀ u ∈ vs, Apart u bv) :
    RowsB w2 B Ti Tr ov k R vs ∧ ∀ k' cap, Apart ov (.slice (some ⟨g, 0, none⟩) k' cap) ∧ ∀ u ∈ vs, Apart u (.slice (some ⟨g, 0, none⟩) k' cap) := by
  have hl : vs.length = k := by have := h.1.1; omega
  refine ⟨⟨hk.row h.1 ha, fun i hi => ?_⟩, fun k' cap => ⟨hk.apart h.1 ha _ _, fun u hu2 => ?_⟩⟩
  · obtain ⟨u, e1, e2, e3⟩ := h.2 i hi
    exact ⟨u, e1, hk.row e2 (hu u (List.mem_of_getElem? e1)), e3⟩
  · obtain ⟨i, hi, e⟩ := List.getElem_of_mem hu2
    obtain ⟨u', e1, e2, _⟩ := h.2 i (by omega)
    have : u' = u := by rw [List.getElem?_eq_getElem hi, e] at e1; exact (Option.some.inj e1).symm
    subst this
    exact hk.apart e2 (hu u' hu2) _ _
theorem rows_last {w : World} {B n : Nat} {T : TypeId} {av vB : Value} {vs : List Value} {R : Nat → List Int} {xs : List Int} (hown : w.ownsRow B T 1 av (n + 1) (vs ++ [vB])) (hl : vs.length = n) (hr : ∀ i, i < n → ∃ u, vs[i]? = some u ∧ SI w u (R i)) (hB : SI w vB xs) (hn : n ≤ 1000) :
    SS w av ((List.range n).map R ++ [xs]) := by
  have hL : ((List.range n).map R ++ [xs]).length = n + 1 := by simp
  refine ⟨vs ++ [vB], by rw [hL]; simp [hl], by rw [hL]; exact owns_sl hown (by omega), fun i hi hi' => ?_⟩
  rw [hL] at hi
  rcases Nat.lt_or_ge i n with h1 | h1
  · obtain ⟨u, e1, e2⟩ := hr i h1
    have a1 : (vs ++ [vB])[i]'hi' = u := by
      rw [List.getElem_append_left (by omega)]
      rw [List.getElem?_eq_getElem (by omega)] at e1
      exact Option.some.inj e1
    have a2 : ((List.range n).map R ++ [xs])[i]'(by rw [hL]; exact hi) = R i := by rw [List.getElem_append_left (by simp; omega)]; simp
    rw [a1, a2]; exact e2
  · obtain rfl : i = n := by omega
    have a1 : (vs ++ [vB])[i]'hi' = vB := by rw [List.getElem_append_right (by omega)]; simp [hl]
    have a2 : ((List.range i).map R ++ [xs])[i]'(by rw [hL]; exact hi) = xs := by rw [List.getElem_append_right (by simp)]; simp
    rw [a1, a2]; exact hB
theorem oslice {w : World} {B size n : Nat} {T : TypeId} {v : Value} {cs : List Value} (h : w.ownsRow B T size v n cs) : ∃ ad cap, v = .slice ad n cap := by
  obtain ⟨_, h3⟩ := h
  rcases h3 with ⟨h4, h5⟩ | ⟨g', cap'', cur, h4, _⟩
  · exact ⟨none, 0, by rw [h4, h5]⟩
  · exact ⟨_, _, h4⟩
def turn_post (w : World) (A : List (List Int)) (B : List Int) (e : Ending) (w' : World) : Prop := ∃ u1 u2, e = .returned (.tuple #[u1, u2]) ∧ SS w' u1 (oturnA A B) ∧ SI w' u2 (oturnB A) ∧ Below w.heap.size w w'
set_option maxRecDepth 100000 in
set_option maxHeartbeats 16000000 in
theorem roturn_any (A : List (List Int)) (B : List Int) (va vb : Value) (w : World) (hA : SS w va A) (hB : SI w vb B) (h0 : ocheck A B = 0) :
    Calls Try.prog 71 #[.agg #[va, vb]] w (turn_post w A B) := by
  have SY := Lib.hid (sys_of h0)
  have r1 := SY.out.rows.1
  have r6 := SY.out.rows.2
  have n1 := SY.out.cols.1
  have n6 := SY.out.cols.2
  have W0 := Lib.hid (SY.out.wide 0 r1)
  have BL := Lib.hid SY.out.right
  clear h0
  obtain ⟨ada, capa, rfl, ha1, ha2, _⟩ := hA.open
  obtain ⟨adb, capb, rfl, hb1, hb2, _⟩ := hB.open
  have rows1 : (0 : Int) < A.length := by omega
  have OTA : Hid (oturnA A B = (List.range (A.getD 0 []).length).map (ocol A) ++ [B]) := rfl
  have OTB : Hid (oturnB A = List.replicate (A.getD 0 []).length 0 ++ [1]) := rfl
  generalize hn : (A.getD 0 []).length = n at *
  have HN := Lib.hid hn
  clear hn
  go_enter Try.func71, Try.ntmps71
  have OS := Lib.hid (Own.new w 25 [.slice ada A.length capa, .slice adb B.length capb])
  have hy := ba1 w (.cells #[.slice ada A.length capa, .slice adb B.length capb] 25)
  have SA := Lib.hid (hA.below hy)
  have SB2 := Lib.hid (hB.below hy)
  clear hA hB
  go_upto_region 4 with fail
  obtain ⟨bS, hS⟩ : ∃ b, b = w.heap.size := ⟨_, rfl⟩
  rw [← hS] at OS ⊢
  have hS' := Lib.hid hS
  clear hS
  generalize w.alloc (.cells #[.slice ada A.length capa, .slice adb B.length capb] 25) = y0 at *
  go_wp2
  go_loopw [4, 5, 6] (fun av bv i wr => ∃ k : Nat, k ≤ n ∧ i = .int .i64 k ∧ (∃ vs, RowsB wr y0.heap.size 3 23 av k (ocol A) vs ∧ wr.ownsRow y0.heap.size 3 1 bv k (ics (List.replicate k 0)) ∧ Apart av bv ∧ ∀ u ∈ vs, Apart u bv) ∧ Below y0.heap.size y0 wr) (fun _ _ i _ => n + 1 - (intOf i).toNat)
  case atStart => exact ⟨0, Nat.zero_le _, rfl, ⟨[], rowsB_nil _ _ _ _ _, World.ownsRow_nil _ _ _ _, apart_nil _, fun u hu => by simp at hu⟩, Below.refl _ _⟩
  case round =>
    obtain ⟨k, hk, rfl, ⟨vs, RA, RB, AB, AU⟩, hC⟩ := hrel
    rename World => W
    obtain ⟨ad4, cap4, e4⟩ := oslice RA.1
    subst e4
    obtain ⟨ad5, cap5, e5⟩ := oslice RB
    subst e5
    have oS := OS.out.below hC
    obtain ⟨_, _, e, _, _, H⟩ := (SA.out.below hC).open
    cases e
    obtain ⟨b, off, ad0, cap0, rfl, d1, d2, d3, _⟩ := H.out 0 r1
    rw [W0.out] at d1 d2 d3
    rw [Nat.add_zero] at d1
    clear H
    by_cases hlt : k < n
    · obtain ⟨rS, fS⟩ := oS.rules
      have zS := oS.lt
      go_wp2
      clear rS fS zS oS d1
      go_loopw [7, 8] (fun cv i wr => ∃ m : Nat, m ≤ A.length ∧ i = .int .i64 m ∧ wr.ownsRow W.heap.size 3 1 cv m (ics ((ocol A k).take m)) ∧ Below W.heap.size W wr) (fun _ i _ => A.length + 1 - (intOf i).toNat)
      case atStart => exact ⟨0, Nat.zero_le _, rfl, World.ownsRow_nil _ _ _ _, Below.refl _ _⟩
      case round =>
        obtain ⟨m, hm, rfl, og, hD⟩ := hrel
        rename World => Y
        have oS := OS.out.below (below_to hC hD)
        by_cases hml : m < A.length
        · obtain ⟨_, _, e, _, _, H⟩ := (SA.out.below (below_to hC hD)).open
          cases e
          obtain ⟨b', off', ad', cap', e, c1, c2, c3, s1⟩ := H.out m hml
          cases e
          have WK : A[m].length = n := SY.out.wide m hml
          have hkm : k < A[m].length := by omega
          have OT := Lib.hid (ocol_take hml hkm)
          obtain ⟨_, _, e, _, _, HR⟩ := s1.open
          cases e
          obtain ⟨b3, off3, rfl, c4⟩ := HR.out k hkm
          clear H HR s1
          generalize A[m][k] = z at *
          rw [WK] at c1 c2 c3
          clear WK hkm
          have zD := hD.size
          have zb := World.block_lt_of_cell? _ _ c1
          have zb2 := World.block_lt_of_cell? _ _ c4
          simp only at zb zb2
          obtain ⟨rS, fS⟩ := oS.rules
          have zS := oS.lt
          go_wp2_with (at_builtin; refine wpList_app _ rfl _ _ _ rfl W.heap.size 3 1 8 (.int .i64 0) Try.underlying23 oint_info rfl (by omega) (by omega) _ _ _ rfl (og.alloc _) (by omega) (by simp; omega) Y.heap.size [.int .i64 z] (0, 0) rfl (heap_alloc_new Y _) rfl (by simp [Value.oneCell']) ?_; intro g cap2 w2 hown hg hbw)
          go_roundw
          case rel =>
            refine ⟨m + 1, by omega, by go_num, ?_, ?_⟩
            · rw [OT.out, ics_app]; exact hown
            · exact (below_to hD (ba1 Y _)).trans (hbw.mono (Nat.le_refl _))
          case measure => simp [intOf]; try omega
        · obtain rfl : m = A.length := by omega
          have e0 : (ocol A k).take A.length = ocol A k := List.take_of_length_le (by rw [ocol_len]; exact Nat.le_refl _)
          rw [e0] at og
          obtain ⟨adr, capr, e7⟩ := oslice og
          subst e7
          have OG := Lib.hid og
          clear e0 hm og
          obtain ⟨rS, fS⟩ := oS.rules
          have zS := oS.lt
          have RA' := RA.below (below_to hD (ba1 Y (.cells #[.slice adr A.length capr] 23)))
          have hWY := hC.size
          have hYY := hD.size
          have OG' : (Y.alloc (.cells #[.slice adr A.length capr] 23)).ownsRow W.heap.size 3 1 (.slice adr A.length capr) (ocol A k).length (ics (ocol A k)) := by rw [ocol_len]; exact owns_at OG.out (ba1 Y _)
          go_upto_region 12 with (at_builtin; refine wpList_app3 _ rfl _ _ _ rfl y0.heap.size 23 1 24 (.slice none 0 0) Try.underlying22 orow_info rfl (by omega) (by omega) _ k vs rfl RA'.1 (by omega) (by simp; omega) Y.heap.size [.slice adr A.length capr] (0, 0) rfl (heap_alloc_new Y _) rfl (by simp [Value.oneCell']) ?_; intro g cap2 w2 hown hg hbw hkp)
          have RA2 := RA.push hWY (below_to hD (ba1 Y _)) OG' hown hkp
          have RBY := owns_at RB (below_to hD (ba1 Y (.cells #[.slice adr A.length capr] 23)))
          have RB2 := hkp.row RBY AB.symm
          have AB2 := (hkp.apart RBY AB.symm (k + 1) cap2).symm
          have AU2 : ∀ u ∈ vs ++ [.slice adr A.length capr], Apart u (.slice ad5 k cap5) := fun u hu => by
            rcases List.mem_append.1 hu with h | h
            · exact AU u h
            · rw [List.mem_singleton.1 h]; exact (apart_new RB OG.out).symm
          have hE := (below_to (below_to hC hD) (ba1 Y (.cells #[.slice adr A.length capr] 23))).trans (hbw.mono (Nat.le_refl _))
          clear RA RB AB AU RA' RBY hkp hown hbw OG OG' hD hWY hYY rS fS zS oS hC
          have zE := hE.size
          go_wp2_with (at_builtin; refine wpList_app3 _ rfl _ _ _ rfl y0.heap.size 3 1 8 (.int .i64 0) Try.underlying23 oint_info rfl (by omega) (by omega) _ k _ rfl (owns_at RB2 (ba1 w2 _)) (by omega) (by simp; omega) w2.heap.size [.int .i64 0] (0, 0) rfl (heap_alloc_new w2 _) rfl (by simp [Value.oneCell']) ?_; intro g3 cap3 w3 hown3 hg3 hbw3 hk3)
          have RA3 := (RA2.below (ba1 w2 (.cells #[.int .i64 0] 3))).keep hk3 AB2 AU2
          have hF := (below_to hE (ba1 w2 (.cells #[.int .i64 0] 3))).trans (hbw3.mono (Nat.le_refl _))
          clear RA2 RB2 AB2 AU2 hk3 hbw3 hE
          go_wp2
          go_roundw
          case rel =>
            refine ⟨k + 1, by omega, by go_num, ⟨vs ++ [.slice adr A.length capr], RA3.1, ?_, (RA3.2 _ _).1, (RA3.2 _ _).2⟩, hF⟩
            rw [List.replicate_succ', ics_app]; exact hown3
          case measure => simp [intOf]; try omega
    · obtain rfl : k = n := by omega
      have hWY := hC.size
      have RA' := RA.below (ba1 W (.cells #[.slice adb B.length capb] 23))
      have hln : vs.length = k := by have := RA.1.1; omega
      obtain ⟨rS, fS⟩ := oS.rules
      have zS := oS.lt
      go_wp2_with (at_builtin; first | (refine wpList_app3 _ rfl _ _ _ rfl y0.heap.size 23 1 24 (.slice none 0 0) Try.underlying22 orow_info rfl (by omega) (by omega) _ k vs rfl RA'.1 (by omega) (by simp; omega) W.heap.size [.slice adb B.length capb] (0, 0) rfl (heap_alloc_new W _) rfl (by simp [Value.oneCell']) ?_; intro g cap2 w2 hown hg hbw hkp) | (refine wpList_app3 _ rfl _ _ _ rfl y0.heap.size 3 1 8 (.int .i64 0) Try.underlying23 oint_info rfl (by omega) (by omega) _ k _ rfl (owns_at (hkp.row (owns_at RB (ba1 W (.cells #[.slice adb B.length capb] 23))) AB.symm) (ba1 w2 _)) (by omega) (by have := hbw.size; simp at this ⊢; omega) w2.heap.size [.int .i64 1] (0, 0) rfl (heap_alloc_new w2 _) rfl (by simp [Value.oneCell']) ?_; intro g3 cap3 w3 hown3 hg3 hbw3 hk3))
      have RBY := owns_at RB (ba1 W (.cells #[.slice adb B.length capb] 23))
      have RB2 := hkp.row RBY AB.symm
      have AB2 := (hkp.apart RBY AB.symm (k + 1) cap2).symm
      have RR : ∀ i, i < k → ∃ u, vs[i]? = some u ∧ w2.ownsRow y0.heap.size 3 1 u (ocol A i).length (ics (ocol A i)) ∧ Apart u (.slice ad5 k cap5) := fun i hi => by
        obtain ⟨u, e1, e2, e3, _⟩ := RA'.2 i hi
        exact ⟨u, e1, hkp.row e2 e3, AU u (List.mem_of_getElem? e1)⟩
      have hE := (below_to hC (ba1 W (.cells #[.slice adb B.length capb] 23))).trans (hbw.mono (Nat.le_refl _))
      have hF := (below_to hE (ba1 w2 (.cells #[.int .i64 1] 3))).trans (hbw3.mono (Nat.le_refl _))
      have A3 := hk3.row (owns_at hown (ba1 w2 (.cells #[.int .i64 1] 3))) AB2
      have R3 : ∀ i, i < k → ∃ u, vs[i]? = some u ∧ SI w3 u (ocol A i) := fun i hi => by
        obtain ⟨u, e1, e2, e3⟩ := RR i hi
        have := hk3.row (owns_at e2 (ba1 w2 (.cells #[.int .i64 1] 3))) e3
        exact ⟨u, e1, owns_SI' this (by rw [ocol_len]; omega)⟩
      have SSA := Lib.hid (rows_last A3 hln R3 (SB2.out.below hF) (by omega))
      have SIB : Hid (SI w3 (.slice (some ⟨g3, 0, none⟩) (k + 1) cap3) (List.replicate k 0 ++ [1])) := by
        refine owns_SI (B := y0.heap.size) (T := 3) (n := k + 1) (xs := List.replicate k 0 ++ [1]) ?_ (by simp) (by omega)
        rw [ics_app]; exact hown3
      clear RB2 AB2 RR hk3 hbw3 hE A3 R3 hown hown3 RA RB AB AU RA' RBY hkp hbw hWY rS fS zS oS hC
      go_wp2
      go_ret2
      exact ⟨_, _, rfl, by rw [OTA.out]; exact SSA.out, by rw [OTB.out]; exact SIB.out, below_to hy hF⟩
end Go.Proofs.Ythlcmlngmcoknaa

/- What is proved here: the contracts of solve.direct and solve.turned: rows of whole numbers, each in a block of its own. Condition: a valid system that can be read. -/
namespace Go.Proofs.Ythlcmlngmcoknaa
open Go.RowKit

theorem o64_info : (Try.prog.info? 2).map (fun i => (i.zero, i.size, i.bytes)) = some (some (.int .i64 0), 1, 8) := by kernel_rfl
theorem orow64_info : (Try.prog.info? 157).map (fun i => (i.zero, i.size, i.bytes)) = some (some (.slice none 0 0), 1, 24) := by kernel_rfl
theorem RowsB.mono {w : World} {B B' : Nat} {Ti Tr : TypeId} {ov : Value} {k : Nat} {R : Nat → List Int} {vs : List Value} (h : RowsB w B Ti Tr ov k R vs) (hb : B' ≤ B) : RowsB w B' Ti Tr ov k R vs :=
  ⟨owns_mono h.1 hb, fun i hi => by obtain ⟨u, h1, h2, h3⟩ := h.2 i hi; exact ⟨u, h1, owns_mono h2 hb, h3⟩⟩
/-- Rows in memory as a matrix. -/
theorem owns_openR {w : World} {B n : Nat} {T : TypeId} {v : Value} {cs : List Value} (h : w.ownsRow B T 1 v n cs) (hn : 1 ≤ n) : ∃ g cap rest, v = .slice (some ⟨g, 0, none⟩) n cap ∧ n ≤ cap ∧ B ≤ g ∧ Own w g T (cs ++ rest) := by
  obtain ⟨h1, h2⟩ := h
  rcases h2 with ⟨_, h3⟩ | ⟨g, cap, cur, e, hb, hh, hc, _, hs, ht⟩
  · omega
  · refine ⟨g, cap, cur.toList.drop n, e, hc, hb, ?_⟩
    unfold Own
    rw [hh]
    rw [Nat.mul_one] at ht
    rw [← ht, List.take_append_drop]
theorem rows_mat {w : World} {B : Nat} {Ti Tr : TypeId} {ov : Value} {n mw : Nat} {R : Nat → List Int} {vs : List Value} (h : RowsB w B Ti Tr ov n R vs) (hn : 1 ≤ n) (hm : 1 ≤ mw) (hR : ∀ i, i < n → (R i).length = mw) :
    ∃ g cap rest bb cp ex, ov = .slice (some ⟨g, 0, none⟩) n cap ∧ n ≤ cap ∧ MatO w B w.heap.size g Tr Ti rest bb cp ex n mw (fun i j => (R i).getD j 0) := by
  obtain ⟨g, cap, rest, e, hc, hb, ho⟩ := owns_openR h.1 hn
  have hl : vs.length = n := by have := h.1.1; omega
  have key : ∀ i : Nat, ∃ z : Nat × Nat × List Value, i < n → vs[i]? = some (.slice (some ⟨z.1, 0, none⟩) mw z.2.1) ∧ B ≤ z.1 ∧ z.1 ≠ g ∧ mw ≤ z.2.1 ∧ Own w z.1 Ti (ics (R i) ++ z.2.2) ∧ ∀ j, j < i → ∀ u', vs[j]? = some u' → u'.ownBlock ≠ some z.1 := fun i => by
    by_cases hi : i < n
    · obtain ⟨u, e1, e2, e3, e4⟩ := h.2 i hi
      rw [hR i hi] at e2
      obtain ⟨b, c, r, eu, h1, h2, h3⟩ := owns_openR e2 hm
      refine ⟨(b, c, r), fun _ => ⟨by rw [e1, eu], h2, fun hbg => ?_, h1, h3, fun j hj u' hu' hc' => ?_⟩⟩
      · exact e3 b (by rw [eu]; rfl) (by rw [e, ← hbg]; rfl)
      · exact e4 j hj u' hu' b hc' (by rw [eu]; rfl)
    · exact ⟨(0, 0, []), fun h => absurd h hi⟩
  obtain ⟨Z, hZ⟩ := Classical.axiomOfChoice key
  refine ⟨g, cap, rest, fun i => (Z i).1, fun i => (Z i).2.1, fun i => (Z i).2.2, e, hc, ?_⟩
  have hvs : vs = mout (fun i => (Z i).1) (fun i => (Z i).2.1) n mw := by
    refine List.ext_getElem? fun i => ?_
    rcases Nat.lt_or_ge i n with hi | hi
    · rw [(hZ i hi).1]; simp [mout, hi]
    · rw [List.getElem?_eq_none (by omega), List.getElem?_eq_none (by rw [mout_len]; omega)]
  refine ⟨by rw [← hvs]; exact ho, ⟨hb, ho.lt⟩, fun i hi => ?_, fun i hi => ?_, fun i j hi hj eb => ?_⟩
  · have := (hZ i hi).2.2.2.2.1
    have er : mrc (fun i j => (R i).getD j 0) mw i = ics (R i) := by
      refine List.ext_getElem? fun j => ?_
      have hRi := hR i hi
      rcases Nat.lt_or_ge j mw with hj | hj
      · have hj' : j < (R i).length := by omega
        simp [mrc, ics, hj, hj']
      · rw [List.getElem?_eq_none (by rw [mrc_len]; omega), List.getElem?_eq_none (by rw [ics_len]; omega)]
    rw [er]; exact this
  · have := hZ i hi
    exact ⟨this.2.1, this.2.2.1, this.2.2.2.1, this.2.2.2.2.1.lt⟩
  · apply Classical.byContradiction
    intro hne
    rcases Nat.lt_or_ge i j with h1 | h1
    · exact (hZ j hj).2.2.2.2.2 i h1 _ (hZ i hi).1 (by simp only [Value.ownBlock]; rw [eb])
    · exact (hZ i hi).2.2.2.2.2 j (by omega) _ (hZ j hj).1 (by simp only [Value.ownBlock]; rw [eb])
def dR (A : List (List Int)) (B : List Int) (i : Nat) : List Int := A.getD i [] ++ [B.getD i 0]
def tR (A : List (List Int)) (B : List Int) (i : Nat) : List Int := if i < (A.getD 0 []).length then ocol A i ++ [0] else B ++ [1]
def dir_post (w : World) (n : Nat) (R : Nat → List Int) (e : Ending) (w' : World) : Prop := ∃ u vs, e = .returned u ∧ RowsB w' w.heap.size 2 157 u n R vs ∧ Below w.heap.size w w'
set_option maxRecDepth 100000 in
set_option maxHeartbeats 16000000 in
theorem direct_any (A : List (List Int)) (B : List Int) (va vb : Value) (w : World) (hA : SS w va A) (hB : SI w vb B) (h0 : ocheck A B = 0) :
    Calls Try.prog 62 #[.agg #[va, vb]] w (dir_post w A.length (dR A B)) := by
  have SY := Lib.hid (sys_of h0)
  have r6 := SY.out.rows.2
  have n6 := SY.out.cols.2
  have BL := Lib.hid SY.out.right
  clear h0
  obtain ⟨ada, capa, rfl, ha1, ha2, _⟩ := hA.open
  obtain ⟨adb, capb, rfl, hb1, hb2, _⟩ := hB.open
  generalize hn : (A.getD 0 []).length = n at *
  clear hn
  go_enter Try.func62, Try.ntmps62
  have OS := Lib.hid (Own.new w 25 [.slice ada A.length capa, .slice adb B.length capb])
  have hy := ba1 w (.cells #[.slice ada A.length capa, .slice adb B.length capb] 25)
  have SA := Lib.hid (hA.below hy)
  have SB2 := Lib.hid (hB.below hy)
  clear hA hB
  go_upto_region 2 with fail
  obtain ⟨bS, hS⟩ : ∃ b, b = w.heap.size := ⟨_, rfl⟩
  rw [← hS] at OS ⊢
  have hS' := Lib.hid hS
  have hy0 := hy.size
  clear hS
  generalize w.alloc (.cells #[.slice ada A.length capa, .slice adb B.length capb] 25) = y0 at *
  have oS := OS.out
  obtain ⟨rS, fS⟩ := oS.rules
  have zS := oS.lt
  go_wp2
  clear rS fS zS oS
  go_loopw [3, 12] (fun av i wr => ∃ k : Nat, k ≤ A.length ∧ i = .int .i64 k ∧ (∃ vs, RowsB wr y0.heap.size 2 157 av k (dR A B) vs) ∧ Below y0.heap.size y0 wr) (fun _ i _ => A.length + 1 - (intOf i).toNat)
  case atStart => exact ⟨0, Nat.zero_le _, rfl, ⟨[], rowsB_nil _ _ _ _ _⟩, Below.refl _ _⟩
  case round =>
    obtain ⟨k, hk, rfl, ⟨vs, RA⟩, hC⟩ := hrel
    rename World => W
    obtain ⟨ad4, cap4, e4⟩ := oslice RA.1
    subst e4
    by_cases hlt : k < A.length
    · obtain ⟨_, _, e, _, _, H⟩ := (SA.out.below hC).open
      cases e
      obtain ⟨b, off, ad', cap', e, c1, c2, c3, s1⟩ := H.out k hlt
      subst e
      have WK := Lib.hid (SY.out.wide k hlt)
      have RK : Hid (dR A B k = A[k] ++ [B.getD k 0]) := by show _ = _; unfold dR; rw [getD_get hlt]
      have hkB : k < B.length := by rw [BL.out]; exact hlt
      have BK := Lib.hid (getD_get (d := (0 : Int)) hkB)
      have S1 := Lib.hid s1
      clear s1 H
      generalize A[k] = row at *
      have RL : row.length ≤ 6 := by rw [WK.out]; exact n6
      go_wp2
      clear c1
      go_loopw [6, 19] (fun cv i wr => ∃ q : Nat, q ≤ row.length ∧ i = .int .i64 q ∧ wr.ownsRow W.heap.size 2 1 cv q (ics (row.take q)) ∧ Below W.heap.size W wr) (fun _ i _ => row.length + 1 - (intOf i).toNat)
      case atStart => exact ⟨0, Nat.zero_le _, rfl, World.ownsRow_nil _ _ _ _, Below.refl _ _⟩
      case round =>
        obtain ⟨q, hq, rfl, og, hD⟩ := hrel
        rename World => Y
        by_cases hql : q < row.length
        · obtain ⟨_, _, e, _, _, HR⟩ := (S1.out.below hD).open
          cases e
          obtain ⟨b3, off3, e, c4⟩ := HR.out q hql
          subst e
          clear HR
          have OT : Hid (row.take (q + 1) = row.take q ++ [row[q]]) := List.take_succ_eq_append_getElem hql
          generalize row[q] = z at *
          have zD := hD.size
          go_wp2_with (at_builtin; refine wpList_app _ rfl _ _ _ rfl W.heap.size 2 1 8 (.int .i64 0) Try.underlying157 o64_info rfl (by omega) (by omega) _ _ _ rfl (og.alloc _) (by omega) (by simp; omega) Y.heap.size [.int .i64 z] (0, 0) rfl (heap_alloc_new Y _) rfl (by simp [Value.oneCell']) ?_; intro g cap2 w2 hown hg hbw)
          go_roundw
          case rel =>
            refine ⟨q + 1, by omega, by go_num, ?_, ?_⟩
            · rw [OT.out, ics_app]; exact hown
            · exact (below_to hD (ba1 Y _)).trans (hbw.mono (Nat.le_refl _))
          case measure => simp [intOf]; try omega
        · obtain rfl : q = row.length := by omega
          rw [List.take_of_length_le (Nat.le_refl _)] at og
          obtain ⟨adr, capr, e7⟩ := oslice og
          subst e7
          have oS := OS.out.below (below_to hC hD)
          obtain ⟨_, _, e, _, _, HB⟩ := (SB2.out.below (below_to hC hD)).open
          cases e
          obtain ⟨b2, off2, e, c5⟩ := HB.out k hkB
          subst e
          rw [← BK.out] at c5
          clear HB
          have RK2 := RK.out
          generalize B.getD k 0 = bk at *
          have zC := hC.size
          have zD := hD.size
          obtain ⟨rS, fS⟩ := oS.rules
          have zS := oS.lt
          go_wp2_with (at_builtin; first
            | (refine wpList_app _ rfl _ _ _ rfl W.heap.size 2 1 8 (.int .i64 0) Try.underlying157 o64_info rfl (by omega) (by omega) (.slice adr row.length capr) _ _ rfl (og.alloc _) (by omega) (by simp; omega) Y.heap.size [.int .i64 bk] (0, 0) rfl (heap_alloc_new Y _) rfl (by simp [Value.oneCell']) ?_; intro g cap2 w2 hown hg hbw; have hW2 := (below_to hD (ba1 Y (.cells #[.int .i64 bk] 2))).trans (hbw.mono (Nat.le_refl _)); have hW3 := below_to hW2 (ba1 w2 (.cells #[.slice (some ⟨g, 0, none⟩) (row.length + 1) cap2] 157)); have zW3 := hW3.size)
            | (refine wpList_app3 _ rfl _ _ _ rfl y0.heap.size 157 1 24 (.slice none 0 0) Try.underlying91 orow64_info rfl (by omega) (by omega) _ k vs rfl (RA.below hW3).1 (by omega) (by omega) w2.heap.size [.slice (some ⟨g, 0, none⟩) (row.length + 1) cap2] (0, 0) rfl (heap_alloc_new w2 _) rfl (by simp [Value.oneCell']) ?_; intro g3 cap3 w3 hown3 hg3 hbw3 hk3))
          have OG' : (w2.alloc (.cells #[.slice (some ⟨g, 0, none⟩) (row.length + 1) cap2] 157)).ownsRow W.heap.size 2 1 (.slice (some ⟨g, 0, none⟩) (row.length + 1) cap2) (dR A B k).length (ics (dR A B k)) := by
            rw [RK2, List.length_append, ics_app]; exact owns_at hown (ba1 w2 _)
          have RA3 := RA.push zC hW3 OG' hown3 hk3
          have hE := (below_to hC hW3).trans (hbw3.mono (Nat.le_refl _))
          clear RA hown hown3 hk3 hbw3 OG' hW3 hW2 hbw hD hC og rS fS zS oS
          go_roundw
          case rel => exact ⟨k + 1, by omega, by go_num, ⟨_, RA3⟩, hE⟩
          case measure => simp [intOf]; try omega
    · obtain rfl : k = A.length := by omega
      go_wp2
      go_ret
      exact ⟨_, _, rfl, RA.mono hy0, below_to hy hC⟩
end Go.Proofs.Ythlcmlngmcoknaa

/- What is proved here: the contract of solve.turned: rows of whole numbers, each in a block of its own. Condition: a valid system that can be read. -/
namespace Go.Proofs.Ythlcmlngmcoknaa
open Go.RowKit

set_option maxRecDepth 100000 in
set_option maxHeartbeats 16000000 in
theorem turned_any (A : List (List Int)) (B : List Int) (va vb : Value) (w : World) (hA : SS w va A) (hB : SI w vb B) (h0 : ocheck A B = 0) :
    Calls Try.prog 70 #[.agg #[va, vb]] w (dir_post w ((A.getD 0 []).length + 1) (tR A B)) := by
  have SY := Lib.hid (sys_of h0)
  have r1 := SY.out.rows.1
  have n1 := SY.out.cols.1
  have W0 := Lib.hid (SY.out.wide 0 r1)
  have TLO : Hid (∀ k, k < (A.getD 0 []).length → tR A B k = ocol A k ++ [0]) := fun k hk => if_pos hk
  have THI : Hid (tR A B (A.getD 0 []).length = B ++ [1]) := if_neg (by omega)
  have r6 := SY.out.rows.2
  have n6 := SY.out.cols.2
  have BL := Lib.hid SY.out.right
  clear h0
  obtain ⟨ada, capa, rfl, ha1, ha2, _⟩ := hA.open
  obtain ⟨adb, capb, rfl, hb1, hb2, _⟩ := hB.open
  generalize hn : (A.getD 0 []).length = n at *
  have HN := Lib.hid hn
  clear hn
  have rows1 : (0 : Int) < A.length := by omega
  go_enter Try.func70, Try.ntmps70
  have OS := Lib.hid (Own.new w 25 [.slice ada A.length capa, .slice adb B.length capb])
  have hy := ba1 w (.cells #[.slice ada A.length capa, .slice adb B.length capb] 25)
  have SA := Lib.hid (hA.below hy)
  have SB2 := Lib.hid (hB.below hy)
  clear hA hB
  go_upto_region 2 with fail
  obtain ⟨bS, hS⟩ : ∃ b, b = w.heap.size := ⟨_, rfl⟩
  rw [← hS] at OS ⊢
  have hS' := Lib.hid hS
  have hy0 := hy.size
  clear hS
  generalize w.alloc (.cells #[.slice ada A.length capa, .slice adb B.length capb] 25) = y0 at *
  have oS := OS.out
  obtain ⟨_, _, e, _, _, H⟩ := SA.out.open
  cases e
  obtain ⟨b, off, ad0, cap0, e, d1, d2, d3, _⟩ := H.out 0 r1
  subst e
  rw [W0.out] at d1 d2 d3
  rw [Nat.add_zero] at d1
  clear H
  obtain ⟨rS, fS⟩ := oS.rules
  have zS := oS.lt
  go_wp2
  clear rS fS zS oS d1
  go_loopw [3, 15] (fun av i wr => ∃ k : Nat, k ≤ n ∧ i = .int .i64 k ∧ (∃ vs, RowsB wr y0.heap.size 2 157 av k (tR A B) vs) ∧ Below y0.heap.size y0 wr) (fun _ i _ => n + 1 - (intOf i).toNat)
  case atStart => exact ⟨0, Nat.zero_le _, rfl, ⟨[], rowsB_nil _ _ _ _ _⟩, Below.refl _ _⟩
  case round =>
    obtain ⟨k, hk, rfl, ⟨vs, RA⟩, hC⟩ := hrel
    rename World => W
    obtain ⟨ad4, cap4, e4⟩ := oslice RA.1
    subst e4
    by_cases hlt : k < n
    · have RK : Hid (tR A B k = ocol A k ++ [0]) := TLO.out k hlt
      have oS := OS.out.below hC
      obtain ⟨rS, fS⟩ := oS.rules
      have zS := oS.lt
      go_wp2
      clear rS fS zS oS
      go_loopw [5, 21] (fun cv i wr => ∃ m : Nat, m ≤ A.length ∧ i = .int .i64 m ∧ wr.ownsRow W.heap.size 2 1 cv m (ics ((ocol A k).take m)) ∧ Below W.heap.size W wr) (fun _ i _ => A.length + 1 - (intOf i).toNat)
      case atStart => exact ⟨0, Nat.zero_le _, rfl, World.ownsRow_nil _ _ _ _, Below.refl _ _⟩
      case round =>
        obtain ⟨m, hm, rfl, og, hD⟩ := hrel
        rename World => Y
        by_cases hml : m < A.length
        · have oS := OS.out.below (below_to hC hD)
          obtain ⟨_, _, e, _, _, H⟩ := (SA.out.below (below_to hC hD)).open
          cases e
          obtain ⟨b', off', ad', cap', e, c1, c2, c3, s1⟩ := H.out m hml
          cases e
          have WK : A[m].length = n := SY.out.wide m hml
          have hkm : k < A[m].length := by omega
          have OT := Lib.hid (ocol_take hml hkm)
          obtain ⟨_, _, e, _, _, HR⟩ := s1.open
          cases e
          obtain ⟨b3, off3, e, c4⟩ := HR.out k hkm
          subst e
          clear H HR s1
          generalize A[m][k] = z at *
          rw [WK] at c1 c2 c3
          clear WK hkm
          have zD := hD.size
          have zb := World.block_lt_of_cell? _ _ c1
          have zb2 := World.block_lt_of_cell? _ _ c4
          simp only at zb zb2
          obtain ⟨rS, fS⟩ := oS.rules
          have zS := oS.lt
          go_wp2_with (at_builtin; refine wpList_app _ rfl _ _ _ rfl W.heap.size 2 1 8 (.int .i64 0) Try.underlying157 o64_info rfl (by omega) (by omega) _ _ _ rfl (og.alloc _) (by omega) (by simp; omega) Y.heap.size [.int .i64 z] (0, 0) rfl (heap_alloc_new Y _) rfl (by simp [Value.oneCell']) ?_; intro g cap2 w2 hown hg hbw)
          go_roundw
          case rel =>
            refine ⟨m + 1, by omega, by go_num, ?_, ?_⟩
            · rw [OT.out, ics_app]; exact hown
            · exact (below_to hD (ba1 Y _)).trans (hbw.mono (Nat.le_refl _))
          case measure => simp [intOf]; try omega
        · obtain rfl : m = A.length := by omega
          have e0 : (ocol A k).take A.length = ocol A k := List.take_of_length_le (by rw [ocol_len]; exact Nat.le_refl _)
          rw [e0] at og
          obtain ⟨adr, capr, e7⟩ := oslice og
          subst e7
          have RK2 := RK.out
          have zC := hC.size
          have zD := hD.size
          go_wp2_with (at_builtin; first
            | (refine wpList_app _ rfl _ _ _ rfl W.heap.size 2 1 8 (.int .i64 0) Try.underlying157 o64_info rfl (by omega) (by omega) (.slice adr A.length capr) _ _ rfl (og.alloc _) (by omega) (by simp; omega) Y.heap.size [.int .i64 0] (0, 0) rfl (heap_alloc_new Y _) rfl (by simp [Value.oneCell']) ?_; intro g cap2 w2 hown hg hbw; have hW2 := (below_to hD (ba1 Y (.cells #[.int .i64 0] 2))).trans (hbw.mono (Nat.le_refl _)); have hW3 := below_to hW2 (ba1 w2 (.cells #[.slice (some ⟨g, 0, none⟩) (A.length + 1) cap2] 157)); have zW3 := hW3.size)
            | (refine wpList_app3 _ rfl _ _ _ rfl y0.heap.size 157 1 24 (.slice none 0 0) Try.underlying91 orow64_info rfl (by omega) (by omega) _ k vs rfl (RA.below hW3).1 (by omega) (by omega) w2.heap.size [.slice (some ⟨g, 0, none⟩) (A.length + 1) cap2] (0, 0) rfl (heap_alloc_new w2 _) rfl (by simp [Value.oneCell']) ?_; intro g3 cap3 w3 hown3 hg3 hbw3 hk3))
          have OG' : (w2.alloc (.cells #[.slice (some ⟨g, 0, none⟩) (A.length + 1) cap2] 157)).ownsRow W.heap.size 2 1 (.slice (some ⟨g, 0, none⟩) (A.length + 1) cap2) (tR A B k).length (ics (tR A B k)) := by
            rw [RK2, List.length_append, ocol_len, ics_app]; exact owns_at hown (ba1 w2 _)
          have RA3 := RA.push zC hW3 OG' hown3 hk3
          have hE := (below_to hC hW3).trans (hbw3.mono (Nat.le_refl _))
          clear RA hown hown3 hk3 hbw3 OG' hW3 hW2 hbw hD hC og
          go_roundw
          case rel => exact ⟨k + 1, by omega, by go_num, ⟨_, RA3⟩, hE⟩
          case measure => simp [intOf]; try omega
    · obtain rfl : k = n := by omega
      have RK : Hid (tR A B k = B ++ [1]) := THI
      have RL : B.length ≤ 6 := by rw [BL.out]; exact r6
      have oS := OS.out.below hC
      obtain ⟨rS, fS⟩ := oS.rules
      have zS := oS.lt
      go_wp2
      clear rS fS zS oS
      go_loopw [7, 46] (fun cv i wr => ∃ q : Nat, q ≤ B.length ∧ i = .int .i64 q ∧ wr.ownsRow W.heap.size 2 1 cv q (ics (B.take q)) ∧ Below W.heap.size W wr) (fun _ i _ => B.length + 1 - (intOf i).toNat)
      case atStart => exact ⟨0, Nat.zero_le _, rfl, World.ownsRow_nil _ _ _ _, Below.refl _ _⟩
      case round =>
        obtain ⟨q, hq, rfl, og, hD⟩ := hrel
        rename World => Y
        by_cases hql : q < B.length
        · obtain ⟨_, _, e, _, _, HR⟩ := (SB2.out.below (below_to hC hD)).open
          cases e
          obtain ⟨b3, off3, e, c4⟩ := HR.out q hql
          subst e
          clear HR
          have OT : Hid (B.take (q + 1) = B.take q ++ [B[q]]) := List.take_succ_eq_append_getElem hql
          generalize B[q] = z at *
          have zD := hD.size
          go_wp2_with (at_builtin; refine wpList_app _ rfl _ _ _ rfl W.heap.size 2 1 8 (.int .i64 0) Try.underlying157 o64_info rfl (by omega) (by omega) _ _ _ rfl (og.alloc _) (by omega) (by simp; omega) Y.heap.size [.int .i64 z] (0, 0) rfl (heap_alloc_new Y _) rfl (by simp [Value.oneCell']) ?_; intro g cap2 w2 hown hg hbw)
          go_roundw
          case rel =>
            refine ⟨q + 1, by omega, by go_num, ?_, ?_⟩
            · rw [OT.out, ics_app]; exact hown
            · exact (below_to hD (ba1 Y _)).trans (hbw.mono (Nat.le_refl _))
          case measure => simp [intOf]; try omega
        · obtain rfl : q = B.length := by omega
          rw [List.take_of_length_le (Nat.le_refl _)] at og
          obtain ⟨adr, capr, e7⟩ := oslice og
          subst e7
          have RK2 := RK.out
          have zC := hC.size
          have zD := hD.size
          go_wp2_with (at_builtin; first
            | (refine wpList_app _ rfl _ _ _ rfl W.heap.size 2 1 8 (.int .i64 0) Try.underlying157 o64_info rfl (by omega) (by omega) (.slice adr B.length capr) _ _ rfl (og.alloc _) (by omega) (by simp; omega) Y.heap.size [.int .i64 1] (0, 0) rfl (heap_alloc_new Y _) rfl (by simp [Value.oneCell']) ?_; intro g cap2 w2 hown hg hbw; have hW2 := (below_to hD (ba1 Y (.cells #[.int .i64 1] 2))).trans (hbw.mono (Nat.le_refl _)); have hW3 := below_to hW2 (ba1 w2 (.cells #[.slice (some ⟨g, 0, none⟩) (B.length + 1) cap2] 157)); have zW3 := hW3.size)
            | (refine wpList_app3 _ rfl _ _ _ rfl y0.heap.size 157 1 24 (.slice none 0 0) Try.underlying91 orow64_info rfl (by omega) (by omega) _ k vs rfl (RA.below hW3).1 (by omega) (by omega) w2.heap.size [.slice (some ⟨g, 0, none⟩) (B.length + 1) cap2] (0, 0) rfl (heap_alloc_new w2 _) rfl (by simp [Value.oneCell']) ?_; intro g3 cap3 w3 hown3 hg3 hbw3 hk3))
          have OG' : (w2.alloc (.cells #[.slice (some ⟨g, 0, none⟩) (B.length + 1) cap2] 157)).ownsRow W.heap.size 2 1 (.slice (some ⟨g, 0, none⟩) (B.length + 1) cap2) (tR A B k).length (ics (tR A B k)) := by
            rw [RK2, List.length_append, ics_app]; exact owns_at hown (ba1 w2 _)
          have RA3 := RA.push zC hW3 OG' hown3 hk3
          have hE := (below_to hC hW3).trans (hbw3.mono (Nat.le_refl _))
          clear RA hown hown3 hk3 hbw3 OG' hW3 hW2 hbw hD hC og
          go_ret
          exact ⟨_, _, rfl, RA3.mono hy0, below_to hy hE⟩
end Go.Proofs.Ythlcmlngmcoknaa
