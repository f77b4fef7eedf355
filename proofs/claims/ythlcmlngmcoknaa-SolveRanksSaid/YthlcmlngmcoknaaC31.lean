/- What is proved here: contracts of functions and plain facts, several texts in one; each one says ahead what it proves, and its conditions. -/
import Derived.Test.YthlcmlngmcoknaaC30
import Derived.Test.YthlcmlngmcoknaaC17
import Derived.Test.YthlcmlngmcoknaaC28
/- What is proved here: the contract of the reference's Turned of layer 29. Condition: a valid system that can be read. -/
namespace Go.Proofs.Ythlcmlngmcoknaa
open Go.RowKit

theorem orow_info : (Try.prog.info? 23).map (fun i => (i.zero, i.size, i.bytes)) = some (some (.slice none 0 0), 1, 24) := by kernel_rfl
/-- Rows that lie apart from another one. -/
theorem RowsB.keep {W w2 : World} {B g : Nat} {Ti Tr : TypeId} {ov bv : Value} {k : Nat} {R : Nat → List Int} {vs : List Value} (h : RowsB W B Ti Tr ov k R vs) (hk : Keep B W w2 bv g) (ha : Apart ov bv) (hu : ∀ u ∈ vs, Apart u bv) :
    RowsB w2 B Ti Tr ov k R vs ∧ ∀ k' cap, Apart ov (.slice (some ⟨g, 0, none⟩) k' cap) ∧ ∀ u ∈ vs, Apart u (.slice (some ⟨g, 0, none⟩) k' cap) := by
  have hl : vs.length = k := by have := h.1.1; omega
  refine ⟨⟨hk.row h.1 ha, fun i hi => ?_⟩, fun k' cap => ⟨hk.apart h.1 ha _ _, fun u hu2 => ?_⟩⟩
  · obtain ⟨u, e1, e2, e3⟩ := h.2 i hi
    exact ⟨u, e1, hk.row e2 (hu u (List.mem_of_getElem? e1)), e3⟩
  · obtain ⟨i, hi, e⟩ := List.getElem_of_mem hu2
    obtain ⟨u', e1, e2, _⟩ := h.2 i (by omega)
    have : u' = u := by rw [List.getElem?_eq_getElem hi, e] at e1; exact (Option.some.inj e1).symm
    subst this
    exact hk.apart e2 (hu u' hu2) _ _
theorem rows_last {w : World} {B n : Nat} {T : TypeId} {av vB : Value} {vs : List Value} {R : Nat → List Int} {xs : List Int} (hown : w.ownsRow B T 1 av (n + 1) (vs ++ [vB])) (hl : vs.length = n) (hr : ∀ i, i < n → ∃ u, vs[i]? = some u ∧ SI w u (R i)) (hB : SI w vB xs) (hn : n ≤ 1000) :
    SS w av ((List.range n).map R ++ [xs]) := by
  have hL : ((List.range n).map R ++ [xs]).length = n + 1 := by simp
  refine ⟨vs ++ [vB], by rw [hL]; simp [hl], by rw [hL]; exact owns_sl hown (by omega), fun i hi hi' => ?_⟩
  rw [hL] at hi
  rcases Nat.lt_or_ge i n with h1 | h1
  · obtain ⟨u, e1, e2⟩ := hr i h1
    have a1 : (vs ++ [vB])[i]'hi' = u := by
      rw [List.getElem_append_left (by omega)]
      rw [List.getElem?_eq_getElem (by omega)] at e1
      exact Option.some.inj e1
    have a2 : ((List.range n).map R ++ [xs])[i]'(by rw [hL]; exact hi) = R i := by rw [List.getElem_append_left (by simp; omega)]; simp
    rw [a1, a2]; exact e2
  · obtain rfl : i = n := by omega
    have a1 : (vs ++ [vB])[i]'hi' = vB := by rw [List.getElem_append_right (by omega)]; simp [hl]
    have a2 : ((List.range i).map R ++ [xs])[i]'(by rw [hL]; exact hi) = xs := by rw [List.getElem_append_right (by simp)]; simp
    rw [a1, a2]; exact hB
theorem oslice {w : World} {B size n : Nat} {T : TypeId} {v : Value} {cs : List Value} (h : w.ownsRow B T size v n cs) : ∃ ad cap, v = .slice ad n cap := by
  obtain ⟨_, h3⟩ := h
  rcases h3 with ⟨h4, h5⟩ | ⟨g', cap'', cur, h4, _⟩
  · exact ⟨none, 0, by rw [h4, h5]⟩
  · exact ⟨_, _, h4⟩
def turn_post (w : World) (A : List (List Int)) (B : List Int) (e : Ending) (w' : World) : Prop := ∃ u1 u2, e = .returned (.tuple #[u1, u2]) ∧ SS w' u1 (oturnA A B) ∧ SI w' u2 (oturnB A) ∧ Below w.heap.size w w'
set_option maxRecDepth 100000 in
set_option maxHeartbeats 16000000 in
theorem roturn_any (A : List (List Int)) (B : List Int) (va vb : Value) (w : World) (hA : SS w va A) (hB : SI w vb B) (h0 : ocheck A B = 0) :
    Calls Try.prog 71 #[.agg #[va, vb]] w (turn_post w A B) := by
  have SY := Lib.hid (sys_of h0)
  have r1 := SY.out.rows.1
  have r6 := SY.out.rows.2
  have n1 := SY.out.cols.1
  have n6 := SY.out.cols.2
  have W0 := Lib.hid (SY.out.wide 0 r1)
  have BL := Lib.hid SY.out.right
  clear h0
  obtain ⟨ada, capa, rfl, ha1, ha2, _⟩ := hA.open
  obtain ⟨adb, capb, rfl, hb1, hb2, _⟩ := hB.open
  have rows1 : (0 : Int) < A.length := by omega
  have OTA : Hid (oturnA A B = (List.range (A.getD 0 []).length).map (ocol A) ++ [B]) := rfl
  have OTB : Hid (oturnB A = List.replicate (A.getD 0 []).length 0 ++ [1]) := rfl
  generalize hn : (A.getD 0 []).length = n at *
  have HN := Lib.hid hn
  clear hn
  go_enter Try.func71, Try.ntmps71
  have OS := Lib.hid (Own.new w 25 [.slice ada A.length capa, .slice adb B.length capb])
  have hy := ba1 w (.cells #[.slice ada A.length capa, .slice adb B.length capb] 25)
  have SA := Lib.hid (hA.below hy)
  have SB2 := Lib.hid (hB.below hy)
  clear hA hB
  go_upto_region 4 with fail
  obtain ⟨bS, hS⟩ : ∃ b, b = w.heap.size := ⟨_, rfl⟩
  rw [← hS] at OS ⊢
  have hS' := Lib.hid hS
  clear hS
  generalize w.alloc (.cells #[.slice ada A.length capa, .slice adb B.length capb] 25) = y0 at *
  go_wp2
  go_loopw [4, 5, 6] (fun av bv i wr => ∃ k : Nat, k ≤ n ∧ i = .int .i64 k ∧ (∃ vs, RowsB wr y0.heap.size 3 23 av k (ocol A) vs ∧ wr.ownsRow y0.heap.size 3 1 bv k (ics (List.replicate k 0)) ∧ Apart av bv ∧ ∀ u ∈ vs, Apart u bv) ∧ Below y0.heap.size y0 wr) (fun _ _ i _ => n + 1 - (intOf i).toNat)
  case atStart => exact ⟨0, Nat.zero_le _, rfl, ⟨[], rowsB_nil _ _ _ _ _, World.ownsRow_nil _ _ _ _, apart_nil _, fun u hu => by simp at hu⟩, Below.refl _ _⟩
  case round =>
    obtain ⟨k, hk, rfl, ⟨vs, RA, RB, AB, AU⟩, hC⟩ := hrel
    rename World => W
    obtain ⟨ad4, cap4, e4⟩ := oslice RA.1
    subst e4
    obtain ⟨ad5, cap5, e5⟩ := oslice RB
    subst e5
    have oS := OS.out.below hC
    obtain ⟨_, _, e, _, _, H⟩ := (SA.out.below hC).open
    cases e
    obtain ⟨b, off, ad0, cap0, rfl, d1, d2, d3, _⟩ := H.out 0 r1
    rw [W0.out] at d1 d2 d3
    rw [Nat.add_zero] at d1
    clear H
    by_cases hlt : k < n
    · obtain ⟨rS, fS⟩ := oS.rules
      have zS := oS.lt
      go_wp2
      clear rS fS zS oS d1
      go_loopw [7, 8] (fun cv i wr => ∃ m : Nat, m ≤ A.length ∧ i = .int .i64 m ∧ wr.ownsRow W.heap.size 3 1 cv m (ics ((ocol A k).take m)) ∧ Below W.heap.size W wr) (fun _ i _ => A.length + 1 - (intOf i).toNat)
      case atStart => exact ⟨0, Nat.zero_le _, rfl, World.ownsRow_nil _ _ _ _, Below.refl _ _⟩
      case round =>
        obtain ⟨m, hm, rfl, og, hD⟩ := hrel
        rename World => Y
        have oS := OS.out.below (below_to hC hD)
        by_cases hml : m < A.length
        · obtain ⟨_, _, e, _, _, H⟩ := (SA.out.below (below_to hC hD)).open
          cases e
          obtain ⟨b', off', ad', cap', e, c1, c2, c3, s1⟩ := H.out m hml
          cases e
          have WK : A[m].length = n := SY.out.wide m hml
          have hkm : k < A[m].length := by omega
          have OT := Lib.hid (ocol_take hml hkm)
          obtain ⟨_, _, e, _, _, HR⟩ := s1.open
          cases e
          obtain ⟨b3, off3, rfl, c4⟩ := HR.out k hkm
          clear H HR s1
          generalize A[m][k] = z at *
          rw [WK] at c1 c2 c3
          clear WK hkm
          have zD := hD.size
          have zb := World.block_lt_of_cell? _ _ c1
          have zb2 := World.block_lt_of_cell? _ _ c4
          simp only at zb zb2
          obtain ⟨rS, fS⟩ := oS.rules
          have zS := oS.lt
          go_wp2_with (at_builtin; refine wpList_app _ rfl _ _ _ rfl W.heap.size 3 1 8 (.int .i64 0) Try.underlying23 oint_info rfl (by omega) (by omega) _ _ _ rfl (og.alloc _) (by omega) (by simp; omega) Y.heap.size [.int .i64 z] (0, 0) rfl (heap_alloc_new Y _) rfl (by simp [Value.oneCell']) ?_; intro g cap2 w2 hown hg hbw)
          go_roundw
          case rel =>
            refine ⟨m + 1, by omega, by go_num, ?_, ?_⟩
            · rw [OT.out, ics_app]; exact hown
            · exact (below_to hD (ba1 Y _)).trans (hbw.mono (Nat.le_refl _))
          case measure => simp [intOf]; try omega
        · obtain rfl : m = A.length := by omega
          have e0 : (ocol A k).take A.length = ocol A k := List.take_of_length_le (by rw [ocol_len]; exact Nat.le_refl _)
          rw [e0] at og
          obtain ⟨adr, capr, e7⟩ := oslice og
          subst e7
          have OG := Lib.hid og
          clear e0 hm og
          obtain ⟨rS, fS⟩ := oS.rules
          have zS := oS.lt
          have RA' := RA.below (below_to hD (ba1 Y (.cells #[.slice adr A.length capr] 23)))
          have hWY := hC.size
          have hYY := hD.size
          have OG' : (Y.alloc (.cells #[.slice adr A.length capr] 23)).ownsRow W.heap.size 3 1 (.slice adr A.length capr) (ocol A k).length (ics (ocol A k)) := by rw [ocol_len]; exact owns_at OG.out (ba1 Y _)
          go_upto_region 12 with (at_builtin; refine wpList_app3 _ rfl _ _ _ rfl y0.heap.size 23 1 24 (.slice none 0 0) Try.underlying22 orow_info rfl (by omega) (by omega) _ k vs rfl RA'.1 (by omega) (by simp; omega) Y.heap.size [.slice adr A.length capr] (0, 0) rfl (heap_alloc_new Y _) rfl (by simp [Value.oneCell']) ?_; intro g cap2 w2 hown hg hbw hkp)
          have RA2 := RA.push hWY (below_to hD (ba1 Y _)) OG' hown hkp
          have RBY := owns_at RB (below_to hD (ba1 Y (.cells #[.slice adr A.length capr] 23)))
          have RB2 := hkp.row RBY AB.symm
          have AB2 := (hkp.apart RBY AB.symm (k + 1) cap2).symm
          have AU2 : ∀ u ∈ vs ++ [.slice adr A.length capr], Apart u (.slice ad5 k cap5) := fun u hu => by
            rcases List.mem_append.1 hu with h | h
            · exact AU u h
            · rw [List.mem_singleton.1 h]; exact (apart_new RB OG.out).symm
          have hE := (below_to (below_to hC hD) (ba1 Y (.cells #[.slice adr A.length capr] 23))).trans (hbw.mono (Nat.le_refl _))
          clear RA RB AB AU RA' RBY hkp hown hbw OG OG' hD hWY hYY rS fS zS oS hC
          have zE := hE.size
          go_wp2_with (at_builtin; refine wpList_app3 _ rfl _ _ _ rfl y0.heap.size 3 1 8 (.int .i64 0) Try.underlying23 oint_info rfl (by omega) (by omega) _ k _ rfl (owns_at RB2 (ba1 w2 _)) (by omega) (by simp; omega) w2.heap.size [.int .i64 0] (0, 0) rfl (heap_alloc_new w2 _) rfl (by simp [Value.oneCell']) ?_; intro g3 cap3 w3 hown3 hg3 hbw3 hk3)
          have RA3 := (RA2.below (ba1 w2 (.cells #[.int .i64 0] 3))).keep hk3 AB2 AU2
          have hF := (below_to hE (ba1 w2 (.cells #[.int .i64 0] 3))).trans (hbw3.mono (Nat.le_refl _))
          clear RA2 RB2 AB2 AU2 hk3 hbw3 hE
          go_wp2
          go_roundw
          case rel =>
            refine ⟨k + 1, by omega, by go_num, ⟨vs ++ [.slice adr A.length capr], RA3.1, ?_, (RA3.2 _ _).1, (RA3.2 _ _).2⟩, hF⟩
            rw [List.replicate_succ', ics_app]; exact hown3
          case measure => simp [intOf]; try omega
    · obtain rfl : k = n := by omega
      have hWY := hC.size
      have RA' := RA.below (ba1 W (.cells #[.slice adb B.length capb] 23))
      have hln : vs.length = k := by have := RA.1.1; omega
      obtain ⟨rS, fS⟩ := oS.rules
      have zS := oS.lt
      go_wp2_with (at_builtin; first | (refine wpList_app3 _ rfl _ _ _ rfl y0.heap.size 23 1 24 (.slice none 0 0) Try.underlying22 orow_info rfl (by omega) (by omega) _ k vs rfl RA'.1 (by omega) (by simp; omega) W.heap.size [.slice adb B.length capb] (0, 0) rfl (heap_alloc_new W _) rfl (by simp [Value.oneCell']) ?_; intro g cap2 w2 hown hg hbw hkp) | (refine wpList_app3 _ rfl _ _ _ rfl y0.heap.size 3 1 8 (.int .i64 0) Try.underlying23 oint_info rfl (by omega) (by omega) _ k _ rfl (owns_at (hkp.row (owns_at RB (ba1 W (.cells #[.slice adb B.length capb] 23))) AB.symm) (ba1 w2 _)) (by omega) (by have := hbw.size; simp at this ⊢; omega) w2.heap.size [.int .i64 1] (0, 0) rfl (heap_alloc_new w2 _) rfl (by simp [Value.oneCell']) ?_; intro g3 cap3 w3 hown3 hg3 hbw3 hk3))
      have RBY := owns_at RB (ba1 W (.cells #[.slice adb B.length capb] 23))
      have RB2 := hkp.row RBY AB.symm
      have AB2 := (hkp.apart RBY AB.symm (k + 1) cap2).symm
      have RR : ∀ i, i < k → ∃ u, vs[i]? = some u ∧ w2.ownsRow y0.heap.size 3 1 u (ocol A i).length (ics (ocol A i)) ∧ Apart u (.slice ad5 k cap5) := fun i hi => by
        obtain ⟨u, e1, e2, e3, _⟩ := RA'.2 i hi
        exact ⟨u, e1, hkp.row e2 e3, AU u (List.mem_of_getElem? e1)⟩
      have hE := (below_to hC (ba1 W (.cells #[.slice adb B.length capb] 23))).trans (hbw.mono (Nat.le_refl _))
      have hF := (below_to hE (ba1 w2 (.cells #[.int .i64 1] 3))).trans (hbw3.mono (Nat.le_refl _))
      have A3 := hk3.row (owns_at hown (ba1 w2 (.cells #[.int .i64 1] 3))) AB2
      have R3 : ∀ i, i < k → ∃ u, vs[i]? = some u ∧ SI w3 u (ocol A i) := fun i hi => by
        obtain ⟨u, e1, e2, e3⟩ := RR i hi
        have := hk3.row (owns_at e2 (ba1 w2 (.cells #[.int .i64 1] 3))) e3
        exact ⟨u, e1, owns_SI' this (by rw [ocol_len]; omega)⟩
      have SSA := Lib.hid (rows_last A3 hln R3 (SB2.out.below hF) (by omega))
      have SIB : Hid (SI w3 (.slice (some ⟨g3, 0, none⟩) (k + 1) cap3) (List.replicate k 0 ++ [1])) := by
        refine owns_SI (B := y0.heap.size) (T := 3) (n := k + 1) (xs := List.replicate k 0 ++ [1]) ?_ (by simp) (by omega)
        rw [ics_app]; exact hown3
      clear RB2 AB2 RR hk3 hbw3 hE A3 R3 hown hown3 RA RB AB AU RA' RBY hkp hbw hWY rS fS zS oS hC
      go_wp2
      go_ret2
      exact ⟨_, _, rfl, by rw [OTA.out]; exact SSA.out, by rw [OTB.out]; exact SIB.out, below_to hy hF⟩
end Go.Proofs.Ythlcmlngmcoknaa
