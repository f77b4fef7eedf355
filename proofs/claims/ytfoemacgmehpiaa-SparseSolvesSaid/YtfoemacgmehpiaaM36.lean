/- What is proved here: contracts of functions and plain facts, several texts in one; each one says ahead what it proves, and its conditions. -/
import Derived.Test.YtfoemacgmehpiaaM35
import Derived.Test.YtfoemacgmehpiaaM34
import Derived.Test.YtfoemacgmehpiaaM32
import Derived.Test.YtfoemacgmehpiaaM33
import Derived.Test.YtfoemacgmehpiaaM10
import Derived.Test.YtfoemacgmehpiaaM01
import Derived.Test.YtfoemacgmehpiaaM27
import Derived.Deep.DeepCutAuto
/- What is proved here: the contract of fringeref37.Of. Condition: a valid fit that can be read, a set of its unknowns, a cost from 0 to 1000. -/
namespace Go.Proofs.Ytfoemacgmehpiaa
open Go.RowKit

theorem owns_mono {w : World} {B B' size n : Nat} {T : TypeId} {v : Value} {cs : List Value} (h : w.ownsRow B' T size v n cs) (hB : B ≤ B') : w.ownsRow B T size v n cs := by
  obtain ⟨h1, h2⟩ := h
  refine ⟨h1, ?_⟩
  rcases h2 with h2 | ⟨g, cap, cur, h3, hg, r⟩
  · exact .inl h2
  · exact .inr ⟨g, cap, cur, h3, by omega, r⟩
/-- The rows of a matrix while they are made, apart from the two rows that grow beside them. -/
def RowsM (w : World) (B n : Nat) (T : TypeId) (f : Nat → List Int) (mv bv : Value) (r : Nat) (cs : List Value) : Prop :=
  ∀ j (_ : j < r), ∃ u, cs[j]? = some u ∧ w.ownsRow B T 1 u n (ics (f j)) ∧ Apart u mv ∧ Apart u bv
/-- The right sides of a set. -/
def rB (A : List (List Int)) (B : List Int) (c : Int) (S n : Nat) (r : Nat) : List Int := (List.range r).map fun i => nD A B c (xn (ins S n) i)
def rRow (A : List (List Int)) (S n : Nat) (i k : Nat) : List Int := (List.range k).map fun j => rM A S n i j
theorem rB_succ (A : List (List Int)) (B : List Int) (c : Int) (S n r : Nat) : rB A B c S n (r + 1) = rB A B c S n r ++ [nD A B c (xn (ins S n) r)] := by simp [rB, List.range_succ]
theorem rRow_succ (A : List (List Int)) (S n i k : Nat) : rRow A S n i (k + 1) = rRow A S n i k ++ [rM A S n i k] := by simp [rRow, List.range_succ]
theorem rB_len (A : List (List Int)) (B : List Int) (c : Int) (S n r : Nat) : (rB A B c S n r).length = r := by simp [rB]
theorem rRow_len (A : List (List Int)) (S n i k : Nat) : (rRow A S n i k).length = k := by simp [rRow]
theorem qcc_succ (A : List (List Int)) (B : List Int) (c : Int) (r k : Nat) : qc (cel A) (nb B) (r + 1) c k = qc (cel A) (nb B) r c k + cel A r k * nb B r := by
  unfold qc; rw [si_succ]; omega
theorem qg_succ (A : List (List Int)) (r k l : Nat) : qg (cel A) (r + 1) k l = qg (cel A) r k l + cel A r k * cel A r l := rfl
theorem owns_some {w : World} {B size n : Nat} {T : TypeId} {v : Value} {cs : List Value} (h : w.ownsRow B T size v n cs) (h0 : 0 < n) : ∃ g cap, v = .slice (some ⟨g, 0, none⟩) n cap := by
  obtain ⟨_, h3⟩ := h
  rcases h3 with ⟨_, h5⟩ | ⟨g', cap'', cur, h4, _⟩
  · omega
  · exact ⟨_, _, h4⟩
theorem rmake_as (num den : Int) (r : FR) (w : World) (h1 : i64 num) (h2 : i64 den) (hr : fmk num den = r) :
    Calls Try.prog 104 #[.int .i64 num, .int .i64 den] w fun e w' => e = .returned (.tuple #[.agg #[.int .i64 r.n, .int .i64 r.d], .int .i64 r.e]) ∧ Below w.heap.size w w' := by
  subst hr; exact rmake_any num den w h1 h2
theorem rW_row (A : List (List Int)) (B : List Int) (c : Int) (S n L k i : Nat) (hk : k < L) : ((List.range L).map fun j => rM A S n k j).set i ((rB A B c S n L)[k]'(by rw [rB_len]; exact hk)) = (List.range L).map fun j => rW A B c S n i k j := by
  apply List.ext_getElem
  · simp
  · intro j h1 h2
    simp at h1 h2
    rw [List.getElem_set]
    by_cases h : i = j
    · subst h
      rw [if_pos rfl]
      simp [rB, rW]
    · rw [if_neg h]
      simp [rW, show ¬ j = i from fun e => h e.symm]
/-- The point of a set, and whether the set is free. -/
def ofV (A : List (List Int)) (B : List Int) (c : Int) (S n : Nat) : List (Int × Int) × Bool := if den8 (nG A) S = 0 then ([], false) else ((List.range n).map (fun k => up (xs8 (cel A) (nb B) A.length c S k)), true)
def of_post (w : World) (r : List (Int × Int) × Bool) (e : Ending) (w' : World) : Prop := ∃ u, e = .returned (.tuple #[u, .bool r.2]) ∧ SF w' u r.1 ∧ Below w.heap.size w w'
set_option maxRecDepth 100000 in
set_option maxHeartbeats 16000000 in
theorem rof98_any (A : List (List Int)) (B : List Int) (c : Int) (S n : Nat) (va vb : Value) (w : World) (hA : SS w va A) (hB : SI w vb B) (hF : Fit A B n) (hS : S < 2 ^ n) (c0 : 0 ≤ c) (c1 : c ≤ 1000) :
    Calls Try.prog 98 #[.agg #[va, vb], .int .i64 (S : Int), .int .i64 c] w (of_post w (ofV A B c S n)) := by
  have HF := Lib.hid hF
  have hr := hF.rows
  have n3 := hF.cols.2
  have hw0 := hF.wide 0 (by omega)
  have HR := Lib.hid hF.right
  have h8 := Lib.hid (set8 n3 hS)
  have HSn := Lib.hid hS
  clear hF hS
  obtain ⟨ada, capa, rfl, ha1, ha2, H⟩ := id hA.open
  obtain ⟨b0, o0, ad0, cap0, rfl, k1, k2, k3, _⟩ := H.out 0 hr.1
  clear H
  rw [hw0] at k1 k2 k3
  rw [Nat.add_zero] at k1
  clear hw0
  obtain ⟨adb, capb, rfl, hb1, hb2, _⟩ := id hB.open
  go_enter Try.func98, Try.ntmps98
  have oS := Own.new w 25 [.slice (some ⟨b0, o0, none⟩) A.length capa, .slice adb B.length capb]
  have hy := ba1 w (.cells #[.slice (some ⟨b0, o0, none⟩) A.length capa, .slice adb B.length capb] 25)
  replace hA := hA.below hy
  replace hB := hB.below hy
  replace k1 := below_cell hy k1
  obtain ⟨rS, fS⟩ := oS.rules
  have zS := oS.lt
  go_wp2_with fail
  refine (rmem_any S n _ h8.out n3).mono ?_
  rintro e y1 ⟨u, rfl, su, hq⟩
  clear rS fS zS k1
  replace oS := oS.below hq
  replace hA := hA.below hq
  replace hB := hB.below hq
  replace hy := below_to hy hq
  clear hq
  obtain ⟨adl, capl, e, hl1, hl2, _⟩ := id su.open
  subst e
  have IL := Lib.hid (fun i (h : i < (ins S n).length) => xn_cast (S := S) (n := n) h)
  have iL := ins_len S n
  obtain ⟨L, hL⟩ : ∃ L, L = (ins S n).length := ⟨_, rfl⟩
  have HL := Lib.hid hL
  rw [← hL] at hl1 hl2 iL ⊢
  clear hL
  have HA := Lib.hid hA
  have HB := Lib.hid hB
  have HU := Lib.hid su
  have OS := Lib.hid oS
  have HY := Lib.hid hy
  clear hA hB su oS hy
  have HN := Lib.hid (Go.IntWalk.wrap64_in (-c) (by omega))
  go_wp2
  go_loopw [10, 11, 12] (fun mv bv i wr => ∃ (r : Nat) (cs : List Value), r ≤ L ∧ i = .int .i64 r ∧ wr.ownsRow y1.heap.size 104 1 mv r cs ∧ Hid (RowsM wr y1.heap.size L 2 (fun j => rRow A S n j L) mv bv r cs) ∧ wr.ownsRow y1.heap.size 2 1 bv r (ics (rB A B c S n r)) ∧ Apart mv bv ∧ Below y1.heap.size y1 wr) (fun _ _ i _ => L - (intOf i).toNat)
  case atStart => exact ⟨0, [], Nat.zero_le _, rfl, World.ownsRow_nil _ _ _ _, fun j h => absurd h (Nat.not_lt_zero j), World.ownsRow_nil _ _ _ _, apart_nil _, Below.refl _ _⟩
  case round =>
    obtain ⟨r, cs, hr1, rfl, om, hrows, ob, pmb, hW⟩ := hrel
    rename World => W
    by_cases hlt : r < L
    · have hrL : r < (ins S n).length := by rw [← HL.out]; exact hlt
      obtain ⟨_, _, e, _, _, H⟩ := (HU.out.below hW).open
      rw [← HL.out] at e
      cases e
      obtain ⟨bl, ol, rfl, cl⟩ := H.out r hrL
      clear H
      obtain ⟨x1, x2⟩ := IL.out r hrL
      rw [x1] at cl
      clear x1
      obtain ⟨x, hx⟩ : ∃ x, x = xn (ins S n) r := ⟨_, rfl⟩
      have HX := Lib.hid hx
      rw [← hx] at cl x2
      clear hx
      have oS := OS.out.below hW
      obtain ⟨rS, fS⟩ := oS.rules
      have zS := oS.lt
      have q0 : qc (cel A) (nb B) 0 c x = -c := by unfold qc; show (0 : Int) - c = _; omega
      go_wp2
      clear rS fS zS
      go_loopw [14, 15] (fun s i wr => ∃ t : Nat, t ≤ A.length ∧ i = .int .i64 t ∧ s = .int .i64 (qc (cel A) (nb B) t c x) ∧ Below W.heap.size W wr) (fun _ i _ => A.length - (intOf i).toNat)
      case atStart => exact ⟨0, Nat.zero_le _, rfl, by rw [q0], Below.refl _ _⟩
      case round =>
        clear q0
        obtain ⟨t, ht, rfl, rfl, hQ⟩ := hrel
        rename World => W1
        by_cases hta : t < A.length
        · have htb : t < B.length := by rw [HR.out]; exact hta
          have hxa : x < A[t].length := by rw [HF.out.wide t hta]; exact x2
          have oS1 := oS.below hQ
          have hWQ := below_to hW hQ
          obtain ⟨_, _, e, _, _, H⟩ := (HA.out.below hWQ).open
          cases e
          obtain ⟨_, _, ad1, cap1, e, c2, _, _, sR⟩ := H.out t hta
          cases e
          clear H
          obtain ⟨_, _, e, _, _, H⟩ := sR.open
          cases e
          obtain ⟨b1, o1, rfl, d1⟩ := H.out x hxa
          clear H
          obtain ⟨_, _, e, _, _, H⟩ := (HB.out.below hWQ).open
          cases e
          obtain ⟨b2, o2, rfl, d2⟩ := H.out t htb
          clear H
          have g1 := HF.out.coef t hta x hxa
          have g2 := HF.out.side t htb
          have g3 := HF.out.qc1250 (r := t) (by omega) x
          have g4 := HF.out.qc1250 (r := t + 1) (by omega) x
          have m1 : wrap64 (A[t][x] * B[t]) = A[t][x] * B[t] := by
            have := wr_mulbd' (X := 5) (Y := 50) (Z := 250) g1 g2 (by decide)
            exact Go.IntWalk.wrap64_in _ (by omega)
          have e0 : qc (cel A) (nb B) (t + 1) c x = qc (cel A) (nb B) t c x + A[t][x] * B[t] := by
            rw [qcc_succ, cel_get hta hxa, nb_get htb]
          have e1 : qc (cel A) (nb B) (t + 1) c x = qc (cel A) (nb B) (t + 1) 0 x - c := by unfold qc; omega
          have m2 : wrap64 (qc (cel A) (nb B) t c x + A[t][x] * B[t]) = qc (cel A) (nb B) (t + 1) c x := by
            rw [← e0]
            unfold wi at g4
            exact Go.IntWalk.wrap64_in _ (by omega)
          have hwt := HF.out.wide t hta
          rw [hwt] at c2
          have M1 := Lib.hid m1
          have M2 := Lib.hid m2
          clear g1 g2 g3 g4 e0 e1 m1 m2
          have m1 := M1.out
          clear M1
          generalize A[t][x] = ax at *
          generalize B[t] = bt at *
          have cl1 := below_cell hQ cl
          have z1 := World.block_lt_of_cell? W1 _ c2
          have z2 := World.block_lt_of_cell? W1 _ d1
          have z3 := World.block_lt_of_cell? W1 _ d2
          have z4 := World.block_lt_of_cell? W1 _ cl1
          simp only at z1 z2 z3 z4
          obtain ⟨rS, fS⟩ := oS1.rules
          have zS := oS1.lt
          clear hwt
          go_wp2_with fail
          refine wp_region_st [.t [0, 1, 2, 3, 4, 5, 6, 7, 8, 9, 10, 11, 12, 13, 14, 15, 16, 17, 18]] [19] (by kernel_rfl) (by kernel_rfl) (fun _ _ _ _ _ h => h) ?_
          have gl := @grow_lt
          refine wpX_t ?_
          try simp only [opsAt, List.getElem?_toArray, List.getElem?_cons_zero, List.getElem?_cons_succ, Option.getD_some]
          repeat (go_big_quiet_step (fail))
          refine wpQuiet_nil ?_
          refine wpX_nil ?_
          try simp only [opsAt, List.getElem?_toArray, List.getElem?_cons_zero, List.getElem?_cons_succ, Option.getD_some]
          clear gl
          go_wp2
          go_roundw
          case rel => exact ⟨t + 1, by omega, by go_num, by rw [M2.out], hQ.drew⟩
          case measure => simp [intOf]; try omega
        · obtain rfl : t = A.length := by omega
          have ED : Hid (qc (cel A) (nb B) A.length c x = nD A B c x) := rfl
          have zW := hQ.size
          obtain ⟨sv, hsv⟩ : ∃ z, z = qc (cel A) (nb B) A.length c x := ⟨_, rfl⟩
          rw [← hsv] at ED ⊢
          clear hsv
          have oS1 := oS.below hQ
          obtain ⟨rS, fS⟩ := oS1.rules
          have zS := oS1.lt
          go_wp2
          clear rS fS zS oS1
          go_loopw [13, 16] (fun rv i wr => ∃ k : Nat, k ≤ L ∧ i = .int .i64 k ∧ wr.ownsRow W.heap.size 2 1 rv k (ics (rRow A S n r k)) ∧ Below W.heap.size W wr) (fun _ i _ => L - (intOf i).toNat)
          case atStart => exact ⟨0, Nat.zero_le _, rfl, World.ownsRow_nil _ _ _ _, hQ⟩
          case round =>
            clear hQ zW
            obtain ⟨k, hk, rfl, ow, hQ⟩ := hrel
            rename World => W3
            by_cases hlk : k < L
            · have hkL : k < (ins S n).length := by rw [← HL.out]; exact hlk
              have cl1 := below_cell hQ cl
              obtain ⟨_, _, e, _, _, H⟩ := (HU.out.below (below_to hW hQ)).open
              rw [← HL.out] at e
              cases e
              have cl2 := (H.out k hkL)
              obtain ⟨_, _, e, cl2⟩ := cl2
              cases e
              clear H
              obtain ⟨v1, v2⟩ := IL.out k hkL
              rw [v1] at cl2
              clear v1
              obtain ⟨v, hv⟩ : ∃ v, v = xn (ins S n) k := ⟨_, rfl⟩
              rw [← hv] at cl2 v2
              have HS3 := Lib.hid (rRow_succ A S n r k)
              have HM : Hid (rM A S n r k = qg (cel A) A.length x v) := by show rM A S n r k = _; unfold rM nG; rw [← HX.out, ← hv]
              clear hv
              have oS3 := (oS.below hQ)
              obtain ⟨rS, fS⟩ := oS3.rules
              have zS := oS3.lt
              have g0 : qg (cel A) 0 x v = 0 := rfl
              go_wp2
              clear rS fS zS
              go_loopw [17, 18] (fun s i wr => ∃ t : Nat, t ≤ A.length ∧ i = .int .i64 t ∧ s = .int .i64 (qg (cel A) t x v) ∧ Below W3.heap.size W3 wr) (fun _ i _ => A.length - (intOf i).toNat)
              case atStart => exact ⟨0, Nat.zero_le _, rfl, by rw [g0], Below.refl _ _⟩
              case round =>
                clear g0
                obtain ⟨t, ht, rfl, rfl, hP⟩ := hrel
                rename World => W4
                have oS4 := oS3.below hP
                obtain ⟨rS, fS⟩ := oS4.rules
                have zS := oS4.lt
                by_cases hta : t < A.length
                · have hxa : x < A[t].length := by rw [HF.out.wide t hta]; exact x2
                  have hva : v < A[t].length := by rw [HF.out.wide t hta]; exact v2
                  have hWQ := below_to (below_to hW hQ) hP
                  obtain ⟨_, _, e, _, _, H⟩ := (HA.out.below hWQ).open
                  cases e
                  obtain ⟨_, _, ad1, cap1, e, c2, _, _, sR⟩ := H.out t hta
                  cases e
                  clear H
                  obtain ⟨_, _, e, _, _, H⟩ := sR.open
                  cases e
                  obtain ⟨b1, o1, rfl, d1⟩ := H.out x hxa
                  obtain ⟨_, _, e, d2⟩ := H.out v hva
                  cases e
                  clear H
                  have g1 := HF.out.coef t hta x hxa
                  have g2 := HF.out.coef t hta v hva
                  have g4 := HF.out.qg125 (r := t + 1) (by omega) x v
                  have m1 : wrap64 (A[t][x] * A[t][v]) = A[t][x] * A[t][v] := by
                    have := wr_mulbd' (X := 5) (Y := 5) (Z := 25) g1 g2 (by decide)
                    exact Go.IntWalk.wrap64_in _ (by omega)
                  have e0 : qg (cel A) (t + 1) x v = qg (cel A) t x v + A[t][x] * A[t][v] := by
                    rw [qg_succ, cel_get hta hxa, cel_get hta hva]
                  have M2 : Hid (wrap64 (qg (cel A) t x v + A[t][x] * A[t][v]) = qg (cel A) (t + 1) x v) := by
                    show _ = _
                    rw [← e0]
                    unfold wi at g4
                    exact Go.IntWalk.wrap64_in _ (by omega)
                  have hwt := HF.out.wide t hta
                  rw [hwt] at c2
                  have M1 := Lib.hid m1
                  clear g1 g2 g4 e0 m1
                  have m1 := M1.out
                  clear M1
                  generalize A[t][x] = ax at *
                  generalize A[t][v] = bt at *
                  have cl3 := below_cell hP cl1
                  have cl4 := below_cell hP cl2
                  have z1 := World.block_lt_of_cell? W4 _ c2
                  have z2 := World.block_lt_of_cell? W4 _ d1
                  have z4 := World.block_lt_of_cell? W4 _ cl3
                  simp only at z1 z2 z4
                  clear hwt
                  go_wp2_with fail
                  refine wp_region_st [.t [0, 1, 2, 3, 4, 5, 6, 7, 8, 9, 10, 11, 12, 13, 14, 15, 16, 17, 18, 19, 20, 21, 22, 23, 24]] [25] (by kernel_rfl) (by kernel_rfl) (fun _ _ _ _ _ h => h) ?_
                  have gl := @grow_lt
                  refine wpX_t ?_
                  try simp only [opsAt, List.getElem?_toArray, List.getElem?_cons_zero, List.getElem?_cons_succ, Option.getD_some]
                  repeat (go_big_quiet_step (fail))
                  refine wpQuiet_nil ?_
                  refine wpX_nil ?_
                  try simp only [opsAt, List.getElem?_toArray, List.getElem?_cons_zero, List.getElem?_cons_succ, Option.getD_some]
                  clear gl
                  go_wp2
                  go_roundw
                  case rel => exact ⟨t + 1, by omega, by go_num, by rw [M2.out], hP.drew⟩
                  case measure => simp [intOf]; try omega
                · obtain rfl : t = A.length := by omega
                  have zr := hQ.size
                  have zr2 := hP.size
                  have ow4 := owns_at ow hP
                  have hQ4 := below_to hQ hP
                  rw [← HM.out]
                  generalize rM A S n r k = gv at *
                  go_wp2_with (at_builtin; refine wpList_app _ rfl _ _ _ rfl W.heap.size 2 1 8 (.int .i64 0) Try.underlying104 info_i64 rfl (by omega) (by omega) _ k _ rfl (ow4.alloc _) (by omega) (by simp; omega) W4.heap.size [.int .i64 gv] (0, 0) rfl (heap_alloc_new W4 _) rfl (by simp [Value.oneCell']) ?_; intro g cap9 w9 hown hg hbw)
                  go_roundw
                  case rel =>
                    refine ⟨k + 1, by omega, by go_num, ?_, (hQ4.alloc (by omega) _).trans hbw⟩
                    rw [HS3.out]
                    simpa [ics] using hown
                  case measure => simp [intOf]; try omega
            · obtain rfl : L = k := by omega
              have zB := hW.size
              have zW := hQ.size
              have om3 := owns_at om hQ
              have ob3 := owns_at ob hQ
              obtain ⟨ad2, cp2, e⟩ := owns_slice ow
              subst e
              have orow := owns_mono ow zB
              have prm : Apart (.slice ad2 L cp2) u10 := fun b h1 h2 => by have := (row_lt om h2).2; have := (row_lt ow h1).1; omega
              have prb : Apart (.slice ad2 L cp2) u11 := fun b h1 h2 => by have := (row_lt ob h2).2; have := (row_lt ow h1).1; omega
              have HB1 := Lib.hid (rB_succ A B c S n r)
              have HCL : Hid (cs.length = r) := by show _ = _; have := om.1; omega
              go_wp2_with (at_builtin; first | (refine wpList_app3 _ rfl _ _ _ rfl y1.heap.size 104 1 24 (.slice none 0 0) Try.underlying122 info_i64s rfl (by omega) (by omega) u10 r _ rfl (om3.alloc _) (by omega) (by simp; omega) W3.heap.size [.slice ad2 L cp2] (0, 0) rfl (heap_alloc_new W3 _) rfl (by simp [Value.oneCell']) ?_; intro g1 cap1 W5 hown1 hg1 hbw1 hk1; have ob5 := hk1.row (ob3.alloc _) pmb.symm; have zW5 := hbw1.size) | (refine wpList_app3 _ rfl _ _ _ rfl y1.heap.size 2 1 8 (.int .i64 0) Try.underlying104 info_i64 rfl (by omega) (by omega) u11 r _ rfl (ob5.alloc _) (by omega) (by simp at zW5 ⊢; omega) W5.heap.size [.int .i64 sv] (0, 0) rfl (heap_alloc_new W5 _) rfl (by simp [Value.oneCell']) ?_; intro g2 cap2 W6 hown2 hg2 hbw2 hk2))
              go_roundw
              case rel =>
                have pbm := hk1.apart (ob3.alloc _) pmb.symm (r + 1) cap1
                refine ⟨r + 1, cs ++ [.slice ad2 L cp2], by omega, by go_num, hk2.row (hown1.alloc _) pbm.symm, fun j hj => ?_, ?_, hk2.apart (hown1.alloc _) pbm.symm _ _, ?_⟩
                · rcases Nat.lt_or_ge j r with h1 | h1
                  · obtain ⟨u, e, ou, a1, a2⟩ := hrows.out j h1
                    have ou3 := owns_at ou hQ
                    have ou5 := hk1.row (ou3.alloc _) a1
                    exact ⟨u, by rw [List.getElem?_append_left (by rw [HCL.out]; exact h1)]; exact e, hk2.row (ou5.alloc _) a2, fun b h1 h2 => hk1.apart (ou3.alloc _) a1 (r + 1) cap1 b h1 h2, hk2.apart (ou5.alloc _) a2 _ _⟩
                  · obtain rfl : j = r := by omega
                    have ou5 := hk1.row (orow.alloc _) prm
                    exact ⟨_, by rw [List.getElem?_append_right (by rw [HCL.out]; exact Nat.le_refl _), HCL.out]; simp, hk2.row (ou5.alloc _) prb, hk1.apart (orow.alloc _) prm _ _, hk2.apart (ou5.alloc _) prb _ _⟩
                · rw [HB1.out, ← HX.out, ← ED.out]
                  simpa [ics] using hown2
                · exact (hW.trans (hQ.mono zB)).trans (((ba1' W3 _ (by omega)).trans hbw1).trans ((ba1' W5 _ (by simp at zW5; omega)).trans hbw2))
              case measure => simp [intOf]; try omega
    · obtain rfl : L = r := by omega
      have L3 : L ≤ 3 := by omega
      have sM : SS W u10 (sqM L (rM A S n)) := by
        have hcl : cs.length = L := by have := om.1; omega
        refine ⟨cs, by rw [sqM_len]; exact hcl, by rw [sqM_len]; exact owns_sl om (by omega), fun i hi hi' => ?_⟩
        have hi2 : i < L := by rw [sqM_len] at hi; exact hi
        obtain ⟨u, e, ou, _⟩ := hrows.out i hi2
        have e2 : cs[i] = u := by simpa [hi'] using e
        rw [e2, sqM_get hi]
        unfold SI
        rw [List.length_map, List.length_range]
        exact owns_sl ou (by omega)
      have sV : SI W u11 (rB A B c S n L) := by
        have h := owns_sl ob (by omega)
        unfold SI; rw [rB_len]; exact h
      have HD : Hid (wrap64 (detF L (sqM L (rM A S n))) = den8 (nG A) S) := by
        show _ = _
        rw [det_sq _ _ L3, HL.out, rM_det n3 HSn.out]
        have := den8_wi HF.out HSn.out
        unfold wi at this
        exact Go.IntWalk.wrap64_in _ (by omega)
      have DB := Lib.hid (den8_wi HF.out HSn.out)
      have DN : Hid (0 ≤ den8 (nG A) S) := den_nn (cel A) A.length h8.out
      have hyW := below_to HY.out hW
      have sU := HU.out.below hW
      have CT := rdet_any L (sqM L (rM A S n)) u10 W (by omega) (sqM_len _ _) sqM_wide sM
      rw [HD.out] at CT
      clear om ob hrows pmb HY HU HA HB OS hW HD
      go_wp2_with fail
      refine CT.mono ?_
      rintro e y3 ⟨rfl, hq⟩
      clear CT
      replace sM := sM.below hq
      replace sV := sV.below hq
      replace sU := sU.below hq
      have hy3 := below_to hyW hq
      clear hyW hq
      by_cases hd : den8 (nG A) S = 0
      · have HV : Hid (ofV A B c S n = ([], false)) := if_pos hd
        rw [hd]
        clear sM sV sU hd DB DN
        go_wp2
        go_ret2
        exact ⟨.slice none 0 0, by rw [HV.out]; try rfl, by rw [HV.out]; exact sf_nil _, hy3⟩
      have HV : Hid (ofV A B c S n = ((List.range n).map (fun k => up (xs8 (cel A) (nb B) A.length c S k)), true)) := if_neg hd
      have qd : (den8 (nG A) S == 0) = false := by simpa using hd
      have DP : Hid (0 < den8 (nG A) S) := by show _ < _; have := DN.out; omega
      clear hd
      obtain ⟨dv, hdv⟩ : ∃ z, z = den8 (nG A) S := ⟨_, rfl⟩
      have HDV := Lib.hid hdv
      rw [← hdv] at qd ⊢
      clear hdv
      have HM := Lib.hid sM
      have HVb := Lib.hid sV
      have HU := Lib.hid sU
      have HY := Lib.hid hy3
      clear sM sV sU hy3
      go_wp2
      clear qd
      go_loopw [20, 21] (fun xv i wr => ∃ k : Nat, k ≤ n ∧ i = .int .i64 k ∧ wr.ownsRow y3.heap.size 39 2 xv k (fcs (List.replicate k (0, 1))) ∧ Below y3.heap.size y3 wr) (fun _ i _ => n - (intOf i).toNat)
      case atStart => exact ⟨0, Nat.zero_le _, rfl, World.ownsRow_nil _ _ _ _, Below.refl _ _⟩
      case round =>
        obtain ⟨k, hk, rfl, ow, hQ⟩ := hrel
        rename World => W2
        by_cases hlk : k < n
        · go_wp2_with fail
          refine (rof_any 0 _).mono ?_
          rintro e y4 ⟨rfl, hq⟩
          replace ow := owns_at ow hq
          replace hQ := below_to hQ hq
          clear hq
          have zr := hQ.size
          go_wp2_with (at_builtin; refine wpList_app _ rfl _ _ _ rfl y3.heap.size 39 2 16 (.agg #[.int .i64 0, .int .i64 0]) Try.underlying26 Try.infoFrac rfl (by omega) (by omega) _ k _ rfl (ow.alloc _) (by omega) (by simp; omega) y4.heap.size [.int .i64 0, .int .i64 1] (0, 0) rfl (heap_alloc_new y4 _) rfl (by simp [Value.oneCell']) ?_; intro g cap2 w9 hown hg hbw)
          go_roundw
          case rel =>
            refine ⟨k + 1, by omega, by go_num, ?_, (hQ.alloc zr _).trans hbw⟩
            rw [List.replicate_succ', fcs_append]; exact hown
          case measure => simp [intOf]; try omega
        · obtain rfl : n = k := by omega
          have n0 : 0 < n := HF.out.cols.1
          have ow' : W2.ownsRow y3.heap.size 39 2 u20 (List.replicate n ((0 : Int), (1 : Int))).length (fcs (List.replicate n (0, 1))) := by rw [List.length_replicate]; exact ow
          obtain ⟨G, cap, rest, e, hG, oG, hc3, hc4, hc5⟩ := owns_open ow' (by rw [List.length_replicate]; exact n0)
          rw [List.length_replicate] at e hc3
          subst e
          unfold maxLen at hc4
          clear ow ow' hc5
          obtain ⟨adm, capm, e, hm1, hm2, _⟩ := (id HM.out).open
          rw [sqM_len] at e hm1 hm2
          subst e
          obtain ⟨adv, capv, e, hv1, hv2, _⟩ := (id HVb.out).open
          rw [rB_len] at e hv1 hv2
          subst e
          go_wp2
          go_loopw [22] (fun i wr => ∃ r : Nat, r ≤ L ∧ i = .int .i64 r ∧ Own wr G 39 (fcs (xpt A B c S n r) ++ rest) ∧ Below y3.heap.size y3 wr) (fun i _ => L - (intOf i).toNat)
          case atStart => exact ⟨0, Nat.zero_le _, rfl, oG, hQ⟩
          case round =>
            clear oG hQ
            obtain ⟨r, hr2, rfl, oG, hQ⟩ := hrel
            rename World => W3
            by_cases hlt2 : r < L
            · have zQ := hQ.size
              have L0 : 0 < L := by omega
              go_wp2
              go_loopw [23, 24] (fun cv i wr => ∃ (k : Nat) (cs : List Value), k ≤ L ∧ i = .int .i64 k ∧ wr.ownsRow W3.heap.size 104 1 cv k cs ∧ Hid (RowsM wr W3.heap.size L 2 (fun j => (List.range L).map fun q => rW A B c S n r j q) cv cv k cs) ∧ Below W3.heap.size W3 wr) (fun _ i _ => L - (intOf i).toNat)
              case atStart => exact ⟨0, [], Nat.zero_le _, rfl, World.ownsRow_nil _ _ _ _, fun j h => absurd h (Nat.not_lt_zero j), Below.refl _ _⟩
              case round =>
                obtain ⟨k, cs, hk2, rfl, ow, hrows, hP⟩ := hrel
                rename World => W4
                by_cases hlk2 : k < L
                · have hWP := below_to hQ hP
                  obtain ⟨_, _, e, _, _, H⟩ := (HM.out.below hWP).open
                  rw [sqM_len] at e
                  cases e
                  obtain ⟨bm, om, ad', cap', rfl, c1, c2, c3, sR⟩ := H.out k (by rw [sqM_len]; exact hlk2)
                  clear H
                  rw [sqM_wide] at c1 c2 c3 sR
                  rw [sqM_get] at sR
                  obtain ⟨_, _, e, _, _, H⟩ := (HVb.out.below hWP).open
                  rw [rB_len] at e
                  cases e
                  obtain ⟨bv, ov, rfl, d2⟩ := H.out k (by rw [rB_len]; exact hlk2)
                  clear H
                  have RW := Lib.hid (rW_row A B c S n L k r hlk2)
                  have sR2 : Sl W4 (.slice ad' L cap') L (ics ((List.range L).map fun j => rM A S n k j)) := by
                    unfold SI at sR
                    rw [List.length_map, List.length_range] at sR
                    exact sR
                  clear sR
                  have hrl : ((List.range L).map fun j => rM A S n k j).length = L := by simp
                  generalize (rB A B c S n L)[k]'(by rw [rB_len]; exact hlk2) = bk at *
                  generalize ((List.range L).map fun j => rM A S n k j) = rowk at *
                  have HRL := Lib.hid hrl
                  clear hrl
                  have zP := hP.size
                  have hB1 : Below W4.heap.size W4 (W4.alloc (.cells #[] 2)) := ba1 W4 _
                  have sR3 := sR2.below hB1
                  have AP : Hid (∀ (T : TypeId) (size n : Nat) (v : Value) (cs : List Value), W4.ownsRow W3.heap.size T size v n cs → Apart v (.slice (some ⟨W4.heap.size, 0, none⟩) 0 0)) := fun _ _ _ _ _ h b h1 h2 => by
                    have := (row_lt h h1).2
                    simp only [Value.ownBlock, Option.some.injEq] at h2
                    omega
                  have z1 := World.block_lt_of_cell? W4 _ c1
                  simp only at z1
                  have HCL : Hid (cs.length = k) := by show _ = _; have := ow.1; omega
                  have hlr : (ics rowk).length = L * 1 := by rw [ics_len, HRL.out]; omega
                  go_wp2_with (at_builtin; first | (refine wpList_apps _ rfl _ _ _ rfl W3.heap.size 2 1 8 (.int .i64 0) Try.underlying104 info_i64 rfl (by omega) (by omega) (.slice (some ⟨W4.heap.size, 0, none⟩) 0 0) 0 [] rfl (own_empty zP (heap_alloc_new W4 _)) (by simp; omega) _ L (ics rowk) rfl sR3 hlr (one_ics _) (by omega) ?_; intro v1 U1 ho1 hk1; rw [Nat.zero_add, List.nil_append] at ho1; have hU1 : Below W4.heap.size W4 U1 := hB1.trans (hk1.below (by simp) (fun b hb => by simp only [Value.ownBlock, Option.some.injEq] at hb; omega)); obtain ⟨g1, cp1, e1⟩ := owns_some ho1 L0; subst e1; obtain ⟨px, ⟨xo, pc⟩, pf, pl, pb⟩ := owns_put (v := bk) ho1 HRL.out hlt2; have d3 := below_cell hU1 d2; have ow1 := hk1.row (ow.alloc _) (AP.out _ _ _ _ _ ow); have prc := hk1.apart (ow.alloc _) (AP.out _ _ _ _ _ ow); have ow2 := owns_oth ow1 (g := g1) (fun b h e => prc b h (by rw [e]; rfl)) r (.int .i64 bk); have zU1 := hU1.size) | (refine wpList_app3 _ rfl _ _ _ rfl W3.heap.size 104 1 24 (.slice none 0 0) Try.underlying122 info_i64s rfl (by omega) (by omega) _ k _ rfl (ow2.alloc _) (by omega) (by simp; omega) U1.heap.size [.slice (some ⟨g1, 0, none⟩) L cp1] (0, 0) rfl (by rw [show U1.heap.size = (U1.setCell ⟨g1, r, none⟩ (.int .i64 bk)).heap.size from by simp]; exact heap_alloc_new _ _) rfl (by simp [Value.oneCell']) ?_; intro g2 cap2 W6 hown2 hg2 hbw2 hk2))
                  refine ⟨⟨k + 1, cs ++ [.slice (some ⟨g1, 0, none⟩) L cp1], by omega, by go_num, hown2, fun j hj => ?_, ?_⟩, by simp [intOf]; try omega⟩
                  · rcases Nat.lt_or_ge j k with h1 | h1
                    · obtain ⟨u, e, ou, a1, _⟩ := hrows.out j h1
                      have u1 := hk1.row (ou.alloc _) (AP.out _ _ _ _ _ ou)
                      have pu := hk1.apart (ou.alloc _) (AP.out _ _ _ _ _ ou)
                      have u2 := owns_oth u1 (g := g1) (fun b h e => pu b h (by rw [e]; rfl)) r (.int .i64 bk)
                      exact ⟨u, by rw [List.getElem?_append_left (by rw [HCL.out]; exact h1)]; exact e, hk2.row (u2.alloc _) a1, hk2.apart (u2.alloc _) a1 _ _, hk2.apart (u2.alloc _) a1 _ _⟩
                    · obtain rfl : j = k := by omega
                      rw [RW.out] at px
                      exact ⟨_, by rw [List.getElem?_append_right (by rw [HCL.out]; exact Nat.le_refl _), HCL.out]; simp, hk2.row (px.alloc _) prc.symm, hk2.apart (px.alloc _) prc.symm _ _, hk2.apart (px.alloc _) prc.symm _ _⟩
                  · exact ((hP.trans (hU1.mono zP)).setCell (p := ⟨g1, r, none⟩) pb _).trans ((ba1' _ _ (by simp; omega)).trans hbw2)
                · obtain rfl : L = k := by omega
                  have sC : SS W4 u23 (sqM L (rW A B c S n r)) := by
                    have hcl : cs.length = L := by have := ow.1; omega
                    refine ⟨cs, by rw [sqM_len]; exact hcl, by rw [sqM_len]; exact owns_sl ow (by omega), fun i hi hi' => ?_⟩
                    have hi2 : i < L := by rw [sqM_len] at hi; exact hi
                    obtain ⟨u, e, ou, _⟩ := hrows.out i hi2
                    have e2 : cs[i] = u := by simpa [hi'] using e
                    rw [e2, sqM_get hi]
                    unfold SI
                    rw [List.length_map, List.length_range]
                    exact owns_sl ou (by omega)
                  have hrL : r < (ins S n).length := by rw [← HL.out]; exact hlt2
                  obtain ⟨x1, x2⟩ := IL.out r hrL
                  have hWP := below_to hQ hP
                  obtain ⟨_, _, e, _, _, H⟩ := (id HU.out).open
                  rw [← HL.out] at e
                  cases e
                  obtain ⟨bl, ol, rfl, cl⟩ := H.out r hrL
                  clear H
                  rw [x1] at cl
                  clear x1
                  have nb8 := num8_wi' HF.out c0 c1 HSn.out (xn (ins S n) r)
                  have db8 := DB.out
                  unfold wi at nb8 db8
                  have HD : Hid (wrap64 (detF L (sqM L (rW A B c S n r))) = num8 (nG A) (nD A B c) S (xn (ins S n) r)) := by
                    show _ = _
                    rw [det_sq _ _ L3, HL.out, rW_num n3 HSn.out hrL]
                    exact Go.IntWalk.wrap64_in _ (by omega)
                  have HK : Hid (fmk (num8 (nG A) (nD A B c) S (xn (ins S n) r)) dv = uf (xs8 (cel A) (nb B) A.length c S (xn (ins S n) r))) := by
                    show _ = _
                    rw [HDV.out]
                    exact fmk_uf DP.out (by omega) (by omega) (by omega)
                  have HXP : Hid (xpt A B c S n (r + 1) = (xpt A B c S n r).set (xn (ins S n) r) (up (xs8 (cel A) (nb B) A.length c S (xn (ins S n) r)))) := rfl
                  have XL := Lib.hid (xpt_len (A := A) (B := B) (c := c) (S := S) (n := n) r)
                  have CT := fun w' (h : SS w' u23 (sqM L (rW A B c S n r))) => rdet_any L (sqM L (rW A B c S n r)) u23 w' (by omega) (sqM_len _ _) sqM_wide h
                  rw [HD.out] at CT
                  have hx64 : i64 (num8 (nG A) (nD A B c) S (xn (ins S n) r)) := ⟨by omega, by omega⟩
                  have hd64 : i64 dv := by rw [HDV.out]; exact ⟨by omega, by omega⟩
                  have X64 := Lib.hid hx64
                  have D64 := Lib.hid hd64
                  clear nb8 db8 hx64 hd64 HD ow hrows
                  generalize num8 (nG A) (nD A B c) S (xn (ins S n) r) = nv at *
                  have oG4 := oG.below hP
                  obtain ⟨xk, hxk⟩ : ∃ z, z = xn (ins S n) r := ⟨_, rfl⟩
                  rw [← hxk] at cl x2 HXP HK
                  clear hxk
                  have g12 := fcs_at (xs := xpt A B c S n r) (k := xk) rest (by rw [XL.out]; exact x2)
                  have hput := fcs_put (xs := xpt A B c S n r) (k := xk) rest (by rw [XL.out]; exact x2) (up (xs8 (cel A) (nb B) A.length c S xk))
                  rw [← HXP.out] at hput
                  have HPUT := Lib.hid hput
                  clear hput
                  obtain ⟨g1, g2⟩ := g12
                  obtain ⟨un, ud, ue, hu⟩ : ∃ un ud ue, uf (xs8 (cel A) (nb B) A.length c S xk) = ⟨un, ud, ue⟩ := ⟨_, _, _, rfl⟩
                  have hu1 : (up (xs8 (cel A) (nb B) A.length c S xk)).1 = un := congrArg FR.n hu
                  have hu2 : (up (xs8 (cel A) (nb B) A.length c S xk)).2 = ud := congrArg FR.d hu
                  have HPU : Hid (((fcs (xpt A B c S n r) ++ rest).set (xk * 2) (.int .i64 un)).set (xk * 2 + 1) (.int .i64 ud) = fcs (xpt A B c S n (r + 1)) ++ rest) := by rw [← hu1, ← hu2]; exact HPUT.out
                  have HK2 : Hid (fmk nv dv = ⟨un, ud, ue⟩) := HK.out.trans hu
                  clear hu hu1 hu2 HPUT HK HXP
                  have hx9 : xk < (xpt A B c S n r).length := by rw [XL.out]; exact x2
                  generalize (xpt A B c S n r)[xk].1 = o1 at *
                  generalize (xpt A B c S n r)[xk].2 = o2 at *
                  clear hx9
                  obtain ⟨LL, hLL⟩ : ∃ z, z = fcs (xpt A B c S n r) ++ rest := ⟨_, rfl⟩
                  rw [← hLL] at g1 g2 oG4 HPU
                  clear hLL XL
                  have CY := Lib.hid cl
                  clear cl
                  have cl : W4.cell? ⟨bl, ol + r, none⟩ = some (.int .i64 (xk : Int)) := below_cell hWP CY.out
                  have kS : (fun W' : World => W'.cell? ⟨bl, ol + r, none⟩ = some (.int .i64 (xk : Int))) W4.drew := cl
                  have mS := fun e => keepW_is (S := fun W' : World => W'.cell? ⟨bl, ol + r, none⟩ = some (.int .i64 (xk : Int))) kS e
                  try simp only at mS
                  go_wp2_with fail
                  refine wp_region_tf (fun W' => ∃ e, W' = keepW (fun W' : World => W'.cell? ⟨bl, ol + r, none⟩ = some (.int .i64 (xk : Int))) W4.drew e) [0, 1, 2, 3, 4, 5, 7] [6, 8] [9, 10, 11] [12, 13] (by kernel_rfl) (by kernel_rfl) (fun _ _ _ _ _ h => h) (keepW_of kS) ?_
                  try simp only [opsAt, List.getElem?_toArray, List.getElem?_cons_zero, List.getElem?_cons_succ, Option.getD_some]
                  repeat (go_big_quiet_step (fail))
                  refine wpQuiet_nil ?_
                  clear mS kS cl
                  refine wpFoK_op rfl rfl (fun K' hK' => ?_)
                  go_simp
                  refine (CT _ (sC.below ((Below.refl _ _).drew))).mono ?_
                  rintro e Y1 ⟨rfl, hq1⟩
                  have hr1 : Below W4.heap.size W4 Y1 := below_to ((Below.refl _ _).drew) hq1
                  refine hK' _ _ (keepW_of (below_cell (below_to hWP hr1) CY.out)) ?_
                  clear hK' K'
                  refine wpFoK_op rfl rfl (fun K' hK' => ?_)
                  go_simp
                  refine (rmake_as nv dv _ _ X64.out D64.out HK2.out).mono ?_
                  rintro e Y2 ⟨rfl, hq2⟩
                  have hq : Below W4.heap.size W4 Y2 := below_to hr1 hq2
                  refine hK' _ _ (keepW_of (below_cell (below_to hWP hq) CY.out)) ?_
                  clear hK' K'
                  refine wpFoK_nil ⟨keepW_of (below_cell (below_to hWP hq) CY.out), ?_⟩
                  repeat (go_big_quiet_step (fail))
                  refine wpQuiet_nil ?_
                  clear hq1 hq2 hr1 sC CT
                  replace oG4 := oG4.below hq
                  have hWQ := below_to hWP hq
                  have o9 := (oG4.set (xk * 2) (.int .i64 un)).set (xk * 2 + 1) (.int .i64 ud)
                  rw [HPU.out] at o9
                  have O9 := Lib.hid o9
                  have hW9 := (below_to hQ (below_to hP hq)).setCell (p := ⟨G, xk * 2, none⟩) hG (.int .i64 un)
                  have hW9b := hW9.setCell (p := ⟨G, xk * 2 + 1, none⟩) hG (.int .i64 ud)
                  clear o9 hW9
                  obtain ⟨rG, fG⟩ := oG4.rules
                  have zG := oG4.lt
                  refine wpFo_op rfl rfl (fun K' hK' => ?_)
                  go_simp
                  refine hK' _ _ (keepW_of (below_cell hWQ CY.out)) ?_
                  clear hK' K'
                  refine wpFo_op rfl rfl (fun K' hK' => ?_)
                  go_simp
                  refine hK' _ _ (keepW_of (below_cell hW9b CY.out)) ?_
                  clear hK' K'
                  refine wpFo_nil ?_
                  go_wp2
                  go_roundw
                  case rel => exact ⟨r + 1, by omega, by go_num, O9.out, hW9b⟩
                  case measure => simp [intOf]; try omega
            · obtain rfl : L = r := by omega
              have hE := xpt_end (A := A) (B := B) (c := c) n3 HSn.out
              rw [← HL.out] at hE
              have XL := xpt_len (A := A) (B := B) (c := c) (S := S) (n := n) L
              have hy9 := below_to HY.out hQ
              rw [hE] at oG XL
              have sX : SF W3 (.slice (some ⟨G, 0, none⟩) n cap) ((List.range n).map fun k => up (xs8 (cel A) (nb B) A.length c S k)) := by
                unfold SF
                rw [XL]
                exact oG.sl cap hc3 (by omega) _ ⟨rest, rfl⟩
              go_wp2
              go_ret2
              exact ⟨_, by rw [HV.out]; try rfl, by rw [HV.out]; exact sX, hy9⟩
end Go.Proofs.Ytfoemacgmehpiaa
