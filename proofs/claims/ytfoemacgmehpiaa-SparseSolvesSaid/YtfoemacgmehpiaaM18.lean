/- What is proved here: contracts of functions and plain facts, several texts in one; each one says ahead what it proves, and its conditions. -/
import Derived.Test.YtfoemacgmehpiaaM11
import Derived.Test.YtfoemacgmehpiaaM16
import Derived.Test.YtfoemacgmehpiaaM15
import Derived.Test.YtfoemacgmehpiaaM17
import Derived.Test.YtfoemacgmehpiaaM10
/- What is proved here: the contract of sparse.Solve. Condition: a system that can be read, a 64-bit cost. -/
namespace Go.Proofs.Ytfoemacgmehpiaa
open Go.RowKit

/-- What Solve returns: the solution for a cost, its set, and an error. -/
def sSolve (A : List (List Int)) (B : List Int) (c : Int) : List (Int × Int) × Nat × Int := if scheck A B c = 0 then (nsol A B c (A.getD 0 []).length, nS A B c, 0) else ([], 0, scheck A B c)
theorem dN_wi {A : List (List Int)} {B : List Int} {c : Int} {n : Nat} (h : Fit A B n) (h0 : 0 ≤ c) (h1 : c ≤ 1000) (k : Nat) : wi 3000 (dN A B c n k) := by
  unfold dN; split
  · exact nD_wi h h0 h1 k
  · unfold wi; omega
theorem num8_congr {g : Nat → Nat → Int} {d e : Nat → Int} {S : Nat} (hS : S < 8) (h : ∀ i, i < 3 → S.testBit i = true → d i = e i) : num8 g d S = num8 g e S := by
  funext k
  rcases cases8 hS with rfl | rfl | rfl | rfl | rfl | rfl | rfl | rfl
  · rfl
  · have h0 := h 0 (by omega) (by decide)
    rcases k with _ | k <;> simp only [num8, h0]
  · have h1 := h 1 (by omega) (by decide)
    rcases k with _ | _ | k <;> simp only [num8, h1]
  · have h0 := h 0 (by omega) (by decide)
    have h1 := h 1 (by omega) (by decide)
    rcases k with _ | _ | k <;> simp only [num8, h0, h1]
  · have h2 := h 2 (by omega) (by decide)
    rcases k with _ | _ | _ | k <;> simp only [num8, h2]
  · have h0 := h 0 (by omega) (by decide)
    have h2 := h 2 (by omega) (by decide)
    rcases k with _ | _ | _ | k <;> simp only [num8, h0, h2]
  · have h1 := h 1 (by omega) (by decide)
    have h2 := h 2 (by omega) (by decide)
    rcases k with _ | _ | _ | k <;> simp only [num8, h1, h2]
  · have h0 := h 0 (by omega) (by decide)
    have h1 := h 1 (by omega) (by decide)
    have h2 := h 2 (by omega) (by decide)
    rcases k with _ | _ | _ | k <;> simp only [num8, h0, h1, h2]
theorem dN_num {A : List (List Int)} {B : List Int} {c : Int} {n S : Nat} (hn : n ≤ 3) (hS : S < 2 ^ n) : num8 (nG A) (dN A B c n) S = num8 (nG A) (nD A B c) S :=
  num8_congr (set8 hn hS) fun i _ hb => by
    unfold dN
    rcases Nat.lt_or_ge i n with h | h
    · rw [if_pos h]
    · rw [bit_out hS h] at hb; cases hb
theorem dN_best {A : List (List Int)} {B : List Int} {c : Int} {n : Nat} (nu : Nat → Int) (den : Int) : bestN (nG A) (dN A B c n) nu den n = bestN (nG A) (nD A B c) nu den n := by
  unfold bestN
  have h : ∀ k, k ∈ List.range n → bOk (nG A) (dN A B c n) nu den n k = bOk (nG A) (nD A B c) nu den n k := fun k hk => by
    have := List.mem_range.1 hk
    unfold bOk bsum dN
    rw [if_pos this]
  rw [Bool.eq_iff_iff, List.all_eq_true, List.all_eq_true]
  exact ⟨fun hh k hk => by rw [← h k hk]; exact hh k hk, fun hh k hk => by rw [h k hk]; exact hh k hk⟩
theorem spnorm_is {w : World} {A : List (List Int)} {B : List Int} {c : Int} {n : Nat} {e : Ending} {w' : World} (h : spnorm_post w A B c n e w') :
    e = .returned (.agg #[.int .i64 (sp0 (nG A) (dN A B c n) 0 0), .int .i64 (sp0 (nG A) (dN A B c n) 0 1), .int .i64 (sp0 (nG A) (dN A B c n) 0 2), .int .i64 (sp0 (nG A) (dN A B c n) 0 3), .int .i64 (sp0 (nG A) (dN A B c n) 1 0), .int .i64 (sp0 (nG A) (dN A B c n) 1 1), .int .i64 (sp0 (nG A) (dN A B c n) 1 2), .int .i64 (sp0 (nG A) (dN A B c n) 1 3), .int .i64 (sp0 (nG A) (dN A B c n) 2 0), .int .i64 (sp0 (nG A) (dN A B c n) 2 1), .int .i64 (sp0 (nG A) (dN A B c n) 2 2), .int .i64 (sp0 (nG A) (dN A B c n) 2 3)]) ∧ Below w.heap.size w w' := h
set_option maxRecDepth 100000 in
set_option maxHeartbeats 4000000 in
theorem spsolve_any (A : List (List Int)) (B : List Int) (c : Int) (va vb : Value) (w : World) (hA : SS w va A) (hB : SI w vb B) :
    Calls Try.prog 18 #[.agg #[va, vb], .int .i64 c] w (solve_post w (sSolve A B c)) := by
  go_enter Try.func18, Try.ntmps18
  have oS := Own.new w 25 [va, vb]
  have hy := ba1 w (.cells #[va, vb] 25)
  replace hA := hA.below hy
  replace hB := hB.below hy
  obtain ⟨rS, fS⟩ := oS.rules
  have zS := oS.lt
  go_wp2_with fail
  refine (sready_any A B c _ _ _ hA hB).mono ?_
  rintro e y1 ⟨rfl, hq⟩
  clear rS fS zS
  replace oS := oS.below hq
  replace hA := hA.below hq
  replace hB := hB.below hq
  replace hy := below_to hy hq
  clear hq
  obtain ⟨rS, fS⟩ := oS.rules
  have zS := oS.lt
  by_cases h0 : scheck A B c = 0
  case neg =>
    have HV : Hid (sSolve A B c = ([], 0, scheck A B c)) := if_neg h0
    have q0 : (scheck A B c != 0) = true := by simpa using h0
    clear hA hB h0
    go_wp2
    refine bodyPost_ret (v := .tuple #[.slice none 0 0, .int .i64 0, .int .i64 (scheck A B c)]) (by simp [results, Try.results18, go_sem]) rfl ⟨.slice none 0 0, by rw [HV.out]; try rfl, by rw [HV.out]; exact sf_nil _, hy⟩
  have HF := Lib.hid (fit_of (scheck_of h0).1)
  have c0 := (scheck_of h0).2.1
  have c1' := (scheck_of h0).2.2
  have HV : Hid (sSolve A B c = (nsol A B c (A.getD 0 []).length, nS A B c, 0)) := if_pos h0
  rw [h0]
  clear h0
  have hr := HF.out.rows.1
  have n1 := HF.out.cols.1
  have n3 := HF.out.cols.2
  have hw0 := HF.out.wide 0 (by omega)
  obtain ⟨ada, capa, e, ha1, ha2, H⟩ := hA.open
  subst e
  obtain ⟨b, off, ad', cap', rfl, c1, c2, c3, _⟩ := H.out 0 hr
  clear H
  rw [hw0] at c1 c2 c3
  rw [Nat.add_zero] at c1
  have HW0 := Lib.hid hw0
  clear hw0
  generalize (A.getD 0 []).length = n at *
  have rows1 : (0 : Int) < A.length := by omega
  go_wp2_with fail
  refine (spnorm_any A B c n _ _ _ hA hB HF.out c0 c1').mono ?_
  rintro e y2 hp
  obtain ⟨rfl, hq⟩ := spnorm_is hp
  clear hp rS fS zS oS hA hB c1 c2 c3
  replace hy := below_to hy hq
  clear hq
  have oG := Own.new y2 75 [.int .i64 (sp0 (nG A) (dN A B c n) 0 0), .int .i64 (sp0 (nG A) (dN A B c n) 0 1), .int .i64 (sp0 (nG A) (dN A B c n) 0 2), .int .i64 (sp0 (nG A) (dN A B c n) 0 3), .int .i64 (sp0 (nG A) (dN A B c n) 1 0), .int .i64 (sp0 (nG A) (dN A B c n) 1 1), .int .i64 (sp0 (nG A) (dN A B c n) 1 2), .int .i64 (sp0 (nG A) (dN A B c n) 1 3), .int .i64 (sp0 (nG A) (dN A B c n) 2 0), .int .i64 (sp0 (nG A) (dN A B c n) 2 1), .int .i64 (sp0 (nG A) (dN A B c n) 2 2), .int .i64 (sp0 (nG A) (dN A B c n) 2 3)]
  have hW := ba1 y2 (.cells #[.int .i64 (sp0 (nG A) (dN A B c n) 0 0), .int .i64 (sp0 (nG A) (dN A B c n) 0 1), .int .i64 (sp0 (nG A) (dN A B c n) 0 2), .int .i64 (sp0 (nG A) (dN A B c n) 0 3), .int .i64 (sp0 (nG A) (dN A B c n) 1 0), .int .i64 (sp0 (nG A) (dN A B c n) 1 1), .int .i64 (sp0 (nG A) (dN A B c n) 1 2), .int .i64 (sp0 (nG A) (dN A B c n) 1 3), .int .i64 (sp0 (nG A) (dN A B c n) 2 0), .int .i64 (sp0 (nG A) (dN A B c n) 2 1), .int .i64 (sp0 (nG A) (dN A B c n) 2 2), .int .i64 (sp0 (nG A) (dN A B c n) 2 3)] 75)
  have HY := Lib.hid hy
  have NG : Hid (∀ k l, wi 3000 (nG A k l)) := nG_wi HF.out
  have ND : Hid (∀ k, wi 3000 (dN A B c n k)) := dN_wi HF.out c0 c1'
  have K0 := Lib.hid c0
  have K1 := Lib.hid c1'
  clear hy c0 c1'
  go_wp2
  generalize y2.alloc (.cells #[.int .i64 (sp0 (nG A) (dN A B c n) 0 0), .int .i64 (sp0 (nG A) (dN A B c n) 0 1), .int .i64 (sp0 (nG A) (dN A B c n) 0 2), .int .i64 (sp0 (nG A) (dN A B c n) 0 3), .int .i64 (sp0 (nG A) (dN A B c n) 1 0), .int .i64 (sp0 (nG A) (dN A B c n) 1 1), .int .i64 (sp0 (nG A) (dN A B c n) 1 2), .int .i64 (sp0 (nG A) (dN A B c n) 1 3), .int .i64 (sp0 (nG A) (dN A B c n) 2 0), .int .i64 (sp0 (nG A) (dN A B c n) 2 1), .int .i64 (sp0 (nG A) (dN A B c n) 2 2), .int .i64 (sp0 (nG A) (dN A B c n) 2 3)] 75) = y at *
  have HB := Lib.hid (below_to HY.out hW)
  obtain ⟨z, hz⟩ : ∃ z, z = y2.heap.size := ⟨_, rfl⟩
  rw [← hz] at oG ⊢
  clear hz hW HY
  have OG := Lib.hid oG
  clear oG
  go_loopw [28] (fun i wr => ∃ T : Nat, T ≤ 2 ^ n ∧ i = .int .i64 T ∧ Hid (∀ S, S < T → good8 (nG A) (nD A B c) S = false) ∧ Below y.heap.size y wr) (fun i _ => 2 ^ n - (intOf i).toNat)
  case atStart => exact ⟨0, Nat.zero_le _, rfl, fun S hS => absurd hS (Nat.not_lt_zero S), Below.refl _ _⟩
  case round =>
    obtain ⟨T, hT, rfl, hv, hW⟩ := hrel
    rename World => W
    have pw := pow_wrap n3
    by_cases hlt : T < 2 ^ n
    · have t1 : (T : Int) < wrap64 (2 ^ n) := by rw [pw]; omega
      have t2 : decide ((T : Int) < wrap64 (2 ^ n)) = true := by simpa using t1
      have HT := Lib.hid hlt
      have T8 : T < 8 := set8 n3 hlt
      clear hlt pw
      have oG := OG.out.below hW
      obtain ⟨rG, fG⟩ := oG.rules
      have zG := oG.lt
      go_wp2_with fail
      refine (spstill_any A (dN A B c n) n T _ n3 HT.out NG.out ND.out).mono ?_
      rintro e W1 ⟨rfl, hq⟩
      rw [lcs_is]
      clear rG fG zG t1 t2 oG
      replace hW := below_to hW hq
      clear hq
      by_cases hd : den8 (nG A) T = 0
      · have HN : Hid (good8 (nG A) (nD A B c) T = false) := by
          show _ = _
          cases h : good8 (nG A) (nD A B c) T
          · rfl
          · exact absurd hd (good8_iff.1 h).1
        rw [hd]
        clear hd
        go_wp2
        go_roundw
        case rel =>
          refine ⟨T + 1, HT.out, by go_num, fun S hS => ?_, below_to hW (ba1 _ _)⟩
          rcases Nat.lt_or_ge S T with h | h
          · exact hv.out S h
          · obtain rfl : S = T := by omega
            exact HN.out
        case measure => have := HT.out; simp [intOf]; try omega
      · have qd : (den8 (nG A) T == 0) = false := by simpa using hd
        have EN : stN (nG A) (dN A B c n) T = num8 (nG A) (nD A B c) T := by
          rw [← dN_num n3 HT.out]
          funext k; unfold stN; rw [if_neg hd]
        rw [EN]
        have NU : Hid (∀ k, wi 200000000000 (num8 (nG A) (nD A B c) T k)) := num8_wi' HF.out K0.out K1.out HT.out
        have NDen := Lib.hid (den8_wi HF.out HT.out)
        have GI := Lib.hid ((dN_best (n := n) (num8 (nG A) (nD A B c) T) (den8 (nG A) T)).trans (good_is HF.out HT.out hd K0.out))
        clear EN
        have oN := Own.new W1 77 (lcs (num8 (nG A) (nD A B c) T))
        rw [lcs_is] at oN
        have hN := ba1 W1 (.cells #[.int .i64 (num8 (nG A) (nD A B c) T 0), .int .i64 (num8 (nG A) (nD A B c) T 1), .int .i64 (num8 (nG A) (nD A B c) T 2)] 77)
        go_upto_region 10 with fail
        generalize W1.alloc (.cells #[.int .i64 (num8 (nG A) (nD A B c) T 0), .int .i64 (num8 (nG A) (nD A B c) T 1), .int .i64 (num8 (nG A) (nD A B c) T 2)] 77) = W2 at *
        replace hW := below_to hW hN
        obtain ⟨p, hp⟩ : ∃ p, p = W1.heap.size := ⟨_, rfl⟩
        rw [← hp] at oN ⊢
        clear hp hN
        have oG := OG.out.below hW
        obtain ⟨rG, fG⟩ := oG.rules
        have zG := oG.lt
        obtain ⟨rN, fN⟩ := oN.rules
        have zN := oN.lt
        have HD := Lib.hid hd
        clear hd
        by_cases hg : good8 (nG A) (nD A B c) T = true
        case neg =>
          have hg' : good8 (nG A) (nD A B c) T = false := by simpa using hg
          have HN := Lib.hid hg'
          have hb := GI.out.trans hg'
          clear hg hg'
          go_wp2_with fail
          refine (spbest_any (nG A) (dN A B c n) (num8 (nG A) (nD A B c) T) (den8 (nG A) T) n false _ n3 NG.out ND.out NU.out NDen.out hb).mono ?_
          rintro e W3 ⟨rfl, hq⟩
          replace hW := below_to hW hq
          clear hq rG fG zG rN fN zN oG oN hb
          go_wp2
          go_roundw
          case rel =>
            refine ⟨T + 1, HT.out, by go_num, fun S hS => ?_, hW⟩
            rcases Nat.lt_or_ge S T with h | h
            · exact hv.out S h
            · obtain rfl : S = T := by omega
              exact HN.out
          case measure => have := HT.out; simp [intOf]; try omega
        have hb := GI.out.trans hg
        have HS : Hid (nS A B c = T) := nS_is HF.out HT.out hg hv.out
        clear hg
        go_wp2_with fail
        refine (spbest_any (nG A) (dN A B c n) (num8 (nG A) (nD A B c) T) (den8 (nG A) T) n true _ n3 NG.out ND.out NU.out NDen.out hb).mono ?_
        rintro e W3 ⟨rfl, hq⟩
        replace hW := below_to hW hq
        replace oN := oN.below hq
        clear hq rG fG zG rN fN zN oG hb
        have ON := Lib.hid oN
        clear oN
        have MK := mk_fracs n n rfl (by omega)
        have oX := Own.new W3 39 (fcs (List.replicate n (0, 0)))
        have hX := ba1 W3 (.cells (fcs (List.replicate n (0, 0))).toArray 39)
        have HB3 := Lib.hid (below_to HB.out hW)
        go_wp2
        clear MK
        go_loopw [4, 5, 52] (fun x s i wr => ∃ k : Nat, k ≤ n ∧ x = .slice (some ⟨W3.heap.size, 0, none⟩) n n ∧ s = .int .i64 T ∧ i = .int .i64 k ∧ Own wr W3.heap.size 39 (fcs ((nsol A B c n).take k ++ List.replicate (n - k) (0, 0))) ∧ Below W3.heap.size W3 wr) (fun _ _ i _ => n - (intOf i).toNat)
        case atStart => exact ⟨0, Nat.zero_le _, rfl, rfl, rfl, by simpa using oX, hX⟩
        case round =>
          clear oX hX hW
          obtain ⟨k, hk, rfl, rfl, rfl, oX, hX⟩ := hrel
          rename World => W4
          by_cases hkn : k < n
          · obtain ⟨i1, i2⟩ := nsx_make HF.out K0.out K1.out (k := k) (by omega)
            rw [HS.out] at i2
            have I1 := Lib.hid i1
            have I2 := Lib.hid i2
            have NK := NU.out k
            have ND' := NDen.out
            have oN := ON.out.below hX
            have n0 := lcs_get (num8 (nG A) (nD A B c) T) (k := k) (by omega)
            rw [← lcs_is] at oN
            obtain ⟨rN, fN⟩ := oN.rules
            have zN := oN.lt
            clear i1 i2
            go_wp2_with fail
            refine (make_any _ _ _ (by unfold wi at NK; exact ⟨by omega, by omega⟩) (by unfold wi at ND'; exact ⟨by omega, by omega⟩)).mono ?_
            rintro e W5 ⟨rfl, hq⟩
            rw [I2.out]
            have HG := Lib.hid (nsol_get (A := A) (B := B) (c := c) hkn)
            unfold uf
            unfold up at HG
            generalize (nsx A B c k).num = xn at *
            generalize ((nsx A B c k).den : Int) = xd at *
            clear rN fN zN oN n0
            replace oX := oX.below hq
            replace hX := below_to hX hq
            clear hq
            have OX := Lib.hid oX
            obtain ⟨v1, v2, g1, g2⟩ := fcs_some ((nsol A B c n).take k ++ List.replicate (n - k) (0, 0)) k (by have := nsol_len (A := A) (B := B) (c := c) (n := n); simp; omega)
            obtain ⟨rX, fX⟩ := oX.rules
            have zX := oX.lt
            go_wp2
            go_roundw
            case rel =>
              refine ⟨k + 1, by omega, rfl, rfl, by go_num, ?_, ?_⟩
              · have o2 := (OX.out.set (k * 2) (.int .i64 xn)).set (k * 2 + 1) (.int .i64 xd)
                rw [fcs_set _ k (xn, xd), take_fill _ k n _ nsol_len hkn HG.out] at o2
                exact o2
              · repeat (refine Below.setCell ?_ (by simp) _)
                exact hX
            case measure => simp [intOf]; try omega
          · obtain rfl : k = n := by omega
            have hf : SF W4 (.slice (some ⟨W3.heap.size, 0, none⟩) k k) (nsol A B c k) := by
              unfold SF
              rw [nsol_len]
              exact oX.sl (n := k) k (Nat.le_refl _) (by omega) _ ⟨[], by rw [Nat.sub_self, List.take_of_length_le (by rw [nsol_len]; exact Nat.le_refl _)]; simp⟩
            have hB4 := below_to HB3.out hX
            clear oX hX
            go_wp2
            refine bodyPost_ret (v := .tuple #[.slice (some ⟨W3.heap.size, 0, none⟩) k k, .int .i64 T, .int .i64 0]) (by simp [results, Try.results18, go_sem]) rfl ⟨.slice (some ⟨W3.heap.size, 0, none⟩) k k, by rw [HV.out, HS.out]; try rfl, by rw [HV.out]; exact hf, hB4⟩
    · exfalso
      obtain ⟨h1, h2⟩ := nS_spec HF.out K0.out
      have := hv.out (nS A B c) (by omega)
      rw [h2] at this
      cases this
end Go.Proofs.Ytfoemacgmehpiaa
