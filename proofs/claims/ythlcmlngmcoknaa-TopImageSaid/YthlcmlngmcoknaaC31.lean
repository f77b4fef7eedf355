/- What is proved here: contracts of functions and plain facts, several texts in one; each one says ahead what it proves, and its conditions. -/
import Derived.Test.YthlcmlngmcoknaaC30
import Derived.Test.YthlcmlngmcoknaaC02
import Derived.Test.YthlcmlngmcoknaaC01
import Derived.RegionTactic
import Derived.ChangeAlike
import Derived.BigRegion
import Derived.IntWalk
import Derived.Deep.DeepCutAuto
import Derived.Test.YthlcmlngmcoknaaC27
/- What is proved here: the contracts of the two closures of sparse.still. Condition: the captured variables hold what the contracts say; a sweep's numbers are not too great. -/
namespace Go.Proofs.Ythlcmlngmcoknaa
open Go.RowKit

theorem spin_any (S k b : Nat) (r : Bool) (w : World) (hS : S < 8) (hk : k < 3) (hc : w.cell? ⟨b, 0, none⟩ = some (.int .i64 S)) (hr : S.testBit k = r) :
    Calls Try.prog 158 #[.int .i64 k, .pointer (some ⟨b, 0, none⟩)] w fun e w' => e = .returned (.bool r) ∧ w = w' := by
  have hb := bit_test hS hk
  rw [hr] at hb
  go_enter Try.func158, Try.ntmps158
  go_wp2
  go_ret
  exact ⟨rfl, rfl⟩
/-- The rows while they are swept. -/
def spart (S : Nat) (f : Nat → Nat → Int) (den : Int) (p r0 c0 i j : Nat) : Int := if i < r0 ∨ (i = r0 ∧ j < c0) then swp S f den p i j else f i j
section
variable {S : Nat} {f : Nat → Nat → Int} {den : Int} {p : Nat}
theorem spart_put (r0 c0 : Nat) : rput (spart S f den p r0 c0) r0 c0 (swp S f den p r0 c0) = spart S f den p r0 (c0 + 1) := by
  funext i j
  unfold rput spart
  by_cases h : i = r0 ∧ j = c0
  · obtain ⟨rfl, rfl⟩ := h
    rw [if_pos ⟨rfl, rfl⟩, if_pos (by omega)]
  · rw [if_neg h]
    by_cases h2 : i < r0 ∨ (i = r0 ∧ j < c0)
    · rw [if_pos h2, if_pos (by omega)]
    · rw [if_neg h2, if_neg (by omega)]
theorem spart_row (r0 : Nat) : rcs (spart S f den p r0 4) = rcs (spart S f den p (r0 + 1) 0) := rcs_congr fun i _ j hj => by
  unfold spart
  by_cases h2 : i < r0 ∨ (i = r0 ∧ j < 4)
  · rw [if_pos h2, if_pos (by omega)]
  · rw [if_neg h2, if_neg (by omega)]
theorem spart_skip (r0 : Nat) (h : ¬ (S.testBit r0 = true ∧ r0 ≠ p)) : spart S f den p r0 0 = spart S f den p (r0 + 1) 0 := by
  funext i j
  unfold spart
  by_cases h2 : i < r0 ∨ (i = r0 ∧ j < 0)
  · rw [if_pos h2, if_pos (by omega)]
  · rw [if_neg h2]
    by_cases h3 : i = r0
    · subst h3
      rw [if_pos (by omega)]
      unfold swp; rw [if_neg h]
    · rw [if_neg (by omega)]
theorem spart_0 : spart S f den p 0 0 = f := by
  funext i j; unfold spart; rw [if_neg (by omega)]
theorem spart_end {n : Nat} (hS : S < 2 ^ n) : rcs (spart S f den p n 0) = rcs (swp S f den p) := rcs_congr fun i _ j _ => by
  unfold spart
  by_cases h2 : i < n ∨ (i = n ∧ j < 0)
  · rw [if_pos h2]
  · rw [if_neg h2]
    unfold swp; rw [if_neg]
    rw [bit_out hS (by omega)]; simp
theorem spart_at {r0 c0 i j : Nat} (h : ¬ (i < r0 ∨ (i = r0 ∧ j < c0)) ∨ i = p) : spart S f den p r0 c0 i j = f i j := by
  unfold spart
  rcases h with h | h
  · rw [if_neg h]
  · subst h
    split
    · exact sw_same f S den i j
    · rfl
theorem sweep_val {x y z u : Int} (h1 : wi 3000000000000000000 (x * y)) (h2 : wi 3000000000000000000 (z * u)) : wrap64 ((wrap64 (wrap64 (x * y) - wrap64 (z * u))).tdiv den) = (x * y - z * u).tdiv den := by
  have e : wrap64 (wrap64 (x * y) - wrap64 (z * u)) = x * y - z * u := by
    rw [wr_sub_l, wr_sub_r]
    exact Go.IntWalk.wrap64_in _ (by unfold wi at h1 h2; omega)
  rw [e]
  have h3 := Int.natAbs_tdiv_le_natAbs (x * y - z * u) den
  exact Go.IntWalk.wrap64_in _ (by unfold wi at h1 h2; omega)
end
theorem Mod.cell {bs : List Nat} {w w' : World} (h : Mod bs w w') {b o : Nat} {v : Value} (hb : b ∉ bs) (hc : w.cell? ⟨b, o, none⟩ = some v) : w'.cell? ⟨b, o, none⟩ = some v := by
  have hl := World.block_lt_of_cell? w _ hc
  rw [← hc]; exact World.cell?_of_block (h.block b hl hb)
theorem Mod.drew {bs : List Nat} {w w' : World} (h : Mod bs w w') : Mod bs w w'.drew := ⟨h.os, h.tape, h.output, h.size, h.block⟩
/-- What a sweep leaves: the rows and the denominator are changed, all other old memory is as it was. -/
def sweep_post (w : World) (bm bd S : Nat) (f : Nat → Nat → Int) (den : Int) (p : Nat) (e : Ending) (w' : World) : Prop :=
  e = .returned (.bool (f p p != 0)) ∧ Own w' bm 186 (rcs (if f p p = 0 then f else swp S f den p)) ∧ Own w' bd 2 [.int .i64 (if f p p = 0 then den else f p p)] ∧ Mod [bm, bd] w w'
set_option maxRecDepth 100000 in
set_option maxHeartbeats 4000000 in
theorem spsw_any (S n p bm bn bi bs bd : Nat) (f : Nat → Nat → Int) (den : Int) (w : World) (hn : n ≤ 3) (hS : S < 2 ^ n) (hp : p < n) (hb : S.testBit p = true)
    (oM : Own w bm 186 (rcs f)) (oD : Own w bd 2 [.int .i64 den]) (hne : bm ≠ bd) (hden : 1 ≤ den) (hok : swOk S f p)
    (cn : w.cell? ⟨bn, 0, none⟩ = some (.int .i64 n)) (ci : w.cell? ⟨bi, 0, none⟩ = some (.func (.func 158) #[] #[.pointer (some ⟨bs, 0, none⟩)])) (cs : w.cell? ⟨bs, 0, none⟩ = some (.int .i64 S))
    (d1 : bn ≠ bm ∧ bn ≠ bd) (d2 : bi ≠ bm ∧ bi ≠ bd) (d3 : bs ≠ bm ∧ bs ≠ bd) :
    Calls Try.prog 159 #[.int .i64 p, .pointer (some ⟨bm, 0, none⟩), .pointer (some ⟨bn, 0, none⟩), .pointer (some ⟨bi, 0, none⟩), .pointer (some ⟨bd, 0, none⟩)] w (sweep_post w bm bd S f den p) := by
  have g0 := rcs_get f (k := p) (l := p) (by omega) (by omega)
  by_cases hz : f p p = 0
  · have HZ := Lib.hid hz
    rw [hz] at g0
    obtain ⟨rM, fM⟩ := oM.rules
    have zM := oM.lt
    go_enter Try.func159, Try.ntmps159
    go_wp2
    refine bodyPost_ret (v := .bool false) (by simp [results, Try.results159, go_sem]) rfl ⟨by rw [HZ.out]; rfl, by rw [if_pos HZ.out]; exact oM, by rw [if_pos HZ.out]; exact oD, Mod.refl _ _⟩
  have q0 : (f p p == 0) = false := by simpa using hz
  have HZ := Lib.hid hz
  have HS := Lib.hid hS
  have HB := Lib.hid hb
  have HK := Lib.hid hok
  have HDen := Lib.hid hden
  have CN := Lib.hid cn
  have CI := Lib.hid ci
  have CS := Lib.hid cs
  clear hz hS hb hok
  have OD := Lib.hid oD
  have OM := Lib.hid oM
  obtain ⟨rM, fM⟩ := oM.rules
  have zM := oM.lt
  go_enter Try.func159, Try.ntmps159
  go_wp2
  clear rM fM zM
  have n1 : bn ∉ [bm, bd] := by simp; exact d1
  have n2 : bi ∉ [bm, bd] := by simp; exact d2
  have n3 : bs ∉ [bm, bd] := by simp; exact d3
  have N1 := Lib.hid n1
  have N2 := Lib.hid n2
  have N3 := Lib.hid n3
  clear n1 n2 n3 d1 d2 d3 cn ci cs g0
  go_loopw [19] (fun i wr => ∃ r : Nat, r ≤ n ∧ i = .int .i64 r ∧ Own wr bm 186 (rcs (spart S f den p r 0)) ∧ Own wr bd 2 [.int .i64 den] ∧ Mod [bm, bd] w wr) (fun i _ => n - (intOf i).toNat)
  case atStart => exact ⟨0, Nat.zero_le _, rfl, by rw [spart_0]; exact oM, oD, Mod.refl _ _⟩
  case round =>
    clear oM oD
    obtain ⟨r, hr, rfl, oM, oD, hM⟩ := hrel
    rename World => W
    by_cases hlt : r < n
    · by_cases he : r = p
      · have q1 : ((r : Int) == (p : Int)) = true := by simp; omega
        have ES : Hid (spart S f den p r 0 = spart S f den p (r + 1) 0) := spart_skip r (by intro h; exact h.2 he)
        clear he
        go_wp2
        go_roundw
        case rel => exact ⟨r + 1, by omega, by go_num, by rw [← ES.out]; exact oM, oD, hM⟩
        case measure => simp [intOf]; try omega
      have q1 : ((r : Int) == (p : Int)) = false := by simp; omega
      have ci := hM.cell N2.out CI.out
      have cs := hM.cell N3.out CS.out
      have S8 := set8 hn HS.out
      by_cases hbr : S.testBit r = true
      case neg =>
        have hbr' : S.testBit r = false := by simpa using hbr
        have ES : Hid (spart S f den p r 0 = spart S f den p (r + 1) 0) := spart_skip r (by rw [hbr']; simp)
        have HB2 := Lib.hid hbr'
        clear hbr hbr'
        go_wp2_with (go_at_call 158; refine (spin_any S r bs false _ S8 (by omega) cs HB2.out).mono ?_; rintro e w9 ⟨rfl, rfl⟩)
        go_roundw
        case rel => exact ⟨r + 1, by omega, by go_num, by rw [← ES.out]; exact oM, oD, hM⟩
        case measure => simp [intOf]; try omega
      have HB2 := Lib.hid hbr
      clear hbr
      have g0 := rcs_get (spart S f den p r 0) (k := r) (l := p) (by omega) (by omega)
      rw [spart_at (by omega)] at g0
      obtain ⟨rM, fM⟩ := oM.rules
      have zM := oM.lt
      go_wp2_with (go_at_call 158; refine (spin_any S r bs true _ S8 (by omega) cs HB2.out).mono ?_; rintro e w9 ⟨rfl, rfl⟩)
      clear rM fM zM g0 ci cs
      go_loopw [36] (fun i wr => ∃ c : Nat, c ≤ 4 ∧ i = .int .i64 c ∧ Own wr bm 186 (rcs (spart S f den p r c)) ∧ Own wr bd 2 [.int .i64 den] ∧ Mod [bm, bd] w wr) (fun i _ => 4 - (intOf i).toNat)
      case atStart => exact ⟨0, Nat.zero_le _, rfl, oM, oD, hM⟩
      case round =>
        clear oM oD hM
        obtain ⟨c, hc, rfl, oM, oD, hM⟩ := hrel
        rename World => W1
        by_cases hc4 : c < 4
        · have g1 := rcs_get (spart S f den p r c) (k := r) (l := c) (by omega) (by omega)
          have g2 := rcs_get (spart S f den p r c) (k := p) (l := c) (by omega) (by omega)
          rw [spart_at (by omega)] at g1
          rw [spart_at (.inr rfl)] at g2
          obtain ⟨k1, k2⟩ := HK.out r (by omega) HB2.out (by omega) c hc4
          have SV : Hid (wrap64 ((wrap64 (wrap64 (f r c * f p p) - wrap64 (f r p * f p c))).tdiv den) = swp S f den p r c) := by
            show _ = _
            rw [sweep_val k1 k2]
            unfold swp
            rw [if_pos ⟨HB2.out, by omega⟩]
          clear k1 k2
          obtain ⟨rM, fM⟩ := oM.rules
          have zM := oM.lt
          obtain ⟨rD, fD⟩ := oD.rules
          have zD := oD.lt
          go_wp2_with fail
          have gl := @grow_lt
          refine wp_region_st [.t [0, 1, 2, 3, 4, 5, 6, 7, 8, 9, 10, 11, 12, 13, 14, 15, 16, 17, 18, 19, 20]] [21] (by kernel_rfl) (by kernel_rfl) (fun _ _ _ _ _ h => h) ?_
          refine wpX_t ?_
          try simp only [opsAt, List.getElem?_toArray, List.getElem?_cons_zero, List.getElem?_cons_succ, Option.getD_some]
          repeat (go_big_quiet_step (fail))
          refine wpQuiet_nil ?_
          refine wpX_nil ?_
          try simp only [opsAt, List.getElem?_toArray, List.getElem?_cons_zero, List.getElem?_cons_succ, Option.getD_some]
          clear gl
          go_wp2
          rw [SV.out]
          go_roundw
          case rel =>
            refine ⟨c + 1, by omega, by go_num, ?_, (oD.drew.other (fun h => hne h.symm) _ _), hM.drew.set (p := ⟨bm, r * 4 + c, none⟩) (by simp) _⟩
            have o2 := oM.drew.set (r * 4 + c) (.int .i64 (swp S f den p r c))
            rw [rcs_set _ (by omega) (by omega), spart_put] at o2
            exact o2
          case measure => simp [intOf]; try omega
        · obtain rfl : c = 4 := by omega
          rw [spart_row] at oM
          go_wp2
          go_roundw
          case rel => exact ⟨r + 1, by omega, by go_num, oM, oD, hM⟩
          case measure => simp [intOf]; try omega
    · obtain rfl : r = n := by omega
      rw [spart_end HS.out] at oM
      have OM2 := Lib.hid oM
      obtain ⟨rD, fD⟩ := oD.rules
      have zD := oD.lt
      go_wp2
      refine bodyPost_ret (v := .bool true) (by simp [results, Try.results159, go_sem]) rfl ⟨by rw [show (f p p != 0) = true by simpa using HZ.out], ?_, ?_, ?_⟩
      · rw [if_neg HZ.out]; exact OM2.out.other hne _ _
      · rw [if_neg HZ.out]; exact oD.set 0 (.int .i64 (f p p))
      · exact hM.set (p := ⟨bd, 0, none⟩) (by simp) _
end Go.Proofs.Ythlcmlngmcoknaa

/- What is proved here: the contract of sparse.normal. Condition: a valid fit that can be read, a cost from 0 to 1000. -/
namespace Go.Proofs.Ythlcmlngmcoknaa
open Go.RowKit

/-- The right sides less the cost, of the unknowns that are there. -/
def dN (A : List (List Int)) (B : List Int) (c : Int) (n i : Nat) : Int := if i < n then nD A B c i else 0
/-- The rows while they are made: the first ones whole, and of the next one so many equations, and so many numbers of one more. -/
def nrow (A : List (List Int)) (B : List Int) (c : Int) (n k r l i j : Nat) : Int :=
  if i < k then sp0 (nG A) (dN A B c n) i j else if i = k then (if j < 3 then (if j < l then qg (cel A) (r + 1) k j else qg (cel A) r k j) else qc (cel A) (nb B) r 0 k) else 0
section
variable {A : List (List Int)} {B : List Int} {c : Int} {n k r l : Nat}
theorem nrow_cell (hl : l < 3) : nrow A B c n k r l k l = qg (cel A) r k l := by
  unfold nrow; rw [if_neg (by omega), if_pos rfl, if_pos hl, if_neg (by omega)]
theorem nrow_put (hl : l < 3) : rput (nrow A B c n k r l) k l (qg (cel A) r k l + cel A r k * cel A r l) = nrow A B c n k r (l + 1) := by
  funext i j
  unfold rput nrow
  by_cases h : i = k ∧ j = l
  · obtain ⟨rfl, rfl⟩ := h
    rw [if_pos ⟨rfl, rfl⟩, if_neg (by omega), if_pos rfl, if_pos hl, if_pos (by omega)]; rfl
  · rw [if_neg h]
    by_cases h1 : i < k
    · rw [if_pos h1, if_pos h1]
    · rw [if_neg h1, if_neg h1]
      by_cases h2 : i = k
      · rw [if_pos h2, if_pos h2]
        by_cases h3 : j < 3
        · rw [if_pos h3, if_pos h3]
          by_cases h4 : j < l
          · rw [if_pos h4, if_pos (by omega)]
          · rw [if_neg h4, if_neg (by omega)]
        · rw [if_neg h3, if_neg h3]
      · rw [if_neg h2, if_neg h2]
theorem nrow_row (hw : ∀ l, n ≤ l → cel A r l = 0) : rcs (nrow A B c n k r n) = rcs (nrow A B c n k r 3) := rcs_congr fun i _ j _ => by
  unfold nrow
  by_cases h1 : i < k
  · rw [if_pos h1, if_pos h1]
  · rw [if_neg h1, if_neg h1]
    by_cases h2 : i = k
    · rw [if_pos h2, if_pos h2]
      by_cases h3 : j < 3
      · rw [if_pos h3, if_pos h3, if_pos h3]
        by_cases h4 : j < n
        · rw [if_pos h4]
        · rw [if_neg h4]
          show _ = qg (cel A) r k j + cel A r k * cel A r j
          rw [hw j (by omega)]; omega
      · rw [if_neg h3, if_neg h3]
    · rw [if_neg h2, if_neg h2]
theorem nrow_side (l : Nat) : nrow A B c n k r l k 3 = qc (cel A) (nb B) r 0 k := by
  unfold nrow; rw [if_neg (by omega), if_pos rfl, if_neg (by omega)]
theorem nrow_next : rcs (rput (nrow A B c n k r 3) k 3 (qc (cel A) (nb B) r 0 k + cel A r k * nb B r)) = rcs (nrow A B c n k (r + 1) 0) := rcs_congr fun i _ j hj => by
  unfold rput nrow
  by_cases h : i = k ∧ j = 3
  · obtain ⟨rfl, rfl⟩ := h
    rw [if_pos ⟨rfl, rfl⟩, if_neg (by omega), if_pos rfl, if_neg (by omega)]
    unfold qc; rw [si_succ]; omega
  · rw [if_neg h]
    by_cases h1 : i < k
    · rw [if_pos h1, if_pos h1]
    · rw [if_neg h1, if_neg h1]
      by_cases h2 : i = k
      · rw [if_pos h2, if_pos h2, if_pos (by omega), if_pos (by omega), if_pos (by omega), if_neg (by omega)]
      · rw [if_neg h2, if_neg h2]
theorem nrow_done (hk : k < n) : rcs (rput (nrow A B c n k A.length 0) k 3 (qc (cel A) (nb B) A.length 0 k - c)) = rcs (nrow A B c n (k + 1) 0 0) := rcs_congr fun i _ j hj => by
  unfold rput nrow
  by_cases h : i = k ∧ j = 3
  · obtain ⟨rfl, rfl⟩ := h
    rw [if_pos ⟨rfl, rfl⟩, if_pos (by omega)]
    unfold sp0; rw [if_neg (by omega)]
    unfold dN; rw [if_pos hk]
    unfold nD qc; omega
  · rw [if_neg h]
    by_cases h1 : i < k
    · rw [if_pos h1, if_pos (by omega)]
    · rw [if_neg h1]
      by_cases h2 : i = k
      · rw [if_pos h2, if_pos (by omega), if_neg (by omega), if_pos (by omega)]
        subst h2
        unfold sp0; rw [if_pos (by omega)]; rfl
      · rw [if_neg h2, if_neg (by omega)]
        by_cases h4 : i = k + 1
        · subst h4
          rw [if_pos rfl]
          by_cases h5 : j < 3
          · rw [if_pos h5, if_neg (by omega)]; rfl
          · rw [if_neg h5]; rfl
        · rw [if_neg h4]
theorem nrow_0 : rcs (nrow A B c n 0 0 0) = rcs fun _ _ => 0 := rcs_congr fun i _ j _ => by
  unfold nrow
  rw [if_neg (by omega)]
  by_cases h4 : i = 0
  · rw [if_pos h4]
    by_cases h5 : j < 3
    · rw [if_pos h5, if_neg (by omega)]; rfl
    · rw [if_neg h5]; rfl
  · rw [if_neg h4]
theorem nrow_end (h : Fit A B n) : rcs (nrow A B c n n 0 0) = rcs (sp0 (nG A) (dN A B c n)) := rcs_congr fun i h3 j hj => by
  unfold nrow
  by_cases h1 : i < n
  · rw [if_pos h1]
  · rw [if_neg h1]
    have e : sp0 (nG A) (dN A B c n) i j = 0 := by
      unfold sp0 dN
      by_cases h5 : j < 3
      · rw [if_pos h5, nG_comm]; exact nG_out h (by omega)
      · rw [if_neg h5, if_neg h1]
    rw [e]
    by_cases h2 : i = n
    · rw [if_pos h2]
      by_cases h5 : j < 3
      · rw [if_pos h5, if_neg (by omega)]; rfl
      · rw [if_neg h5]; rfl
    · rw [if_neg h2]
end
/-- What lies below all changed blocks reads as before. -/
theorem Mod.below_of {bs : List Nat} {w0 w w' : World} (h : Mod bs w w') (hb : Below w0.heap.size w0 w) (hbs : ∀ b ∈ bs, w0.heap.size ≤ b) : Below w0.heap.size w0 w' := h.below hb hbs
def spnorm_post (w : World) (A : List (List Int)) (B : List Int) (c : Int) (n : Nat) (e : Ending) (w' : World) : Prop := e = .returned (.agg (rcs (sp0 (nG A) (dN A B c n))).toArray) ∧ Below w.heap.size w w'
set_option maxRecDepth 100000 in
set_option maxHeartbeats 4000000 in
theorem spnorm_any (A : List (List Int)) (B : List Int) (c : Int) (n : Nat) (va vb : Value) (w : World) (hA : SS w va A) (hB : SI w vb B) (hF : Fit A B n) (hc0 : 0 ≤ c) (hc1 : c ≤ 1000) :
    Calls Try.prog 134 #[.agg #[va, vb], .int .i64 c] w (spnorm_post w A B c n) := by
  have HF := Lib.hid hF
  have ml : A.length ≤ 5 := hF.rows.2
  have m1 : 0 < A.length := hF.rows.1
  have nl : n ≤ 3 := hF.cols.2
  have HR := Lib.hid hF.right
  have hw0 := hF.wide 0 (by omega)
  clear hF
  obtain ⟨ada, capa, rfl, ha1, ha2, _⟩ := hA.open
  obtain ⟨adb, capb, rfl, hb1, hb2, _⟩ := hB.open
  have oS := ((Own.new w 25 [.slice ada A.length capa, .slice adb B.length capb]).alloc (.cells #[.int .i64 0, .int .i64 0, .int .i64 0, .int .i64 0, .int .i64 0, .int .i64 0, .int .i64 0, .int .i64 0, .int .i64 0, .int .i64 0, .int .i64 0, .int .i64 0] 186)).alloc (.cells #[.int .i64 0, .int .i64 0, .int .i64 0, .int .i64 0, .int .i64 0, .int .i64 0, .int .i64 0, .int .i64 0, .int .i64 0, .int .i64 0, .int .i64 0, .int .i64 0] 186)
  have oR := (own_second w 186 [.int .i64 0, .int .i64 0, .int .i64 0, .int .i64 0, .int .i64 0, .int .i64 0, .int .i64 0, .int .i64 0, .int .i64 0, .int .i64 0, .int .i64 0, .int .i64 0] (.cells #[.slice ada A.length capa, .slice adb B.length capb] 25)).alloc (.cells #[.int .i64 0, .int .i64 0, .int .i64 0, .int .i64 0, .int .i64 0, .int .i64 0, .int .i64 0, .int .i64 0, .int .i64 0, .int .i64 0, .int .i64 0, .int .i64 0] 186)
  have oM := own_third w 186 [.int .i64 0, .int .i64 0, .int .i64 0, .int .i64 0, .int .i64 0, .int .i64 0, .int .i64 0, .int .i64 0, .int .i64 0, .int .i64 0, .int .i64 0, .int .i64 0] (.cells #[.slice ada A.length capa, .slice adb B.length capb] 25) (.cells #[.int .i64 0, .int .i64 0, .int .i64 0, .int .i64 0, .int .i64 0, .int .i64 0, .int .i64 0, .int .i64 0, .int .i64 0, .int .i64 0, .int .i64 0, .int .i64 0] 186)
  have hy := ba3 w (.cells #[.slice ada A.length capa, .slice adb B.length capb] 25) (.cells #[.int .i64 0, .int .i64 0, .int .i64 0, .int .i64 0, .int .i64 0, .int .i64 0, .int .i64 0, .int .i64 0, .int .i64 0, .int .i64 0, .int .i64 0, .int .i64 0] 186) (.cells #[.int .i64 0, .int .i64 0, .int .i64 0, .int .i64 0, .int .i64 0, .int .i64 0, .int .i64 0, .int .i64 0, .int .i64 0, .int .i64 0, .int .i64 0, .int .i64 0] 186)
  go_enter Try.func134, Try.ntmps134
  have SA := Lib.hid (hA.below hy)
  have SB' := Lib.hid (hB.below hy)
  obtain ⟨_, _, e, _, _, H⟩ := SA.out.open
  cases e
  obtain ⟨b0, o0, ad0, cap0, rfl, c1, c2, c3, _⟩ := H.out 0 m1
  clear H
  rw [hw0] at c1 c2 c3
  rw [Nat.add_zero] at c1
  have HA0 := Lib.hid hA
  have HB0 := Lib.hid hB
  clear hA hB hw0
  obtain ⟨rS, fS⟩ := oS.rules
  have zS := oS.lt
  go_wp2
  generalize ((w.alloc (.cells #[.slice (some ⟨b0, o0, none⟩) A.length capa, .slice adb B.length capb] 25)).alloc (.cells #[.int .i64 0, .int .i64 0, .int .i64 0, .int .i64 0, .int .i64 0, .int .i64 0, .int .i64 0, .int .i64 0, .int .i64 0, .int .i64 0, .int .i64 0, .int .i64 0] 186)).alloc (.cells #[.int .i64 0, .int .i64 0, .int .i64 0, .int .i64 0, .int .i64 0, .int .i64 0, .int .i64 0, .int .i64 0, .int .i64 0, .int .i64 0, .int .i64 0, .int .i64 0] 186) = y at *
  obtain ⟨z, hz⟩ : ∃ z, z = w.heap.size := ⟨_, rfl⟩
  rw [← hz] at oS oR oM ⊢
  have HZ := Lib.hid hz
  clear hz rS fS zS
  have e0 : rcs (nrow A B c n 0 0 0) = [.int .i64 0, .int .i64 0, .int .i64 0, .int .i64 0, .int .i64 0, .int .i64 0, .int .i64 0, .int .i64 0, .int .i64 0, .int .i64 0, .int .i64 0, .int .i64 0] := by rw [nrow_0]; rfl
  rw [← e0] at oM
  have HY := Lib.hid hy
  have OS := Lib.hid oS
  have OR := Lib.hid oR
  have HWn := Lib.hid (fun r (hr : r < A.length) => HF.out.wide r hr)
  clear hy oS oR e0 c1
  go_loopw [16] (fun i wr => ∃ k : Nat, k ≤ n ∧ i = .int .i64 k ∧ Own wr (z + 1 + 1) 186 (rcs (nrow A B c n k 0 0)) ∧ Mod [z + 1 + 1] y wr) (fun i _ => n - (intOf i).toNat)
  case atStart => exact ⟨0, Nat.zero_le _, rfl, oM, Mod.refl _ _⟩
  case round =>
    clear oM
    obtain ⟨k, hk, rfl, oM, hM⟩ := hrel
    rename World => W
    by_cases hkn : k < n
    · have oS := hM.own OS.out (by simp; omega)
      obtain ⟨rS, fS⟩ := oS.rules
      have zS := oS.lt
      go_wp2
      clear rS fS zS oS
      go_loopw [22] (fun i wr => ∃ r : Nat, r ≤ A.length ∧ i = .int .i64 r ∧ Own wr (z + 1 + 1) 186 (rcs (nrow A B c n k r 0)) ∧ Mod [z + 1 + 1] y wr) (fun i _ => A.length - (intOf i).toNat)
      case atStart => exact ⟨0, Nat.zero_le _, rfl, oM, hM⟩
      case round =>
        clear oM hM
        obtain ⟨r, hr, rfl, oM, hM⟩ := hrel
        rename World => W1
        have hbw : Below w.heap.size w W1 := hM.below HY.out (by intro b hb; rw [← HZ.out]; simp at hb; omega)
        by_cases hlt : r < A.length
        · obtain ⟨_, _, e, _, _, H⟩ := HA0.out.open
          cases e
          obtain ⟨b1, o1, ad', cap', e, d1, d2, d3, sR⟩ := H.out r hlt
          cases e
          clear H
          replace d1 := below_cell hbw d1
          have HO := Lib.hid (fun l hl => HF.out.out (r := r) (l := l) hlt hl)
          have hw := HF.out.wide r hlt
          have C5 := Lib.hid (fun l => HF.out.cel5 (l := l) hlt)
          have CG := Lib.hid (fun k l => HF.out.qg125 (r := r) (by omega) k l)
          have CC := Lib.hid (fun k => HF.out.qc1250 (r := r) (by omega) k)
          have CB := Lib.hid (HF.out.side50 hlt)
          have CE : Hid (∀ k, A[r].getD k 0 = cel A r k) := fun k => by simp [cel, List.getD, hlt]
          have SR := Lib.hid sR
          clear sR
          rw [hw] at d1 d2 d3
          generalize A[r] = row at *
          have SR' : Hid (SI w (.slice ad' n cap') row) := by show SI _ _ _; rw [← hw]; exact SR.out
          have HW := Lib.hid hw
          clear hw SR hbw
          go_wp2
          go_loopw [29] (fun i wr => ∃ l : Nat, l ≤ n ∧ i = .int .i64 l ∧ Own wr (z + 1 + 1) 186 (rcs (nrow A B c n k r l)) ∧ Mod [z + 1 + 1] y wr) (fun i _ => n - (intOf i).toNat)
          case atStart => exact ⟨0, Nat.zero_le _, rfl, oM, hM⟩
          case round =>
            clear oM hM d1
            obtain ⟨l, hl, rfl, oM, hM⟩ := hrel
            rename World => W2
            have hbw : Below w.heap.size w W2 := hM.below HY.out (by intro b hb; rw [← HZ.out]; simp at hb; omega)
            have hsi := SR'.out.below hbw
            have hrl := HW.out
            obtain ⟨_, _, e, _, _, H⟩ := hsi.open
            rw [hrl] at e
            cases e
            have hkr : k < row.length := by omega
            obtain ⟨b2, o2, e2, k1⟩ := H.out k hkr
            have e3 := e2
            subst e3
            rw [← getD_get (d := 0) hkr, CE.out] at k1
            have z1 := World.block_lt_of_cell? W2 _ k1
            simp only at z1
            by_cases hln : l < n
            · have hlr : l < row.length := by omega
              obtain ⟨b3, o3, e4, k2⟩ := H.out l hlr
              cases e4
              rw [← getD_get (d := 0) hlr, CE.out] at k2
              clear H hsi hrl hkr hlr e2
              have g1 := rcs_get (nrow A B c n k r l) (k := k) (l := l) (by omega) (by omega)
              rw [nrow_cell (by omega)] at g1
              have E : Hid (wrap64 (qg (cel A) r k l + wrap64 (cel A r k * cel A r l)) = qg (cel A) r k l + cel A r k * cel A r l) := wr_more (CG.out k l) (C5.out k) (C5.out l) (by decide) (by decide)
              have NP : Hid (rput (nrow A B c n k r l) k l (qg (cel A) r k l + cel A r k * cel A r l) = nrow A B c n k r (l + 1)) := nrow_put (by omega)
              obtain ⟨rM, fM⟩ := oM.rules
              have zM := oM.lt
              go_wp2_with fail
              have gl := @grow_lt
              refine wp_region_st [.t [0, 1, 2, 3, 4, 5, 6, 7, 8, 9, 10, 11, 12, 13]] [14] (by kernel_rfl) (by kernel_rfl) (fun _ _ _ _ _ h => h) ?_
              refine wpX_t ?_
              try simp only [opsAt, List.getElem?_toArray, List.getElem?_cons_zero, List.getElem?_cons_succ, Option.getD_some]
              repeat (go_big_quiet_step (fail))
              refine wpQuiet_nil ?_
              refine wpX_nil ?_
              try simp only [opsAt, List.getElem?_toArray, List.getElem?_cons_zero, List.getElem?_cons_succ, Option.getD_some]
              clear gl
              go_wp2
              rw [E.out]
              go_roundw
              case rel =>
                refine ⟨l + 1, by omega, by go_num, ?_, hM.drew.set (p := ⟨z + 1 + 1, k * 4 + l, none⟩) (by simp) _⟩
                have o2 := oM.drew.set (k * 4 + l) (.int .i64 (qg (cel A) r k l + cel A r k * cel A r l))
                rw [rcs_set _ (by omega) (by omega), NP.out] at o2
                exact o2
              case measure => simp [intOf]; try omega
            · obtain rfl : l = n := by omega
              clear H hsi hrl hkr e2
              rw [nrow_row HO.out] at oM
              have hrB : r < B.length := by rw [HR.out]; exact hlt
              obtain ⟨_, _, e, _, _, H⟩ := (HB0.out.below hbw).open
              cases e
              obtain ⟨b3, o3, e5, k2⟩ := H.out r hrB
              have e6 := e5
              subst e6
              clear H e5
              rw [← nb_get hrB] at k2
              have z2 := World.block_lt_of_cell? W2 _ k2
              simp only at z2
              have g1 := rcs_get (nrow A B c l k r 3) (k := k) (l := 3) (by omega) (by omega)
              rw [nrow_side] at g1
              have E : Hid (wrap64 (qc (cel A) (nb B) r 0 k + wrap64 (cel A r k * nb B r)) = qc (cel A) (nb B) r 0 k + cel A r k * nb B r) := wr_more (CC.out k) (C5.out k) CB.out (by decide) (by decide)
              have NP : Hid (rcs (rput (nrow A B c l k r 3) k 3 (qc (cel A) (nb B) r 0 k + cel A r k * nb B r)) = rcs (nrow A B c l k (r + 1) 0)) := nrow_next
              have oS := hM.own OS.out (by simp; omega)
              generalize nb B r = br at *
              obtain ⟨rM, fM⟩ := oM.rules
              have zM := oM.lt
              obtain ⟨rS, fS⟩ := oS.rules
              have zS := oS.lt
              go_wp2_with fail
              have gl := @grow_lt
              refine wp_region_st [.t [0, 1, 2, 3, 4, 5, 6, 7, 8, 9, 10, 11, 12, 13, 14, 15, 16]] [17] (by kernel_rfl) (by kernel_rfl) (fun _ _ _ _ _ h => h) ?_
              refine wpX_t ?_
              try simp only [opsAt, List.getElem?_toArray, List.getElem?_cons_zero, List.getElem?_cons_succ, Option.getD_some]
              repeat (go_big_quiet_step (fail))
              refine wpQuiet_nil ?_
              refine wpX_nil ?_
              try simp only [opsAt, List.getElem?_toArray, List.getElem?_cons_zero, List.getElem?_cons_succ, Option.getD_some]
              clear gl
              go_wp2
              rw [E.out]
              go_roundw
              case rel =>
                refine ⟨r + 1, by omega, by go_num, ?_, hM.drew.set (p := ⟨z + 1 + 1, k * 4 + 3, none⟩) (by simp) _⟩
                have o2 := oM.drew.set (k * 4 + 3) (.int .i64 (qc (cel A) (nb B) r 0 k + cel A r k * br))
                rw [rcs_set _ (by omega) (by omega), NP.out] at o2
                exact o2
              case measure => simp [intOf]; try omega
        · obtain rfl : r = A.length := by omega
          have g1 := rcs_get (nrow A B c n k A.length 0) (k := k) (l := 3) (by omega) (by omega)
          rw [nrow_side] at g1
          have CC := HF.out.qc1250 (r := A.length) (Nat.le_refl _) k
          have E : Hid (wrap64 (qc (cel A) (nb B) A.length 0 k - c) = qc (cel A) (nb B) A.length 0 k - c) := by
            show _ = _
            exact Go.IntWalk.wrap64_in _ (by unfold wi at CC; omega)
          have NP : Hid (rcs (rput (nrow A B c n k A.length 0) k 3 (qc (cel A) (nb B) A.length 0 k - c)) = rcs (nrow A B c n (k + 1) 0 0)) := nrow_done hkn
          clear CC hbw
          generalize qc (cel A) (nb B) A.length 0 k = qk at *
          obtain ⟨rM, fM⟩ := oM.rules
          have zM := oM.lt
          go_wp2_with fail
          have gl := @grow_lt
          refine wp_region_st [.t [0, 1, 2, 3, 4, 5, 6, 7]] [8] (by kernel_rfl) (by kernel_rfl) (fun _ _ _ _ _ h => h) ?_
          refine wpX_t ?_
          try simp only [opsAt, List.getElem?_toArray, List.getElem?_cons_zero, List.getElem?_cons_succ, Option.getD_some]
          repeat (go_big_quiet_step (fail))
          refine wpQuiet_nil ?_
          refine wpX_nil ?_
          try simp only [opsAt, List.getElem?_toArray, List.getElem?_cons_zero, List.getElem?_cons_succ, Option.getD_some]
          clear gl
          go_wp2
          try rw [E.out]
          go_roundw
          case rel =>
            refine ⟨k + 1, by omega, by go_num, ?_, hM.drew.set (p := ⟨z + 1 + 1, k * 4 + 3, none⟩) (by simp) _⟩
            have o2 := oM.drew.set (k * 4 + 3) (.int .i64 (qk - c))
            rw [rcs_set _ (by omega) (by omega), NP.out] at o2
            exact o2
          case measure => simp [intOf]; try omega
    · obtain rfl : k = n := by omega
      rw [nrow_end HF.out, rcs_is] at oM
      have hbw : Below w.heap.size w W := hM.below HY.out (by intro b hb; rw [← HZ.out]; simp at hb; omega)
      have oR := hM.own OR.out (by simp)
      obtain ⟨rM, fM⟩ := oM.rules
      have zM := oM.lt
      obtain ⟨rR, fR⟩ := oR.rules
      have zR := oR.lt
      go_wp2
      have oz := ((((((((((((oR).set 0 (.int .i64 (sp0 (nG A) (dN A B c k) 0 0))).set 1 (.int .i64 (sp0 (nG A) (dN A B c k) 0 1))).set 2 (.int .i64 (sp0 (nG A) (dN A B c k) 0 2))).set 3 (.int .i64 (sp0 (nG A) (dN A B c k) 0 3))).set 4 (.int .i64 (sp0 (nG A) (dN A B c k) 1 0))).set 5 (.int .i64 (sp0 (nG A) (dN A B c k) 1 1))).set 6 (.int .i64 (sp0 (nG A) (dN A B c k) 1 2))).set 7 (.int .i64 (sp0 (nG A) (dN A B c k) 1 3))).set 8 (.int .i64 (sp0 (nG A) (dN A B c k) 2 0))).set 9 (.int .i64 (sp0 (nG A) (dN A B c k) 2 1))).set 10 (.int .i64 (sp0 (nG A) (dN A B c k) 2 2))).set 11 (.int .i64 (sp0 (nG A) (dN A B c k) 2 3))
      have bz := ((((((((((((hbw).setCell (p := ⟨z + 1, 0, none⟩) (by have h := HZ.out; simp; omega) (.int .i64 (sp0 (nG A) (dN A B c k) 0 0))).setCell (p := ⟨z + 1, 1, none⟩) (by have h := HZ.out; simp; omega) (.int .i64 (sp0 (nG A) (dN A B c k) 0 1))).setCell (p := ⟨z + 1, 2, none⟩) (by have h := HZ.out; simp; omega) (.int .i64 (sp0 (nG A) (dN A B c k) 0 2))).setCell (p := ⟨z + 1, 3, none⟩) (by have h := HZ.out; simp; omega) (.int .i64 (sp0 (nG A) (dN A B c k) 0 3))).setCell (p := ⟨z + 1, 4, none⟩) (by have h := HZ.out; simp; omega) (.int .i64 (sp0 (nG A) (dN A B c k) 1 0))).setCell (p := ⟨z + 1, 5, none⟩) (by have h := HZ.out; simp; omega) (.int .i64 (sp0 (nG A) (dN A B c k) 1 1))).setCell (p := ⟨z + 1, 6, none⟩) (by have h := HZ.out; simp; omega) (.int .i64 (sp0 (nG A) (dN A B c k) 1 2))).setCell (p := ⟨z + 1, 7, none⟩) (by have h := HZ.out; simp; omega) (.int .i64 (sp0 (nG A) (dN A B c k) 1 3))).setCell (p := ⟨z + 1, 8, none⟩) (by have h := HZ.out; simp; omega) (.int .i64 (sp0 (nG A) (dN A B c k) 2 0))).setCell (p := ⟨z + 1, 9, none⟩) (by have h := HZ.out; simp; omega) (.int .i64 (sp0 (nG A) (dN A B c k) 2 1))).setCell (p := ⟨z + 1, 10, none⟩) (by have h := HZ.out; simp; omega) (.int .i64 (sp0 (nG A) (dN A B c k) 2 2))).setCell (p := ⟨z + 1, 11, none⟩) (by have h := HZ.out; simp; omega) (.int .i64 (sp0 (nG A) (dN A B c k) 2 3))
      refine bp_gen' (fun X => Own X (z + 1) 186 _ ∧ Below w.heap.size w X) ⟨oz, bz⟩ ?_
      rintro wz ⟨q1, q2⟩
      obtain ⟨r1, f1⟩ := q1.rules
      clear oz bz
      refine bodyPost_ret (v := .agg (rcs (sp0 (nG A) (dN A B c k))).toArray) (by simp [results, Try.results134, go_sem, r1, rcs_is]) rfl ⟨rfl, q2⟩
end Go.Proofs.Ythlcmlngmcoknaa

/- What is proved here: the contract of sparse.best. Condition: numbers within 3000, numerators and denominator within 200,000,000,000. -/
namespace Go.Proofs.Ythlcmlngmcoknaa
open Go.RowKit

set_option maxRecDepth 100000 in
set_option maxHeartbeats 4000000 in
theorem spbest_any (g : Nat → Nat → Int) (d nu : Nat → Int) (den : Int) (n : Nat) (b : Bool) (w : World) (hn : n ≤ 3) (hg : ∀ k l, wi 3000 (g k l)) (hd : ∀ k, wi 3000 (d k)) (hu : ∀ k, wi 200000000000 (nu k)) (hden : wi 200000000000 den) (hb : bestN g d nu den n = b) :
    Calls Try.prog 136 #[.agg #[.int .i64 (sp0 g d 0 0), .int .i64 (sp0 g d 0 1), .int .i64 (sp0 g d 0 2), .int .i64 (sp0 g d 0 3), .int .i64 (sp0 g d 1 0), .int .i64 (sp0 g d 1 1), .int .i64 (sp0 g d 1 2), .int .i64 (sp0 g d 1 3), .int .i64 (sp0 g d 2 0), .int .i64 (sp0 g d 2 1), .int .i64 (sp0 g d 2 2), .int .i64 (sp0 g d 2 3)], .int .i64 n, .agg #[.int .i64 (nu 0), .int .i64 (nu 1), .int .i64 (nu 2)], .int .i64 den] w fun e w' => e = .returned (.bool b) ∧ Below w.heap.size w w' := by
  subst hb
  have HG := Lib.hid hg
  have HD := Lib.hid hd
  have HU := Lib.hid hu
  have HN := Lib.hid hden
  have e1 : wrap64 (-den) = -den := by refine Go.IntWalk.wrap64_in _ ?_; unfold wi at hden; omega
  have E1 := Lib.hid e1
  clear hg hd hu hden e1
  have oG := (Own.new w 186 [.int .i64 (sp0 g d 0 0), .int .i64 (sp0 g d 0 1), .int .i64 (sp0 g d 0 2), .int .i64 (sp0 g d 0 3), .int .i64 (sp0 g d 1 0), .int .i64 (sp0 g d 1 1), .int .i64 (sp0 g d 1 2), .int .i64 (sp0 g d 1 3), .int .i64 (sp0 g d 2 0), .int .i64 (sp0 g d 2 1), .int .i64 (sp0 g d 2 2), .int .i64 (sp0 g d 2 3)]).alloc (.cells #[.int .i64 (nu 0), .int .i64 (nu 1), .int .i64 (nu 2)] 158)
  have oU := own_second w 158 [.int .i64 (nu 0), .int .i64 (nu 1), .int .i64 (nu 2)] (.cells #[.int .i64 (sp0 g d 0 0), .int .i64 (sp0 g d 0 1), .int .i64 (sp0 g d 0 2), .int .i64 (sp0 g d 0 3), .int .i64 (sp0 g d 1 0), .int .i64 (sp0 g d 1 1), .int .i64 (sp0 g d 1 2), .int .i64 (sp0 g d 1 3), .int .i64 (sp0 g d 2 0), .int .i64 (sp0 g d 2 1), .int .i64 (sp0 g d 2 2), .int .i64 (sp0 g d 2 3)] 186)
  have hy := ba2 w (.cells #[.int .i64 (sp0 g d 0 0), .int .i64 (sp0 g d 0 1), .int .i64 (sp0 g d 0 2), .int .i64 (sp0 g d 0 3), .int .i64 (sp0 g d 1 0), .int .i64 (sp0 g d 1 1), .int .i64 (sp0 g d 1 2), .int .i64 (sp0 g d 1 3), .int .i64 (sp0 g d 2 0), .int .i64 (sp0 g d 2 1), .int .i64 (sp0 g d 2 2), .int .i64 (sp0 g d 2 3)] 186) (.cells #[.int .i64 (nu 0), .int .i64 (nu 1), .int .i64 (nu 2)] 158)
  have HY := Lib.hid hy
  clear hy
  go_enter Try.func136, Try.ntmps136
  go_wp2
  generalize (w.alloc (.cells #[.int .i64 (sp0 g d 0 0), .int .i64 (sp0 g d 0 1), .int .i64 (sp0 g d 0 2), .int .i64 (sp0 g d 0 3), .int .i64 (sp0 g d 1 0), .int .i64 (sp0 g d 1 1), .int .i64 (sp0 g d 1 2), .int .i64 (sp0 g d 1 3), .int .i64 (sp0 g d 2 0), .int .i64 (sp0 g d 2 1), .int .i64 (sp0 g d 2 2), .int .i64 (sp0 g d 2 3)] 186)).alloc (.cells #[.int .i64 (nu 0), .int .i64 (nu 1), .int .i64 (nu 2)] 158) = y at *
  obtain ⟨z, hz⟩ : ∃ z, z = w.heap.size := ⟨_, rfl⟩
  rw [← hz] at oG oU ⊢
  clear hz
  rw [← rcs_is] at oG
  rw [← lcs_is] at oU
  have OG := Lib.hid oG
  have OU := Lib.hid oU
  clear oG oU
  go_loopw [13] (fun i wr => ∃ k : Nat, k ≤ n ∧ i = .int .i64 k ∧ Hid ((List.range k).all (bOk g d nu den n) = true) ∧ Below y.heap.size y wr) (fun i _ => n - (intOf i).toNat)
  case atStart => exact ⟨0, Nat.zero_le _, rfl, rfl, Below.refl _ _⟩
  case round =>
    obtain ⟨k, hk, rfl, hv, hW⟩ := hrel
    rename World => W
    by_cases hlt : k < n
    · have oG := OG.out.below hW
      obtain ⟨rG, fG⟩ := oG.rules
      have zG := oG.lt
      have d0 := rcs_get (sp0 g d) (k := k) (l := 3) (by omega) (by omega)
      rw [sp0_d] at d0
      have EB : Hid (wrap64 (-den * d k) = bsum g d nu den k 0) := by
        have h := bsum_wi HG.out HD.out HU.out HN.out (k := k) 0 (by omega)
        show wrap64 (-den * d k) = -den * d k + 0
        have e : bsum g d nu den k 0 = -den * d k + 0 := rfl
        rw [e] at h
        rw [Go.IntWalk.wrap64_in _ (by unfold wi at h; omega)]; omega
      go_wp2
      rw [E1.out, EB.out]
      clear rG fG oG zG d0 EB
      go_loopw [10, 24] (fun s i wr => ∃ l : Nat, l ≤ n ∧ i = .int .i64 l ∧ s = .int .i64 (bsum g d nu den k l) ∧ Below y.heap.size y wr) (fun _ i _ => n - (intOf i).toNat)
      case atStart => exact ⟨0, Nat.zero_le _, rfl, rfl, hW⟩
      case round =>
        clear hW
        obtain ⟨l, hl, rfl, rfl, hW⟩ := hrel
        rename World => W1
        by_cases hll : l < n
        · have oG := OG.out.below hW
          have oU := OU.out.below hW
          obtain ⟨rG, fG⟩ := oG.rules
          have zG := oG.lt
          obtain ⟨rU, fU⟩ := oU.rules
          have zU := oU.lt
          have u0 := lcs_get nu (k := l) (by omega)
          have g0 := rcs_get (sp0 g d) (k := k) (l := l) (by omega) (by omega)
          rw [sp0_g (by omega)] at g0
          have EB : Hid (wrap64 (bsum g d nu den k l + wrap64 (g k l * nu l)) = bsum g d nu den k (l + 1)) := by
            have h := bsum_wi HG.out HD.out HU.out HN.out (k := k) l (by omega)
            show _ = _
            rw [bsum_succ]
            exact wr_more' h (HG.out k l) (HU.out l) (by decide) (by decide)
          go_wp2_with fail
          have gl := @grow_lt
          refine wp_region_st [.t [0, 1, 2, 3, 4, 5, 6, 7, 8, 9, 10]] [11] (by kernel_rfl) (by kernel_rfl) (fun _ _ _ _ _ h => h) ?_
          refine wpX_t ?_
          try simp only [opsAt, List.getElem?_toArray, List.getElem?_cons_zero, List.getElem?_cons_succ, Option.getD_some]
          repeat (go_big_quiet_step (fail))
          refine wpQuiet_nil ?_
          refine wpX_nil ?_
          try simp only [opsAt, List.getElem?_toArray, List.getElem?_cons_zero, List.getElem?_cons_succ, Option.getD_some]
          clear gl
          go_wp2
          rw [EB.out]
          go_roundw
          case rel => exact ⟨l + 1, by omega, by go_num, rfl, hW.drew⟩
          case measure => simp [intOf]; try omega
        · obtain rfl : l = n := by omega
          have oU := OU.out.below hW
          obtain ⟨rU, fU⟩ := oU.rules
          have zU := oU.lt
          have u0 := lcs_get nu (k := k) (by omega)
          by_cases hz : nu k < 0
          · have HV := Lib.hid (range_not (p := bOk g d nu den l) hlt (by unfold bOk; rw [decide_eq_false (by omega)]; rfl))
            have q1 : decide (nu k < 0) = true := by simpa using hz
            go_wp2
            go_ret
            exact ⟨by unfold bestN; rw [HV.out]; try rfl, below_to HY.out hW⟩
          have q1 : decide (nu k < 0) = false := by simpa using hz
          by_cases hs : bsum g d nu den k l < 0
          · have HV := Lib.hid (range_not (p := bOk g d nu den l) hlt (by unfold bOk; rw [decide_eq_false (p := 0 ≤ bsum g d nu den k l) (by omega), Bool.and_false]))
            have q2 : decide (bsum g d nu den k l < 0) = true := by simpa using hs
            go_wp2
            go_ret
            exact ⟨by unfold bestN; rw [HV.out]; try rfl, below_to HY.out hW⟩
          · have HV := Lib.hid (range_all hv.out (show bOk g d nu den l k = true by unfold bOk; rw [decide_eq_true (p := 0 ≤ bsum g d nu den k l) (by omega), decide_eq_true (p := 0 ≤ nu k) (by omega)]; rfl))
            have q2 : decide (bsum g d nu den k l < 0) = false := by simpa using hs
            clear hv
            go_wp2
            go_roundw
            case rel => exact ⟨k + 1, by omega, by go_num, HV, hW⟩
            case measure => simp [intOf]; try omega
    · obtain rfl : k = n := by omega
      go_wp2
      go_ret
      exact ⟨by unfold bestN; rw [hv.out]; try rfl, below_to HY.out hW⟩
end Go.Proofs.Ythlcmlngmcoknaa
