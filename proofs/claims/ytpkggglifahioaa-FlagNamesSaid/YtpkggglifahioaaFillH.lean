/- What is proved here: the contracts of flag.Drop, of the reference's Drop, and of fringeref13.Same. Condition: slices that can be read, 64-bit integers; at most 100,000 weights. -/
import Derived.Test.YtpkggglifahioaaFillB
import Derived.Test.YtpkggglifahioaaAppend
namespace Go.Proofs.Ytpkggglifahioaa
open Go.RowKit

/-- The error of dropping. -/
def derr (t c : Int) (n : Nat) (ws : List Int) : Int := if mchk t c n ≠ 0 then mchk t c n else if ws.length ≠ n then 8 else if ws.any (· < 0) then 8 else 0
theorem derr_1 {t c : Int} {n : Nat} {ws : List Int} (h : ¬ mchk t c n = 0) : derr t c n ws = mchk t c n := if_pos h
theorem derr_2 {t c : Int} {n : Nat} {ws : List Int} (h : mchk t c n = 0) (h2 : ¬ ws.length = n) : derr t c n ws = 8 := by unfold derr; rw [if_neg (by simp [h]), if_pos h2]
theorem derr_3 {t c : Int} {n : Nat} {ws : List Int} (h : mchk t c n = 0) (h2 : ws.length = n) (k : Nat) (hk : k < ws.length) (h3 : ws[k] < 0) : derr t c n ws = 8 := by
  unfold derr; rw [if_neg (by simp [h]), if_neg (by simp [h2]), if_pos]
  rw [List.any_eq_true]; exact ⟨ws[k], List.getElem_mem hk, by simpa using h3⟩
theorem derr_0 {t c : Int} {n : Nat} {ws : List Int} (h : mchk t c n = 0) (h2 : ws.length = n) (h3 : ∀ k (hk : k < ws.length), ¬ ws[k] < 0) : derr t c n ws = 0 := by
  unfold derr; rw [if_neg (by simp [h]), if_neg (by simp [h2]), if_neg]
  rw [List.any_eq_true]
  rintro ⟨x, hx, hx2⟩
  obtain ⟨k, hk, rfl⟩ := List.getElem_of_mem hx
  exact h3 k hk (by simpa using hx2)
/-- The weights that are left. -/
def dropL (xs : List Bool) (ws : List Int) : List Int := List.zipWith (fun b x => if b then 0 else x) xs ws
def zi (err : Int) (zs : List Int) : List Int := if err = 0 then zs else []
theorem zi_ne {err : Int} {zs : List Int} (h : err ≠ 0) : zi err zs = [] := if_neg h
theorem zi_eq {err : Int} {zs : List Int} (h : err = 0) : zi err zs = zs := if_pos h
theorem si_nil (w : World) : SI w (.slice none 0 0) [] := ⟨none, 0, rfl, Nat.le_refl _, by simp, fun i x hx => by simp at hx⟩
theorem drop_get (xs : List Bool) (ws : List Int) (k : Nat) (h : k < xs.length) (h' : k < ws.length) : (dropL xs ws)[k]? = some (if xs[k] then 0 else ws[k]) := by
  unfold dropL; rw [List.getElem?_zipWith]; simp [h, h']
theorem iv_zero (n : Nat) : iv n (fun _ => 0) = (List.replicate n (0 : Int)).map (Value.int .i64) := by
  apply List.ext_getElem
  · simp [iv]
  · intro i h1 h2; simp [iv]

theorem set_same {α : Type} {l : List α} {k : Nat} {x : α} (h : l[k]? = some x) : l.set k x = l := by
  apply List.ext_getElem?
  intro i
  rw [List.getElem?_set]
  split
  · rename_i e; subst e
    have hk : k < l.length := (List.getElem?_eq_some_iff.1 h).1
    rw [if_pos hk, h]
  · rfl

set_option maxRecDepth 100000 in
set_option maxHeartbeats 6400000 in
theorem drop_any (t c : Int) (v v' : Value) (xs : List Bool) (ws : List Int) (w : World) (h : SB w v xs) (h' : SI w v' ws) :
    Calls Try.prog 30 #[.agg #[.int .i64 t, .int .i64 c, v], v'] w fun e w' =>
      ∃ u, e = .returned (.tuple #[u, .int .i64 (derr t c xs.length ws)]) ∧ SI w' u (zi (derr t c xs.length ws) (dropL xs ws)) ∧ Frv w.heap.size u ∧ Below w.heap.size w w' := by
  have hs := h
  obtain ⟨ad, cap, rfl, q1, q2, q3⟩ := h.open
  obtain ⟨ad', cap', rfl, r1, r2, r3⟩ := h'.open
  clear h h'
  by_cases p1 : mchk t c xs.length = 0
  · have b1 : (mchk t c xs.length != 0) = false := by simp [p1]
    by_cases p2 : ws.length = xs.length
    · have b2 : (((ws.length : Nat) : Int) != ((xs.length : Nat) : Int)) = false := by simp [p2]
      have D3 := Lib.hid (fun k (hk : k < ws.length) h3 => derr_3 p1 p2 k hk h3)
      have D0 := Lib.hid (fun h3 => derr_0 p1 p2 h3)
      have e1 : ws.length ≤ xs.length := by omega
      have e2 : xs.length ≤ ws.length := by omega
      have hws : ws.length ≤ 512 := by
        obtain ⟨m1, m2, m3, m4, m5⟩ := mchk_ok p1
        have := prod_bd m1 m2 m3 m4
        omega
      have hmk := mk_ints ws.length (by omega)
      clear p1 p2
      go_enter Try.func30, Try.ntmps30
      go_wp2_with fail
      refine (mcheck_any _ _ _ xs _ (hs.below (ba1 _ _))).mono ?_
      rintro e w1 ⟨rfl, hb1⟩
      have oM := (Own.new w 24 [.int .i64 t, .int .i64 c, .slice ad xs.length cap]).below hb1
      have hb := below_to (ba1 _ _) hb1
      clear hb1
      obtain ⟨rM, fM⟩ := oM.rules
      have hwm := oM.lt
      go_wp2
      clear hmk rM fM
      go_loopw [26] (fun i wr => ∃ k : Nat, k ≤ ws.length ∧ i = .int .i64 k ∧ Hid (∀ j (hj : j < ws.length), j < k → ¬ ws[j] < 0) ∧ Own wr w.heap.size 24 [.int .i64 t, .int .i64 c, .slice ad xs.length cap] ∧ Own wr w1.heap.size 3 (((dropL xs ws).take k ++ List.replicate (ws.length - k) 0).map (Value.int .i64)) ∧ Below w.heap.size w wr) (fun i _ => ws.length - (intOf i).toNat)
      case atStart => exact ⟨0, Nat.zero_le _, rfl, Lib.hid (fun j _ hj => by omega), oM.alloc _, by have := Own.new w1 3 (iv ws.length (fun _ => 0)); rw [iv_zero] at this ⊢; simpa using this, below_to hb (ba1 _ _)⟩
      case round =>
        clear oM
        obtain ⟨k, hk, rfl, hpos, oM, oO, hbr⟩ := hrel
        obtain ⟨rM, fM⟩ := oM.rules
        have hlen : (dropL xs ws).length = ws.length := by unfold dropL; rw [List.length_zipWith]; omega
        have HLN := Lib.hid hlen
        clear hlen
        by_cases hlt : k < ws.length
        · have hlt' : k < xs.length := by omega
          obtain ⟨b, off, rfl, hc⟩ := q3.out k hlt'
          obtain ⟨b', off', rfl, hc'⟩ := r3.out k hlt
          have hc := below_cell hbr hc
          have hc' := below_cell hbr hc'
          by_cases hneg : ws[k] < 0
          · have HD : Hid (derr t c xs.length ws = 8) := D3.out k hlt hneg
            go_wp2
            go_ret2
            refine ⟨.slice none 0 0, by rw [HD.out]; try rfl, ?_, trivial, hbr⟩
            rw [HD.out, zi_ne (by decide)]; exact si_nil _
          · have HP : Hid (∀ j (hj : j < ws.length), j < k + 1 → ¬ ws[j] < 0) := fun j hj hjk => by
              by_cases e : j = k
              · subst e; exact hneg
              · exact hpos.out j hj (by omega)
            have t5 : wr.cell? ⟨w1.heap.size, k, none⟩ = some (.int .i64 0) := by
              have := oO.rules.1 k
              rw [List.getElem?_map, List.getElem?_append_right (by simp; omega)] at this
              rw [this, List.getElem?_replicate]
              have hm : min k (dropL xs ws).length = k := by rw [HLN.out]; omega
              simp only [List.length_take, hm, Nat.sub_self]
              rw [if_pos (by omega)]; rfl
            have t6 := oO.rules.2
            have hg := drop_get xs ws k hlt' hlt
            by_cases hx : xs[k] = true
            · rw [if_pos hx] at hg
              have HS := fill_set (dropL xs ws) 0 (Value.int .i64) k ws.length HLN.out hlt 0 hg
              have HSS : Hid (((dropL xs ws).take k ++ List.replicate (ws.length - k) 0).map (Value.int .i64) = ((dropL xs ws).take (k + 1) ++ List.replicate (ws.length - (k + 1)) 0).map (Value.int .i64)) := by
                show _ = _
                rw [← HS]
                exact (set_same (by rw [← oO.rules.1 k]; exact t5)).symm
              clear HS hg
              rw [hx] at hc
              go_wp2
              go_roundw
              case rel => exact ⟨k + 1, by omega, by go_num, HP, oM, by rw [← HSS.out]; exact oO, hbr⟩
              case measure => simp [intOf]; omega
            · rw [if_neg hx] at hg
              have HS := Lib.hid (fill_set (dropL xs ws) 0 (Value.int .i64) k ws.length HLN.out hlt ws[k] hg)
              clear hg
              have hx' : xs[k] = false := by simpa using hx
              rw [hx'] at hc
              clear hx hx'
              have hwm2 : ¬ w.heap.size = w1.heap.size := by omega
              go_wp2
              go_roundw
              case rel =>
                refine ⟨k + 1, by omega, by go_num, HP, oM.other (by omega) _ _, ?_, hbr.setCell (by simp; omega) _⟩
                rw [← HS.out]; exact oO.set k _
              case measure => simp [intOf]; omega
        · obtain rfl : k = ws.length := by omega
          have HD : Hid (derr t c xs.length ws = 0) := D0.out (fun j hj => by have := hpos.out j hj hj; omega)
          have HK : Hid ((dropL xs ws).take ws.length ++ List.replicate (ws.length - ws.length) 0 = dropL xs ws) := by
            show _ = _
            rw [List.take_of_length_le (by rw [HLN.out]; exact Nat.le_refl _), Nat.sub_self]; simp
          go_wp2
          go_ret2
          refine ⟨.slice (some ⟨w1.heap.size, 0, none⟩) ws.length ws.length, by rw [HD.out]; try rfl, ?_, hb.size, hbr⟩
          rw [HD.out, zi_eq rfl]
          rw [HK.out] at oO
          have h5 := oO.sl (n := ws.length) ws.length (Nat.le_refl _) (by omega) _ (List.prefix_refl _)
          unfold SI
          rw [HLN.out]
          exact h5
    · have b2 : (((ws.length : Nat) : Int) != ((xs.length : Nat) : Int)) = true := by simp; omega
      have HD := Lib.hid (derr_2 p1 p2)
      clear p1 p2
      go_enter Try.func30, Try.ntmps30
      go_wp2_with fail
      refine (mcheck_any _ _ _ xs _ (hs.below (ba1 _ _))).mono ?_
      rintro e w1 ⟨rfl, hb1⟩
      obtain ⟨c1, f1⟩ := bcell hb1
      have z1 := (hb1).size
      try simp at z1
      try simp at c1
      try simp at f1
      have z1a : w.heap.size < w1.heap.size := by omega
      go_wp2
      go_ret2
      refine ⟨.slice none 0 0, by rw [HD.out]; try rfl, ?_, trivial, below_to (ba1 _ _) hb1⟩
      rw [HD.out, zi_ne (by decide)]; exact si_nil _
  · have b1 : (mchk t c xs.length != 0) = true := by simp [p1]
    have P1 := Lib.hid p1
    have HD := Lib.hid (derr_1 (ws := ws) p1)
    clear p1
    go_enter Try.func30, Try.ntmps30
    go_wp2_with fail
    refine (mcheck_any _ _ _ xs _ (hs.below (ba1 _ _))).mono ?_
    rintro e w1 ⟨rfl, hb1⟩
    go_wp2
    go_ret2
    refine ⟨.slice none 0 0, by rw [HD.out]; try rfl, ?_, trivial, below_to (ba1 _ _) hb1⟩
    rw [HD.out, zi_ne P1.out]; exact si_nil _

set_option maxHeartbeats 3200000 in
theorem same13_any (v v' : Value) (xs ys : List Int) (w : World) (h : SI w v xs) (h' : SI w v' ys) :
    Calls Try.prog 32 #[v, v'] w fun e w' => e = .returned (.bool (decide (xs = ys))) ∧ Below w.heap.size w w' := by
  obtain ⟨ad, cap, rfl, h1, h2, h3⟩ := h.open
  obtain ⟨ad', cap', rfl, h1', h2', h3'⟩ := h'.open
  clear h h'
  by_cases hl : xs.length = ys.length
  · have HL := Lib.hid hl
    have b3 : (((xs.length : Nat) : Int) != ((ys.length : Nat) : Int)) = false := by simp [hl]
    have hl2 : ys.length ≤ xs.length := by omega
    have hl3 : xs.length ≤ ys.length := by omega
    clear hl
    go_enter Try.func32, Try.ntmps32
    go_wp2
    go_loopw [5] (fun i wr => ∃ k : Nat, k ≤ xs.length ∧ i = .int .i64 k ∧ Hid (xs.take k = ys.take k) ∧ Below w.heap.size w wr) (fun i _ => xs.length - (intOf i).toNat)
    case atStart => exact ⟨0, Nat.zero_le _, rfl, Lib.hid rfl, Below.refl _ _⟩
    case round =>
      obtain ⟨k, hk, rfl, hT, hbr⟩ := hrel
      by_cases hlt : k < xs.length
      · have hlt' : k < ys.length := by omega
        obtain ⟨b, off, rfl, hc⟩ := h3.out k hlt
        obtain ⟨b', off', rfl, hc'⟩ := h3'.out k hlt'
        have hc := below_cell hbr hc
        have hc' := below_cell hbr hc'
        have i1 : (0 : Int) ≤ (k : Int) := by omega
        have i2 : (k : Int) < (xs.length : Int) := by omega
        have i3 : (k : Int) < (ys.length : Int) := by omega
        by_cases he : xs[k] = ys[k]
        · have b4 : (xs[k] != ys[k]) = false := by simp [he]
          have HT : Hid (xs.take (k + 1) = ys.take (k + 1)) := by
            show _ = _
            rw [List.take_succ_eq_append_getElem hlt, List.take_succ_eq_append_getElem hlt', hT.out, he]
          clear he hT
          go_wp2
          go_quiet (fail)
          go_wp2
          go_roundw
          case rel => exact ⟨k + 1, by omega, by go_num, HT, bd hbr _⟩
          case measure => simp [intOf]; omega
        · have b4 : (xs[k] != ys[k]) = true := by simpa using he
          have HE : Hid (decide (xs = ys) = false) := by
            show _ = _
            simp only [decide_eq_false_iff_not]
            rintro rfl
            exact he rfl
          clear he hT
          go_wp2
          go_quiet (fail)
          go_wp2
          go_ret
          exact ⟨by rw [HE.out]; try rfl, bd hbr _⟩
      · have HE : Hid (decide (xs = ys) = true) := by
          show _ = _
          have := hT.out
          rw [List.take_of_length_le (by omega), List.take_of_length_le (by omega)] at this
          simpa using this
        go_wp2
        go_ret
        exact ⟨by rw [HE.out]; try rfl, hbr⟩
  · have b3 : (((xs.length : Nat) : Int) != ((ys.length : Nat) : Int)) = true := by simp; omega
    have HE : Hid (decide (xs = ys) = false) := by show _ = _; simp only [decide_eq_false_iff_not]; rintro rfl; exact hl rfl
    clear hl
    go_enter Try.func32, Try.ntmps32
    go_wp2
    go_ret
    exact ⟨by rw [HE.out]; try rfl, Below.refl _ _⟩

set_option maxRecDepth 100000 in
set_option maxHeartbeats 6400000 in
theorem rdrop_any (t c : Int) (v v' : Value) (xs : List Bool) (ws : List Int) (w : World) (h : SB w v xs) (h' : SI w v' ws) (hws : ws.length ≤ 100000) :
    Calls Try.prog 31 #[.agg #[.int .i64 t, .int .i64 c, v], v'] w fun e w' =>
      ∃ u, e = .returned (.tuple #[u, .int .i64 (derr t c xs.length ws)]) ∧ SI w' u (zi (derr t c xs.length ws) (dropL xs ws)) ∧ Frv w.heap.size u ∧ Below w.heap.size w w' := by
  have hs := h
  obtain ⟨ad, cap, rfl, q1, q2, q3⟩ := h.open
  obtain ⟨ad', cap', rfl, r1, r2, r3⟩ := h'.open
  clear h h'
  by_cases p1 : mchk t c xs.length = 0
  · have b1 : (mchk t c xs.length != 0) = false := by simp [p1]
    by_cases p2 : ws.length = xs.length
    · have b2 : (((ws.length : Nat) : Int) != ((xs.length : Nat) : Int)) = false := by simp [p2]
      have D3 := Lib.hid (fun k (hk : k < ws.length) h3 => derr_3 p1 p2 k hk h3)
      have D0 := Lib.hid (fun h3 => derr_0 p1 p2 h3)
      have e1 : ws.length ≤ xs.length := by omega
      have e2 : xs.length ≤ ws.length := by omega
      clear p1 p2
      go_enter Try.func31, Try.ntmps31
      go_wp2_with fail
      refine (rmcheck_any _ _ _ xs _ (hs.below (ba1 _ _))).mono ?_
      rintro e w1 ⟨rfl, hb1⟩
      have oM := (Own.new w 24 [.int .i64 t, .int .i64 c, .slice ad xs.length cap]).below hb1
      have hb := below_to (ba1 _ _) hb1
      clear hb1
      obtain ⟨rM, fM⟩ := oM.rules
      have hwm := oM.lt
      go_wp2
      clear rM fM
      go_loopw [6, 7] (fun ov i wr => ∃ k : Nat, k ≤ ws.length ∧ i = .int .i64 k ∧ Hid (∀ j (hj : j < ws.length), j < k → ¬ ws[j] < 0) ∧ Own wr w.heap.size 24 [.int .i64 t, .int .i64 c, .slice ad xs.length cap] ∧ wr.ownsRow (w.heap.size + 1) 3 1 ov k (((dropL xs ws).take k).map (Value.int .i64)) ∧ Below w.heap.size w wr) (fun _ i _ => ws.length - (intOf i).toNat)
      case atStart => exact ⟨0, Nat.zero_le _, rfl, Lib.hid (fun j _ hj => by omega), oM, World.ownsRow_nil _ _ _ _, hb⟩
      case round =>
        clear oM
        obtain ⟨k, hk, rfl, hpos, oM, oO, hbr⟩ := hrel
        obtain ⟨rM, fM⟩ := oM.rules
        have hlen : (dropL xs ws).length = ws.length := by unfold dropL; rw [List.length_zipWith]; omega
        have HLN := Lib.hid hlen
        clear hlen
        have hrl := oM.lt
        by_cases hlt : k < ws.length
        · have hlt' : k < xs.length := by omega
          obtain ⟨b, off, rfl, hc⟩ := q3.out k hlt'
          obtain ⟨b', off', rfl, hc'⟩ := r3.out k hlt
          have hc := below_cell hbr hc
          have hc' := below_cell hbr hc'
          by_cases hneg : ws[k] < 0
          · have HD : Hid (derr t c xs.length ws = 8) := D3.out k hlt hneg
            go_wp2
            go_ret2
            refine ⟨.slice none 0 0, by rw [HD.out]; try rfl, ?_, trivial, hbr⟩
            rw [HD.out, zi_ne (by decide)]; exact si_nil _
          · have HP : Hid (∀ j (hj : j < ws.length), j < k + 1 → ¬ ws[j] < 0) := fun j hj hjk => by
              by_cases e : j = k
              · subst e; exact hneg
              · exact hpos.out j hj (by omega)
            have hg := drop_get xs ws k hlt' hlt
            by_cases hx : xs[k] = true
            · rw [if_pos hx] at hg
              have HZ : Hid (((dropL xs ws).take (k + 1)).map (Value.int .i64) = ((dropL xs ws).take k).map (Value.int .i64) ++ [.int .i64 0]) := by
                show _ = _
                rw [List.take_add_one, hg]; simp
              clear hg
              rw [hx] at hc
              go_wp2_with (at_builtin; refine wpList_app _ rfl _ _ _ rfl (w.heap.size + 1) 3 1 8 (.int .i64 0) Try.underlying50 Try.infoInt rfl (by omega) (by omega) _ k _ rfl (oO.alloc _) (by omega) (by simp; omega) wr.heap.size [.int .i64 0] (0, 0) rfl (heap_alloc_new wr _) rfl (by simp [Value.oneCell']) ?_; intro g cap w2 hown hg hbw)
              go_roundw
              case rel =>
                refine ⟨k + 1, by omega, by go_num, HP, (oM.alloc _).at hbw (by omega), by rw [HZ.out]; exact hown, ?_⟩
                exact (below_to hbr (ba1 wr _)).trans (hbw.mono (B' := w.heap.size) (by omega))
              case measure => simp [intOf]; omega
            · rw [if_neg hx] at hg
              have HZ : Hid (((dropL xs ws).take (k + 1)).map (Value.int .i64) = ((dropL xs ws).take k).map (Value.int .i64) ++ [.int .i64 ws[k]]) := by
                show _ = _
                rw [List.take_add_one, hg]; simp
              clear hg
              have hx' : xs[k] = false := by simpa using hx
              rw [hx'] at hc
              clear hx hx'
              go_wp2_with (at_builtin; refine wpList_app _ rfl _ _ _ rfl (w.heap.size + 1) 3 1 8 (.int .i64 0) Try.underlying50 Try.infoInt rfl (by omega) (by omega) _ k _ rfl (oO.alloc _) (by omega) (by simp; omega) wr.heap.size [.int .i64 ws[k]] (0, 0) rfl (heap_alloc_new wr _) rfl (by simp [Value.oneCell']) ?_; intro g cap w2 hown hg hbw)
              go_roundw
              case rel =>
                refine ⟨k + 1, by omega, by go_num, HP, (oM.alloc _).at hbw (by omega), by rw [HZ.out]; exact hown, ?_⟩
                exact (below_to hbr (ba1 wr _)).trans (hbw.mono (B' := w.heap.size) (by omega))
              case measure => simp [intOf]; omega
        · obtain rfl : k = ws.length := by omega
          have HD : Hid (derr t c xs.length ws = 0) := D0.out (fun j hj => by have := hpos.out j hj hj; omega)
          have hsl := owns_sl oO (by omega)
          have hfr := owns_frv oO
          rw [List.take_of_length_le (by rw [HLN.out]; exact Nat.le_refl _)] at hsl
          clear oO
          go_wp2
          go_ret2
          refine ⟨_, by rw [HD.out]; try rfl, ?_, hfr.mono (by omega), hbr⟩
          rw [HD.out, zi_eq rfl]
          unfold SI
          rw [HLN.out]
          exact hsl
    · have b2 : (((ws.length : Nat) : Int) != ((xs.length : Nat) : Int)) = true := by simp; omega
      have HD := Lib.hid (derr_2 p1 p2)
      clear p1 p2
      go_enter Try.func31, Try.ntmps31
      go_wp2_with fail
      refine (rmcheck_any _ _ _ xs _ (hs.below (ba1 _ _))).mono ?_
      rintro e w1 ⟨rfl, hb1⟩
      obtain ⟨c1, f1⟩ := bcell hb1
      have z1 := (hb1).size
      try simp at z1
      try simp at c1
      try simp at f1
      have z1a : w.heap.size < w1.heap.size := by omega
      go_wp2
      go_ret2
      refine ⟨.slice none 0 0, by rw [HD.out]; try rfl, ?_, trivial, below_to (ba1 _ _) hb1⟩
      rw [HD.out, zi_ne (by decide)]; exact si_nil _
  · have b1 : (mchk t c xs.length != 0) = true := by simp [p1]
    have P1 := Lib.hid p1
    have HD := Lib.hid (derr_1 (ws := ws) p1)
    clear p1
    go_enter Try.func31, Try.ntmps31
    go_wp2_with fail
    refine (rmcheck_any _ _ _ xs _ (hs.below (ba1 _ _))).mono ?_
    rintro e w1 ⟨rfl, hb1⟩
    obtain ⟨c1, f1⟩ := bcell hb1
    have z1 := (hb1).size
    try simp at z1
    try simp at c1
    try simp at f1
    have z1a : w.heap.size < w1.heap.size := by omega
    go_wp2_with fail
    refine (rmcheck_any _ _ _ xs _ (hs.below (below_to (ba1 _ _) hb1))).mono ?_
    rintro e w2 ⟨rfl, hb2⟩
    go_wp2
    go_ret2
    refine ⟨.slice none 0 0, by rw [HD.out]; try rfl, ?_, trivial, below_to (below_to (ba1 _ _) hb1) hb2⟩
    rw [HD.out, zi_ne P1.out]; exact si_nil _

end Go.Proofs.Ytpkggglifahioaa
