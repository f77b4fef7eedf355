/- What is proved here: contracts of functions and plain facts, several texts in one; each one says ahead what it proves, and its conditions. -/
import Derived.Test.YthlcmlngmcoknaaC13
import Derived.Test.YthlcmlngmcoknaaC06
import Derived.Test.YthlcmlngmcoknaaC01
import Derived.Test.YthlcmlngmcoknaaC24
import Derived.Test.YthlcmlngmcoknaaC11
import Derived.RegionTactic
import Derived.ChangeAlike
import Derived.BigRegion
import Derived.Deep.DeepCutAuto
/- What is proved here: the contract of clean.Model. Condition: a log that can be read. -/
namespace Go.Proofs.Ythlcmlngmcoknaa
open Go.RowKit

/-- The cells of a square of eight by eight numbers. -/
def scs (F : Nat → Nat → Int) : List Value := (List.range 64).map fun p => .int .i64 (F (p / 8) (p % 8))
theorem scs_len (F : Nat → Nat → Int) : (scs F).length = 64 := by simp [scs]
theorem scs_get (F : Nat → Nat → Int) {k l : Nat} (hk : k < 8) (hl : l < 8) : (scs F)[k * 8 + l]? = some (.int .i64 (F k l)) := by
  have h1 : (k * 8 + l) / 8 = k := by omega
  have h2 : (k * 8 + l) % 8 = l := by omega
  have h3 : k * 8 + l < 64 := by omega
  simp [scs, h1, h2, h3]
theorem scs_set (F : Nat → Nat → Int) {k l : Nat} (hk : k < 8) (hl : l < 8) (v : Int) : (scs F).set (k * 8 + l) (.int .i64 v) = scs (tput F k l v) := by
  refine List.ext_getElem? fun i => ?_
  rw [List.getElem?_set]
  by_cases hi : i < 64
  · by_cases h : k * 8 + l = i
    · subst h
      rw [if_pos rfl, if_pos (by rw [scs_len]; omega), scs_get _ hk hl]
      unfold tput
      rw [if_pos ⟨rfl, rfl⟩]
    · rw [if_neg h]
      have h1 : i = i / 8 * 8 + i % 8 := by omega
      rw [h1, scs_get F (by omega) (by omega), scs_get _ (by omega) (by omega)]
      unfold tput
      rw [if_neg (by omega)]
  · rw [if_neg (by omega), List.getElem?_eq_none (by rw [scs_len]; omega), List.getElem?_eq_none (by rw [scs_len]; omega)]
theorem scs_congr {F G : Nat → Nat → Int} (h : ∀ i j, F i j = G i j) : scs F = scs G := by rw [show F = G from funext fun i => funext fun j => h i j]
theorem cell_take {l : List T3} {k : Nat} (hk : k < l.length) (x y : Int) : cellN (l.take (k + 1)) x y = cellN (l.take k) x y + (if l[k].x = x ∧ l[k].y = y then l[k].f else 0) := sum_snoc _ hk
theorem cell_put {l : List T3} {k : Nat} (hk : k < l.length) {px py : Nat} (hx : l[k].x = px) (hy : l[k].y = py) (i j : Nat) :
    tput (fun i j => cellN (l.take k) (j : Nat) (i : Nat)) py px (cellN (l.take k) px py + l[k].f) i j = cellN (l.take (k + 1)) (j : Nat) (i : Nat) := by
  rw [cell_take hk]
  unfold tput
  by_cases h : i = py ∧ j = px
  · rw [if_pos h, h.1, h.2, if_pos ⟨hx, hy⟩]
  · rw [if_neg h, if_neg (by rw [hx, hy]; omega)]; exact (Int.add_zero _).symm
theorem cell_bd {n : Nat} {l : List T3} (h : LogN n l) (k : Nat) (x y : Int) : -100000000000 ≤ cellN (l.take k) x y ∧ cellN (l.take k) x y ≤ 100000000000 := by
  have h1 := sum_bd (L := l.take k) (g := fun s : T3 => if s.x = x ∧ s.y = y then s.f else 0) (b := 1000000000) fun s hs => by
    have := h.2.2 s (List.mem_of_mem_take hs)
    show -_ ≤ (if _ then _ else _) ∧ (if _ then _ else _) ≤ _
    split <;> omega
  have h2 : (l.take k).length ≤ 100 := by have := h.1; rw [List.length_take]; omega
  unfold cellN
  omega
set_option maxHeartbeats 4000000 in
theorem model1_any (F : Nat → Nat → Int) (bS y x : Nat) (w : World) (oS : Own w bS 135 (scs F)) (hy : y < 8) (hx : x < 8) :
    Calls Try.prog 90 #[.int .i64 x, .int .i64 y, .pointer (some ⟨bS, 0, none⟩)] w fun e w' => e = .returned (.int .i64 (F y x)) ∧ Below w.heap.size w w' := by
  obtain ⟨rS, fS⟩ := oS.rules
  have zS := oS.lt
  have g1 := (rS (y * 8 + x)).trans (scs_get F hy hx)
  clear rS
  generalize F y x = z at *
  go_enter Try.func90, Try.ntmps90
  go_wp2
  go_ret
  exact ⟨rfl, Below.refl _ _⟩
set_option maxRecDepth 100000 in
set_option maxHeartbeats 16000000 in
theorem model_any (n : Nat) (l : List T3) (vl : Value) (w : World) (n1 : 1 ≤ n) (n8 : n ≤ 8) (hl : ST w vl l) (hg : LogN n l) :
    Calls Try.prog 39 #[.int .i64 n, vl] w (cells_post w n (fun y x => cellN l x y)) := by
  have HG := Lib.hid hg
  obtain ⟨adl, capl, rfl, hl1, hl2, _⟩ := hl.open
  have b1 : decide ((n : Int) < 1) = false := by simp; omega
  have b2 : decide (8 < (n : Int)) = false := by simp; omega
  clear hg
  go_enter Try.func39, Try.ntmps39
  go_wp2_with fail
  refine (isLog_any n l _ _ hl HG.out).mono ?_
  rintro e y1 ⟨rfl, hy⟩
  have L0 := Lib.hid (hl.below hy)
  clear hl
  have oS := Own.new y1 135 [.int .i64 0, .int .i64 0, .int .i64 0, .int .i64 0, .int .i64 0, .int .i64 0, .int .i64 0, .int .i64 0, .int .i64 0, .int .i64 0, .int .i64 0, .int .i64 0, .int .i64 0, .int .i64 0, .int .i64 0, .int .i64 0, .int .i64 0, .int .i64 0, .int .i64 0, .int .i64 0, .int .i64 0, .int .i64 0, .int .i64 0, .int .i64 0, .int .i64 0, .int .i64 0, .int .i64 0, .int .i64 0, .int .i64 0, .int .i64 0, .int .i64 0, .int .i64 0, .int .i64 0, .int .i64 0, .int .i64 0, .int .i64 0, .int .i64 0, .int .i64 0, .int .i64 0, .int .i64 0, .int .i64 0, .int .i64 0, .int .i64 0, .int .i64 0, .int .i64 0, .int .i64 0, .int .i64 0, .int .i64 0, .int .i64 0, .int .i64 0, .int .i64 0, .int .i64 0, .int .i64 0, .int .i64 0, .int .i64 0, .int .i64 0, .int .i64 0, .int .i64 0, .int .i64 0, .int .i64 0, .int .i64 0, .int .i64 0, .int .i64 0, .int .i64 0]
  have hS := ba1 y1 (.cells #[.int .i64 0, .int .i64 0, .int .i64 0, .int .i64 0, .int .i64 0, .int .i64 0, .int .i64 0, .int .i64 0, .int .i64 0, .int .i64 0, .int .i64 0, .int .i64 0, .int .i64 0, .int .i64 0, .int .i64 0, .int .i64 0, .int .i64 0, .int .i64 0, .int .i64 0, .int .i64 0, .int .i64 0, .int .i64 0, .int .i64 0, .int .i64 0, .int .i64 0, .int .i64 0, .int .i64 0, .int .i64 0, .int .i64 0, .int .i64 0, .int .i64 0, .int .i64 0, .int .i64 0, .int .i64 0, .int .i64 0, .int .i64 0, .int .i64 0, .int .i64 0, .int .i64 0, .int .i64 0, .int .i64 0, .int .i64 0, .int .i64 0, .int .i64 0, .int .i64 0, .int .i64 0, .int .i64 0, .int .i64 0, .int .i64 0, .int .i64 0, .int .i64 0, .int .i64 0, .int .i64 0, .int .i64 0, .int .i64 0, .int .i64 0, .int .i64 0, .int .i64 0, .int .i64 0, .int .i64 0, .int .i64 0, .int .i64 0, .int .i64 0, .int .i64 0] 135)
  go_upto_region 6 with fail
  obtain ⟨bS, hbS⟩ : ∃ B, B = y1.heap.size := ⟨_, rfl⟩
  rw [← hbS] at oS ⊢
  have hle : y1.heap.size ≤ bS := by omega
  clear hbS
  generalize y1.alloc (.cells #[.int .i64 0, .int .i64 0, .int .i64 0, .int .i64 0, .int .i64 0, .int .i64 0, .int .i64 0, .int .i64 0, .int .i64 0, .int .i64 0, .int .i64 0, .int .i64 0, .int .i64 0, .int .i64 0, .int .i64 0, .int .i64 0, .int .i64 0, .int .i64 0, .int .i64 0, .int .i64 0, .int .i64 0, .int .i64 0, .int .i64 0, .int .i64 0, .int .i64 0, .int .i64 0, .int .i64 0, .int .i64 0, .int .i64 0, .int .i64 0, .int .i64 0, .int .i64 0, .int .i64 0, .int .i64 0, .int .i64 0, .int .i64 0, .int .i64 0, .int .i64 0, .int .i64 0, .int .i64 0, .int .i64 0, .int .i64 0, .int .i64 0, .int .i64 0, .int .i64 0, .int .i64 0, .int .i64 0, .int .i64 0, .int .i64 0, .int .i64 0, .int .i64 0, .int .i64 0, .int .i64 0, .int .i64 0, .int .i64 0, .int .i64 0, .int .i64 0, .int .i64 0, .int .i64 0, .int .i64 0, .int .i64 0, .int .i64 0, .int .i64 0, .int .i64 0] 135) = y2 at *
  have EZ : ([.int .i64 0, .int .i64 0, .int .i64 0, .int .i64 0, .int .i64 0, .int .i64 0, .int .i64 0, .int .i64 0, .int .i64 0, .int .i64 0, .int .i64 0, .int .i64 0, .int .i64 0, .int .i64 0, .int .i64 0, .int .i64 0, .int .i64 0, .int .i64 0, .int .i64 0, .int .i64 0, .int .i64 0, .int .i64 0, .int .i64 0, .int .i64 0, .int .i64 0, .int .i64 0, .int .i64 0, .int .i64 0, .int .i64 0, .int .i64 0, .int .i64 0, .int .i64 0, .int .i64 0, .int .i64 0, .int .i64 0, .int .i64 0, .int .i64 0, .int .i64 0, .int .i64 0, .int .i64 0, .int .i64 0, .int .i64 0, .int .i64 0, .int .i64 0, .int .i64 0, .int .i64 0, .int .i64 0, .int .i64 0, .int .i64 0, .int .i64 0, .int .i64 0, .int .i64 0, .int .i64 0, .int .i64 0, .int .i64 0, .int .i64 0, .int .i64 0, .int .i64 0, .int .i64 0, .int .i64 0, .int .i64 0, .int .i64 0, .int .i64 0, .int .i64 0] : List Value) = scs (fun i j => cellN (l.take 0) (j : Nat) (i : Nat)) := by kernel_rfl
  rw [EZ] at oS
  clear EZ
  go_wp2
  go_loopw [21] (fun iv wr => ∃ k : Nat, k ≤ l.length ∧ iv = .int .i64 k ∧ Own wr bS 135 (scs fun i j => cellN (l.take k) (j : Nat) (i : Nat)) ∧ Below y1.heap.size y1 wr) (fun iv _ => l.length - (intOf iv).toNat)
  case atStart => exact ⟨0, Nat.zero_le _, rfl, oS, hS⟩
  case round =>
    clear oS hS
    obtain ⟨k, hk, rfl, oS, hC⟩ := hrel
    rename World => V
    by_cases hkl : k < l.length
    · obtain ⟨_, _, e, _, _, H⟩ := (L0.out.below hC).open
      cases e
      obtain ⟨b, off, rfl, c0, c1, c2⟩ := H.out k hkl
      clear H
      have I1 := HG.out.2.1 l[k] (List.getElem_mem hkl)
      have I2 := HG.out.2.2 l[k] (List.getElem_mem hkl)
      obtain ⟨px, hpx⟩ : ∃ px : Nat, l[k].x = px := ⟨l[k].x.toNat, by omega⟩
      obtain ⟨py, hpy⟩ : ∃ py : Nat, l[k].y = py := ⟨l[k].y.toNat, by omega⟩
      have hx8 : px < 8 := by omega
      have hy8 : py < 8 := by omega
      have CP := Lib.hid (cell_put hkl hpx hpy)
      have BD := cell_bd HG.out k (px : Int) (py : Int)
      rw [hpx] at c0
      rw [hpy] at c1
      clear hpx hpy I1
      have GE := scs_get (fun i j => cellN (l.take k) (j : Nat) (i : Nat)) hy8 hx8
      have WE : wrap64 (cellN (l.take k) px py + l[k].f) = cellN (l.take k) px py + l[k].f := Go.IntWalk.wrap64_in _ (by omega)
      clear BD I2
      obtain ⟨z, hz⟩ : ∃ z, z = cellN (l.take k) px py := ⟨_, rfl⟩
      rw [← hz] at GE WE CP
      clear hz
      generalize l[k].f = f at *
      have oM := Own.new V 132 [.int .i64 px, .int .i64 py, .int .i64 f]
      have hM := ba1 V (.cells #[.int .i64 px, .int .i64 py, .int .i64 f] 132)
      have ne : bS ≠ V.heap.size := by have := oS.lt; omega
      go_upto_region 9 with fail
      clear c0 c1 c2
      obtain ⟨bM, hbM⟩ : ∃ B, B = V.heap.size := ⟨_, rfl⟩
      rw [← hbM] at oM ne ⊢
      clear hbM
      generalize V.alloc (.cells #[.int .i64 px, .int .i64 py, .int .i64 f] 132) = V1 at *
      replace oS := oS.below hM
      replace hC := below_to hC hM
      clear hM
      obtain ⟨rS, fS⟩ := oS.rules
      have zS := oS.lt
      obtain ⟨rM, fM⟩ := oM.rules
      have zM := oM.lt
      have g1 := (rS (py * 8 + px)).trans GE
      clear rS
      have gl := @grow_lt
      refine wp_region_st [.t [0, 1, 2, 3, 4, 5, 6, 7, 8, 9, 10, 11]] [12] (by kernel_rfl) (by kernel_rfl) (fun _ _ _ _ _ h => h) ?_
      refine wpX_t ?_
      try simp only [opsAt, List.getElem?_toArray, List.getElem?_cons_zero, List.getElem?_cons_succ, Option.getD_some]
      repeat (go_big_quiet_step (fail))
      refine wpQuiet_nil ?_
      refine wpX_nil ?_
      try simp only [opsAt, List.getElem?_toArray, List.getElem?_cons_zero, List.getElem?_cons_succ, Option.getD_some]
      clear gl
      go_wp2
      go_roundw
      case rel =>
        refine ⟨k + 1, by omega, by go_num, ?_, hC.drew.setCell (p := ⟨bS, py * 8 + px, none⟩) hle _⟩
        rw [← scs_congr CP.out, ← scs_set _ hy8 hx8]
        first | exact oS.drew.set (py * 8 + px) _ | (rw [← WE]; exact oS.drew.set (py * 8 + px) _)
      case measure => simp [intOf]; try omega
    · obtain rfl : k = l.length := by omega
      rw [List.take_length] at oS
      replace hy := below_to hy hC
      clear hC
      have CS := Lib.hid (fun (v u : Nat) (wr : World) (hv : v < n) (hu : u < n) (hwr : Below V.heap.size V wr) => model1_any (fun i j => cellN l (j : Nat) (i : Nat)) bS v u wr (oS.below hwr) (by omega) (by omega))
      clear oS
      go_wp2_with fail
      refine (cellsM_any n (fun y x => cellN l x y) _ _ n1 n8 CS.out).mono ?_
      rintro e y4 ⟨hp, hq⟩
      replace hy := below_to hy hq
      clear hq CS
      rcases hp with ⟨u, rfl, im, ir⟩ | ⟨rfl, ir⟩
      · have IR := Lib.hid ir
        have IMu := Lib.hid im
        obtain ⟨adu, capu, rfl, hu1, _, _⟩ := im.open
        clear ir im
        go_wp2
        refine bodyPost_ret (v := .tuple #[.slice adu n capu, .int .i64 0]) (by simp [results, Try.results39, go_sem]) rfl ⟨.inl ⟨_, rfl, IMu.out, IR.out⟩, hy⟩
      · have IR := Lib.hid ir
        clear ir
        go_wp2
        refine bodyPost_ret (v := .tuple #[.slice none 0 0, .int .i64 16]) (by simp [results, Try.results39, go_sem]) rfl ⟨.inr ⟨rfl, IR.out⟩, hy⟩
end Go.Proofs.Ythlcmlngmcoknaa
