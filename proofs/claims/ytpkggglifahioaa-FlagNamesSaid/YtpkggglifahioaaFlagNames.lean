/- What is proved here: the law FlagNames holds. No condition. -/
import Derived.Test.YtpkggglifahioaaFlagAlive
import Derived.Test.YtpkggglifahioaaFloatS
namespace Go.Proofs.Ytpkggglifahioaa
open Go.RowKit


theorem sb_lit (w : World) (l : List Bool) (hl : l.length ≤ 1000) : SB (w.alloc (.cells (l.map Value.bool).toArray 4)) (.slice (some ⟨w.heap.size, 0, none⟩) l.length l.length) l :=
  (Own.new w 4 (l.map Value.bool)).sl l.length (Nat.le_refl _) (by omega) _ (List.prefix_refl _)
theorem own_sb {w : World} {g : Nat} {l : List Bool} (h : Own w g 4 (l.map Value.bool)) (hl : l.length ≤ 1000) : SB w (.slice (some ⟨g, 0, none⟩) l.length l.length) l :=
  h.sl l.length (Nat.le_refl _) (by omega) _ (List.prefix_refl _)
theorem Mod.refl (bs : List Nat) (w : World) : Mod bs w w := ⟨rfl, rfl, rfl, Nat.le_refl _, fun _ _ _ => rfl⟩
theorem Mod.set {bs : List Nat} {w w' : World} (h : Mod bs w w') {p : Addr} (hp : p.block ∈ bs) (v : Value) : Mod bs w (w'.setCell p v) :=
  ⟨h.os, h.tape, h.output, by have := h.size; simpa [World.setCell] using this, fun b hb hn => by
    rw [Below.heap_setCell _ _ _ _ (fun e => hn (by rw [e]; exact hp))]; exact h.block b hb hn⟩
theorem mk_b3 (w : World) : (Instr.makeSlice 22 (.int .i64 3) (.int .i64 3)).run Try.prog w = .ok (.slice (some ⟨w.heap.size, 0, none⟩) 3 3) (w.alloc (.cells #[.bool false, .bool false, .bool false] 4)) := mk_bools 3 (by decide) w
theorem mk_b2 (w : World) : (Instr.makeSlice 22 (.int .i64 2) (.int .i64 2)).run Try.prog w = .ok (.slice (some ⟨w.heap.size, 0, none⟩) 2 2) (w.alloc (.cells #[.bool false, .bool false] 4)) := mk_bools 2 (by decide) w
theorem run_value {P : Program} {s : Sem Value} {v : Value} {w w' : World} (h : s.run P w = .ok v w') : (do pure (Next.value (← s)) : Sem Next).run P w = .ok (.value v) w' := by
  simp [h]
theorem nm_count (t c : Int) (v : Value) (xs : List Bool) (w : World) (h : SB w v xs) (hm : mchk t c xs.length = 8) :
    Calls Try.prog 11 #[.agg #[.int .i64 t, .int .i64 c, v]] w fun e w' => e = .returned (.tuple #[.int .i64 0, .int .i64 8]) ∧ Below w.heap.size w w' := by
  have h := count_any t c v xs w h
  rw [hm, mcount, if_neg (by rw [hm]; decide)] at h
  exact h
theorem nm_check (t c : Int) (v : Value) (xs : List Bool) (e : Int) (w : World) (h : SB w v xs) (hm : mchk t c xs.length = e) :
    Calls Try.prog 15 #[.agg #[.int .i64 t, .int .i64 c, v]] w fun r w' => r = .returned (.int .i64 e) ∧ Below w.heap.size w w' := by
  subst hm
  exact mcheck_any t c v xs w h
theorem nm_grow (v : Value) (dt dc : Int) (w : World) (h : SB w v [true]) (he : gerr 1 1 1 dt dc = 2) : Calls Try.prog 20 #[.agg #[.int .i64 1, .int .i64 1, v], .int .i64 dt, .int .i64 dc] w fun e w' => ∃ u, e = .returned (.tuple #[.agg #[.int .i64 0, .int .i64 0, u], .int .i64 2]) ∧ SB w' u [] ∧ Frv w.heap.size u ∧ Below w.heap.size w w' := by
  have h := grow_any 1 1 v [true] dt dc w h
  rw [show gerr 1 1 (List.length [true]) dt dc = 2 from he, zt_ne (by decide), zl_ne (by decide)] at h
  exact h
theorem nm_fill (v : Value) (fn fd : Int) (w : World) (h : SB w v [true]) (h1 : i64 fn) (h2 : i64 fd) (he : ferr 1 1 1 fn fd = 8) : Calls Try.prog 26 #[.agg #[.int .i64 1, .int .i64 1, v], .agg #[.int .i64 fn, .int .i64 fd]] w fun e w' => ∃ u, e = .returned (.tuple #[.agg #[.int .i64 0, .int .i64 0, u], .int .i64 8]) ∧ SB w' u [] ∧ Frv w.heap.size u ∧ Below w.heap.size w w' := by
  have h := mfill_any 1 1 v [true] fn fd w h h1 h2
  rw [show ferr 1 1 (List.length [true]) fn fd = 8 from he, zt_ne (by decide), zl_ne (by decide)] at h
  exact h
theorem nm_close (v : Value) (fn fd : Int) (w : World) (h : SB w v [true]) (h1 : i64 fn) (h2 : i64 fd) (he : ferr 1 1 1 fn fd = 8) : Calls Try.prog 28 #[.agg #[.int .i64 1, .int .i64 1, v], .agg #[.int .i64 fn, .int .i64 fd]] w fun e w' => ∃ u, e = .returned (.tuple #[.agg #[.int .i64 0, .int .i64 0, u], .int .i64 0, .int .i64 8]) ∧ SB w' u [] ∧ Frv w.heap.size u ∧ Below w.heap.size w w' := by
  have h := mclose_any 1 1 v [true] fn fd w h h1 h2
  rw [show ferr 1 1 (List.length [true]) fn fd = 8 from he, zt_ne (by decide), zt_ne (by decide), zl_ne (by decide)] at h
  exact h
theorem nm_drop (v v' : Value) (ws : List Int) (w : World) (h : SB w v [true]) (h' : SI w v' ws) (he : derr 1 1 1 ws = 8) : Calls Try.prog 30 #[.agg #[.int .i64 1, .int .i64 1, v], v'] w fun e w' => ∃ u, e = .returned (.tuple #[u, .int .i64 8]) ∧ SI w' u [] ∧ Frv w.heap.size u ∧ Below w.heap.size w w' := by
  have h := drop_any 1 1 v v' [true] ws w h h'
  rw [show derr 1 1 (List.length [true]) ws = 8 from he, zi_ne (by decide)] at h
  exact h
theorem nm_join (v v' : Value) (w : World) (h : SB w v [true]) (h' : SB w v' [false, false]) : Calls Try.prog 13 #[.agg #[.int .i64 1, .int .i64 1, v], .agg #[.int .i64 1, .int .i64 2, v']] w fun e w' => ∃ u, e = .returned (.tuple #[.agg #[.int .i64 0, .int .i64 0, u], .int .i64 2]) ∧ SB w' u [] ∧ Frv w.heap.size u ∧ Below w.heap.size w w' := by
  have h := join_any 1 1 1 2 v v' [true] [false, false] w h h'
  rw [show mpair 1 1 (List.length [true]) 1 2 (List.length [false, false]) = 2 from by decide +kernel, zt_ne (by decide), zl_ne (by decide)] at h
  exact h
theorem nm_both (v v' : Value) (w : World) (h : SB w v [true]) (h' : SB w v' []) : Calls Try.prog 18 #[.agg #[.int .i64 1, .int .i64 1, v], .agg #[.int .i64 0, .int .i64 0, v']] w fun e w' => ∃ u, e = .returned (.tuple #[.agg #[.int .i64 0, .int .i64 0, u], .int .i64 8]) ∧ SB w' u [] ∧ Frv w.heap.size u ∧ Below w.heap.size w w' := by
  have h := both_any 1 1 0 0 v v' [true] [] w h h'
  rw [show mpair 1 1 (List.length [true]) 0 0 (List.length ([] : List Bool)) = 8 from by decide +kernel, zt_ne (by decide), zl_ne (by decide)] at h
  exact h
theorem nm_parse (l : List UInt8) (w : World) (hl : l.length ≤ 100000) (he : pgood l = false) : Calls Try.prog 24 #[.string (bstr l)] w fun e w' => ∃ u, e = .returned (.tuple #[.agg #[.int .i64 0, .int .i64 0, u], .int .i64 12]) ∧ SB w' u [] ∧ Frv w.heap.size u ∧ Below w.heap.size w w' := by
  have h := parse_any l w hl
  rw [pT, pCh, perr, pB, if_neg (by rw [he]; decide), if_neg (by rw [he]; decide), if_neg (by rw [he]; decide), if_neg (by rw [he]; decide)] at h
  exact h
theorem nm_p0 (w : World) : Calls Try.prog 24 #[.string ⟨#[]⟩] w fun e w' => ∃ u, e = .returned (.tuple #[.agg #[.int .i64 0, .int .i64 0, u], .int .i64 12]) ∧ SB w' u [] ∧ Frv w.heap.size u ∧ Below w.heap.size w w' :=
  nm_parse [] w (by decide) (by decide +kernel)
theorem nm_p1 (w : World) : Calls Try.prog 24 #[.string ⟨#[10]⟩] w fun e w' => ∃ u, e = .returned (.tuple #[.agg #[.int .i64 0, .int .i64 0, u], .int .i64 12]) ∧ SB w' u [] ∧ Frv w.heap.size u ∧ Below w.heap.size w w' :=
  nm_parse [10] w (by decide) (by decide +kernel)
theorem nm_p2 (w : World) : Calls Try.prog 24 #[.string ⟨#[120]⟩] w fun e w' => ∃ u, e = .returned (.tuple #[.agg #[.int .i64 0, .int .i64 0, u], .int .i64 12]) ∧ SB w' u [] ∧ Frv w.heap.size u ∧ Below w.heap.size w w' :=
  nm_parse [120] w (by decide) (by decide +kernel)
theorem nm_p3 (w : World) : Calls Try.prog 24 #[.string ⟨#[120, 10, 10]⟩] w fun e w' => ∃ u, e = .returned (.tuple #[.agg #[.int .i64 0, .int .i64 0, u], .int .i64 12]) ∧ SB w' u [] ∧ Frv w.heap.size u ∧ Below w.heap.size w w' :=
  nm_parse [120, 10, 10] w (by decide) (by decide +kernel)
theorem nm_p4 (w : World) : Calls Try.prog 24 #[.string ⟨#[120, 10, 120, 120, 10]⟩] w fun e w' => ∃ u, e = .returned (.tuple #[.agg #[.int .i64 0, .int .i64 0, u], .int .i64 12]) ∧ SB w' u [] ∧ Frv w.heap.size u ∧ Below w.heap.size w w' :=
  nm_parse [120, 10, 120, 120, 10] w (by decide) (by decide +kernel)
theorem nm_p5 (w : World) : Calls Try.prog 24 #[.string ⟨#[88, 10]⟩] w fun e w' => ∃ u, e = .returned (.tuple #[.agg #[.int .i64 0, .int .i64 0, u], .int .i64 12]) ∧ SB w' u [] ∧ Frv w.heap.size u ∧ Below w.heap.size w w' :=
  nm_parse [88, 10] w (by decide) (by decide +kernel)
theorem nm_p6 (w : World) : Calls Try.prog 24 #[.string ⟨#[120, 10, 46]⟩] w fun e w' => ∃ u, e = .returned (.tuple #[.agg #[.int .i64 0, .int .i64 0, u], .int .i64 12]) ∧ SB w' u [] ∧ Frv w.heap.size u ∧ Below w.heap.size w w' :=
  nm_parse [120, 10, 46] w (by decide) (by decide +kernel)
theorem nm_p7 (w : World) : Calls Try.prog 24 #[.string ⟨#[120, 120, 120, 120, 120, 120, 120, 120, 120, 120, 120, 120, 120, 120, 120, 120, 120, 10]⟩] w fun e w' => ∃ u, e = .returned (.tuple #[.agg #[.int .i64 0, .int .i64 0, u], .int .i64 12]) ∧ SB w' u [] ∧ Frv w.heap.size u ∧ Below w.heap.size w w' :=
  nm_parse [120, 120, 120, 120, 120, 120, 120, 120, 120, 120, 120, 120, 120, 120, 120, 120, 120, 10] w (by decide) (by decide +kernel)
/-- A text of so many rows. -/
def rows : Nat → List UInt8
  | 0 => []
  | n + 1 => rows n ++ [46, 10]
theorem rows_len : ∀ n, (rows n).length = 2 * n
  | 0 => rfl
  | n + 1 => by rw [rows, List.length_append, rows_len n]; simp; omega
theorem bstr_app (l m : List UInt8) : bstr l ++ bstr m = bstr (l ++ m) := by
  unfold bstr
  apply ByteArray.ext
  simp
theorem bstr_app' (l : List UInt8) : bstr l ++ (⟨#[46, 10]⟩ : ByteArray) = bstr (l ++ [46, 10]) := bstr_app l [46, 10]
def none32 : List Bool := List.replicate 32 false
theorem nm_long (w : World) : Calls Try.prog 24 #[.string (bstr (rows 33))] w fun e w' => ∃ u, e = .returned (.tuple #[.agg #[.int .i64 0, .int .i64 0, u], .int .i64 12]) ∧ SB w' u [] ∧ Frv w.heap.size u ∧ Below w.heap.size w w' :=
  nm_parse (rows 33) w (by decide +kernel) (by decide +kernel)
theorem nm_32 (w : World) : Calls Try.prog 24 #[.string (bstr (rows 32))] w fun e w' => ∃ u, e = .returned (.tuple #[.agg #[.int .i64 32, .int .i64 1, u], .int .i64 0]) ∧ SB w' u none32 ∧ Frv w.heap.size u ∧ Below w.heap.size w w' := by
  have h := parse_any (rows 32) w (by decide +kernel)
  rw [show pT (rows 32) = 32 from by decide +kernel, show pCh (rows 32) = 1 from by decide +kernel, show perr (rows 32) = 0 from by decide +kernel, show pB (rows 32) = none32 from by decide +kernel] at h
  exact h
theorem nm_closed (v : Value) (w : World) (h : SB w v [true]) : Calls Try.prog 28 #[.agg #[.int .i64 1, .int .i64 1, v], .agg #[.int .i64 1, .int .i64 1]] w fun e w' => ∃ u, e = .returned (.tuple #[.agg #[.int .i64 1, .int .i64 1, u], .int .i64 0, .int .i64 0]) ∧ SB w' u [true] ∧ Frv w.heap.size u ∧ Below w.heap.size w w' := by
  have h := mclose_any 1 1 v [true] 1 1 w h ⟨by decide, by decide⟩ ⟨by decide, by decide⟩
  rw [show ferr 1 1 (List.length [true]) 1 1 = 0 from by decide +kernel, zt_eq rfl, zt_eq rfl, zl_eq rfl, show cloL (Int.toNat 1) (Int.toNat 1) [true] 1 1 = [true] from by decide +kernel, show cloN (Int.toNat 1) (Int.toNat 1) [true] 1 1 = 0 from by decide +kernel] at h
  exact h
theorem nm_filled (v : Value) (w : World) (h : SB w v none32) : Calls Try.prog 26 #[.agg #[.int .i64 32, .int .i64 1, v], .agg #[.int .i64 1, .int .i64 1]] w fun e w' => ∃ u, e = .returned (.tuple #[.agg #[.int .i64 32, .int .i64 1, u], .int .i64 0]) ∧ SB w' u none32 ∧ Frv w.heap.size u ∧ Below w.heap.size w w' := by
  have h := mfill_any 32 1 v none32 1 1 w h ⟨by decide, by decide⟩ ⟨by decide, by decide⟩
  rw [show ferr 32 1 (List.length none32) 1 1 = 0 from by decide +kernel, zt_eq rfl, zt_eq rfl, zl_eq rfl, show fillL (Int.toNat 32) (Int.toNat 1) none32 1 1 = none32 from by decide +kernel] at h
  exact h
theorem nm_none (v : Value) (w : World) (h : SB w v none32) : Calls Try.prog 11 #[.agg #[.int .i64 32, .int .i64 1, v]] w fun e w' => e = .returned (.tuple #[.int .i64 0, .int .i64 0]) ∧ Below w.heap.size w w' := by
  have h := count_any 32 1 v none32 w h
  rw [show mcount 32 1 none32 = 0 from by decide +kernel, show mchk 32 1 none32.length = 0 from by decide +kernel] at h
  exact h
theorem nm_same (v v' : Value) (w : World) (h : SB w v [true]) (h' : SB w v' [true]) : Calls Try.prog 17 #[.agg #[.int .i64 1, .int .i64 1, v], .agg #[.int .i64 1, .int .i64 1, v']] w fun e w' => e = .returned (.bool true) ∧ Below w.heap.size w w' := by
  have h := same_any 1 1 1 1 v v' [true] [true] w h h'
  rw [show msame 1 1 1 1 [true] [true] = true from by decide +kernel] at h
  exact h

set_option maxRecDepth 100000 in
set_option maxHeartbeats 64000000 in
theorem names_any (w : World) : Calls Try.prog 9 #[] w fun e w' => e = .returned (.bool true) ∧ Below w.heap.size w w' := by
  have hB := Below.refl w.heap.size w
  go_enter Try.func9, Try.ntmps9
  go_upto_region 2 with fail
  have oB := own_first w 4 [.bool true] (.cells #[.int .i64 1, .int .i64 1, .slice (some ⟨w.heap.size, 0, none⟩) 1 1] 24)
  have oO := own_second w 24 [.int .i64 1, .int .i64 1, .slice (some ⟨w.heap.size, 0, none⟩) 1 1] (.cells #[.bool true] 4)
  have hB := ba2 w (.cells #[.bool true] 4) (.cells #[.int .i64 1, .int .i64 1, .slice (some ⟨w.heap.size, 0, none⟩) 1 1] 24)
  have sO := own_sb (l := [true]) oB (by decide)
  clear oB
  generalize w.heap.size + 1 = kO at oO ⊢
  generalize (w.alloc (.cells #[.bool true] 4)).alloc (.cells #[.int .i64 1, .int .i64 1, .slice (some ⟨w.heap.size, 0, none⟩) 1 1] 24) = y0 at *
  have hmk := mk_b3
  go_upto_region 4 with fail
  have o3 := (own_first y0 4 [.bool true] (.cells #[.bool false, .bool false, .bool false] 4)).alloc (.cells #[.int .i64 0, .int .i64 0, .slice none 0 0, .int .i64 1, .int .i64 1, .slice none 0 0, .int .i64 1, .int .i64 0, .slice none 0 0, .int .i64 (-1), .int .i64 (-1), .slice (some ⟨y0.heap.size, 0, none⟩) 1 1, .int .i64 2, .int .i64 2, .slice (some ⟨y0.heap.size + 1, 0, none⟩) 3 3] 24)
  have o4 := (own_second y0 4 [.bool false, .bool false, .bool false] (.cells #[.bool true] 4)).alloc (.cells #[.int .i64 0, .int .i64 0, .slice none 0 0, .int .i64 1, .int .i64 1, .slice none 0 0, .int .i64 1, .int .i64 0, .slice none 0 0, .int .i64 (-1), .int .i64 (-1), .slice (some ⟨y0.heap.size, 0, none⟩) 1 1, .int .i64 2, .int .i64 2, .slice (some ⟨y0.heap.size + 1, 0, none⟩) 3 3] 24)
  have oD := own_third y0 24 [.int .i64 0, .int .i64 0, .slice none 0 0, .int .i64 1, .int .i64 1, .slice none 0 0, .int .i64 1, .int .i64 0, .slice none 0 0, .int .i64 (-1), .int .i64 (-1), .slice (some ⟨y0.heap.size, 0, none⟩) 1 1, .int .i64 2, .int .i64 2, .slice (some ⟨y0.heap.size + 1, 0, none⟩) 3 3] (.cells #[.bool true] 4) (.cells #[.bool false, .bool false, .bool false] 4)
  have s3 := own_sb (l := [true]) o3 (by decide)
  have s4 := own_sb (l := [false, false, false]) o4 (by decide)
  clear o3 o4 hmk
  replace sO := sO.below (ba3 y0 (.cells #[.bool true] 4) (.cells #[.bool false, .bool false, .bool false] 4) (.cells #[.int .i64 0, .int .i64 0, .slice none 0 0, .int .i64 1, .int .i64 1, .slice none 0 0, .int .i64 1, .int .i64 0, .slice none 0 0, .int .i64 (-1), .int .i64 (-1), .slice (some ⟨y0.heap.size, 0, none⟩) 1 1, .int .i64 2, .int .i64 2, .slice (some ⟨y0.heap.size + 1, 0, none⟩) 3 3] 24))
  replace oO := oO.below (ba3 y0 (.cells #[.bool true] 4) (.cells #[.bool false, .bool false, .bool false] 4) (.cells #[.int .i64 0, .int .i64 0, .slice none 0 0, .int .i64 1, .int .i64 1, .slice none 0 0, .int .i64 1, .int .i64 0, .slice none 0 0, .int .i64 (-1), .int .i64 (-1), .slice (some ⟨y0.heap.size, 0, none⟩) 1 1, .int .i64 2, .int .i64 2, .slice (some ⟨y0.heap.size + 1, 0, none⟩) 3 3] 24))
  replace hB := below_to hB (ba3 y0 (.cells #[.bool true] 4) (.cells #[.bool false, .bool false, .bool false] 4) (.cells #[.int .i64 0, .int .i64 0, .slice none 0 0, .int .i64 1, .int .i64 1, .slice none 0 0, .int .i64 1, .int .i64 0, .slice none 0 0, .int .i64 (-1), .int .i64 (-1), .slice (some ⟨y0.heap.size, 0, none⟩) 1 1, .int .i64 2, .int .i64 2, .slice (some ⟨y0.heap.size + 1, 0, none⟩) 3 3] 24))
  generalize y0.heap.size + 1 + 1 = kD at oD ⊢
  generalize y0.heap.size + 1 = kB4 at *
  generalize hk3 : y0.heap.size = kB3 at s3 s4 oD oO sO hB ⊢
  generalize (((y0.alloc (.cells #[.bool true] 4)).alloc (.cells #[.bool false, .bool false, .bool false] 4)).alloc (.cells #[.int .i64 0, .int .i64 0, .slice none 0 0, .int .i64 1, .int .i64 1, .slice none 0 0, .int .i64 1, .int .i64 0, .slice none 0 0, .int .i64 (-1), .int .i64 (-1), .slice (some ⟨kB3, 0, none⟩) 1 1, .int .i64 2, .int .i64 2, .slice (some ⟨kB4, 0, none⟩) 3 3] 24)) = y1 at *
  refine wp_loop_rounds 6 ?_
  rw [rounds_succ]
  obtain ⟨rD, fD⟩ := oD.rules
  have zD := oD.lt
  go_wp2_with fail
  refine (nm_count 0 0 (.slice none 0 0) [] _ (sb_nil _) (by decide +kernel)).mono ?_
  rintro e v1 ⟨rfl, hq⟩
  clear rD fD zD
  replace oO := oO.below hq
  replace oD := oD.below hq
  replace sO := sO.below hq
  replace s3 := s3.below hq
  replace s4 := s4.below hq
  replace hB := below_to hB hq
  clear hq
  obtain ⟨rD, fD⟩ := oD.rules
  have zD := oD.lt
  go_wp2_with fail
  refine (nm_check 0 0 (.slice none 0 0) [] 8 _ (sb_nil _) (by decide +kernel)).mono ?_
  rintro e v2 ⟨rfl, hq⟩
  clear rD fD zD
  replace oO := oO.below hq
  replace oD := oD.below hq
  replace sO := sO.below hq
  replace s3 := s3.below hq
  replace s4 := s4.below hq
  replace hB := below_to hB hq
  clear hq
  go_wp2
  rw [rounds_succ]
  obtain ⟨rD, fD⟩ := oD.rules
  have zD := oD.lt
  go_wp2_with fail
  refine (nm_count 1 1 (.slice none 0 0) [] _ (sb_nil _) (by decide +kernel)).mono ?_
  rintro e v3 ⟨rfl, hq⟩
  clear rD fD zD
  replace oO := oO.below hq
  replace oD := oD.below hq
  replace sO := sO.below hq
  replace s3 := s3.below hq
  replace s4 := s4.below hq
  replace hB := below_to hB hq
  clear hq
  obtain ⟨rD, fD⟩ := oD.rules
  have zD := oD.lt
  go_wp2_with fail
  refine (nm_check 1 1 (.slice none 0 0) [] 8 _ (sb_nil _) (by decide +kernel)).mono ?_
  rintro e v4 ⟨rfl, hq⟩
  clear rD fD zD
  replace oO := oO.below hq
  replace oD := oD.below hq
  replace sO := sO.below hq
  replace s3 := s3.below hq
  replace s4 := s4.below hq
  replace hB := below_to hB hq
  clear hq
  go_wp2
  rw [rounds_succ]
  obtain ⟨rD, fD⟩ := oD.rules
  have zD := oD.lt
  go_wp2_with fail
  refine (nm_count 1 0 (.slice none 0 0) [] _ (sb_nil _) (by decide +kernel)).mono ?_
  rintro e v5 ⟨rfl, hq⟩
  clear rD fD zD
  replace oO := oO.below hq
  replace oD := oD.below hq
  replace sO := sO.below hq
  replace s3 := s3.below hq
  replace s4 := s4.below hq
  replace hB := below_to hB hq
  clear hq
  obtain ⟨rD, fD⟩ := oD.rules
  have zD := oD.lt
  go_wp2_with fail
  refine (nm_check 1 0 (.slice none 0 0) [] 8 _ (sb_nil _) (by decide +kernel)).mono ?_
  rintro e v6 ⟨rfl, hq⟩
  clear rD fD zD
  replace oO := oO.below hq
  replace oD := oD.below hq
  replace sO := sO.below hq
  replace s3 := s3.below hq
  replace s4 := s4.below hq
  replace hB := below_to hB hq
  clear hq
  go_wp2
  rw [rounds_succ]
  obtain ⟨rD, fD⟩ := oD.rules
  have zD := oD.lt
  go_wp2_with fail
  refine (nm_count (-1) (-1) (.slice (some ⟨kB3, 0, none⟩) 1 1) [true] _ s3 (by decide +kernel)).mono ?_
  rintro e v7 ⟨rfl, hq⟩
  clear rD fD zD
  replace oO := oO.below hq
  replace oD := oD.below hq
  replace sO := sO.below hq
  replace s3 := s3.below hq
  replace s4 := s4.below hq
  replace hB := below_to hB hq
  clear hq
  obtain ⟨rD, fD⟩ := oD.rules
  have zD := oD.lt
  go_wp2_with fail
  refine (nm_check (-1) (-1) (.slice (some ⟨kB3, 0, none⟩) 1 1) [true] 8 _ s3 (by decide +kernel)).mono ?_
  rintro e v8 ⟨rfl, hq⟩
  clear rD fD zD
  replace oO := oO.below hq
  replace oD := oD.below hq
  replace sO := sO.below hq
  replace s3 := s3.below hq
  replace s4 := s4.below hq
  replace hB := below_to hB hq
  clear hq
  go_wp2
  rw [rounds_succ]
  obtain ⟨rD, fD⟩ := oD.rules
  have zD := oD.lt
  go_wp2_with fail
  refine (nm_count 2 2 (.slice (some ⟨kB4, 0, none⟩) 3 3) [false, false, false] _ s4 (by decide +kernel)).mono ?_
  rintro e v9 ⟨rfl, hq⟩
  clear rD fD zD
  replace oO := oO.below hq
  replace oD := oD.below hq
  replace sO := sO.below hq
  replace s3 := s3.below hq
  replace s4 := s4.below hq
  replace hB := below_to hB hq
  clear hq
  obtain ⟨rD, fD⟩ := oD.rules
  have zD := oD.lt
  go_wp2_with fail
  refine (nm_check 2 2 (.slice (some ⟨kB4, 0, none⟩) 3 3) [false, false, false] 8 _ s4 (by decide +kernel)).mono ?_
  rintro e v10 ⟨rfl, hq⟩
  clear rD fD zD
  replace oO := oO.below hq
  replace oD := oD.below hq
  replace sO := sO.below hq
  replace s3 := s3.below hq
  replace s4 := s4.below hq
  replace hB := below_to hB hq
  clear hq
  go_wp2
  rw [rounds_succ]
  go_upto_region 10 with fail
  replace oO := oO.alloc (.cells #[.int .i64 1, .int .i64 1] 49)
  replace oD := oD.alloc (.cells #[.int .i64 1, .int .i64 1] 49)
  replace sO := sO.below (ba1 v10 (.cells #[.int .i64 1, .int .i64 1] 49))
  replace s3 := s3.below (ba1 v10 (.cells #[.int .i64 1, .int .i64 1] 49))
  replace s4 := s4.below (ba1 v10 (.cells #[.int .i64 1, .int .i64 1] 49))
  replace hB := below_to hB (ba1 v10 (.cells #[.int .i64 1, .int .i64 1] 49))
  have oF := Own.new v10 49 [.int .i64 1, .int .i64 1]
  generalize hbk : v10.heap.size = kF at oF ⊢
  clear hbk
  generalize v10.alloc (.cells #[.int .i64 1, .int .i64 1] 49) = y10 at *
  go_wp2_with fail
  refine (nm_check 33 1 (.slice none 0 0) [] 4 _ (sb_nil _) (by decide +kernel)).mono ?_
  rintro e v11 ⟨rfl, hq⟩
  replace oO := oO.below hq
  replace oD := oD.below hq
  replace oF := oF.below hq
  replace sO := sO.below hq
  replace s3 := s3.below hq
  replace s4 := s4.below hq
  replace hB := below_to hB hq
  clear hq
  go_wp2_with fail
  refine (nm_check (-1) 17 (.slice none 0 0) [] 4 _ (sb_nil _) (by decide +kernel)).mono ?_
  rintro e v12 ⟨rfl, hq⟩
  replace oO := oO.below hq
  replace oD := oD.below hq
  replace oF := oF.below hq
  replace sO := sO.below hq
  replace s3 := s3.below hq
  replace s4 := s4.below hq
  replace hB := below_to hB hq
  clear hq
  go_upto_region 12 with fail
  go_cut [9, 10] (fun s r wx => ∃ bx : Nat, s = .pointer (some ⟨bx, 0, none⟩) ∧ r = .int .i64 2 ∧ Below v12.heap.size v12 wx)
  case first =>
    obtain ⟨rO, fO⟩ := oO.rules
    obtain ⟨rD, fD⟩ := oD.rules
    have zO := oO.lt
    have zD := oD.lt
    have gl := @grow_lt
    refine wp_region_fs [(1, ⟨4, [.bool false, .bool false], fun b => .slice (some ⟨b, 0, none⟩) 2 2⟩), (7, ⟨24, [.int .i64 0, .int .i64 0, .slice none 0 0], fun b => .pointer (some ⟨b, 0, none⟩)⟩)] [0] [.fl 1, .tk 2, .op 3, .tk 4, .tk 5, .tk 6, .fl 7, .op 8] [9] (by kernel_rfl) (by kernel_rfl) ⟨fun ρ W => run_value (mk_b2 W), fun ρ W => by kernel_rfl, trivial⟩ (fun _ _ _ _ _ h => h) (fun _ _ _ _ _ h => h) ?_
    try simp only [opsAt, List.getElem?_toArray, List.getElem?_cons_zero, List.getElem?_cons_succ, Option.getD_some]
    repeat (go_big_quiet_step (fail))
    refine wpQuiet_nil ?_
    clear gl
    refine wpFl_fl rfl ?_
    intro b1 w2 hb2 o1 hl1 _
    go_simp
    refine wpFl_tk ?_
    try simp only [opsAt, List.getElem?_toArray, List.getElem?_cons_zero, List.getElem?_cons_succ, Option.getD_some]
    repeat (go_big_quiet_step (fail))
    refine wpQuiet_nil ?_
    refine wpFl_op rfl ?_
    intro w3 hb3 K' hK'
    go_simp
    have hb4 := below_to hb2 hb3
    have s1 := own_sb (l := [false, false]) (o1.below hb3) (by decide)
    refine (nm_join _ _ _ (sO.below hb4) s1).mono ?_
    rintro e w5 ⟨u, rfl, su, _, hq⟩
    refine hK' _ _ (Mod.of_below hq) ?_
    clear hK' K'
    have hb5 := below_to hb4 hq
    refine wpFl_tk ?_
    try simp only [opsAt, List.getElem?_toArray, List.getElem?_cons_zero, List.getElem?_cons_succ, Option.getD_some]
    repeat (go_big_quiet_step (fail))
    refine wpQuiet_nil ?_
    refine wpFl_tk ?_
    try simp only [opsAt, List.getElem?_toArray, List.getElem?_cons_zero, List.getElem?_cons_succ, Option.getD_some]
    repeat (go_big_quiet_step (fail))
    refine wpQuiet_nil ?_
    refine wpFl_tk ?_
    try simp only [opsAt, List.getElem?_toArray, List.getElem?_cons_zero, List.getElem?_cons_succ, Option.getD_some]
    repeat (go_big_quiet_step (fail))
    refine wpQuiet_nil ?_
    refine wpFl_fl rfl ?_
    intro b7 w6 hb6 o7 hl7 _
    go_simp
    have su' := su
    obtain ⟨au, cu, hu, _, _, _⟩ := su'.open
    subst hu
    clear su'
    refine wpFl_op rfl ?_
    intro w7 hb7 K' hK'
    have oB := o7.below hb7
    have hbF := below_to (below_to hb5 hb6) hb7
    clear rO fO zO rD fD zD
    obtain ⟨rB, fB⟩ := oB.rules
    have zB := oB.lt
    go_wp2_with fail
    refine hK' _ _ (((Mod.refl _ _).set (by simp) _ |>.set (by simp) _).set (by simp) _) ?_
    clear hK' K'
    refine wpFl_nil (fun w8 hb8 => ?_)
    try simp only [opsAt, List.getElem?_toArray, List.getElem?_cons_zero, List.getElem?_cons_succ, Option.getD_some]
    go_wp2
    go_meet
    refine ⟨b7, rfl, rfl, ?_⟩
    refine below_to ?_ hb8
    repeat (refine Below.setCell ?_ (by first | omega | (simp; omega)) _)
    exact hbF
  obtain ⟨bx, rfl, rfl, hq⟩ := hcut
  replace oO := oO.below hq
  replace oD := oD.below hq
  replace oF := oF.below hq
  replace sO := sO.below hq
  replace s3 := s3.below hq
  replace s4 := s4.below hq
  replace hB := below_to hB hq
  clear hq
  obtain ⟨v13, hv13⟩ : ∃ x, x = wc := ⟨_, rfl⟩
  subst hv13
  go_upto_region 13 with fail
  go_cut [11, 12] (fun s r wx => ∃ bx : Nat, s = .pointer (some ⟨bx, 0, none⟩) ∧ r = .int .i64 8 ∧ Below v13.heap.size v13 wx)
  case first =>
    obtain ⟨rO, fO⟩ := oO.rules
    obtain ⟨rD, fD⟩ := oD.rules
    have zO := oO.lt
    have zD := oD.lt
    have gl := @grow_lt
    refine wp_region_fs [(8, ⟨24, [.int .i64 0, .int .i64 0, .slice none 0 0], fun b => .pointer (some ⟨b, 0, none⟩)⟩)] [0, 1, 2, 3] [.op 4, .tk 5, .tk 6, .tk 7, .fl 8, .op 9] [10] (by kernel_rfl) (by kernel_rfl) ⟨fun ρ W => by kernel_rfl, trivial⟩ (fun _ _ _ _ _ h => h) (fun _ _ _ _ _ h => h) ?_
    try simp only [opsAt, List.getElem?_toArray, List.getElem?_cons_zero, List.getElem?_cons_succ, Option.getD_some]
    repeat (go_big_quiet_step (fail))
    refine wpQuiet_nil ?_
    clear gl
    refine wpFl_op rfl ?_
    intro w3 hb3 K' hK'
    go_simp
    refine (nm_both _ _ _ (sO.below hb3) (sb_nil _)).mono ?_
    rintro e w5 ⟨u, rfl, su, _, hq⟩
    refine hK' _ _ (Mod.of_below hq) ?_
    clear hK' K'
    have hb5 := below_to hb3 hq
    refine wpFl_tk ?_
    try simp only [opsAt, List.getElem?_toArray, List.getElem?_cons_zero, List.getElem?_cons_succ, Option.getD_some]
    repeat (go_big_quiet_step (fail))
    refine wpQuiet_nil ?_
    refine wpFl_tk ?_
    try simp only [opsAt, List.getElem?_toArray, List.getElem?_cons_zero, List.getElem?_cons_succ, Option.getD_some]
    repeat (go_big_quiet_step (fail))
    refine wpQuiet_nil ?_
    refine wpFl_tk ?_
    try simp only [opsAt, List.getElem?_toArray, List.getElem?_cons_zero, List.getElem?_cons_succ, Option.getD_some]
    repeat (go_big_quiet_step (fail))
    refine wpQuiet_nil ?_
    refine wpFl_fl rfl ?_
    intro b7 w6 hb6 o7 hl7 _
    go_simp
    have su' := su
    obtain ⟨au, cu, hu, _, _, _⟩ := su'.open
    subst hu
    clear su'
    refine wpFl_op rfl ?_
    intro w7 hb7 K' hK'
    have oB := o7.below hb7
    have hbF := below_to (below_to hb5 hb6) hb7
    clear rO fO zO rD fD zD
    obtain ⟨rB, fB⟩ := oB.rules
    have zB := oB.lt
    go_wp2_with fail
    refine hK' _ _ (((Mod.refl _ _).set (by simp) _ |>.set (by simp) _).set (by simp) _) ?_
    clear hK' K'
    refine wpFl_nil (fun w8 hb8 => ?_)
    try simp only [opsAt, List.getElem?_toArray, List.getElem?_cons_zero, List.getElem?_cons_succ, Option.getD_some]
    go_wp2
    go_meet
    refine ⟨b7, rfl, rfl, ?_⟩
    refine below_to ?_ hb8
    repeat (refine Below.setCell ?_ (by first | omega | (simp; omega)) _)
    exact hbF
  obtain ⟨bx, rfl, rfl, hq⟩ := hcut
  replace oO := oO.below hq
  replace oD := oD.below hq
  replace oF := oF.below hq
  replace sO := sO.below hq
  replace s3 := s3.below hq
  replace s4 := s4.below hq
  replace hB := below_to hB hq
  clear hq
  obtain ⟨v14, hv14⟩ : ∃ x, x = wc := ⟨_, rfl⟩
  subst hv14
  clear s3 s4 oD
  obtain ⟨rO, fO⟩ := oO.rules
  have zO := oO.lt
  go_wp2_with fail
  refine (nm_grow _ 9 0 _ sO (by decide +kernel)).mono ?_
  rintro e v15 ⟨uG1, rfl, sG1, _, hq⟩
  clear rO fO zO
  replace oO := oO.below hq
  replace oF := oF.below hq
  replace sO := sO.below hq
  replace hB := below_to hB hq
  clear hq
  have sG1' := sG1
  obtain ⟨aG1, cG1, huG1, _, _, _⟩ := sG1'.open
  subst huG1
  clear sG1'
  go_upto_region 15 with fail
  replace oO := oO.alloc (.cells #[.int .i64 0, .int .i64 0, .slice aG1 0 cG1] 24)
  replace oF := oF.alloc (.cells #[.int .i64 0, .int .i64 0, .slice aG1 0 cG1] 24)
  replace sO := sO.below (ba1 v15 (.cells #[.int .i64 0, .int .i64 0, .slice aG1 0 cG1] 24))
  replace sG1 := sG1.below (ba1 v15 (.cells #[.int .i64 0, .int .i64 0, .slice aG1 0 cG1] 24))
  replace hB := below_to hB (ba1 v15 (.cells #[.int .i64 0, .int .i64 0, .slice aG1 0 cG1] 24))
  have oG1 := Own.new v15 24 [.int .i64 0, .int .i64 0, .slice aG1 0 cG1]
  generalize hbk : v15.heap.size = kG1 at oG1 ⊢
  clear hbk
  generalize v15.alloc (.cells #[.int .i64 0, .int .i64 0, .slice aG1 0 cG1] 24) = y15 at *
  clear oG1 sG1
  obtain ⟨rO, fO⟩ := oO.rules
  have zO := oO.lt
  go_wp2_with fail
  refine (nm_grow _ 0 (-1) _ sO (by decide +kernel)).mono ?_
  rintro e v16 ⟨uG2, rfl, sG2, _, hq⟩
  clear rO fO zO
  replace oO := oO.below hq
  replace oF := oF.below hq
  replace sO := sO.below hq
  replace hB := below_to hB hq
  clear hq
  have sG2' := sG2
  obtain ⟨aG2, cG2, huG2, _, _, _⟩ := sG2'.open
  subst huG2
  clear sG2'
  go_upto_region 16 with fail
  replace oO := oO.alloc (.cells #[.int .i64 0, .int .i64 0, .slice aG2 0 cG2] 24)
  replace oF := oF.alloc (.cells #[.int .i64 0, .int .i64 0, .slice aG2 0 cG2] 24)
  replace sO := sO.below (ba1 v16 (.cells #[.int .i64 0, .int .i64 0, .slice aG2 0 cG2] 24))
  replace sG2 := sG2.below (ba1 v16 (.cells #[.int .i64 0, .int .i64 0, .slice aG2 0 cG2] 24))
  replace hB := below_to hB (ba1 v16 (.cells #[.int .i64 0, .int .i64 0, .slice aG2 0 cG2] 24))
  have oG2 := Own.new v16 24 [.int .i64 0, .int .i64 0, .slice aG2 0 cG2]
  generalize hbk : v16.heap.size = kG2 at oG2 ⊢
  clear hbk
  generalize v16.alloc (.cells #[.int .i64 0, .int .i64 0, .slice aG2 0 cG2] 24) = y16 at *
  clear oG2 sG2
  obtain ⟨rO, fO⟩ := oO.rules
  have zO := oO.lt
  go_wp2_with fail
  refine (nm_fill _ 0 1 _ sO ⟨by decide, by decide⟩ ⟨by decide, by decide⟩ (by decide +kernel)).mono ?_
  rintro e v17 ⟨uF1, rfl, sF1, _, hq⟩
  clear rO fO zO
  replace oO := oO.below hq
  replace oF := oF.below hq
  replace sO := sO.below hq
  replace hB := below_to hB hq
  clear hq
  have sF1' := sF1
  obtain ⟨aF1, cF1, huF1, _, _, _⟩ := sF1'.open
  subst huF1
  clear sF1'
  go_upto_region 17 with fail
  replace oO := oO.alloc (.cells #[.int .i64 0, .int .i64 0, .slice aF1 0 cF1] 24)
  replace oF := oF.alloc (.cells #[.int .i64 0, .int .i64 0, .slice aF1 0 cF1] 24)
  replace sO := sO.below (ba1 v17 (.cells #[.int .i64 0, .int .i64 0, .slice aF1 0 cF1] 24))
  replace sF1 := sF1.below (ba1 v17 (.cells #[.int .i64 0, .int .i64 0, .slice aF1 0 cF1] 24))
  replace hB := below_to hB (ba1 v17 (.cells #[.int .i64 0, .int .i64 0, .slice aF1 0 cF1] 24))
  have oF1 := Own.new v17 24 [.int .i64 0, .int .i64 0, .slice aF1 0 cF1]
  generalize hbk : v17.heap.size = kF1 at oF1 ⊢
  clear hbk
  generalize v17.alloc (.cells #[.int .i64 0, .int .i64 0, .slice aF1 0 cF1] 24) = y17 at *
  clear oF1 sF1
  obtain ⟨rO, fO⟩ := oO.rules
  have zO := oO.lt
  go_wp2_with fail
  refine (nm_fill _ 3 2 _ sO ⟨by decide, by decide⟩ ⟨by decide, by decide⟩ (by decide +kernel)).mono ?_
  rintro e v18 ⟨uF2, rfl, sF2, _, hq⟩
  clear rO fO zO
  replace oO := oO.below hq
  replace oF := oF.below hq
  replace sO := sO.below hq
  replace hB := below_to hB hq
  clear hq
  have sF2' := sF2
  obtain ⟨aF2, cF2, huF2, _, _, _⟩ := sF2'.open
  subst huF2
  clear sF2'
  go_upto_region 18 with fail
  replace oO := oO.alloc (.cells #[.int .i64 0, .int .i64 0, .slice aF2 0 cF2] 24)
  replace oF := oF.alloc (.cells #[.int .i64 0, .int .i64 0, .slice aF2 0 cF2] 24)
  replace sO := sO.below (ba1 v18 (.cells #[.int .i64 0, .int .i64 0, .slice aF2 0 cF2] 24))
  replace sF2 := sF2.below (ba1 v18 (.cells #[.int .i64 0, .int .i64 0, .slice aF2 0 cF2] 24))
  replace hB := below_to hB (ba1 v18 (.cells #[.int .i64 0, .int .i64 0, .slice aF2 0 cF2] 24))
  have oF2 := Own.new v18 24 [.int .i64 0, .int .i64 0, .slice aF2 0 cF2]
  generalize hbk : v18.heap.size = kF2 at oF2 ⊢
  clear hbk
  generalize v18.alloc (.cells #[.int .i64 0, .int .i64 0, .slice aF2 0 cF2] 24) = y18 at *
  clear oF2 sF2
  obtain ⟨rO, fO⟩ := oO.rules
  have zO := oO.lt
  go_wp2_with fail
  refine (nm_close _ 2 2 _ sO ⟨by decide, by decide⟩ ⟨by decide, by decide⟩ (by decide +kernel)).mono ?_
  rintro e v19 ⟨uK1, rfl, sK1, _, hq⟩
  clear rO fO zO
  replace oO := oO.below hq
  replace oF := oF.below hq
  replace sO := sO.below hq
  replace hB := below_to hB hq
  clear hq
  have sK1' := sK1
  obtain ⟨aK1, cK1, huK1, _, _, _⟩ := sK1'.open
  subst huK1
  clear sK1'
  go_upto_region 19 with fail
  replace oO := oO.alloc (.cells #[.int .i64 0, .int .i64 0, .slice aK1 0 cK1] 24)
  replace oF := oF.alloc (.cells #[.int .i64 0, .int .i64 0, .slice aK1 0 cK1] 24)
  replace sO := sO.below (ba1 v19 (.cells #[.int .i64 0, .int .i64 0, .slice aK1 0 cK1] 24))
  replace sK1 := sK1.below (ba1 v19 (.cells #[.int .i64 0, .int .i64 0, .slice aK1 0 cK1] 24))
  replace hB := below_to hB (ba1 v19 (.cells #[.int .i64 0, .int .i64 0, .slice aK1 0 cK1] 24))
  have oK1 := Own.new v19 24 [.int .i64 0, .int .i64 0, .slice aK1 0 cK1]
  generalize hbk : v19.heap.size = kK1 at oK1 ⊢
  clear hbk
  generalize v19.alloc (.cells #[.int .i64 0, .int .i64 0, .slice aK1 0 cK1] 24) = y19 at *
  clear oK1 sK1
  obtain ⟨rO, fO⟩ := oO.rules
  have zO := oO.lt
  go_wp2_with fail
  refine (nm_drop _ _ [] _ sO (si_nil _) (by decide +kernel)).mono ?_
  rintro e v20 ⟨uD1, rfl, sD1, _, hq⟩
  clear rO fO zO
  replace oO := oO.below hq
  replace oF := oF.below hq
  replace sO := sO.below hq
  replace hB := below_to hB hq
  clear hq
  have sD1' := sD1
  obtain ⟨aD1, cD1, huD1, _, _, _⟩ := sD1'.open
  subst huD1
  clear sD1'
  clear sD1
  obtain ⟨rO, fO⟩ := oO.rules
  have zO := oO.lt
  go_wp2_with fail
  have sI := si_lit v20 [-1] (by decide)
  replace oO := oO.below (ba1 v20 (.cells (([-1] : List Int).map (Value.int .i64)).toArray 3))
  replace oF := oF.below (ba1 v20 (.cells (([-1] : List Int).map (Value.int .i64)).toArray 3))
  replace sO := sO.below (ba1 v20 (.cells (([-1] : List Int).map (Value.int .i64)).toArray 3))
  replace hB := below_to hB (ba1 v20 (.cells (([-1] : List Int).map (Value.int .i64)).toArray 3))
  refine (nm_drop _ _ [-1] _ sO sI (by decide +kernel)).mono ?_
  rintro e v21 ⟨uE, rfl, sE, _, hq⟩
  clear rO fO zO
  replace oO := oO.below hq
  replace oF := oF.below hq
  replace sO := sO.below hq
  replace hB := below_to hB hq
  clear hq sI
  obtain ⟨aE, cE, huE, _, _, _⟩ := sE.open
  subst huE
  clear sE
  go_upto_region 23 with fail
  replace oO := oO.alloc (.cells #[.string ⟨#[]⟩, .string ⟨#[10]⟩, .string ⟨#[120]⟩, .string ⟨#[120, 10, 10]⟩, .string ⟨#[120, 10, 120, 120, 10]⟩, .string ⟨#[88, 10]⟩, .string ⟨#[120, 10, 46]⟩, .string ⟨#[120, 120, 120, 120, 120, 120, 120, 120, 120, 120, 120, 120, 120, 120, 120, 120, 120, 10]⟩] 9)
  replace oF := oF.alloc (.cells #[.string ⟨#[]⟩, .string ⟨#[10]⟩, .string ⟨#[120]⟩, .string ⟨#[120, 10, 10]⟩, .string ⟨#[120, 10, 120, 120, 10]⟩, .string ⟨#[88, 10]⟩, .string ⟨#[120, 10, 46]⟩, .string ⟨#[120, 120, 120, 120, 120, 120, 120, 120, 120, 120, 120, 120, 120, 120, 120, 120, 120, 10]⟩] 9)
  replace sO := sO.below (ba1 v21 (.cells #[.string ⟨#[]⟩, .string ⟨#[10]⟩, .string ⟨#[120]⟩, .string ⟨#[120, 10, 10]⟩, .string ⟨#[120, 10, 120, 120, 10]⟩, .string ⟨#[88, 10]⟩, .string ⟨#[120, 10, 46]⟩, .string ⟨#[120, 120, 120, 120, 120, 120, 120, 120, 120, 120, 120, 120, 120, 120, 120, 120, 120, 10]⟩] 9))
  replace hB := below_to hB (ba1 v21 (.cells #[.string ⟨#[]⟩, .string ⟨#[10]⟩, .string ⟨#[120]⟩, .string ⟨#[120, 10, 10]⟩, .string ⟨#[120, 10, 120, 120, 10]⟩, .string ⟨#[88, 10]⟩, .string ⟨#[120, 10, 46]⟩, .string ⟨#[120, 120, 120, 120, 120, 120, 120, 120, 120, 120, 120, 120, 120, 120, 120, 120, 120, 10]⟩] 9))
  have oS := Own.new v21 9 [.string ⟨#[]⟩, .string ⟨#[10]⟩, .string ⟨#[120]⟩, .string ⟨#[120, 10, 10]⟩, .string ⟨#[120, 10, 120, 120, 10]⟩, .string ⟨#[88, 10]⟩, .string ⟨#[120, 10, 46]⟩, .string ⟨#[120, 120, 120, 120, 120, 120, 120, 120, 120, 120, 120, 120, 120, 120, 120, 120, 120, 10]⟩]
  generalize hbk : v21.heap.size = kS at oS ⊢
  clear hbk
  generalize v21.alloc (.cells #[.string ⟨#[]⟩, .string ⟨#[10]⟩, .string ⟨#[120]⟩, .string ⟨#[120, 10, 10]⟩, .string ⟨#[120, 10, 120, 120, 10]⟩, .string ⟨#[88, 10]⟩, .string ⟨#[120, 10, 46]⟩, .string ⟨#[120, 120, 120, 120, 120, 120, 120, 120, 120, 120, 120, 120, 120, 120, 120, 120, 120, 10]⟩] 9) = y21 at *
  refine wp_loop_rounds 9 ?_
  rw [rounds_succ]
  obtain ⟨rS, fS⟩ := oS.rules
  have zS := oS.lt
  go_wp2_with fail
  refine (nm_p0 _).mono ?_
  rintro e v22 ⟨uP0, rfl, sP0, _, hq⟩
  clear rS fS zS
  replace oO := oO.below hq
  replace oF := oF.below hq
  replace oS := oS.below hq
  replace sO := sO.below hq
  replace hB := below_to hB hq
  clear hq
  have sP0' := sP0
  obtain ⟨aP0, cP0, huP0, _, _, _⟩ := sP0'.open
  subst huP0
  clear sP0'
  go_upto_region 26 with fail
  replace oO := oO.alloc (.cells #[.int .i64 0, .int .i64 0, .slice aP0 0 cP0] 24)
  replace oF := oF.alloc (.cells #[.int .i64 0, .int .i64 0, .slice aP0 0 cP0] 24)
  replace oS := oS.alloc (.cells #[.int .i64 0, .int .i64 0, .slice aP0 0 cP0] 24)
  replace sO := sO.below (ba1 v22 (.cells #[.int .i64 0, .int .i64 0, .slice aP0 0 cP0] 24))
  replace sP0 := sP0.below (ba1 v22 (.cells #[.int .i64 0, .int .i64 0, .slice aP0 0 cP0] 24))
  replace hB := below_to hB (ba1 v22 (.cells #[.int .i64 0, .int .i64 0, .slice aP0 0 cP0] 24))
  have oP0 := Own.new v22 24 [.int .i64 0, .int .i64 0, .slice aP0 0 cP0]
  generalize hbk : v22.heap.size = kP0 at oP0 ⊢
  clear hbk
  generalize v22.alloc (.cells #[.int .i64 0, .int .i64 0, .slice aP0 0 cP0] 24) = y22 at *
  clear oP0 sP0
  go_wp2
  rw [rounds_succ]
  obtain ⟨rS, fS⟩ := oS.rules
  have zS := oS.lt
  go_wp2_with fail
  refine (nm_p1 _).mono ?_
  rintro e v23 ⟨uP1, rfl, sP1, _, hq⟩
  clear rS fS zS
  replace oO := oO.below hq
  replace oF := oF.below hq
  replace oS := oS.below hq
  replace sO := sO.below hq
  replace hB := below_to hB hq
  clear hq
  have sP1' := sP1
  obtain ⟨aP1, cP1, huP1, _, _, _⟩ := sP1'.open
  subst huP1
  clear sP1'
  go_upto_region 26 with fail
  replace oO := oO.alloc (.cells #[.int .i64 0, .int .i64 0, .slice aP1 0 cP1] 24)
  replace oF := oF.alloc (.cells #[.int .i64 0, .int .i64 0, .slice aP1 0 cP1] 24)
  replace oS := oS.alloc (.cells #[.int .i64 0, .int .i64 0, .slice aP1 0 cP1] 24)
  replace sO := sO.below (ba1 v23 (.cells #[.int .i64 0, .int .i64 0, .slice aP1 0 cP1] 24))
  replace sP1 := sP1.below (ba1 v23 (.cells #[.int .i64 0, .int .i64 0, .slice aP1 0 cP1] 24))
  replace hB := below_to hB (ba1 v23 (.cells #[.int .i64 0, .int .i64 0, .slice aP1 0 cP1] 24))
  have oP1 := Own.new v23 24 [.int .i64 0, .int .i64 0, .slice aP1 0 cP1]
  generalize hbk : v23.heap.size = kP1 at oP1 ⊢
  clear hbk
  generalize v23.alloc (.cells #[.int .i64 0, .int .i64 0, .slice aP1 0 cP1] 24) = y23 at *
  clear oP1 sP1
  go_wp2
  rw [rounds_succ]
  obtain ⟨rS, fS⟩ := oS.rules
  have zS := oS.lt
  go_wp2_with fail
  refine (nm_p2 _).mono ?_
  rintro e v24 ⟨uP2, rfl, sP2, _, hq⟩
  clear rS fS zS
  replace oO := oO.below hq
  replace oF := oF.below hq
  replace oS := oS.below hq
  replace sO := sO.below hq
  replace hB := below_to hB hq
  clear hq
  have sP2' := sP2
  obtain ⟨aP2, cP2, huP2, _, _, _⟩ := sP2'.open
  subst huP2
  clear sP2'
  go_upto_region 26 with fail
  replace oO := oO.alloc (.cells #[.int .i64 0, .int .i64 0, .slice aP2 0 cP2] 24)
  replace oF := oF.alloc (.cells #[.int .i64 0, .int .i64 0, .slice aP2 0 cP2] 24)
  replace oS := oS.alloc (.cells #[.int .i64 0, .int .i64 0, .slice aP2 0 cP2] 24)
  replace sO := sO.below (ba1 v24 (.cells #[.int .i64 0, .int .i64 0, .slice aP2 0 cP2] 24))
  replace sP2 := sP2.below (ba1 v24 (.cells #[.int .i64 0, .int .i64 0, .slice aP2 0 cP2] 24))
  replace hB := below_to hB (ba1 v24 (.cells #[.int .i64 0, .int .i64 0, .slice aP2 0 cP2] 24))
  have oP2 := Own.new v24 24 [.int .i64 0, .int .i64 0, .slice aP2 0 cP2]
  generalize hbk : v24.heap.size = kP2 at oP2 ⊢
  clear hbk
  generalize v24.alloc (.cells #[.int .i64 0, .int .i64 0, .slice aP2 0 cP2] 24) = y24 at *
  clear oP2 sP2
  go_wp2
  rw [rounds_succ]
  obtain ⟨rS, fS⟩ := oS.rules
  have zS := oS.lt
  go_wp2_with fail
  refine (nm_p3 _).mono ?_
  rintro e v25 ⟨uP3, rfl, sP3, _, hq⟩
  clear rS fS zS
  replace oO := oO.below hq
  replace oF := oF.below hq
  replace oS := oS.below hq
  replace sO := sO.below hq
  replace hB := below_to hB hq
  clear hq
  have sP3' := sP3
  obtain ⟨aP3, cP3, huP3, _, _, _⟩ := sP3'.open
  subst huP3
  clear sP3'
  go_upto_region 26 with fail
  replace oO := oO.alloc (.cells #[.int .i64 0, .int .i64 0, .slice aP3 0 cP3] 24)
  replace oF := oF.alloc (.cells #[.int .i64 0, .int .i64 0, .slice aP3 0 cP3] 24)
  replace oS := oS.alloc (.cells #[.int .i64 0, .int .i64 0, .slice aP3 0 cP3] 24)
  replace sO := sO.below (ba1 v25 (.cells #[.int .i64 0, .int .i64 0, .slice aP3 0 cP3] 24))
  replace sP3 := sP3.below (ba1 v25 (.cells #[.int .i64 0, .int .i64 0, .slice aP3 0 cP3] 24))
  replace hB := below_to hB (ba1 v25 (.cells #[.int .i64 0, .int .i64 0, .slice aP3 0 cP3] 24))
  have oP3 := Own.new v25 24 [.int .i64 0, .int .i64 0, .slice aP3 0 cP3]
  generalize hbk : v25.heap.size = kP3 at oP3 ⊢
  clear hbk
  generalize v25.alloc (.cells #[.int .i64 0, .int .i64 0, .slice aP3 0 cP3] 24) = y25 at *
  clear oP3 sP3
  go_wp2
  rw [rounds_succ]
  obtain ⟨rS, fS⟩ := oS.rules
  have zS := oS.lt
  go_wp2_with fail
  refine (nm_p4 _).mono ?_
  rintro e v26 ⟨uP4, rfl, sP4, _, hq⟩
  clear rS fS zS
  replace oO := oO.below hq
  replace oF := oF.below hq
  replace oS := oS.below hq
  replace sO := sO.below hq
  replace hB := below_to hB hq
  clear hq
  have sP4' := sP4
  obtain ⟨aP4, cP4, huP4, _, _, _⟩ := sP4'.open
  subst huP4
  clear sP4'
  go_upto_region 26 with fail
  replace oO := oO.alloc (.cells #[.int .i64 0, .int .i64 0, .slice aP4 0 cP4] 24)
  replace oF := oF.alloc (.cells #[.int .i64 0, .int .i64 0, .slice aP4 0 cP4] 24)
  replace oS := oS.alloc (.cells #[.int .i64 0, .int .i64 0, .slice aP4 0 cP4] 24)
  replace sO := sO.below (ba1 v26 (.cells #[.int .i64 0, .int .i64 0, .slice aP4 0 cP4] 24))
  replace sP4 := sP4.below (ba1 v26 (.cells #[.int .i64 0, .int .i64 0, .slice aP4 0 cP4] 24))
  replace hB := below_to hB (ba1 v26 (.cells #[.int .i64 0, .int .i64 0, .slice aP4 0 cP4] 24))
  have oP4 := Own.new v26 24 [.int .i64 0, .int .i64 0, .slice aP4 0 cP4]
  generalize hbk : v26.heap.size = kP4 at oP4 ⊢
  clear hbk
  generalize v26.alloc (.cells #[.int .i64 0, .int .i64 0, .slice aP4 0 cP4] 24) = y26 at *
  clear oP4 sP4
  go_wp2
  rw [rounds_succ]
  obtain ⟨rS, fS⟩ := oS.rules
  have zS := oS.lt
  go_wp2_with fail
  refine (nm_p5 _).mono ?_
  rintro e v27 ⟨uP5, rfl, sP5, _, hq⟩
  clear rS fS zS
  replace oO := oO.below hq
  replace oF := oF.below hq
  replace oS := oS.below hq
  replace sO := sO.below hq
  replace hB := below_to hB hq
  clear hq
  have sP5' := sP5
  obtain ⟨aP5, cP5, huP5, _, _, _⟩ := sP5'.open
  subst huP5
  clear sP5'
  go_upto_region 26 with fail
  replace oO := oO.alloc (.cells #[.int .i64 0, .int .i64 0, .slice aP5 0 cP5] 24)
  replace oF := oF.alloc (.cells #[.int .i64 0, .int .i64 0, .slice aP5 0 cP5] 24)
  replace oS := oS.alloc (.cells #[.int .i64 0, .int .i64 0, .slice aP5 0 cP5] 24)
  replace sO := sO.below (ba1 v27 (.cells #[.int .i64 0, .int .i64 0, .slice aP5 0 cP5] 24))
  replace sP5 := sP5.below (ba1 v27 (.cells #[.int .i64 0, .int .i64 0, .slice aP5 0 cP5] 24))
  replace hB := below_to hB (ba1 v27 (.cells #[.int .i64 0, .int .i64 0, .slice aP5 0 cP5] 24))
  have oP5 := Own.new v27 24 [.int .i64 0, .int .i64 0, .slice aP5 0 cP5]
  generalize hbk : v27.heap.size = kP5 at oP5 ⊢
  clear hbk
  generalize v27.alloc (.cells #[.int .i64 0, .int .i64 0, .slice aP5 0 cP5] 24) = y27 at *
  clear oP5 sP5
  go_wp2
  rw [rounds_succ]
  obtain ⟨rS, fS⟩ := oS.rules
  have zS := oS.lt
  go_wp2_with fail
  refine (nm_p6 _).mono ?_
  rintro e v28 ⟨uP6, rfl, sP6, _, hq⟩
  clear rS fS zS
  replace oO := oO.below hq
  replace oF := oF.below hq
  replace oS := oS.below hq
  replace sO := sO.below hq
  replace hB := below_to hB hq
  clear hq
  have sP6' := sP6
  obtain ⟨aP6, cP6, huP6, _, _, _⟩ := sP6'.open
  subst huP6
  clear sP6'
  go_upto_region 26 with fail
  replace oO := oO.alloc (.cells #[.int .i64 0, .int .i64 0, .slice aP6 0 cP6] 24)
  replace oF := oF.alloc (.cells #[.int .i64 0, .int .i64 0, .slice aP6 0 cP6] 24)
  replace oS := oS.alloc (.cells #[.int .i64 0, .int .i64 0, .slice aP6 0 cP6] 24)
  replace sO := sO.below (ba1 v28 (.cells #[.int .i64 0, .int .i64 0, .slice aP6 0 cP6] 24))
  replace sP6 := sP6.below (ba1 v28 (.cells #[.int .i64 0, .int .i64 0, .slice aP6 0 cP6] 24))
  replace hB := below_to hB (ba1 v28 (.cells #[.int .i64 0, .int .i64 0, .slice aP6 0 cP6] 24))
  have oP6 := Own.new v28 24 [.int .i64 0, .int .i64 0, .slice aP6 0 cP6]
  generalize hbk : v28.heap.size = kP6 at oP6 ⊢
  clear hbk
  generalize v28.alloc (.cells #[.int .i64 0, .int .i64 0, .slice aP6 0 cP6] 24) = y28 at *
  clear oP6 sP6
  go_wp2
  rw [rounds_succ]
  obtain ⟨rS, fS⟩ := oS.rules
  have zS := oS.lt
  go_wp2_with fail
  refine (nm_p7 _).mono ?_
  rintro e v29 ⟨uP7, rfl, sP7, _, hq⟩
  clear rS fS zS
  replace oO := oO.below hq
  replace oF := oF.below hq
  replace oS := oS.below hq
  replace sO := sO.below hq
  replace hB := below_to hB hq
  clear hq
  have sP7' := sP7
  obtain ⟨aP7, cP7, huP7, _, _, _⟩ := sP7'.open
  subst huP7
  clear sP7'
  go_upto_region 26 with fail
  replace oO := oO.alloc (.cells #[.int .i64 0, .int .i64 0, .slice aP7 0 cP7] 24)
  replace oF := oF.alloc (.cells #[.int .i64 0, .int .i64 0, .slice aP7 0 cP7] 24)
  replace oS := oS.alloc (.cells #[.int .i64 0, .int .i64 0, .slice aP7 0 cP7] 24)
  replace sO := sO.below (ba1 v29 (.cells #[.int .i64 0, .int .i64 0, .slice aP7 0 cP7] 24))
  replace sP7 := sP7.below (ba1 v29 (.cells #[.int .i64 0, .int .i64 0, .slice aP7 0 cP7] 24))
  replace hB := below_to hB (ba1 v29 (.cells #[.int .i64 0, .int .i64 0, .slice aP7 0 cP7] 24))
  have oP7 := Own.new v29 24 [.int .i64 0, .int .i64 0, .slice aP7 0 cP7]
  generalize hbk : v29.heap.size = kP7 at oP7 ⊢
  clear hbk
  generalize v29.alloc (.cells #[.int .i64 0, .int .i64 0, .slice aP7 0 cP7] 24) = y29 at *
  clear oP7 sP7
  go_wp2
  rw [rounds_succ]
  clear oS
  go_upto_region 30 with fail
  go_loopw [32, 33] (fun s i wr => ∃ k : Nat, k ≤ 33 ∧ s = .string (bstr (rows k)) ∧ i = .int .i64 k ∧ wr = y29) (fun _ i _ => 33 - (intOf i).toNat)
  case atStart => exact ⟨0, by omega, rfl, rfl, rfl⟩
  case round =>
    obtain ⟨k, hk, rfl, rfl, rfl⟩ := hrel
    by_cases hlt : k < 33
    · have hz : (bstr (rows k)).size = 2 * k := by rw [bstr_size, rows_len]
      go_wp2
      go_roundw
      case rel => exact ⟨k + 1, by omega, by rw [bstr_app']; rfl, by go_num, trivial⟩
      case measure => simp [intOf]; omega
    obtain rfl : k = 33 := by omega
    clear hlt hk
    go_wp2_with fail
    refine (nm_long _).mono ?_
    rintro e v30 ⟨uL, rfl, sL, _, hq⟩
    replace oO := oO.below hq
    replace oF := oF.below hq
    replace sO := sO.below hq
    replace hB := below_to hB hq
    clear hq
    have sL' := sL
    obtain ⟨aL, cL, huL, _, _, _⟩ := sL'.open
    subst huL
    clear sL'
    go_upto_region 34 with fail
    replace oO := oO.alloc (.cells #[.int .i64 0, .int .i64 0, .slice aL 0 cL] 24)
    replace oF := oF.alloc (.cells #[.int .i64 0, .int .i64 0, .slice aL 0 cL] 24)
    replace sO := sO.below (ba1 v30 (.cells #[.int .i64 0, .int .i64 0, .slice aL 0 cL] 24))
    replace sL := sL.below (ba1 v30 (.cells #[.int .i64 0, .int .i64 0, .slice aL 0 cL] 24))
    replace hB := below_to hB (ba1 v30 (.cells #[.int .i64 0, .int .i64 0, .slice aL 0 cL] 24))
    have oL := Own.new v30 24 [.int .i64 0, .int .i64 0, .slice aL 0 cL]
    generalize hbk : v30.heap.size = kL at oL ⊢
    clear hbk
    generalize v30.alloc (.cells #[.int .i64 0, .int .i64 0, .slice aL 0 cL] 24) = y30 at *
    clear oL sL
    have hz : (bstr (rows 33)).size = 66 := by rw [bstr_size, rows_len]
    have h32 : (bstr (rows 33)).extract 0 64 = bstr (rows 32) := by decide +kernel
    go_wp2_with fail
    refine (nm_32 _).mono ?_
    rintro e v31 ⟨uM, rfl, sM, _, hq⟩
    replace oO := oO.below hq
    replace oF := oF.below hq
    replace sO := sO.below hq
    replace hB := below_to hB hq
    clear hq
    have sM' := sM
    obtain ⟨aM, cM, huM, _, _, _⟩ := sM'.open
    subst huM
    clear sM'
    clear hz h32
    go_upto_region 35 with fail
    replace oO := oO.alloc (.cells #[.int .i64 32, .int .i64 1, .slice aM none32.length cM] 24)
    replace oF := oF.alloc (.cells #[.int .i64 32, .int .i64 1, .slice aM none32.length cM] 24)
    replace sO := sO.below (ba1 v31 (.cells #[.int .i64 32, .int .i64 1, .slice aM none32.length cM] 24))
    replace sM := sM.below (ba1 v31 (.cells #[.int .i64 32, .int .i64 1, .slice aM none32.length cM] 24))
    replace hB := below_to hB (ba1 v31 (.cells #[.int .i64 32, .int .i64 1, .slice aM none32.length cM] 24))
    have oM := Own.new v31 24 [.int .i64 32, .int .i64 1, .slice aM none32.length cM]
    generalize hbk : v31.heap.size = kM at oM ⊢
    clear hbk
    generalize v31.alloc (.cells #[.int .i64 32, .int .i64 1, .slice aM none32.length cM] 24) = y31 at *
    obtain ⟨rO, fO⟩ := oO.rules
    obtain ⟨rF, fF⟩ := oF.rules
    have zO := oO.lt
    have zF := oF.lt
    go_wp2_with fail
    refine (nm_closed _ _ sO).mono ?_
    rintro e v32 ⟨uX, rfl, sX, _, hq⟩
    clear rO fO zO rF fF zF
    replace oO := oO.below hq
    replace oF := oF.below hq
    replace oM := oM.below hq
    replace sO := sO.below hq
    replace sM := sM.below hq
    replace hB := below_to hB hq
    clear hq
    have sX' := sX
    obtain ⟨aX, cX, huX, _, _, _⟩ := sX'.open
    subst huX
    clear sX'
    go_upto_region 36 with fail
    replace oO := oO.alloc (.cells #[.int .i64 1, .int .i64 1, .slice aX 1 cX] 24)
    replace oF := oF.alloc (.cells #[.int .i64 1, .int .i64 1, .slice aX 1 cX] 24)
    replace oM := oM.alloc (.cells #[.int .i64 1, .int .i64 1, .slice aX 1 cX] 24)
    replace sO := sO.below (ba1 v32 (.cells #[.int .i64 1, .int .i64 1, .slice aX 1 cX] 24))
    replace sM := sM.below (ba1 v32 (.cells #[.int .i64 1, .int .i64 1, .slice aX 1 cX] 24))
    replace sX := sX.below (ba1 v32 (.cells #[.int .i64 1, .int .i64 1, .slice aX 1 cX] 24))
    replace hB := below_to hB (ba1 v32 (.cells #[.int .i64 1, .int .i64 1, .slice aX 1 cX] 24))
    have oX := Own.new v32 24 [.int .i64 1, .int .i64 1, .slice aX 1 cX]
    generalize hbk : v32.heap.size = kX at oX ⊢
    clear hbk
    generalize v32.alloc (.cells #[.int .i64 1, .int .i64 1, .slice aX 1 cX] 24) = y32 at *
    obtain ⟨rM, fM⟩ := oM.rules
    obtain ⟨rF, fF⟩ := oF.rules
    have zM := oM.lt
    have zF := oF.lt
    go_wp2_with fail
    refine (nm_filled _ _ sM).mono ?_
    rintro e v33 ⟨uY, rfl, sY, _, hq⟩
    clear rM fM zM rF fF zF
    replace oO := oO.below hq
    replace oF := oF.below hq
    replace oM := oM.below hq
    replace oX := oX.below hq
    replace sO := sO.below hq
    replace sM := sM.below hq
    replace sX := sX.below hq
    replace hB := below_to hB hq
    clear hq
    have sY' := sY
    obtain ⟨aY, cY, huY, _, _, _⟩ := sY'.open
    subst huY
    clear sY'
    go_upto_region 37 with fail
    replace oO := oO.alloc (.cells #[.int .i64 32, .int .i64 1, .slice aY none32.length cY] 24)
    replace oF := oF.alloc (.cells #[.int .i64 32, .int .i64 1, .slice aY none32.length cY] 24)
    replace oM := oM.alloc (.cells #[.int .i64 32, .int .i64 1, .slice aY none32.length cY] 24)
    replace oX := oX.alloc (.cells #[.int .i64 32, .int .i64 1, .slice aY none32.length cY] 24)
    replace sO := sO.below (ba1 v33 (.cells #[.int .i64 32, .int .i64 1, .slice aY none32.length cY] 24))
    replace sM := sM.below (ba1 v33 (.cells #[.int .i64 32, .int .i64 1, .slice aY none32.length cY] 24))
    replace sX := sX.below (ba1 v33 (.cells #[.int .i64 32, .int .i64 1, .slice aY none32.length cY] 24))
    replace sY := sY.below (ba1 v33 (.cells #[.int .i64 32, .int .i64 1, .slice aY none32.length cY] 24))
    replace hB := below_to hB (ba1 v33 (.cells #[.int .i64 32, .int .i64 1, .slice aY none32.length cY] 24))
    have oY := Own.new v33 24 [.int .i64 32, .int .i64 1, .slice aY none32.length cY]
    generalize hbk : v33.heap.size = kY at oY ⊢
    clear hbk
    generalize v33.alloc (.cells #[.int .i64 32, .int .i64 1, .slice aY none32.length cY] 24) = y33 at *
    obtain ⟨rY, fY⟩ := oY.rules
    have zY := oY.lt
    go_wp2_with fail
    refine (nm_none _ _ sY).mono ?_
    rintro e v34 ⟨rfl, hq⟩
    clear rY fY zY
    replace oO := oO.below hq
    replace oF := oF.below hq
    replace oM := oM.below hq
    replace oX := oX.below hq
    replace oY := oY.below hq
    replace sO := sO.below hq
    replace sM := sM.below hq
    replace sX := sX.below hq
    replace sY := sY.below hq
    replace hB := below_to hB hq
    clear hq
    go_wp2_with fail
    refine (alive_any _).mono ?_
    rintro e v35 ⟨rfl, hq⟩
    replace oO := oO.below hq
    replace oF := oF.below hq
    replace oM := oM.below hq
    replace oX := oX.below hq
    replace oY := oY.below hq
    replace sO := sO.below hq
    replace sM := sM.below hq
    replace sX := sX.below hq
    replace sY := sY.below hq
    replace hB := below_to hB hq
    clear hq
    obtain ⟨rX, fX⟩ := oX.rules
    obtain ⟨rO, fO⟩ := oO.rules
    obtain ⟨rM, fM⟩ := oM.rules
    have zX := oX.lt
    have zO := oO.lt
    have zM := oM.lt
    go_wp2_with fail
    refine (nm_same _ _ _ sX sO).mono ?_
    rintro e v36 ⟨rfl, hq⟩
    clear rX fX zX rO fO zO rM fM zM
    replace oO := oO.below hq
    replace oF := oF.below hq
    replace oM := oM.below hq
    replace oX := oX.below hq
    replace oY := oY.below hq
    replace sO := sO.below hq
    replace sM := sM.below hq
    replace sX := sX.below hq
    replace sY := sY.below hq
    replace hB := below_to hB hq
    clear hq
    obtain ⟨rX, fX⟩ := oX.rules
    obtain ⟨rO, fO⟩ := oO.rules
    obtain ⟨rM, fM⟩ := oM.rules
    have zX := oX.lt
    have zO := oO.lt
    have zM := oM.lt
    go_wp2
    go_ret
    exact ⟨rfl, hB⟩

end Go.Proofs.Ytpkggglifahioaa
