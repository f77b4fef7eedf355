/- What is proved here: the contract of flag.Parse. No condition. -/
import Derived.Test.YtpkggglifahioaaStrC
namespace Go.Proofs.Ytpkggglifahioaa
open Go.RowKit

/-- The place of the first line's end, or the length. -/
def fst10 : List UInt8 → Nat
  | [] => 0
  | b :: l => if b == 10 then 0 else fst10 l + 1
theorem fst10_le : ∀ l, fst10 l ≤ l.length
  | [] => Nat.le_refl _
  | b :: l => by have := fst10_le l; unfold fst10; split <;> simp; omega
theorem index_fst : ∀ l, Lib.indexByte l 10 = if fst10 l < l.length then (fst10 l : Int) else -1
  | [] => by simp [Lib.indexByte, fst10]
  | b :: l => by
    have ih := index_fst l
    unfold Lib.indexByte fst10
    by_cases hb : (b == 10) = true
    · simp [hb]
    · simp only [hb, if_false, Bool.false_eq_true]
      rw [ih]
      by_cases h : fst10 l < l.length
      · simp only [h, if_true]
        have hne : ¬ (((fst10 l : Int) == -1) = true) := by simp
        rw [if_neg hne, if_pos (by simp; exact h)]
        rfl
      · simp only [h, if_false]
        rw [if_pos (by simp), if_neg (by simp; omega)]
def pgood (l : List UInt8) : Bool := decide (fst10 l ≠ 0) && decide (fst10 l ≤ 16) && decide (l.length % (fst10 l + 1) = 0) && decide (l.length / (fst10 l + 1) ≤ 32) && okN l (fst10 l) l.length
def perr (l : List UInt8) : Int := if pgood l then 0 else 12
def pT (l : List UInt8) : Int := if pgood l then (l.length / (fst10 l + 1) : Nat) else 0
def pCh (l : List UInt8) : Int := if pgood l then fst10 l else 0
def pB (l : List UInt8) : List Bool := if pgood l then bitN l (fst10 l) l.length else []

theorem bit_len (s : List UInt8) (C : Nat) : ∀ n, (bitN s C n).length ≤ n
  | 0 => Nat.le_refl _
  | n + 1 => by have := bit_len s C n; rw [bitN]; split <;> simp <;> omega

theorem idx_any (l : List UInt8) (w : World) :
    Calls Try.prog 45 #[.string (bstr l), .int .u8 10] w fun e w' => e = .returned (.int .i64 (Lib.indexByte l 10)) ∧ Below w.heap.size w w' :=
  (Try.strings_IndexByte (bstr l) 10 w).mono fun e w' ⟨h1, h2⟩ => by
    subst h2
    exact ⟨h1, Below.refl _ _⟩

theorem p_bad {l : List UInt8} (h : pgood l = false) : perr l = 12 ∧ pT l = 0 ∧ pCh l = 0 ∧ pB l = [] := by unfold perr pT pCh pB; rw [h]; simp
theorem p_good {l : List UInt8} (h : pgood l = true) : perr l = 0 ∧ pT l = (l.length / (fst10 l + 1) : Nat) ∧ pCh l = fst10 l ∧ pB l = bitN l (fst10 l) l.length := by unfold perr pT pCh pB; rw [h]; simp
theorem pgood_no {l : List UInt8} (h : ¬ (fst10 l ≠ 0 ∧ fst10 l ≤ 16 ∧ l.length % (fst10 l + 1) = 0 ∧ l.length / (fst10 l + 1) ≤ 32 ∧ okN l (fst10 l) l.length = true)) : pgood l = false := by
  rw [← Bool.not_eq_true]; intro h'; apply h; unfold pgood at h'; simpa [and_assoc] using h'
theorem pgood_yes {l : List UInt8} (h : fst10 l ≠ 0 ∧ fst10 l ≤ 16 ∧ l.length % (fst10 l + 1) = 0 ∧ l.length / (fst10 l + 1) ≤ 32 ∧ okN l (fst10 l) l.length = true) : pgood l = true := by
  unfold pgood; simpa [and_assoc] using h
theorem okN_bad {s : List UInt8} {C k n : Nat} (h : okAt s C k = false) (hk : k < n) : ¬ okN s C n = true := by
  rw [okN_all]; intro h'; rw [h' k hk] at h; cases h

set_option maxRecDepth 100000 in
set_option maxHeartbeats 4000000 in
theorem parse_any (l : List UInt8) (w : World) (hl : l.length ≤ 100000) :
    Calls Try.prog 24 #[.string (bstr l)] w fun e w' => ∃ u, e = .returned (.tuple #[.agg #[.int .i64 (pT l), .int .i64 (pCh l), u], .int .i64 (perr l)]) ∧ SB w' u (pB l) ∧ Frv w.heap.size u ∧ Below w.heap.size w w' := by
  have hsz := bstr_size l
  have hj := Lib.hid (index_fst l)
  generalize hjj : Lib.indexByte l 10 = j at hj
  have HJ := Lib.hid hjj
  clear hjj
  have hfl := fst10_le l
  by_cases p1 : j < 1
  · have HG : Hid (perr l = 12 ∧ pT l = 0 ∧ pCh l = 0 ∧ pB l = []) := Lib.hid (p_bad (pgood_no (by
      rintro ⟨g1, g2, g3, _⟩
      have h := hj.out
      by_cases hh : fst10 l < l.length
      · rw [if_pos hh] at h; omega
      · have : fst10 l = l.length := by omega
        rw [this, Nat.mod_eq_of_lt (by omega)] at g3; omega)))
    go_enter Try.func24, Try.ntmps24
    go_wp2_with fail
    refine (idx_any l _).mono ?_
    rintro e w1 ⟨rfl, hb1⟩
    rw [HJ.out]
    have z0 := bsz1 hb1
    have hb := below_to (ba1 _ _) hb1
    have y0 : w1.cell? ⟨w.heap.size, 0, none⟩ = some (.int .i64 0) := below_cell hb1 (by simp [go_sem])
    have y1 : w1.cell? ⟨w.heap.size, 1, none⟩ = some (.int .i64 0) := below_cell hb1 (by simp [go_sem])
    have y2 : w1.cell? ⟨w.heap.size, 2, none⟩ = some (.slice none 0 0) := below_cell hb1 (by simp [go_sem])
    have y3 : w1.frozen? ⟨w.heap.size, 0, none⟩ = false := frozen_below hb1 (by simp) (by simp [go_sem])
    have y4 : w1.frozen? ⟨w.heap.size, 1, none⟩ = false := frozen_below hb1 (by simp) (by simp [go_sem])
    have y5 : w1.frozen? ⟨w.heap.size, 2, none⟩ = false := frozen_below hb1 (by simp) (by simp [go_sem])
    clear hb1
    go_wp2
    refine bodyPost_ret (v := .tuple #[.agg #[.int .i64 0, .int .i64 0, .slice none 0 0], .int .i64 12]) (by simp [results, Try.results24, go_sem, y0, y1, y2]) rfl ⟨.slice none 0 0, ?_, ?_, trivial, ?_⟩
    · rw [HG.out.1, HG.out.2.1, HG.out.2.2.1]
    · rw [HG.out.2.2.2]; exact sb_nil _
    · exact ((hb.setCell (by simp) _).setCell (by simp) _).setCell (by simp) _
  · have hn : ∃ n : Nat, j = n ∧ n = fst10 l ∧ n < l.length := by
      have h := hj.out
      by_cases hh : fst10 l < l.length
      · rw [if_pos hh] at h; exact ⟨_, h, rfl, hh⟩
      · rw [if_neg hh] at h; omega
    obtain ⟨n, rfl, hnf, hnl⟩ := hn
    clear hj hfl
    have HF := Lib.hid hnf
    clear hnf
    have hdl : l.length / (n + 1) ≤ l.length := Nat.div_le_self _ _
    have e1 : ((l.length : Nat) : Int) % ((n : Int) + 1) = ((l.length % (n + 1) : Nat) : Int) := by simp
    have e2 : wrap64 (((l.length : Nat) : Int) / ((n : Int) + 1)) = ((l.length / (n + 1) : Nat) : Int) := by rw [← IntWalk.wrap64_in ((l.length / (n + 1) : Nat) : Int) (by generalize l.length / (n + 1) = q at hdl; omega)]; simp
    generalize hq : l.length / (n + 1) = q at e2 hdl
    generalize hr : l.length % (n + 1) = r at e1
    have HQ := Lib.hid hq
    have HR := Lib.hid hr
    clear hq hr
    by_cases p2 : 16 < n
    · have HG : Hid (perr l = 12 ∧ pT l = 0 ∧ pCh l = 0 ∧ pB l = []) := Lib.hid (p_bad (pgood_no (by rw [← HF.out]; omega)))
      go_enter Try.func24, Try.ntmps24
      go_wp2_with fail
      refine (idx_any l _).mono ?_
      rintro e w1 ⟨rfl, hb1⟩
      rw [HJ.out]
      have z0 := bsz1 hb1
      have hb := below_to (ba1 _ _) hb1
      have y0 : w1.cell? ⟨w.heap.size, 0, none⟩ = some (.int .i64 0) := below_cell hb1 (by simp [go_sem])
      have y1 : w1.cell? ⟨w.heap.size, 1, none⟩ = some (.int .i64 0) := below_cell hb1 (by simp [go_sem])
      have y2 : w1.cell? ⟨w.heap.size, 2, none⟩ = some (.slice none 0 0) := below_cell hb1 (by simp [go_sem])
      have y3 : w1.frozen? ⟨w.heap.size, 0, none⟩ = false := frozen_below hb1 (by simp) (by simp [go_sem])
      have y4 : w1.frozen? ⟨w.heap.size, 1, none⟩ = false := frozen_below hb1 (by simp) (by simp [go_sem])
      have y5 : w1.frozen? ⟨w.heap.size, 2, none⟩ = false := frozen_below hb1 (by simp) (by simp [go_sem])
      clear hb1
      go_wp2
      refine bodyPost_ret (v := .tuple #[.agg #[.int .i64 0, .int .i64 0, .slice none 0 0], .int .i64 12]) (by simp [results, Try.results24, go_sem, y0, y1, y2]) rfl ⟨.slice none 0 0, ?_, ?_, trivial, ?_⟩
      · rw [HG.out.1, HG.out.2.1, HG.out.2.2.1]
      · rw [HG.out.2.2.2]; exact sb_nil _
      · exact ((hb.setCell (by simp) _).setCell (by simp) _).setCell (by simp) _
    · by_cases p3 : r = 0
      · have t3 : ((r : Int) != 0) = false := by simp [p3]
        by_cases p4 : 32 < q
        · have HG : Hid (perr l = 12 ∧ pT l = 0 ∧ pCh l = 0 ∧ pB l = []) := Lib.hid (p_bad (pgood_no (by rintro ⟨_, _, h3, h4, _⟩; rw [← HF.out] at h3 h4; rw [HR.out] at h3; rw [HQ.out] at h4; omega)))
          clear p3
          go_enter Try.func24, Try.ntmps24
          go_wp2_with fail
          refine (idx_any l _).mono ?_
          rintro e w1 ⟨rfl, hb1⟩
          rw [HJ.out]
          have z0 := bsz1 hb1
          have hb := below_to (ba1 _ _) hb1
          have y0 : w1.cell? ⟨w.heap.size, 0, none⟩ = some (.int .i64 0) := below_cell hb1 (by simp [go_sem])
          have y1 : w1.cell? ⟨w.heap.size, 1, none⟩ = some (.int .i64 0) := below_cell hb1 (by simp [go_sem])
          have y2 : w1.cell? ⟨w.heap.size, 2, none⟩ = some (.slice none 0 0) := below_cell hb1 (by simp [go_sem])
          have y3 : w1.frozen? ⟨w.heap.size, 0, none⟩ = false := frozen_below hb1 (by simp) (by simp [go_sem])
          have y4 : w1.frozen? ⟨w.heap.size, 1, none⟩ = false := frozen_below hb1 (by simp) (by simp [go_sem])
          have y5 : w1.frozen? ⟨w.heap.size, 2, none⟩ = false := frozen_below hb1 (by simp) (by simp [go_sem])
          clear hb1
          go_wp2
          refine bodyPost_ret (v := .tuple #[.agg #[.int .i64 0, .int .i64 0, .slice none 0 0], .int .i64 12]) (by simp [results, Try.results24, go_sem, y0, y1, y2]) rfl ⟨.slice none 0 0, ?_, ?_, trivial, ?_⟩
          · rw [HG.out.1, HG.out.2.1, HG.out.2.2.1]
          · rw [HG.out.2.2.2]; exact sb_nil _
          · exact ((hb.setCell (by simp) _).setCell (by simp) _).setCell (by simp) _
        · have hlen : l.length = q * (n + 1) := by
            have h := Nat.div_add_mod l.length (n + 1)
            rw [HR.out, HQ.out, p3, Nat.add_zero, Nat.mul_comm] at h; omega
          have hl5 : l.length ≤ 544 := by rw [hlen]; have := Nat.mul_le_mul (show q ≤ 32 by omega) (show n + 1 ≤ 17 by omega); omega
          have HL := Lib.hid hlen
          have P3 := Lib.hid p3
          clear hlen p3
          go_enter Try.func24, Try.ntmps24
          go_wp2_with fail
          refine (idx_any l _).mono ?_
          rintro e w1 ⟨rfl, hb1⟩
          rw [HJ.out]
          have z0 := bsz1 hb1
          have hb := below_to (ba1 _ _) hb1
          have y0 : w1.cell? ⟨w.heap.size, 0, none⟩ = some (.int .i64 0) := below_cell hb1 (by simp [go_sem])
          have y1 : w1.cell? ⟨w.heap.size, 1, none⟩ = some (.int .i64 0) := below_cell hb1 (by simp [go_sem])
          have y2 : w1.cell? ⟨w.heap.size, 2, none⟩ = some (.slice none 0 0) := below_cell hb1 (by simp [go_sem])
          have y3 : w1.frozen? ⟨w.heap.size, 0, none⟩ = false := frozen_below hb1 (by simp) (by simp [go_sem])
          have y4 : w1.frozen? ⟨w.heap.size, 1, none⟩ = false := frozen_below hb1 (by simp) (by simp [go_sem])
          have y5 : w1.frozen? ⟨w.heap.size, 2, none⟩ = false := frozen_below hb1 (by simp) (by simp [go_sem])
          clear hb1
          go_wp2
          go_loopw [43] (fun i wr => ∃ (k : Nat) (ov : Value), k ≤ l.length ∧ i = .int .i64 k ∧ Hid (okN l n k = true) ∧ Own wr w1.heap.size 24 [.int .i64 q, .int .i64 n, ov] ∧ wr.ownsRow (w1.heap.size + 1) 4 1 ov (bitN l n k).length ((bitN l n k).map Value.bool) ∧ Below w1.heap.size w1 wr) (fun i _ => l.length - (intOf i).toNat)
          case atStart => exact ⟨0, _, Nat.zero_le _, rfl, Lib.hid rfl, Own.new w1 _ _, World.ownsRow_nil _ _ _ _, ba1 _ _⟩
          case round =>
            obtain ⟨k, ov, hk, rfl, hok, ob, ow, hbr⟩ := hrel
            clear e1 e2 t3
            have q2 : wr.cell? ⟨w1.heap.size, 2, none⟩ = some ov := ob.cell 2 (by simp)
            have q3 : wr.frozen? ⟨w1.heap.size, 2, none⟩ = false := ob.free 2
            by_cases hlt : k < l.length
            · have em : ((k : Nat) : Int) % ((n : Int) + 1) = ((k % (n + 1) : Nat) : Int) := by simp
              have hmod : k % (n + 1) < n + 1 := Nat.mod_lt _ (by omega)
              generalize hr' : k % (n + 1) = r' at em hmod
              have HK := Lib.hid hr'
              clear hr'
              have hh : k < (bstr l).size := by omega
              have hx : ((bstr l)[k]'hh).toNat = (l[k]).toNat := rfl
              have hgd : l.getD k 0 = l[k] := by rw [List.getD_eq_getElem?_getD, List.getElem?_eq_getElem hlt]; rfl
              generalize l[k] = c at hx hgd
              by_cases pe : r' = n
              · have pe' : ((r' : Int) == (n : Int)) = true := by simp [pe]
                have HO : Hid (okAt l n k = (c == 10)) := by show okAt l n k = _; unfold okAt; rw [if_pos (by rw [HK.out]; exact pe), hgd]
                by_cases pc : c = 10
                · have hx2 : ((bstr l)[k]'hh).toNat = 10 := by rw [hx, pc]; rfl
                  have HB : Hid (bitN l n (k + 1) = bitN l n k) := by show bitN l n (k + 1) = _; rw [bitN, if_neg (by rw [HK.out]; omega)]
                  have HO2 : Hid (okN l n (k + 1) = true) := by show okN l n (k + 1) = true; rw [okN, hok.out, HO.out, pc]; rfl
                  clear hx
                  go_wp2
                  go_roundw
                  case rel => exact ⟨k + 1, ov, by omega, by go_num, HO2, ob, by rw [HB.out]; exact ow, hbr⟩
                  case measure => simp [intOf]; omega
                · have hc : ((c.toNat : Int) == 10) = false := by simp; intro h; apply pc; apply UInt8.toNat_inj.1; exact_mod_cast h
                  have HO : Hid (okAt l n k = false) := by show okAt l n k = false; rw [HO.out]; simpa using pc
                  clear pc
                  have HG : Hid (perr l = 12 ∧ pT l = 0 ∧ pCh l = 0 ∧ pB l = []) := Lib.hid (p_bad (pgood_no (by rintro ⟨_, _, _, _, h5⟩; rw [← HF.out] at h5; exact okN_bad (HO.out) hlt h5)))
                  have r0 := below_cell hbr y0
                  have r1 := below_cell hbr y1
                  have r2 := below_cell hbr y2
                  have g0 := frozen_below hbr z0 y3
                  have g1 := frozen_below hbr z0 y4
                  have g2 := frozen_below hbr z0 y5
                  have hbb := below_to hb hbr
                  clear y0 y1 y2 y3 y4 y5
                  go_wp2
                  refine bodyPost_ret (v := .tuple #[.agg #[.int .i64 0, .int .i64 0, .slice none 0 0], .int .i64 12]) (by simp [results, Try.results24, go_sem, r0, r1, r2]) rfl ⟨.slice none 0 0, ?_, ?_, trivial, ?_⟩
                  · rw [HG.out.1, HG.out.2.1, HG.out.2.2.1]
                  · rw [HG.out.2.2.2]; exact sb_nil _
                  · exact ((hbb.setCell (by simp) _).setCell (by simp) _).setCell (by simp) _
              · have pe' : ((r' : Int) == (n : Int)) = false := by simp; omega
                have HO : Hid (okAt l n k = (c == 120 || c == 46)) := by show okAt l n k = _; unfold okAt; rw [if_neg (by rw [HK.out]; exact pe), hgd]
                by_cases pc : c = 120
                · have hx2 : ((bstr l)[k]'hh).toNat = 120 := by rw [hx, pc]; rfl
                  clear hx
                  have HB : Hid (bitN l n (k + 1) = bitN l n k ++ [true]) := by show bitN l n (k + 1) = _; rw [bitN, if_pos (by rw [HK.out]; omega), hgd, pc]; rfl
                  have HO2 : Hid (okN l n (k + 1) = true) := by show okN l n (k + 1) = true; rw [okN, hok.out, HO.out, pc]; rfl
                  have hbl := ob.lt
                  have hbn : (bitN l n k).length ≤ 544 := by have := bit_len l n k; omega
                  go_wp2_with (at_builtin; refine wpList_app _ rfl _ _ _ rfl (w1.heap.size + 1) 4 1 1 (.bool false) Try.underlying22 Try.infoBool rfl (by omega) (by omega) ov _ _ rfl (ow.alloc _) (by omega) (by simp; omega) wr.heap.size [.bool true] (0, 0) rfl (heap_alloc_new wr _) rfl (by simp [Value.oneCell']) ?_; intro g cap w2 hown hg hbw; have k2 := below_cell_at hbw (by omega) (below_cell (ba1 wr _) q2); have k3 := below_frozen_at hbw (by omega) (frozen_below (ba1 wr _) hbl q3))
                  go_roundw
                  case rel =>
                    refine ⟨k + 1, .slice (some ⟨g, 0, none⟩) ((bitN l n k).length + 1) cap, by omega, by go_num, HO2, ((ob.alloc _).at hbw (by omega)).set 2 _, ?_, ?_⟩
                    · rw [HB.out, List.length_append, List.map_append]
                      exact owns_set_low hown (by simp) _
                    · exact (below_to hbr (ba1 wr _)).trans ((hbw.mono (B' := w1.heap.size) (by omega)).setCell (p := ⟨w1.heap.size, 2, none⟩) (by simp) _)
                  case measure => simp [intOf]; omega
                · have hc : ((c.toNat : Int) == 120) = false := by simp; intro h; apply pc; apply UInt8.toNat_inj.1; exact_mod_cast h
                  by_cases pc2 : c = 46
                  · have hx2 : ((bstr l)[k]'hh).toNat = 46 := by rw [hx, pc2]; rfl
                    clear hx hc pc
                    have pc := pc2
                    clear pc2
                    have HB : Hid (bitN l n (k + 1) = bitN l n k ++ [false]) := by show bitN l n (k + 1) = _; rw [bitN, if_pos (by rw [HK.out]; omega), hgd, pc]; rfl
                    have HO2 : Hid (okN l n (k + 1) = true) := by show okN l n (k + 1) = true; rw [okN, hok.out, HO.out, pc]; rfl
                    have hbl := ob.lt
                    have hbn : (bitN l n k).length ≤ 544 := by have := bit_len l n k; omega
                    go_wp2_with (at_builtin; refine wpList_app _ rfl _ _ _ rfl (w1.heap.size + 1) 4 1 1 (.bool false) Try.underlying22 Try.infoBool rfl (by omega) (by omega) ov _ _ rfl (ow.alloc _) (by omega) (by simp; omega) wr.heap.size [.bool false] (0, 0) rfl (heap_alloc_new wr _) rfl (by simp [Value.oneCell']) ?_; intro g cap w2 hown hg hbw; have k2 := below_cell_at hbw (by omega) (below_cell (ba1 wr _) q2); have k3 := below_frozen_at hbw (by omega) (frozen_below (ba1 wr _) hbl q3))
                    go_roundw
                    case rel =>
                      refine ⟨k + 1, .slice (some ⟨g, 0, none⟩) ((bitN l n k).length + 1) cap, by omega, by go_num, HO2, ((ob.alloc _).at hbw (by omega)).set 2 _, ?_, ?_⟩
                      · rw [HB.out, List.length_append, List.map_append]
                        exact owns_set_low hown (by simp) _
                      · exact (below_to hbr (ba1 wr _)).trans ((hbw.mono (B' := w1.heap.size) (by omega)).setCell (p := ⟨w1.heap.size, 2, none⟩) (by simp) _)
                    case measure => simp [intOf]; omega
                  · have hc2 : ((c.toNat : Int) == 46) = false := by simp; intro h; apply pc2; apply UInt8.toNat_inj.1; exact_mod_cast h
                    have HO : Hid (okAt l n k = false) := by show okAt l n k = false; rw [HO.out]; simp [pc, pc2]
                    clear pc pc2
                    have HG : Hid (perr l = 12 ∧ pT l = 0 ∧ pCh l = 0 ∧ pB l = []) := Lib.hid (p_bad (pgood_no (by rintro ⟨_, _, _, _, h5⟩; rw [← HF.out] at h5; exact okN_bad (HO.out) hlt h5)))
                    have r0 := below_cell hbr y0
                    have r1 := below_cell hbr y1
                    have r2 := below_cell hbr y2
                    have g0 := frozen_below hbr z0 y3
                    have g1 := frozen_below hbr z0 y4
                    have g2 := frozen_below hbr z0 y5
                    have hbb := below_to hb hbr
                    clear y0 y1 y2 y3 y4 y5
                    go_wp2
                    refine bodyPost_ret (v := .tuple #[.agg #[.int .i64 0, .int .i64 0, .slice none 0 0], .int .i64 12]) (by simp [results, Try.results24, go_sem, r0, r1, r2]) rfl ⟨.slice none 0 0, ?_, ?_, trivial, ?_⟩
                    · rw [HG.out.1, HG.out.2.1, HG.out.2.2.1]
                    · rw [HG.out.2.2.2]; exact sb_nil _
                    · exact ((hbb.setCell (by simp) _).setCell (by simp) _).setCell (by simp) _
            · obtain rfl : k = l.length := by omega
              have HG : Hid (perr l = 0 ∧ pT l = (l.length / (fst10 l + 1) : Nat) ∧ pCh l = fst10 l ∧ pB l = bitN l (fst10 l) l.length) := Lib.hid (p_good (pgood_yes (by rw [← HF.out, HQ.out, HR.out]; exact ⟨by omega, by omega, P3.out, by omega, hok.out⟩)))
              have k0 : wr.cell? ⟨w1.heap.size, 0, none⟩ = some (.int .i64 q) := ob.cell 0 (by simp)
              have k1 : wr.cell? ⟨w1.heap.size, 1, none⟩ = some (.int .i64 n) := ob.cell 1 (by simp)
              have r0 := below_cell hbr y0
              have r1 := below_cell hbr y1
              have r2 := below_cell hbr y2
              have g0 := frozen_below hbr z0 y3
              have g1 := frozen_below hbr z0 y4
              have g2 := frozen_below hbr z0 y5
              have hbn : (bitN l n l.length).length ≤ 544 := by have := bit_len l n l.length; omega
              have hsl := owns_sl ow (by omega)
              have hfr := owns_frv ow
              generalize hbits : bitN l n l.length = bits at hsl hbn
              have HBt := Lib.hid hbits
              clear hbits ow
              obtain ⟨sa, sc, hov, s1, s2, s3⟩ := hsl
              subst hov
              go_wp2
              refine bodyPost_ret (v := .tuple #[.agg #[.int .i64 q, .int .i64 n, .slice sa bits.length sc], .int .i64 0]) (by simp [results, Try.results24, go_sem, r0, r1, r2]) rfl ⟨.slice sa bits.length sc, ?_, ?_, hfr.mono (by have := hb.size; omega), ?_⟩
              · rw [HG.out.1, HG.out.2.1, HG.out.2.2.1, ← HF.out, HQ.out]
              · rw [HG.out.2.2.2, ← HF.out, HBt.out]
                unfold SB
                have h6 : Sl wr (.slice sa bits.length sc) bits.length (bits.map Value.bool) := ⟨sa, sc, rfl, s1, s2, s3⟩
                exact ((h6.low hfr (by simp; omega) _).low hfr (by simp; omega) _).low hfr (by simp; omega) _
              · exact (((below_to hb hbr).setCell (by simp) _).setCell (by simp) _).setCell (by simp) _
      · have HG : Hid (perr l = 12 ∧ pT l = 0 ∧ pCh l = 0 ∧ pB l = []) := Lib.hid (p_bad (pgood_no (by rintro ⟨_, _, h3, h4, _⟩; rw [← HF.out] at h3 h4; rw [HR.out] at h3; rw [HQ.out] at h4; omega)))
        have t3 : ((r : Int) != 0) = true := by simp; omega
        clear p3
        go_enter Try.func24, Try.ntmps24
        go_wp2_with fail
        refine (idx_any l _).mono ?_
        rintro e w1 ⟨rfl, hb1⟩
        rw [HJ.out]
        have z0 := bsz1 hb1
        have hb := below_to (ba1 _ _) hb1
        have y0 : w1.cell? ⟨w.heap.size, 0, none⟩ = some (.int .i64 0) := below_cell hb1 (by simp [go_sem])
        have y1 : w1.cell? ⟨w.heap.size, 1, none⟩ = some (.int .i64 0) := below_cell hb1 (by simp [go_sem])
        have y2 : w1.cell? ⟨w.heap.size, 2, none⟩ = some (.slice none 0 0) := below_cell hb1 (by simp [go_sem])
        have y3 : w1.frozen? ⟨w.heap.size, 0, none⟩ = false := frozen_below hb1 (by simp) (by simp [go_sem])
        have y4 : w1.frozen? ⟨w.heap.size, 1, none⟩ = false := frozen_below hb1 (by simp) (by simp [go_sem])
        have y5 : w1.frozen? ⟨w.heap.size, 2, none⟩ = false := frozen_below hb1 (by simp) (by simp [go_sem])
        clear hb1
        go_wp2
        refine bodyPost_ret (v := .tuple #[.agg #[.int .i64 0, .int .i64 0, .slice none 0 0], .int .i64 12]) (by simp [results, Try.results24, go_sem, y0, y1, y2]) rfl ⟨.slice none 0 0, ?_, ?_, trivial, ?_⟩
        · rw [HG.out.1, HG.out.2.1, HG.out.2.2.1]
        · rw [HG.out.2.2.2]; exact sb_nil _
        · exact ((hb.setCell (by simp) _).setCell (by simp) _).setCell (by simp) _

end Go.Proofs.Ytpkggglifahioaa
