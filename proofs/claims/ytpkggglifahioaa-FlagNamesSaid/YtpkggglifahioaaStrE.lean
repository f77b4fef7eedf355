/- What is proved here: the contract of the reference's Parse: it returns what flag.Parse returns. No condition. -/
import Derived.Test.YtpkggglifahioaaStrD
namespace Go.Proofs.Ytpkggglifahioaa
open Go.RowKit

theorem fst10_ne : ∀ (l : List UInt8) (i : Nat), i < fst10 l → l.getD i 0 ≠ 10
  | [], i, h => by simp [fst10] at h
  | b :: l, i, h => by
    unfold fst10 at h
    split at h
    · omega
    · rename_i hb
      cases i with
      | zero => simpa using hb
      | succ i => simpa using fst10_ne l i (by omega)
theorem fst10_at : ∀ (l : List UInt8), fst10 l < l.length → l.getD (fst10 l) 0 = 10
  | [], h => by simp [fst10] at h
  | b :: l, h => by
    unfold fst10 at h ⊢
    split
    · rename_i hb; simpa using hb
    · rename_i hb
      rw [if_neg hb] at h
      simpa using fst10_at l (by simpa using h)
theorem bstr_toList (a : List UInt8) : (bstr a).toList = a := by rw [ByteArray.toList_eq]; rfl
theorem bstr_inj {a b : List UInt8} (h : bstr a = bstr b) : a = b := by
  unfold bstr at h; injection h with h; simpa using congrArg Array.toList h

set_option maxRecDepth 100000 in
set_option maxHeartbeats 4000000 in
theorem rparse_any (l : List UInt8) (w : World) (hl : l.length ≤ 100000) :
    Calls Try.prog 25 #[.string (bstr l)] w fun e w' => ∃ u, e = .returned (.tuple #[.agg #[.int .i64 (pT l), .int .i64 (pCh l), u], .int .i64 (perr l)]) ∧ SB w' u (pB l) ∧ Frv w.heap.size u ∧ Below w.heap.size w w' := by
  have hsz := bstr_size l
  have hfl := fst10_le l
  by_cases p1 : 544 < l.length
  · have HG : Hid (perr l = 12 ∧ pT l = 0 ∧ pCh l = 0 ∧ pB l = []) := Lib.hid (p_bad (pgood_no (by
      rintro ⟨_, g2, g3, g4, _⟩
      have h := Nat.div_add_mod l.length (fst10 l + 1)
      have := Nat.mul_le_mul (show fst10 l + 1 ≤ 17 by omega) g4
      omega)))
    go_enter Try.func25, Try.ntmps25
    go_wp2
    refine bodyPost_ret (v := .tuple #[.agg #[.int .i64 0, .int .i64 0, .slice none 0 0], .int .i64 12]) (by simp [results, Try.results25, go_sem]) rfl ⟨.slice none 0 0, ?_, ?_, trivial, ?_⟩
    · rw [HG.out.1, HG.out.2.1, HG.out.2.2.1]
    · rw [HG.out.2.2.2]; exact sb_nil _
    · exact ba1 _ _
  · generalize hnf : fst10 l = n at hfl
    have HF := Lib.hid hnf
    have HNE : Hid (∀ i, i < n → l.getD i 0 ≠ 10) := Lib.hid (by rw [← hnf]; exact fst10_ne l)
    have HAT : Hid (n < l.length → l.getD n 0 = 10) := Lib.hid (by rw [← hnf]; exact fst10_at l)
    clear hnf
    go_enter Try.func25, Try.ntmps25
    go_wp2
    go_loop [4] (fun i => ∃ k : Nat, k ≤ n ∧ i = .int .i64 k) (fun i => n - (intOf i).toNat)
    case atStart => exact ⟨0, Nat.zero_le _, rfl⟩
    case round =>
      obtain ⟨k, hk, rfl⟩ := hrel
      by_cases hlt : k < n
      · have hh : k < (bstr l).size := by omega
        have hx : ((bstr l)[k]'hh).toNat = (l[k]'(by omega)).toNat := rfl
        have hgd : l.getD k 0 = l[k]'(by omega) := by rw [List.getD_eq_getElem?_getD, List.getElem?_eq_getElem (by omega)]; rfl
        have hne := HNE.out k hlt
        rw [hgd] at hne
        generalize l[k]'(by omega) = c at hx hne
        have hc : ((c.toNat : Int) != 10) = true := by simp; intro h; apply hne; apply UInt8.toNat_inj.1; exact_mod_cast h
        clear hne hgd
        go_wp2
        go_round
        case rel => exact ⟨k + 1, by omega, by go_num⟩
        case measure => simp [intOf]; omega
      · obtain rfl : k = n := by omega
        have e1 : ((l.length : Nat) : Int) % ((k : Int) + 1) = ((l.length % (k + 1) : Nat) : Int) := by simp
        generalize hr : l.length % (k + 1) = r at e1
        have HR := Lib.hid hr
        clear hr
        by_cases hnl : k < l.length
        · have HN := Lib.hid hnl
          have hh : k < (bstr l).size := by omega
          have hx : ((bstr l)[k]'hh).toNat = (l[k]'(by omega)).toNat := rfl
          have hgd : l.getD k 0 = l[k]'(by omega) := by rw [List.getD_eq_getElem?_getD, List.getElem?_eq_getElem (by omega)]; rfl
          have hat := HAT.out hnl
          rw [hgd] at hat
          rw [hat] at hx
          have hx2 : ((bstr l)[k]'hh).toNat = 10 := hx
          clear hx hgd hat
          by_cases p2 : k = 0
          · have HG : Hid (perr l = 12 ∧ pT l = 0 ∧ pCh l = 0 ∧ pB l = []) := Lib.hid (p_bad (pgood_no (by rw [HF.out]; omega)))
            have t2 : ((k : Int) == 0) = true := by simp [p2]
            clear p2
            clear HN
            go_wp2
            refine bodyPost_ret (v := .tuple #[.agg #[.int .i64 0, .int .i64 0, .slice none 0 0], .int .i64 12]) (by simp [results, Try.results25, go_sem]) rfl ⟨.slice none 0 0, ?_, ?_, trivial, ?_⟩
            · rw [HG.out.1, HG.out.2.1, HG.out.2.2.1]
            · rw [HG.out.2.2.2]; exact sb_nil _
            · exact ba1 _ _
          · have t2 : ((k : Int) == 0) = false := by simp [p2]
            by_cases p3 : 16 < k
            · have HG : Hid (perr l = 12 ∧ pT l = 0 ∧ pCh l = 0 ∧ pB l = []) := Lib.hid (p_bad (pgood_no (by rw [HF.out]; omega)))
              clear HN
              go_wp2
              refine bodyPost_ret (v := .tuple #[.agg #[.int .i64 0, .int .i64 0, .slice none 0 0], .int .i64 12]) (by simp [results, Try.results25, go_sem]) rfl ⟨.slice none 0 0, ?_, ?_, trivial, ?_⟩
              · rw [HG.out.1, HG.out.2.1, HG.out.2.2.1]
              · rw [HG.out.2.2.2]; exact sb_nil _
              · exact ba1 _ _
            · by_cases p4 : r = 0
              · have t4 : ((r : Int) != 0) = false := by simp [p4]
                have hdl : l.length / (k + 1) ≤ l.length := Nat.div_le_self _ _
                have e2 : wrap64 (((l.length : Nat) : Int) / ((k : Int) + 1)) = ((l.length / (k + 1) : Nat) : Int) := by rw [← IntWalk.wrap64_in ((l.length / (k + 1) : Nat) : Int) (by generalize l.length / (k + 1) = q at hdl; omega)]; simp
                generalize hq : l.length / (k + 1) = q at e2 hdl
                have HQ := Lib.hid hq
                clear hq
                have hlen : l.length = q * (k + 1) := by
                  have h := Nat.div_add_mod l.length (k + 1)
                  rw [HR.out, HQ.out, p4, Nat.add_zero, Nat.mul_comm] at h; omega
                have HL := Lib.hid hlen
                have P4 := Lib.hid p4
                clear hlen p4
                go_wp2
                go_loopw [6] (fun i wr => ∃ (j : Nat) (ov : Value), j ≤ l.length ∧ i = .int .i64 j ∧ Own wr (w.heap.size + 1) 24 [.int .i64 q, .int .i64 k, ov] ∧ Own wr w.heap.size 24 [.int .i64 0, .int .i64 0, .slice none 0 0] ∧ wr.ownsRow (w.heap.size + 1 + 1) 4 1 ov (bitN l k j).length ((bitN l k j).map Value.bool) ∧ Below w.heap.size w wr) (fun i _ => l.length - (intOf i).toNat)
                case atStart => exact ⟨0, _, Nat.zero_le _, rfl, own_second w _ _ _, own_first w _ _ _, World.ownsRow_nil _ _ _ _, ba2 _ _ _⟩
                case round =>
                  obtain ⟨j, ov, hj, rfl, ob, oa, ow, hbr⟩ := hrel
                  clear e1 e2 t2 t4
                  have q2 : wr.cell? ⟨w.heap.size + 1, 2, none⟩ = some ov := ob.cell 2 (by simp)
                  have q3 : wr.frozen? ⟨w.heap.size + 1, 2, none⟩ = false := ob.free 2
                  have hbl := ob.lt
                  by_cases hlt : j < l.length
                  · have em : ((j : Nat) : Int) % ((k : Int) + 1) = ((j % (k + 1) : Nat) : Int) := by simp
                    generalize hr' : j % (k + 1) = r' at em
                    have HK := Lib.hid hr'
                    clear hr'
                    by_cases pe : r' < k
                    · have hh' : j < (bstr l).size := by omega
                      have hx' : ((bstr l)[j]'hh').toNat = (l[j]'hlt).toNat := rfl
                      have hgd : l.getD j 0 = l[j]'hlt := by rw [List.getD_eq_getElem?_getD, List.getElem?_eq_getElem hlt]; rfl
                      generalize l[j]'hlt = c at hx' hgd
                      have hc : ((c.toNat : Int) == 120) = (c == 120) := by
                        rw [Bool.eq_iff_iff]; simp only [beq_iff_eq]
                        exact ⟨fun h => UInt8.toNat_inj.1 (by exact_mod_cast h), fun h => by rw [h]; rfl⟩
                      have HB : Hid (bitN l k (j + 1) = bitN l k j ++ [c == 120]) := by show bitN l k (j + 1) = _; rw [bitN, if_pos (by rw [HK.out]; omega), hgd]
                      have hbn : (bitN l k j).length ≤ 544 := by have := bit_len l k j; omega
                      have g3 := grow_cell q2
                      have i1 : (0 : Int) ≤ (j : Int) := by omega
                      have i2 : (j : Int) < (l.length : Int) := by omega
                      clear hgd hx2 hh
                      go_wp2_with fail
                      refine wp_region_mt [0, 2, 3] [1, 4, 5] [6, 7, 8, 9] (by kernel_rfl) (by kernel_rfl) (fun _ _ _ _ _ h => h) ?_
                      simp only [opsAt, List.getElem?_toArray, List.getElem?_cons_zero, List.getElem?_cons_succ, Option.getD_some]
                      repeat (go_big_quiet_step (fail))
                      refine wpQuiet_nil ?_
                      repeat (go_big_quiet_step (fail))
                      refine wpQuiet_nil ?_
                      go_wp2_with (at_builtin; refine wpList_app _ rfl _ _ _ rfl (w.heap.size + 1 + 1) 4 1 1 (.bool false) Try.underlying22 Try.infoBool rfl (by omega) (by omega) ov _ _ rfl ((ow.alloc _).drew) (by omega) (by simp; omega) wr.heap.size [.bool (c == 120)] (0, 0) rfl (heap_alloc_new wr _) rfl (by simp [Value.oneCell']) ?_; intro g cap w2 hown hg hbw; have k2 := below_cell_at hbw (by omega) (below_cell (ba1 wr _) q2); have k3 := below_frozen_at hbw (by omega) (frozen_below (ba1 wr _) hbl q3))
                      go_roundw
                      case rel =>
                        refine ⟨j + 1, .slice (some ⟨g, 0, none⟩) ((bitN l k j).length + 1) cap, by omega, by go_num, (((ob.alloc _).drew).at hbw (by omega)).set 2 _, ?_, ?_, ?_⟩
                        · exact (((oa.alloc _).drew).at hbw (by omega)).other (by simp) 2 _
                        · rw [HB.out, List.length_append, List.map_append]
                          exact owns_set_low hown (by simp) _
                        · exact ((below_to hbr (ba1 wr _)).drew).trans ((hbw.mono (B' := w.heap.size) (by omega)).setCell (p := ⟨w.heap.size + 1, 2, none⟩) (by simp) _)
                      case measure => simp [intOf]; omega
                    · have HB : Hid (bitN l k (j + 1) = bitN l k j) := by show bitN l k (j + 1) = _; rw [bitN, if_neg (by rw [HK.out]; omega)]
                      go_wp2
                      go_roundw
                      case rel => exact ⟨j + 1, ov, by omega, by go_num, ob, oa, by rw [HB.out]; exact ow, hbr⟩
                      case measure => simp [intOf]; omega
                  · obtain rfl : j = l.length := by omega
                    have hbl2 := (bit_spec l k q 0 (Nat.zero_le _)).1
                    simp only [Nat.add_zero] at hbl2
                    rw [← HL.out] at hbl2
                    have HBL := Lib.hid hbl2
                    have hqp : 1 ≤ q := by
                      rcases Nat.eq_zero_or_pos q with h | h
                      · have := HL.out; rw [h, Nat.zero_mul] at this; omega
                      · exact h
                    have hbn : (bitN l k l.length).length ≤ 544 := by have := bit_len l k l.length; omega
                    clear hbl2
                    have k0 : wr.cell? ⟨w.heap.size + 1, 0, none⟩ = some (.int .i64 q) := ob.cell 0 (by simp)
                    have k1 : wr.cell? ⟨w.heap.size + 1, 1, none⟩ = some (.int .i64 k) := ob.cell 1 (by simp)
                    have y0 : wr.cell? ⟨w.heap.size, 0, none⟩ = some (.int .i64 0) := oa.cell 0 (by simp)
                    have y1 : wr.cell? ⟨w.heap.size, 1, none⟩ = some (.int .i64 0) := oa.cell 1 (by simp)
                    have y2 : wr.cell? ⟨w.heap.size, 2, none⟩ = some (.slice none 0 0) := oa.cell 2 (by simp)
                    have y3 : wr.frozen? ⟨w.heap.size, 0, none⟩ = false := oa.free 0
                    have y4 : wr.frozen? ⟨w.heap.size, 1, none⟩ = false := oa.free 1
                    have y5 : wr.frozen? ⟨w.heap.size, 2, none⟩ = false := oa.free 2
                    have hsl := owns_sl ow (by omega)
                    have hfr := owns_frv ow
                    generalize hbits : bitN l k l.length = bits at hsl hbn HBL
                    have HBt := Lib.hid hbits
                    clear hbits ow
                    have hsb : SB wr ov bits := by unfold SB; exact hsl
                    obtain ⟨sa, sc, hov, s1, s2, s3⟩ := hsl
                    subst hov
                    clear s3 hx2 hh
                    go_wp2_with fail
                    refine (rtext_any q k _ bits _ hsb).mono ?_
                    rintro e w2 ⟨rfl, hw2⟩
                    have r0 := below_cell hw2 y0
                    have r1 := below_cell hw2 y1
                    have r2 := below_cell hw2 y2
                    have g0 := frozen_below hw2 (by omega) y3
                    have g1 := frozen_below hw2 (by omega) y4
                    have g2 := frozen_below hw2 (by omega) y5
                    have l0 := below_cell hw2 k0
                    have l1 := below_cell hw2 k1
                    have l2 := below_cell hw2 q2
                    have hbb := below_to hbr hw2
                    clear y0 y1 y2 y3 y4 y5 k0 k1 q2 q3
                    by_cases pq : 32 < q
                    · have hm : mchk q k bits.length = 4 := mchk_4 (by omega)
                      have HM := Lib.hid hm
                      have tm : (mchk q k bits.length != 0) = true := by rw [hm]; rfl
                      have HG : Hid (perr l = 12 ∧ pT l = 0 ∧ pCh l = 0 ∧ pB l = []) := Lib.hid (p_bad (pgood_no (by rintro ⟨_, _, _, h4, _⟩; rw [HF.out, HQ.out] at h4; omega)))
                      clear hm
                      go_wp2
                      refine bodyPost_ret (v := .tuple #[.agg #[.int .i64 0, .int .i64 0, .slice none 0 0], .int .i64 12]) (by simp [results, Try.results25, go_sem, r0, r1, r2]) rfl ⟨.slice none 0 0, ?_, ?_, trivial, ?_⟩
                      · rw [HG.out.1, HG.out.2.1, HG.out.2.2.1]
                      · rw [HG.out.2.2.2]; exact sb_nil _
                      · exact ((hbb.setCell (by simp) _).setCell (by simp) _).setCell (by simp) _
                    · have hm : mchk q k bits.length = 0 := mchk_0 (by omega) (by
                        intro h
                        rcases h with h | h | h
                        · omega
                        · omega
                        · apply h; rw [HBL.out]; simp)
                      have tm : (mchk q k bits.length != 0) = false := by rw [hm]; rfl
                      have hmt : mtext q k bits = txtN bits k (q * k) := by rw [mtext_ok hm, Int.toNat_natCast, HBL.out]
                      have hiff := txt_bit (s := l) (C := k) (T := q) (by omega) HL.out
                      rw [HBt.out] at hiff
                      by_cases po : okN l k l.length = true
                      · have hml : mtext q k bits = l := hmt.trans (hiff.2 po)
                        have HG : Hid (perr l = 0 ∧ pT l = (l.length / (fst10 l + 1) : Nat) ∧ pCh l = fst10 l ∧ pB l = bitN l (fst10 l) l.length) := Lib.hid (p_good (pgood_yes (by rw [HF.out, HQ.out, HR.out]; exact ⟨by omega, by omega, P4.out, by omega, po⟩)))
                        clear hmt hiff po hm
                        rw [hml]
                        go_wp2
                        refine bodyPost_ret (v := .tuple #[.agg #[.int .i64 q, .int .i64 k, .slice sa bits.length sc], .int .i64 0]) (by simp [results, Try.results25, go_sem, r0, r1, r2]) rfl ⟨.slice sa bits.length sc, ?_, ?_, hfr.mono (by omega), ?_⟩
                        · rw [HG.out.1, HG.out.2.1, HG.out.2.2.1, HF.out, HQ.out]
                        · rw [HG.out.2.2.2, HF.out, HBt.out]
                          exact (((hsb.below hw2).low hfr (by simp; omega) _).low hfr (by simp; omega) _).low hfr (by simp; omega) _
                        · exact ((hbb.setCell (by simp) _).setCell (by simp) _).setCell (by simp) _
                      · have hml : mtext q k bits ≠ l := fun h => po (hiff.1 (hmt.symm.trans h))
                        have HG : Hid (perr l = 12 ∧ pT l = 0 ∧ pCh l = 0 ∧ pB l = []) := Lib.hid (p_bad (pgood_no (by rintro ⟨_, _, _, _, h5⟩; rw [HF.out] at h5; exact po h5)))
                        have ts : ((bstr (mtext q k bits)).toList == (bstr l).toList) = false := by rw [bstr_toList, bstr_toList]; simpa using hml
                        clear hmt hiff po hm hml
                        go_wp2
                        refine bodyPost_ret (v := .tuple #[.agg #[.int .i64 0, .int .i64 0, .slice none 0 0], .int .i64 12]) (by simp [results, Try.results25, go_sem, r0, r1, r2]) rfl ⟨.slice none 0 0, ?_, ?_, trivial, ?_⟩
                        · rw [HG.out.1, HG.out.2.1, HG.out.2.2.1]
                        · rw [HG.out.2.2.2]; exact sb_nil _
                        · exact ((hbb.setCell (by simp) _).setCell (by simp) _).setCell (by simp) _
              · have t4 : ((r : Int) != 0) = true := by simp [p4]
                have HG : Hid (perr l = 12 ∧ pT l = 0 ∧ pCh l = 0 ∧ pB l = []) := Lib.hid (p_bad (pgood_no (by rintro ⟨_, _, h3, _⟩; rw [HF.out, HR.out] at h3; omega)))
                clear HN
                go_wp2
                refine bodyPost_ret (v := .tuple #[.agg #[.int .i64 0, .int .i64 0, .slice none 0 0], .int .i64 12]) (by simp [results, Try.results25, go_sem]) rfl ⟨.slice none 0 0, ?_, ?_, trivial, ?_⟩
                · rw [HG.out.1, HG.out.2.1, HG.out.2.2.1]
                · rw [HG.out.2.2.2]; exact sb_nil _
                · exact ba1 _ _
        · have HN : True := trivial
          have hkl : Hid (k = l.length) := Lib.hid (by omega)
          have hnl2 : decide ((k : Int) < (l.length : Int)) = false := by simp; omega
          clear hnl2
          by_cases p2 : k = 0
          · have HG : Hid (perr l = 12 ∧ pT l = 0 ∧ pCh l = 0 ∧ pB l = []) := Lib.hid (p_bad (pgood_no (by rw [HF.out]; omega)))
            have t2 : ((k : Int) == 0) = true := by simp [p2]
            clear p2
            clear HN
            go_wp2
            refine bodyPost_ret (v := .tuple #[.agg #[.int .i64 0, .int .i64 0, .slice none 0 0], .int .i64 12]) (by simp [results, Try.results25, go_sem]) rfl ⟨.slice none 0 0, ?_, ?_, trivial, ?_⟩
            · rw [HG.out.1, HG.out.2.1, HG.out.2.2.1]
            · rw [HG.out.2.2.2]; exact sb_nil _
            · exact ba1 _ _
          · have t2 : ((k : Int) == 0) = false := by simp [p2]
            by_cases p3 : 16 < k
            · have HG : Hid (perr l = 12 ∧ pT l = 0 ∧ pCh l = 0 ∧ pB l = []) := Lib.hid (p_bad (pgood_no (by rw [HF.out]; omega)))
              clear HN
              go_wp2
              refine bodyPost_ret (v := .tuple #[.agg #[.int .i64 0, .int .i64 0, .slice none 0 0], .int .i64 12]) (by simp [results, Try.results25, go_sem]) rfl ⟨.slice none 0 0, ?_, ?_, trivial, ?_⟩
              · rw [HG.out.1, HG.out.2.1, HG.out.2.2.1]
              · rw [HG.out.2.2.2]; exact sb_nil _
              · exact ba1 _ _
            · by_cases p4 : r = 0
              · have t4 : ((r : Int) != 0) = false := by simp [p4]
                exfalso
                have h := HR.out
                rw [← hkl.out, Nat.mod_eq_of_lt (by omega)] at h
                omega
              · have t4 : ((r : Int) != 0) = true := by simp [p4]
                have HG : Hid (perr l = 12 ∧ pT l = 0 ∧ pCh l = 0 ∧ pB l = []) := Lib.hid (p_bad (pgood_no (by rintro ⟨_, _, h3, _⟩; rw [HF.out, HR.out] at h3; omega)))
                clear HN
                go_wp2
                refine bodyPost_ret (v := .tuple #[.agg #[.int .i64 0, .int .i64 0, .slice none 0 0], .int .i64 12]) (by simp [results, Try.results25, go_sem]) rfl ⟨.slice none 0 0, ?_, ?_, trivial, ?_⟩
                · rw [HG.out.1, HG.out.2.1, HG.out.2.2.1]
                · rw [HG.out.2.2.2]; exact sb_nil _
                · exact ba1 _ _

end Go.Proofs.Ytpkggglifahioaa
