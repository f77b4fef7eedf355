/- What is proved here: contracts of functions and plain facts, several texts in one; each one says ahead what it proves, and its conditions. -/
import Derived.Test.YtpjhiojdnebgoaaC18
import Derived.Test.YtpjhiojdnebgoaaC34
import Derived.Test.YtpjhiojdnebgoaaC33
import Derived.Deep.DeepCutAuto
import Derived.IntWalk
import Derived.Test.YtpjhiojdnebgoaaC01
/- What is proved here: the contract of fringeref15.Filter. Condition: two slices of fractions of 64-bit numbers. -/
namespace Go.Proofs.Ytpjhiojdnebgoaa
open Go.RowKit

theorem rifilt_info : (Try.prog.info? 24).map (fun i => (i.zero, i.size, i.bytes)) = some (some (.agg #[.int .i64 0, .int .i64 0]), 2, 16) := by kernel_rfl
def rifilt_post (w : World) (r : List (Int × Int) × Int) (e : Ending) (w' : World) : Prop := ∃ u, e = .returned (.tuple #[u, .int .i64 r.2]) ∧ SF w' u r.1 ∧ Below w.heap.size w w'
set_option maxRecDepth 100000 in
set_option maxHeartbeats 16000000 in
theorem rifilt_any (l t : List (Int × Int)) (u v : Value) (w : World) (hs : SF w u l) (ht : SF w v t) (il : FI l) (it : FI t) :
    Calls Try.prog 49 #[u, v] w (rifilt_post w (ffilt l t)) := by
  have hs0 := Lib.hid hs
  have ht0 := Lib.hid ht
  have IL := Lib.hid il
  have IT := Lib.hid it
  obtain ⟨ad, cap, rfl, h1, h2, _⟩ := hs.open
  obtain ⟨ad', cap', rfl, h1', h2', _⟩ := ht.open
  clear hs ht il it
  by_cases hm : 256 < l.length ∨ 20 < t.length
  · have HV : Hid (ffilt l t = ([], 4)) := if_pos hm
    by_cases hm1 : 256 < l.length
    · clear hm
      go_enter Try.func49, Try.ntmps49
      go_wp2
      go_ret2
      exact ⟨.slice none 0 0, by rw [HV.out]; try rfl, by rw [HV.out]; exact sf_nil _, Below.refl _ _⟩
    · have hm2 : 20 < t.length := by omega
      have q1 : decide (256 < (l.length : Int)) = false := by simp; omega
      have q2 : decide (20 < (t.length : Int)) = true := by simp; omega
      clear hm
      go_enter Try.func49, Try.ntmps49
      go_wp2
      go_ret2
      exact ⟨.slice none 0 0, by rw [HV.out]; try rfl, by rw [HV.out]; exact sf_nil _, Below.refl _ _⟩
  have l1 : l.length ≤ 256 := by omega
  have l2 : t.length ≤ 20 := by omega
  have q1 : decide (256 < (l.length : Int)) = false := by simp; omega
  have q2 : decide (20 < (t.length : Int)) = false := by simp; omega
  by_cases hz : t.length = 0
  · have HV : Hid (ffilt l t = ([], 8)) := by show _ = _; unfold ffilt; rw [if_neg hm, if_pos (.inl hz)]
    have bz : ((t.length : Int) == 0) = true := by simp [hz]
    clear hm hz
    go_enter Try.func49, Try.ntmps49
    go_wp2
    go_ret2
    exact ⟨.slice none 0 0, by rw [HV.out]; try rfl, by rw [HV.out]; exact sf_nil _, Below.refl _ _⟩
  have bz : ((t.length : Int) == 0) = false := by simpa using hz
  have tp : 0 < t.length := by omega
  by_cases v1 : fvalid l = false
  · have HV : Hid (ffilt l t = ([], 8)) := by show _ = _; unfold ffilt; rw [if_neg hm, if_pos (.inr (.inl v1))]
    have V1 := Lib.hid v1
    clear hm hz v1
    go_enter Try.func49, Try.ntmps49
    go_wp2_with fail
    refine (rivalid_any l _ _ hs0.out IL.out).mono ?_
    rintro e w1 ⟨rfl, hb1⟩
    rw [V1.out]
    go_wp2
    go_ret2
    exact ⟨.slice none 0 0, by rw [HV.out]; try rfl, by rw [HV.out]; exact sf_nil _, hb1⟩
  by_cases v2 : fvalid t = false
  · have HV : Hid (ffilt l t = ([], 8)) := by show _ = _; unfold ffilt; rw [if_neg hm, if_pos (.inr (.inr v2))]
    have V1 : Hid (fvalid l = true) := by show _ = _; simpa using v1
    have V2 := Lib.hid v2
    clear hm hz v1 v2
    go_enter Try.func49, Try.ntmps49
    go_wp2_with fail
    refine (rivalid_any l _ _ hs0.out IL.out).mono ?_
    rintro e w1 ⟨rfl, hb1⟩
    rw [V1.out]
    go_wp2_with fail
    refine (rivalid_any t _ _ (ht0.out.below hb1) IT.out).mono ?_
    rintro e w2 ⟨rfl, hb2⟩
    rw [V2.out]
    go_wp2
    go_ret2
    exact ⟨.slice none 0 0, by rw [HV.out]; try rfl, by rw [HV.out]; exact sf_nil _, below_to hb1 hb2⟩
  have HV : Hid (ffilt l t = frows l t (l.length + 1 - t.length)) := by show _ = _; unfold ffilt; rw [if_neg hm, if_neg]; intro h; rcases h with h | h | h; exact hz h; exact v1 h; exact v2 h
  have V1 : Hid (fvalid l = true) := by show _ = _; simpa using v1
  have V2 : Hid (fvalid t = true) := by show _ = _; simpa using v2
  clear hm hz v1 v2
  go_enter Try.func49, Try.ntmps49
  go_wp2_with fail
  refine (rivalid_any l _ _ hs0.out IL.out).mono ?_
  rintro e w1 ⟨rfl, hb1⟩
  rw [V1.out]
  go_wp2_with fail
  refine (rivalid_any t _ _ (ht0.out.below hb1) IT.out).mono ?_
  rintro e w2 ⟨rfl, hb2⟩
  rw [V2.out]
  have hB := below_to hb1 hb2
  clear hb1 hb2
  go_wp2
  go_loopw [6, 7] (fun ov i wr => ∃ m : Nat, m ≤ l.length ∧ i = .int .i64 m ∧ Hid (m ≤ l.length + 1 - t.length) ∧ Hid ((frows l t m).2 = 0) ∧ wr.ownsRow w.heap.size 24 2 ov m (fcs (frows l t m).1) ∧ Below w.heap.size w wr) (fun _ i _ => l.length + 1 - (intOf i).toNat)
  case atStart => exact ⟨0, Nat.zero_le _, rfl, Nat.zero_le _, rfl, World.ownsRow_nil _ _ _ _, hB⟩
  case round =>
    clear hB
    obtain ⟨m, hm, rfl, hmn, hr, ow, hB⟩ := hrel
    rename World => W0
    by_cases hlt : m + t.length ≤ l.length
    · have hlt' : (m : Int) + (t.length : Int) ≤ (l.length : Int) := by omega
      go_wp2_with fail
      have oS := Own.new W0 24 [.int .i64 0, .int .i64 1]
      have hS := ba1 W0 (.cells #[.int .i64 0, .int .i64 1] 24)
      go_loopw [10] (fun j wq => ∃ k : Nat, k ≤ t.length ∧ j = .int .i64 k ∧ Hid ((fsumN l t m k).e = 0) ∧ Own wq W0.heap.size 24 [.int .i64 (fsumN l t m k).n, .int .i64 (fsumN l t m k).d] ∧ Below W0.heap.size W0 wq) (fun j _ => t.length - (intOf j).toNat)
      case atStart => exact ⟨0, Nat.zero_le _, rfl, rfl, oS, hS⟩
      case round =>
        clear oS hS
        obtain ⟨k, hk, rfl, he, oS, hS⟩ := hrel
        by_cases hkt : k < t.length
        · have hkl : m + k < l.length := by omega
          have hBq := below_to hB hS
          obtain ⟨_, _, e, _, _, H⟩ := (hs0.out.below hBq).open
          cases e
          obtain ⟨b, off, rfl, c1, c2⟩ := H.out (m + k) hkl
          obtain ⟨_, _, e, _, _, H'⟩ := (ht0.out.below hBq).open
          cases e
          obtain ⟨b', off', rfl, c1', c2'⟩ := H'.out k hkt
          clear H H'
          obtain ⟨j1, j2⟩ := fsumN_i64 l t m k
          obtain ⟨j3, j4⟩ := IT.out.get k hkt
          obtain ⟨j5, j6⟩ := IL.out.get (m + k) hkl
          have J1 := Lib.hid j1
          have J2 := Lib.hid j2
          have J3 := Lib.hid j3
          have J4 := Lib.hid j4
          have J5 := Lib.hid j5
          have J6 := Lib.hid j6
          clear j1 j2 j3 j4 j5 j6
          have HP := Lib.hid (fsumN_succ hkt hkl he.out)
          have HX := Lib.hid (fun h => frows_end (N := l.length + 1 - t.length) hr.out hkt h (by omega))
          generalize t[k].1 = tn at *
          generalize t[k].2 = td at *
          generalize l[m + k].1 = ln at *
          generalize l[m + k].2 = ld at *
          generalize (fsumN l t m k).n = sn at *
          generalize (fsumN l t m k).d = sd at *
          generalize hpp : fsumN l t m (k + 1) = p at *
          have HPP := Lib.hid hpp
          clear hpp
          have a1 : IntKind.i64.wrap ((m : Int) + (k : Int)) = (m : Int) + (k : Int) := IntWalk.i64_in _ (by omega)
          have a2 : 0 ≤ (m : Int) + (k : Int) := by omega
          have a3 : ((m : Int) + (k : Int)).toNat = m + k := by omega
          have a4 : (m : Int) + (k : Int) < (l.length : Int) := by omega
          by_cases hp : p.e = 0
          · have b1 : (p.e != 0) = false := by simp [hp]
            have PE := Lib.hid hp
            clear hp HX
            obtain ⟨rS, fS⟩ := oS.rules
            have zS := oS.lt
            go_wp2
            have zb := World.block_lt_of_cell? _ _ c1
            have zb2 := World.block_lt_of_cell? _ _ c1'
            simp only at zb zb2
            have gl := @grow_lt
            go_wp2_with fail
            refine wp_region_stt [.t [0, 1, 2, 3, 4, 5, 6, 7, 8, 9, 10], .f 11] [12, 13, 14] [15, 16] (by kernel_rfl) (by kernel_rfl) (fun _ _ _ _ _ h => h) ?_
            refine wpX_t ?_
            try simp only [opsAt, List.getElem?_toArray, List.getElem?_cons_zero, List.getElem?_cons_succ, Option.getD_some]
            repeat (go_big_quiet_step (fail))
            refine wpQuiet_nil ?_
            refine wpX_f rfl rfl (fun K' hK' => ?_)
            go_simp
            refine (riplus_any _ _ _ _ _ _ _ J1.out J2.out J3.out J4.out J5.out J6.out).mono ?_
            rintro e y2 ⟨rfl, hq⟩
            refine hK' _ _ (grow_of (below_to ((Below.refl _ _).drew) hq)) ?_
            clear hK' K'
            rw [← HP.out]
            refine wpX_nil ?_
            try simp only [opsAt, List.getElem?_toArray, List.getElem?_cons_zero, List.getElem?_cons_succ, Option.getD_some]
            repeat (go_big_quiet_step (fail))
            refine wpQuiet_nil ?_
            try simp only [opsAt, List.getElem?_toArray, List.getElem?_cons_zero, List.getElem?_cons_succ, Option.getD_some]
            clear gl
            clear rS fS zS c1 c2 c1' c2'
            replace oS := (oS.drew).below hq
            replace hS := below_to (hS.drew) hq
            clear hq
            obtain ⟨rS, fS⟩ := oS.rules
            have zS := oS.lt
            go_wp2
            go_roundw
            case rel => exact ⟨k + 1, by omega, by go_num, by rw [HPP.out]; exact PE, by rw [HPP.out]; exact (oS.set 0 (.int .i64 p.n)).set 1 (.int .i64 p.d), (hS.setCell (by simp) _).setCell (by simp) _⟩
            case measure => simp [intOf]; try omega
          · have b1 : (p.e != 0) = true := by simpa using hp
            have PX := Lib.hid (HX.out hp)
            clear hp HX
            have zr := hB.size
            obtain ⟨rS, fS⟩ := oS.rules
            have zS := oS.lt
            go_wp2
            have zb := World.block_lt_of_cell? _ _ c1
            have zb2 := World.block_lt_of_cell? _ _ c1'
            simp only at zb zb2
            have gl := @grow_lt
            go_wp2_with fail
            refine wp_region_stt [.t [0, 1, 2, 3, 4, 5, 6, 7, 8, 9, 10], .f 11] [12, 13, 14] [15, 16] (by kernel_rfl) (by kernel_rfl) (fun _ _ _ _ _ h => h) ?_
            refine wpX_t ?_
            try simp only [opsAt, List.getElem?_toArray, List.getElem?_cons_zero, List.getElem?_cons_succ, Option.getD_some]
            repeat (go_big_quiet_step (fail))
            refine wpQuiet_nil ?_
            refine wpX_f rfl rfl (fun K' hK' => ?_)
            go_simp
            refine (riplus_any _ _ _ _ _ _ _ J1.out J2.out J3.out J4.out J5.out J6.out).mono ?_
            rintro e y2 ⟨rfl, hq⟩
            refine hK' _ _ (grow_of (below_to ((Below.refl _ _).drew) hq)) ?_
            clear hK' K'
            rw [← HP.out]
            refine wpX_nil ?_
            try simp only [opsAt, List.getElem?_toArray, List.getElem?_cons_zero, List.getElem?_cons_succ, Option.getD_some]
            repeat (go_big_quiet_step (fail))
            refine wpQuiet_nil ?_
            try simp only [opsAt, List.getElem?_toArray, List.getElem?_cons_zero, List.getElem?_cons_succ, Option.getD_some]
            clear gl
            clear rS fS zS c1 c2 c1' c2'
            replace oS := (oS.drew).below hq
            replace hS := below_to (hS.drew) hq
            clear hq
            obtain ⟨rS, fS⟩ := oS.rules
            have zS := oS.lt
            go_wp2
            go_ret2
            exact ⟨.slice none 0 0, by rw [HV.out, PX.out]; try rfl, by rw [HV.out, PX.out]; exact sf_nil _, (below_to hB hS).setCell (by simp; omega) _ |>.setCell (by simp; omega) _⟩
        · obtain rfl : k = t.length := by omega
          have HF := Lib.hid (frows_succ hr.out he.out)
          have HE2 := Lib.hid (congrArg Prod.snd HF.out)
          have HE1 := Lib.hid (congrArg (fun r => fcs r.1) HF.out)
          clear HF
          generalize (fsumN l t m t.length).n = sn at *
          generalize (fsumN l t m t.length).d = sd at *
          have ow2 := owns_at ow hS
          have zr := hB.size
          have zq := hS.size
          obtain ⟨rS, fS⟩ := oS.rules
          have zS := oS.lt
          go_wp2_with (at_builtin; refine wpList_app _ rfl _ _ _ rfl w.heap.size 24 2 16 (.agg #[.int .i64 0, .int .i64 0]) Try.underlying26 rifilt_info rfl (by omega) (by omega) _ m _ rfl (ow2.alloc _) (by omega) (by simp; omega) wr.heap.size [.int .i64 sn, .int .i64 sd] (0, 0) rfl (heap_alloc_new wr _) rfl (by simp [Value.oneCell']) ?_; intro g cap2 w2 hown hg hbw)
          go_roundw
          case rel =>
            refine ⟨m + 1, by omega, by go_num, by show _ ≤ _; omega, HE2, ?_, ?_⟩
            · rw [HE1.out, fcs_append]; exact hown
            · exact (below_to (below_to hB hS) (ba1 wr _)).trans (hbw.mono (Nat.le_refl _))
          case measure => simp [intOf]; try omega
    · have hlt' : ¬ (m : Int) + (t.length : Int) ≤ (l.length : Int) := by omega
      have HE : Hid (ffilt l t = frows l t m) := by show _ = _; rw [HV.out]; congr 1; have := hmn.out; omega
      have hsl := owns_sl ow (by omega)
      clear ow
      go_wp2
      go_ret2
      refine ⟨u6, by rw [HE.out, hr.out]; try rfl, ?_, hB⟩
      rw [HE.out]
      unfold SF
      rw [frows_len m hr.out]
      exact hsl
end Go.Proofs.Ytpjhiojdnebgoaa
