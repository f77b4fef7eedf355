/- What is proved here: contracts of functions and plain facts, several texts in one; each one says ahead what it proves, and its conditions. -/
import Derived.Test.YtpjhiojdnebgoaaC23
import Derived.Test.YtpjhiojdnebgoaaC24
import Derived.Test.YtpjhiojdnebgoaaC02
import Derived.Test.YtpjhiojdnebgoaaC28
import Derived.RegionTactic
import Derived.ChangeAlike
import Derived.BigRegion
import Derived.IntWalk
import Derived.Deep.DeepCutAuto
/- What is proved here: the contracts of interp.allZero and interp.Degree. Condition: a slice that can be read. -/
namespace Go.Proofs.Ytpjhiojdnebgoaa
open Go.RowKit

set_option maxRecDepth 100000 in
set_option maxHeartbeats 4000000 in
theorem izero_any (l : List Int) (v : Value) (w : World) (hs : SI w v l) :
    Calls Try.prog 57 #[v] w fun e w' => e = .returned (.bool (zers l)) ∧ Below w.heap.size w w' := by
  have S0 := Lib.hid hs
  obtain ⟨ad, cap, rfl, h1, h2, _⟩ := hs.open
  clear hs
  go_enter Try.func57, Try.ntmps57
  go_wp2
  go_loopw [7] (fun i wr => ∃ k : Nat, k ≤ l.length ∧ i = .int .i64 k ∧ Hid (zers (l.take k) = true) ∧ Below w.heap.size w wr) (fun i _ => l.length - (intOf i).toNat)
  case atStart => exact ⟨0, Nat.zero_le _, rfl, rfl, Below.refl _ _⟩
  case round =>
    obtain ⟨k, hk, rfl, hv, hW⟩ := hrel
    rename World => W
    by_cases hlt : k < l.length
    · obtain ⟨_, _, e, _, _, H⟩ := (S0.out.below hW).open
      cases e
      obtain ⟨b', off', rfl, c1⟩ := H.out k hlt
      clear H
      have XN := Lib.hid (fun h => zers_not hlt h)
      have XT := Lib.hid (fun h => zers_take hlt hv.out h)
      generalize l[k] = x at *
      by_cases g1 : x = 0
      · have HV := Lib.hid (XT.out g1)
        have b1 : (x != 0) = false := by simp [g1]
        clear XN XT g1
        go_wp2
        go_roundw
        case rel => exact ⟨k + 1, by omega, by go_num, HV, hW⟩
        case measure => simp [intOf]; try omega
      · have HV := Lib.hid (XN.out g1)
        have b1 : (x != 0) = true := by simpa using g1
        clear XN XT g1
        go_wp2
        go_ret
        exact ⟨by rw [HV.out]; try rfl, hW⟩
    · have HV := Lib.hid (zers_end hlt hv.out)
      go_wp2
      go_ret
      exact ⟨by rw [HV.out]; try rfl, hW⟩
theorem owns_SI {w : World} {B : Nat} {T : TypeId} {v : Value} {xs : List Int} (h : w.ownsRow B T 1 v xs.length (xs.map (Value.int .i64))) (hn : xs.length ≤ 1000000) : SI w v xs := owns_sl h (by omega)
theorem owns_openI {w : World} {B : Nat} {T : TypeId} {u : Value} {n : Nat} {cs : List Value} (h : w.ownsRow B T 1 u n cs) (h0 : 0 < n) :
    ∃ g cap rest, u = .slice (some ⟨g, 0, none⟩) n cap ∧ B ≤ g ∧ Own w g T (cs ++ rest) ∧ cs.length = n ∧ n ≤ cap ∧ cap ≤ maxLen ∧ (cs ++ rest).length = cap := by
  obtain ⟨h1, h2⟩ := h
  rcases h2 with ⟨_, h3⟩ | ⟨g, cap, cur, h3, h4, h5, h6, h7, h8, h9⟩
  · omega
  · have e : cs ++ cur.toList.drop (n * 1) = cur.toList := by rw [← h9]; exact List.take_append_drop _ _
    refine ⟨g, cap, cur.toList.drop (n * 1), h3, h4, ?_, by omega, h6, h7, ?_⟩
    · unfold Own; rw [e]; exact h5
    · rw [e]; simp; omega
theorem owns_shutI {w : World} {B : Nat} {T : TypeId} {n : Nat} {cs rest : List Value} {g cap : Nat} (h : Own w g T (cs ++ rest)) (hB : B ≤ g) (h1 : cs.length = n) (h4 : n ≤ cap) (h5 : cap ≤ maxLen) (h6 : (cs ++ rest).length = cap) :
    w.ownsRow B T 1 (.slice (some ⟨g, 0, none⟩) n cap) n cs := by
  refine ⟨by omega, .inr ⟨g, cap, (cs ++ rest).toArray, rfl, hB, h, h4, h5, by simp at *; omega, ?_⟩⟩
  simp [← h1]
set_option maxRecDepth 100000 in
set_option maxHeartbeats 16000000 in
theorem ideg_any (l : List Int) (v : Value) (w : World) (hs : SI w v l) :
    Calls Try.prog 22 #[v] w fun e w' => e = .returned (.tuple #[.int .i64 (fdeg l).1, .int .i64 (fdeg l).2]) ∧ Below w.heap.size w w' := by
  have S0 := Lib.hid hs
  obtain ⟨ad, cap, rfl, h1, h2, _⟩ := hs.open
  clear hs
  by_cases hm : 24 < l.length
  · have HV : Hid (fdeg l = (0, 4)) := if_pos hm
    have b0 : decide (24 < (l.length : Int)) = true := by simp; omega
    go_enter Try.func22, Try.ntmps22
    go_wp2
    go_ret2
    exact ⟨by rw [HV.out]; try rfl, Below.refl _ _⟩
  have b0 : decide (24 < (l.length : Int)) = false := by simp; omega
  have l24 : l.length ≤ 24 := by omega
  by_cases hl : levB l = false
  · have HV : Hid (fdeg l = (0, 8)) := by show _ = _; unfold fdeg; rw [if_neg hm, if_pos hl]
    have HL := Lib.hid hl
    clear hm hl
    go_enter Try.func22, Try.ntmps22
    go_wp2_with fail
    refine (ilev_any l _ _ S0.out).mono ?_
    rintro e y1 ⟨rfl, hB⟩
    rw [HL.out]
    go_wp2
    go_ret2
    exact ⟨by rw [HV.out]; try rfl, hB⟩
  have HV : Hid (fdeg l = ((degM l : Int) - 1, 0)) := by show _ = _; unfold fdeg; rw [if_neg hm, if_neg hl]
  have HL : Hid (levB l = true) := by show _ = _; simpa using hl
  clear hm hl
  go_enter Try.func22, Try.ntmps22
  go_wp2_with fail
  refine (ilev_any l _ _ S0.out).mono ?_
  rintro e y1 ⟨rfl, hB⟩
  rw [HL.out]
  go_wp2_with (at_builtin; refine wpList_apps _ rfl _ _ _ rfl w.heap.size 3 1 8 (.int .i64 0) Try.underlying22 Try.infoInt rfl (by omega) (by omega) (.slice none 0 0) 0 [] rfl (World.ownsRow_nil _ _ _ _) hB.size _ l.length (l.map (Value.int .i64)) rfl (S0.out.below hB) (by simp) (one_ints l) (by omega) ?_; intro v1 w1 hown hkept)
  rw [List.nil_append, Nat.zero_add] at hown
  replace hB := hB.trans (hkept.below hB.size (fun b hb => by cases hb))
  clear hkept
  go_loopw [4, 5] (fun lv dg wr => ∃ m : Nat, dg = .int .i64 ((m : Int) - 1) ∧ Hid (upTo l m) ∧ wr.ownsRow w.heap.size 3 1 lv (difN m l).length ((difN m l).map (Value.int .i64)) ∧ Below w.heap.size w wr) (fun _ dg _ => l.length + 1 - (intOf dg + 1).toNat)
  case atStart => exact ⟨0, rfl, upTo_zero l, hown, hB⟩
  case round =>
    clear hB hown
    obtain ⟨m, rfl, hu, ow, hB⟩ := hrel
    rename World => W
    have hm := upTo_le hu.out
    have dl := Lib.hid (difN_len l m)
    have zs : SI W u4 (difN m l) := owns_SI ow (by rw [dl.out]; omega)
    go_wp2_with fail
    refine (izero_any (difN m l) _ _ zs).mono ?_
    rintro e y2 ⟨rfl, hq⟩
    clear zs
    replace ow := owns_at ow hq
    replace hB := below_to hB hq
    clear hq
    cases hz : zers (difN m l) with
    | true =>
      have HD := Lib.hid (degM_eq hu.out hz)
      clear hz
      go_wp2
      go_ret2
      exact ⟨by rw [HV.out, HD.out]; try rfl, hB⟩
    | false =>
      have HU := Lib.hid (upTo_succ hu.out hz)
      have hpos : 0 < (difN m l).length := by
        rcases Nat.eq_zero_or_pos (difN m l).length with h | h
        · rw [List.eq_nil_of_length_eq_zero h] at hz; cases hz
        · exact h
      have BD := Lib.hid (fun i (hi : i < (difN m l).length) => dif_bound HL.out (show m ≤ 24 by omega) hi)
      have HN : Hid (difN (m + 1) l = dif (difN m l)) := rfl
      have hlen : (difN m l).length ≤ 24 := by have := dl.out; omega
      have hml : m + 1 ≤ 24 := by have := dl.out; omega
      clear hz dl
      generalize difN m l = D at *
      obtain ⟨g, cp, rest, rfl, hg, oG, hcl, hcc, hcm, hcr⟩ := owns_openI ow hpos
      clear ow
      have hC : cp ≤ 9223372036854775807 := by unfold maxLen at hcm; omega
      go_wp2
      go_loopw [6] (fun kv wq => ∃ k : Nat, k + 1 ≤ D.length ∧ kv = .int .i64 k ∧ Own wq g 3 (((dif D).take k ++ D.drop k).map (Value.int .i64) ++ rest) ∧ Below w.heap.size w wq) (fun kv _ => D.length - (intOf kv).toNat)
      case atStart => exact ⟨0, by omega, rfl, by simpa using oG, hB⟩
      case round =>
        clear hB oG
        obtain ⟨k, hk, rfl, oG, hB⟩ := hrel
        by_cases hlt : k + 1 < D.length
        · have hlt' : (k : Int) + 1 < (D.length : Int) := by omega
          have c0 := dif_at0 (l := D) (k := k) (by omega)
          have c1 := dif_at1 hlt
          have PUT := Lib.hid (congrArg (fun L : List Int => L.map (Value.int .i64) ++ rest) (dif_put hlt))
          have lenE : Hid (((dif D).take k ++ D.drop k).length = D.length) := by
            show _ = _
            rw [List.length_append, List.length_take, List.length_drop, dif_len]; omega
          have p0 : (((dif D).take k ++ D.drop k).map (Value.int .i64) ++ rest)[k]? = some (.int .i64 (D.getD k 0)) := by
            rw [List.getElem?_append_left (by rw [List.length_map, lenE.out]; omega), List.getElem?_map, c0]; rfl
          have p1 : (((dif D).take k ++ D.drop k).map (Value.int .i64) ++ rest)[k + 1]? = some (.int .i64 (D.getD (k + 1) 0)) := by
            rw [List.getElem?_append_left (by rw [List.length_map, lenE.out]; omega), List.getElem?_map, c1]; rfl
          have SET : Hid ((((dif D).take k ++ D.drop k).map (Value.int .i64) ++ rest).set k (.int .i64 (D.getD (k + 1) 0 - D.getD k 0)) = ((dif D).take (k + 1) ++ D.drop (k + 1)).map (Value.int .i64) ++ rest) := by
            show _ = _
            rw [← PUT.out, List.set_append_left _ _ (by rw [List.length_map, lenE.out]; omega), List.map_set]
          clear c0 c1 PUT lenE
          have q0 := BD.out k (by omega)
          have q1 := BD.out (k + 1) hlt
          generalize D.getD k 0 = x0 at *
          generalize D.getD (k + 1) 0 = x1 at *
          generalize (((dif D).take k ++ D.drop k).map (Value.int .i64) ++ rest) = cs at *
          have a1 : IntKind.i64.wrap (x1 - x0) = x1 - x0 := IntWalk.i64_in _ (by omega)
          obtain ⟨rG, fG⟩ := oG.rules
          have zG := oG.lt
          go_wp2_with fail
          go_region
          go_wp2
          go_roundw
          case rel => exact ⟨k + 1, by omega, by go_num, by rw [← SET.out]; exact (oG.set k _).drew, (hB.setCell (by simp; omega) _).drew⟩
          case measure => simp [intOf]; try omega
        · have hlt' : ¬ (k : Int) + 1 < (D.length : Int) := by omega
          have E := Lib.hid (dif_done (l := D) (k := k) (by omega))
          have hdl := Lib.hid (dif_len D)
          have ow : wr.ownsRow w.heap.size 3 1 (.slice (some ⟨g, 0, none⟩) (D.length - 1) cp) (dif D).length ((dif D).map (Value.int .i64)) := by
            have o2 := oG
            rw [E.out, List.map_append, List.append_assoc] at o2
            have hlen2 : ((dif D).map (Value.int .i64) ++ ((D.drop k).map (Value.int .i64) ++ rest)).length = cp := by
              simp only [List.length_append, List.length_map, List.length_drop] at *
              rw [hdl.out]; omega
            have := owns_shutI (n := D.length - 1) o2 hg (by rw [List.length_map, hdl.out]) (by omega) hcm hlen2
            rw [hdl.out]; exact this
          clear oG
          have hD1 : 1 ≤ D.length := hpos
          go_wp2
          go_roundw
          case rel => exact ⟨m + 1, by congr 1; omega, HU, by rw [HN.out]; exact ow, hB⟩
          case measure => simp [intOf]; try omega
end Go.Proofs.Ytpjhiojdnebgoaa
