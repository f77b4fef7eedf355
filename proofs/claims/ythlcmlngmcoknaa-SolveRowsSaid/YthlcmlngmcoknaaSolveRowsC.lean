/- What is proved here: the law SolveRows returns true. Condition: a system that can be read. -/
import Derived.Test.YthlcmlngmcoknaaC25
import Derived.Test.YthlcmlngmcoknaaC26
import Derived.Test.YthlcmlngmcoknaaC27
import Derived.Test.YthlcmlngmcoknaaC20
import Derived.Test.YthlcmlngmcoknaaC02
import Derived.Deep.DeepCutAuto
namespace Go.Proofs.Ythlcmlngmcoknaa
open Go.RowKit

theorem rev_take {α : Type} {l : List α} {n r j : Nat} (hl : l.length = n) (hn : n = r + 1 + j) (hj : j < l.length) : l.reverse.take (r + 1) = l.reverse.take r ++ [l[j]] := by
  have hr : r < l.reverse.length := by rw [List.length_reverse]; omega
  rw [List.take_succ_eq_append_getElem hr, List.getElem_reverse]
  have : l.length - 1 - r = j := by omega
  simp only [this]
theorem roTake {rws : List (Value × List Int)} {A : List (List Int)} {v : Value} {AR : List Int} {r : Nat} (h : rws.map Prod.snd = A.take r) (h2 : A.take (r + 1) = A.take r ++ [AR]) : Hid ((rws ++ [(v, AR)]).map Prod.snd = A.take (r + 1)) := by
  show _ = _
  rw [List.map_append, h, h2]; rfl
theorem roEnd {y0 : World} {b0 : Nat} {Ts INT : TypeId} {W : World} {e1 e2 er : Ent} {n1 : Nat} {T3 T4 : TypeId} {v3 v4 : Value} {cs3 cs4 : List Value} {rw1 rw2 : List (Value × List Int)} {B4 : List Int} {x1 x2 x3 x4 : Value} (he : entR INT rw2 = entR INT rw1 ++ [er]) (h3 : rw2.map Prod.fst = cs3) (h4 : ics B4 = cs4)
    (h : Ro y0 b0 Ts W (e1 :: e2 :: ⟨T3, v3, n1, cs3⟩ :: ⟨T4, v4, n1, cs4⟩ :: entR INT rw1 ++ [er]) x1 x2 x3 x4) : Ro y0 b0 Ts W (e1 :: e2 :: ⟨T3, v3, n1, rw2.map Prod.fst⟩ :: ⟨T4, v4, n1, ics B4⟩ :: entR INT rw2) x1 x2 x3 x4 := by
  rw [he, h3, h4]; exact h
theorem row_cellq {w : World} {B : Nat} {T : TypeId} {ad : Option Addr} {n m cap i : Nat} {cs : List Value} {v : Value} (h : w.ownsRow B T 1 (.slice ad m cap) n cs) (hi : cs[i]? = some v) (hn : n ≤ 1000) : ∃ g, ad = some ⟨g, 0, none⟩ ∧ n ≤ cap ∧ w.cell? ⟨g, i, none⟩ = some v ∧ B ≤ g := by
  obtain ⟨hl, e⟩ := List.getElem?_eq_some_iff.1 hi
  obtain ⟨g, e1, _, e2, e3, e4⟩ := row_cell h hl hn
  exact ⟨g, e1, e2, by rw [← e]; exact e3, e4⟩
theorem rws_split {rws : List (Value × List Int)} {A : List (List Int)} (h : rws.map Prod.snd = A) {i : Nat} (hi : i < A.length) : ∃ L v R, rws = L ++ (v, A[i]) :: R ∧ L.length = i ∧ ∀ x, A.set i x = L.map Prod.snd ++ x :: R.map Prod.snd := by
  subst h
  have hl : i < rws.length := by simpa using hi
  have e : rws = rws.take i ++ (rws[i].1, (rws.map Prod.snd)[i]) :: rws.drop (i + 1) := by
    have : (rws[i].1, (rws.map Prod.snd)[i]) = rws[i] := by simp
    rw [this, ← List.drop_eq_getElem_cons hl, List.take_append_drop]
  have ll : (rws.take i).length = i := by rw [List.length_take]; omega
  refine ⟨_, _, _, e, ll, fun x => ?_⟩
  have e2 : rws.map Prod.snd = (rws.take i).map Prod.snd ++ (rws.map Prod.snd)[i] :: (rws.drop (i + 1)).map Prod.snd := by
    have := congrArg (List.map Prod.snd) e
    rw [List.map_append, List.map_cons] at this
    exact this
  generalize (rws.map Prod.snd)[i] = y at e2
  generalize rws.map Prod.snd = Z at *
  rw [e2, List.set_append_right _ _ (by rw [List.length_map, ll]; exact Nat.le_refl _), List.length_map, ll, Nat.sub_self]; rfl
theorem ss_rev {w : World} {v : Value} {A : List (List Int)} {VS : List Value} (hl : VS.length = A.length) (hs : Sl w v A.length VS.reverse) (hg : ∀ i (_ : i < A.length) (h' : i < VS.length), SI w VS[i] A[i]) : SS w v A.reverse := by
  refine ⟨VS.reverse, by simp [hl], by rw [List.length_reverse]; exact hs, fun i hi hi' => ?_⟩
  rw [List.getElem_reverse, List.getElem_reverse]
  have : VS.length - 1 - i = A.length - 1 - i := by rw [hl]
  have hi2 : i < A.length := by simpa using hi
  have q := hg (A.length - 1 - i) (by omega) (by omega)
  simp only [this]
  exact q
theorem ss_rows {w : World} {B n : Nat} {T : TypeId} {v : Value} {rws : List (Value × List Int)} (hs : Sl w v n (rws.map Prod.fst)) (hn : n = rws.length) (hr : ∀ p ∈ rws, w.ownsRow B T 1 p.1 p.2.length (ics p.2)) (hm : ∀ p ∈ rws, p.2.length ≤ 1000) : SS w v (rws.map Prod.snd) := by
  subst hn
  refine ⟨rws.map Prod.fst, by simp, by rw [List.length_map]; exact hs, fun i hi hi' => ?_⟩
  have hl : i < rws.length := by simpa using hi
  have e1 : (rws.map Prod.fst)[i] = rws[i].1 := by simp
  have e2 : (rws.map Prod.snd)[i] = rws[i].2 := by simp
  rw [e1, e2]
  exact owns_SI' (hr _ (List.getElem_mem hl)) (by have := hm _ (List.getElem_mem hl); omega)
set_option maxRecDepth 100000 in
set_option maxHeartbeats 16000000 in
theorem solveRows_any (A : List (List Int)) (B : List Int) (ii kk : Int) (va vb : Value) (w : World) (hA : SS w va A) (hB : SI w vb B) :
    Calls Try.prog 3 #[.agg #[va, vb], .int .i64 ii, .int .i64 kk] w fun e w' => e = .returned (.bool true) ∧ Below w.heap.size w w' := by
  go_enter Try.func3, Try.ntmps3
  have oS := Own.new w 25 [va, vb]
  have hy := ba1 w (.cells #[va, vb] 25)
  replace hA := hA.below hy
  replace hB := hB.below hy
  obtain ⟨rS, fS⟩ := oS.rules
  have zS := oS.lt
  go_wp2_with fail
  refine (alive29_any _).mono ?_
  rintro e y1 ⟨rfl, hq⟩
  clear rS fS zS
  replace oS := oS.below hq
  replace hA := hA.below hq
  replace hB := hB.below hq
  replace hy := below_to hy hq
  clear hq
  obtain ⟨rS, fS⟩ := oS.rules
  have zS := oS.lt
  go_wp2_with fail
  refine (rocheck_any A B _ _ _ hA hB).mono ?_
  rintro e y2 ⟨rfl, hq⟩
  clear rS fS zS
  replace oS := oS.below hq
  replace hA := hA.below hq
  replace hB := hB.below hq
  replace hy := below_to hy hq
  clear hq
  obtain ⟨rS, fS⟩ := oS.rules
  have zS := oS.lt
  by_cases h0 : ocheck A B = 0
  case neg =>
    have b1 : (ocheck A B != 0) = true := by simpa using h0
    clear h0 hA hB
    go_wp2
    go_ret
    exact ⟨rfl, hy⟩
  have SY := Lib.hid (sys_of h0)
  have H0 := Lib.hid h0
  rw [h0]
  clear h0
  obtain ⟨VS, vs1, vs2, vs3⟩ := hA
  have SA := Lib.hid (show SS y2 va A from ⟨VS, vs1, vs2, vs3⟩)
  have VL := Lib.hid vs1
  have VG := Lib.hid vs3
  have VSL := Lib.hid vs2
  clear vs1 vs2 vs3
  obtain ⟨ada, capa, e, ha1, ha2, _⟩ := SA.out.open
  subst e
  obtain ⟨adb, capb, e, hb1, hb2, _⟩ := hB.open
  subst e
  have SB2 := Lib.hid hB
  have BL := Lib.hid SY.out.right
  rw [BL.out] at hb1 hb2 SB2 rS oS
  have r1 := SY.out.rows.1
  have r6 := SY.out.rows.2
  have n1 := SY.out.cols.1
  have n6 := SY.out.cols.2
  clear hB
  by_cases c1 : ii < 0
  case pos =>
    go_wp2
    go_ret
    exact ⟨rfl, hy⟩
  by_cases c2 : kk < 0
  case pos =>
    go_wp2
    go_ret
    exact ⟨rfl, hy⟩
  by_cases c3 : (A.length : Int) ≤ ii
  case pos =>
    go_wp2
    go_ret
    exact ⟨rfl, hy⟩
  by_cases c4 : (A.length : Int) ≤ kk
  case pos =>
    go_wp2
    go_ret
    exact ⟨rfl, hy⟩
  by_cases c5 : ii = kk
  case pos =>
    subst c5
    go_wp2
    go_ret
    exact ⟨rfl, hy⟩
  obtain ⟨ri, rfl⟩ : ∃ n : Nat, ii = n := ⟨ii.toNat, by omega⟩
  obtain ⟨rk, rfl⟩ : ∃ n : Nat, kk = n := ⟨kk.toNat, by omega⟩
  have b5 : ((ri : Int) == (rk : Int)) = false := by simpa using c5
  have hri : ri < A.length := by omega
  have hrk : rk < A.length := by omega
  have f1 : decide ((ri : Int) < 0) = false := decide_eq_false (by omega)
  have f2 : decide ((rk : Int) < 0) = false := decide_eq_false (by omega)
  have f3 : decide (A.length ≤ ri) = false := decide_eq_false (by omega)
  have f4 : decide (A.length ≤ rk) = false := decide_eq_false (by omega)
  have oT := own_first y2 25 [.slice none 0 0, .slice none 0 0] (.cells #[.slice none 0 0, .slice none 0 0] 25)
  have oU := own_second y2 25 [.slice none 0 0, .slice none 0 0] (.cells #[.slice none 0 0, .slice none 0 0] 25)
  have hq := ba2 y2 (.cells #[.slice none 0 0, .slice none 0 0] 25) (.cells #[.slice none 0 0, .slice none 0 0] 25)
  go_upto_region 5 with fail
  have OS := Lib.hid oS
  have T0 : Ro y2 y2.heap.size 25 ((y2.alloc (.cells #[.slice none 0 0, .slice none 0 0] 25)).alloc (.cells #[.slice none 0 0, .slice none 0 0] 25)) (⟨23, .slice none 0 0, 0, []⟩ :: ⟨3, .slice none 0 0, 0, []⟩ :: ⟨23, .slice none 0 0, 0, []⟩ :: ⟨3, .slice none 0 0, 0, []⟩ :: entR 3 []) (.slice none 0 0) (.slice none 0 0) (.slice none 0 0) (.slice none 0 0) :=
    ⟨⟨fun e he => by
      have : ∃ T, e = ⟨T, .slice none 0 0, 0, []⟩ := by
        simp only [entR, List.map_nil, List.mem_cons, List.not_mem_nil, or_false] at he
        rcases he with rfl | rfl | rfl | rfl <;> exact ⟨_, rfl⟩
      obtain ⟨T, rfl⟩ := this
      exact World.ownsRow_nil _ _ _ _, by
      simp only [entR, List.map_nil, List.pairwise_cons, List.mem_cons, List.not_mem_nil, or_false, List.Pairwise.nil, and_true]
      have q : ∀ v, Apart (.slice none 0 0) v := fun v => (apart_nil v).symm
      refine ⟨fun e he => q _, fun e he => q _, fun e he => q _, fun e he => he.elim⟩⟩, oT, oU, Nat.le_refl _, hq⟩
  obtain ⟨b0, hb0⟩ : ∃ b, b = y2.heap.size := ⟨_, rfl⟩
  rw [← hb0] at T0 ⊢
  have HB0 := Lib.hid hb0
  clear hb0 oT oU hq rS fS zS oS
  generalize (y2.alloc (.cells #[.slice none 0 0, .slice none 0 0] 25)).alloc (.cells #[.slice none 0 0, .slice none 0 0] 25) = y4 at *
  go_wp2
  go_loopw [10] (fun i wr => ∃ (r : Nat) (x1 x2 x3 x4 : Value) (rws : List (Value × List Int)), r ≤ A.length ∧ i = .int .i64 r ∧ Hid (rws.map Prod.snd = A.take r) ∧ Ro y2 b0 25 wr (⟨23, x1, r, VS.reverse.take r⟩ :: ⟨3, x2, r, ics (B.reverse.take r)⟩ :: ⟨23, x3, r, rws.map Prod.fst⟩ :: ⟨3, x4, r, ics (B.take r)⟩ :: entR 3 rws) x1 x2 x3 x4) (fun i _ => A.length + 1 - (intOf i).toNat)
  case atStart => exact ⟨0, _, _, _, _, [], Nat.zero_le _, rfl, rfl, T0⟩
  case round =>
    obtain ⟨r, x1, x2, x3, x4, rws, hr, rfl, HWS, TU⟩ := hrel
    rename World => W
    obtain ⟨ad1, cap1, e1⟩ := oslice (TU.many.1 _ List.mem_cons_self)
    replace e1 : x1 = .slice ad1 r cap1 := e1
    subst e1
    obtain ⟨ad2, cap2, e2⟩ := oslice (TU.many.1 _ (List.mem_cons_of_mem _ List.mem_cons_self))
    replace e2 : x2 = .slice ad2 r cap2 := e2
    subst e2
    obtain ⟨ad3, cap3, e3⟩ := oslice (TU.many.1 _ (List.mem_cons_of_mem _ (List.mem_cons_of_mem _ List.mem_cons_self)))
    replace e3 : x3 = .slice ad3 r cap3 := e3
    subst e3
    obtain ⟨ad4, cap4, e4⟩ := oslice (TU.many.1 _ (List.mem_cons_of_mem _ (List.mem_cons_of_mem _ (List.mem_cons_of_mem _ List.mem_cons_self))))
    replace e4 : x4 = .slice ad4 r cap4 := e4
    subst e4
    have oS := OS.out.below TU.bel
    obtain ⟨rS, fS⟩ := oS.rules
    have zS := oS.lt
    have oS0 := oS
    by_cases hlt : r < A.length
    · go_upto_region 8 with fail
      obtain ⟨j, hj⟩ : ∃ j, A.length = r + 1 + j := ⟨A.length - (r + 1), by omega⟩
      have hjl : j < A.length := by omega
      have hjB : j < B.length := by rw [BL.out]; exact hjl
      have hrB : r < B.length := by rw [BL.out]; exact hlt
      have hjV : j < VS.length := by rw [VL.out]; exact hjl
      have ej : (A.length : Int) - 1 - (r : Int) = (j : Int) := by omega
      have ej1 : wrap64 ((A.length : Int) - 1) = (A.length : Int) - 1 := by unfold wrap64; omega
      have hrV : r < VS.length := by rw [VL.out]; exact hlt
      obtain ⟨_, _, e, _, _, hc⟩ := VSL.out
      cases e
      obtain ⟨b, off, e, cJ⟩ := hc j VS[j] (by simp [hjV])
      subst e
      obtain ⟨_, _, e, cR⟩ := hc r VS[r] (by simp [hrV])
      cases e
      clear hc
      obtain ⟨adj, capj, eJ, _, _, _⟩ := (VG.out j hjl hjV).open
      obtain ⟨adr, capr, eR, _, _, _⟩ := (VG.out r hlt hrV).open
      have SR0 := VG.out r hlt hrV
      rw [eJ] at cJ
      rw [eR] at cR SR0
      have XR1 : Hid (VS.reverse.take (r + 1) = VS.reverse.take r ++ [VS[j]]) := rev_take VL.out hj hjV
      have XR2 : Hid (B.reverse.take (r + 1) = B.reverse.take r ++ [B[j]]) := rev_take BL.out hj hjB
      clear hj
      have XR3 : Hid (A.take (r + 1) = A.take r ++ [A[r]]) := List.take_succ_eq_append_getElem hlt
      have XR4 : Hid (B.take (r + 1) = B.take r ++ [B[r]]) := List.take_succ_eq_append_getElem hrB
      have WJ : A[j].length = (A.getD 0 []).length := SY.out.wide j hjl
      have WR : A[r].length = (A.getD 0 []).length := SY.out.wide r hlt
      have NC := Lib.hid WR
      have SR : Hid (Sl y2 (.slice adr (A.getD 0 []).length capr) (A.getD 0 []).length (ics A[r])) := by
        show Sl _ _ _ _
        have := SR0
        unfold SI at this
        rw [WR] at this
        exact this
      rw [WJ] at eJ cJ
      rw [WR] at eR cR
      rw [eJ] at XR1
      obtain ⟨_, _, e, _, _, HB⟩ := SB2.out.open
      rw [BL.out] at e
      cases e
      obtain ⟨b2, off2, e, cB⟩ := HB.out j hjB
      subst e
      obtain ⟨_, _, e, cBr⟩ := HB.out r hrB
      cases e
      clear HB SR0 WJ WR eJ eR
      generalize A[r] = AR at *
      generalize B[j] = zj at *
      generalize B[r] = zr at *
      have zA := World.block_lt_of_cell? _ _ cJ
      have zB := World.block_lt_of_cell? _ _ cB
      simp only at zA zB
      have oS2 := OS.out
      obtain ⟨rS, fS⟩ := oS2.rules
      have zS := oS2.lt
      clear oS2 oS
      generalize (A.getD 0 []).length = nc at *
      go_cut [] (fun wx => ∃ x1 x2, Ro y2 b0 25 wx (⟨23, x1, r + 1, VS.reverse.take (r + 1)⟩ :: ⟨3, x2, r + 1, ics (B.reverse.take (r + 1))⟩ :: ⟨23, .slice ad3 r cap3, r, rws.map Prod.fst⟩ :: ⟨3, .slice ad4 r cap4, r, ics (B.take r)⟩ :: entR 3 rws) x1 x2 (.slice ad3 r cap3) (.slice ad4 r cap4))
      case first =>
       have hR : Below W.heap.size W W.drew := (Below.refl _ _).drew
       replace TU := TU.below hR
       have kS : (fun W' : World => Below y2.heap.size y2 W' ∧ W'.cell? ⟨b0, 0, none⟩ = some (.slice ad1 r cap1) ∧ W'.cell? ⟨b0, 1, none⟩ = some (.slice ad2 r cap2)) W.drew := ⟨TU.bel, by rw [(TU.boxT.rules).1]; rfl, by rw [(TU.boxT.rules).1]; rfl⟩
       have mS := fun e => (bcell (keepW_is (S := fun W' : World => Below y2.heap.size y2 W' ∧ W'.cell? ⟨b0, 0, none⟩ = some (.slice ad1 r cap1) ∧ W'.cell? ⟨b0, 1, none⟩ = some (.slice ad2 r cap2)) kS e).1).1
       have mS0 := fun e => (keepW_is (S := fun W' : World => Below y2.heap.size y2 W' ∧ W'.cell? ⟨b0, 0, none⟩ = some (.slice ad1 r cap1) ∧ W'.cell? ⟨b0, 1, none⟩ = some (.slice ad2 r cap2)) kS e).2.1
       have mS1 := fun e => (keepW_is (S := fun W' : World => Below y2.heap.size y2 W' ∧ W'.cell? ⟨b0, 0, none⟩ = some (.slice ad1 r cap1) ∧ W'.cell? ⟨b0, 1, none⟩ = some (.slice ad2 r cap2)) kS e).2.2
       refine wp_region_tree (fun W' => ∃ e, W' = keepW (fun W' : World => Below y2.heap.size y2 W' ∧ W'.cell? ⟨b0, 0, none⟩ = some (.slice ad1 r cap1) ∧ W'.cell? ⟨b0, 1, none⟩ = some (.slice ad2 r cap2)) W.drew e) (.t [0, 1, 2, 3, 4, 5, 6, 7, 8, 9, 10, 11, 14, 15, 16, 17, 18, 19, 20, 21, 22, 23, 24, 25] (.two 12 (.two 13 (.t [28] (.f 26 (.f 27 (.nil [29, 30, 31])))) 26 (.f 13 (.t [28] (.f 27 (.nil [29, 30, 31]))))) 26 (.f 12 (.f 13 (.t [28] (.f 27 (.nil [29, 30, 31]))))))) (by kernel_rfl) (by kernel_rfl) (fun _ _ _ _ _ h => h) (keepW_of kS) ?_
       refine wpT_t ?_
       try simp only [opsAt, List.getElem?_toArray, List.getElem?_cons_zero, List.getElem?_cons_succ, Option.getD_some]
       repeat (go_big_quiet_step (fail))
       refine wpQuiet_nil ?_
       clear mS mS0 mS1 kS
       generalize hU : W.drew = U at *
       clear hU
       refine wpT_two ?_ ?_
       · refine wpT_f rfl rfl (fun K' hK' => ?_)
         go_simp
         have hq := ba1 U (.cells #[Value.slice adj nc capj] 23)
         have T1 := TU.add (e := ⟨23, Value.slice (some ⟨U.heap.size, 0, none⟩) 1 1, 1, [Value.slice adj nc capj]⟩) hq (own_one (Own.new U 23 [Value.slice adj nc capj]) (Nat.le_refl _))
         refine hK' _ _ (keepW_of ⟨T1.bel, by rw [(T1.boxT.rules).1]; rfl, by rw [(T1.boxT.rules).1]; rfl⟩) ?_
         clear hK' K' hq TU
         obtain ⟨p12, hp12⟩ : ∃ p, p = U.heap.size := ⟨_, rfl⟩
         rw [← hp12] at T1 ⊢
         clear hp12
         generalize U.alloc (.cells #[Value.slice adj nc capj] 23) = U1 at *
         refine wpT_two ?_ ?_
         · refine wpT_f rfl rfl (fun K' hK' => ?_)
           refine wp_apps U1 _ _ rfl (b0 + 2) 23 1 24 (Value.slice none 0 0) Try.underlying22 orow_info rfl (by omega) (by omega) _ r (VS.reverse.take r) rfl (T1.many.1 _ (List.mem_cons_of_mem _ List.mem_cons_self)) T1.sz _ 1 [Value.slice adj nc capj] rfl (owns_sl (T1.many.1 _ List.mem_cons_self) (by omega)) (by first | (simp; done) | (rw [ics_len, NC.out]; simp)) (fun u hu => by first | (rw [List.mem_singleton.1 hu]; rfl) | (obtain ⟨z, _, rfl⟩ := List.mem_map.1 hu; rfl)) (by omega) ?_
           intro v13 U2 hown hkp
           obtain ⟨d13, c13, hv⟩ := oslice hown
           subst hv
           have T2 : Ro y2 b0 25 U2 (⟨23, Value.slice (some ⟨p12, 0, none⟩) 1 1, 1, [Value.slice adj nc capj]⟩ :: ⟨23, Value.slice d13 (r + 1) c13, r + 1, (VS.reverse.take r) ++ [Value.slice adj nc capj]⟩ :: ⟨3, Value.slice ad2 r cap2, r, ics (B.reverse.take r)⟩ :: ⟨23, Value.slice ad3 r cap3, r, rws.map Prod.fst⟩ :: ⟨3, Value.slice ad4 r cap4, r, ics (B.take r)⟩ :: entR 3 rws) (Value.slice ad1 r cap1) (Value.slice ad2 r cap2) (Value.slice ad3 r cap3) (Value.slice ad4 r cap4) := T1.app (L1 := (⟨23, Value.slice (some ⟨p12, 0, none⟩) 1 1, 1, [Value.slice adj nc capj]⟩ :: [])) (e := ⟨23, Value.slice ad1 r cap1, r, VS.reverse.take r⟩) (e' := ⟨23, Value.slice d13 (r + 1) c13, r + 1, (VS.reverse.take r) ++ [Value.slice adj nc capj]⟩) (L2 := (⟨3, Value.slice ad2 r cap2, r, ics (B.reverse.take r)⟩ :: ⟨23, Value.slice ad3 r cap3, r, rws.map Prod.fst⟩ :: ⟨3, Value.slice ad4 r cap4, r, ics (B.take r)⟩ :: entR 3 rws)) hkp hown
           refine hK' _ _ (keepW_of ⟨T2.bel, by rw [(T2.boxT.rules).1]; rfl, by rw [(T2.boxT.rules).1]; rfl⟩) ?_
           clear hK' K' hown hkp T1
           try go_simp
           refine wpT_t ?_
           try simp only [opsAt, List.getElem?_toArray, List.getElem?_cons_zero, List.getElem?_cons_succ, Option.getD_some]
           repeat (go_big_quiet_step (fail))
           refine wpQuiet_nil ?_
           refine wpT_f rfl rfl (fun K' hK' => ?_)
           go_simp
           have hq := ba1 U2 (.cells #[Value.int .i64 zj] 3)
           have T3 := T2.add (e := ⟨3, Value.slice (some ⟨U2.heap.size, 0, none⟩) 1 1, 1, [Value.int .i64 zj]⟩) hq (own_one (Own.new U2 3 [Value.int .i64 zj]) (Nat.le_refl _))
           refine hK' _ _ (keepW_of ⟨T3.bel, by rw [(T3.boxT.rules).1]; rfl, by rw [(T3.boxT.rules).1]; rfl⟩) ?_
           clear hK' K' hq T2
           obtain ⟨p26, hp26⟩ : ∃ p, p = U2.heap.size := ⟨_, rfl⟩
           rw [← hp26] at T3 ⊢
           clear hp26
           generalize U2.alloc (.cells #[Value.int .i64 zj] 3) = U3 at *
           refine wpT_f rfl rfl (fun K' hK' => ?_)
           refine wp_apps U3 _ _ rfl (b0 + 2) 3 1 8 (Value.int .i64 0) Try.underlying23 oint_info rfl (by omega) (by omega) _ r (ics (B.reverse.take r)) rfl (T3.many.1 _ (List.mem_cons_of_mem _ (List.mem_cons_of_mem _ (List.mem_cons_of_mem _ List.mem_cons_self)))) T3.sz _ 1 [Value.int .i64 zj] rfl (owns_sl (T3.many.1 _ List.mem_cons_self) (by omega)) (by first | (simp; done) | (rw [ics_len, NC.out]; simp)) (fun u hu => by first | (rw [List.mem_singleton.1 hu]; rfl) | (obtain ⟨z, _, rfl⟩ := List.mem_map.1 hu; rfl)) (by omega) ?_
           intro v27 U4 hown hkp
           obtain ⟨d27, c27, hv⟩ := oslice hown
           subst hv
           have T4 : Ro y2 b0 25 U4 (⟨3, Value.slice (some ⟨p26, 0, none⟩) 1 1, 1, [Value.int .i64 zj]⟩ :: ⟨23, Value.slice (some ⟨p12, 0, none⟩) 1 1, 1, [Value.slice adj nc capj]⟩ :: ⟨23, Value.slice d13 (r + 1) c13, r + 1, (VS.reverse.take r) ++ [Value.slice adj nc capj]⟩ :: ⟨3, Value.slice d27 (r + 1) c27, r + 1, (ics (B.reverse.take r)) ++ [Value.int .i64 zj]⟩ :: ⟨23, Value.slice ad3 r cap3, r, rws.map Prod.fst⟩ :: ⟨3, Value.slice ad4 r cap4, r, ics (B.take r)⟩ :: entR 3 rws) (Value.slice ad1 r cap1) (Value.slice ad2 r cap2) (Value.slice ad3 r cap3) (Value.slice ad4 r cap4) := T3.app (L1 := (⟨3, Value.slice (some ⟨p26, 0, none⟩) 1 1, 1, [Value.int .i64 zj]⟩ :: ⟨23, Value.slice (some ⟨p12, 0, none⟩) 1 1, 1, [Value.slice adj nc capj]⟩ :: ⟨23, Value.slice d13 (r + 1) c13, r + 1, (VS.reverse.take r) ++ [Value.slice adj nc capj]⟩ :: [])) (e := ⟨3, Value.slice ad2 r cap2, r, ics (B.reverse.take r)⟩) (e' := ⟨3, Value.slice d27 (r + 1) c27, r + 1, (ics (B.reverse.take r)) ++ [Value.int .i64 zj]⟩) (L2 := (⟨23, Value.slice ad3 r cap3, r, rws.map Prod.fst⟩ :: ⟨3, Value.slice ad4 r cap4, r, ics (B.take r)⟩ :: entR 3 rws)) hkp hown
           refine hK' _ _ (keepW_of ⟨T4.bel, by rw [(T4.boxT.rules).1]; rfl, by rw [(T4.boxT.rules).1]; rfl⟩) ?_
           clear hK' K' hown hkp T3
           refine wpT_nil ?_
           try simp only [opsAt, List.getElem?_toArray, List.getElem?_cons_zero, List.getElem?_cons_succ, Option.getD_some]
           obtain ⟨rT, fT⟩ := T4.boxT.rules
           have zT := T4.boxT.lt
           go_wp2_with fail
           go_meet
           have T5 : Ro y2 b0 25 U4 (⟨3, Value.slice (some ⟨p26, 0, none⟩) 1 1, 1, [Value.int .i64 zj]⟩ :: ⟨23, Value.slice d13 (r + 1) c13, r + 1, (VS.reverse.take r) ++ [Value.slice adj nc capj]⟩ :: ⟨3, Value.slice d27 (r + 1) c27, r + 1, (ics (B.reverse.take r)) ++ [Value.int .i64 zj]⟩ :: ⟨23, Value.slice ad3 r cap3, r, rws.map Prod.fst⟩ :: ⟨3, Value.slice ad4 r cap4, r, ics (B.take r)⟩ :: entR 3 rws) (Value.slice ad1 r cap1) (Value.slice ad2 r cap2) (Value.slice ad3 r cap3) (Value.slice ad4 r cap4) := T4.drop (L1 := (⟨3, Value.slice (some ⟨p26, 0, none⟩) 1 1, 1, [Value.int .i64 zj]⟩ :: [])) (e := ⟨23, Value.slice (some ⟨p12, 0, none⟩) 1 1, 1, [Value.slice adj nc capj]⟩) (L2 := (⟨23, Value.slice d13 (r + 1) c13, r + 1, (VS.reverse.take r) ++ [Value.slice adj nc capj]⟩ :: ⟨3, Value.slice d27 (r + 1) c27, r + 1, (ics (B.reverse.take r)) ++ [Value.int .i64 zj]⟩ :: ⟨23, Value.slice ad3 r cap3, r, rws.map Prod.fst⟩ :: ⟨3, Value.slice ad4 r cap4, r, ics (B.take r)⟩ :: entR 3 rws))
           clear T4
           have T6 : Ro y2 b0 25 U4 (⟨23, Value.slice d13 (r + 1) c13, r + 1, (VS.reverse.take r) ++ [Value.slice adj nc capj]⟩ :: ⟨3, Value.slice d27 (r + 1) c27, r + 1, (ics (B.reverse.take r)) ++ [Value.int .i64 zj]⟩ :: ⟨23, Value.slice ad3 r cap3, r, rws.map Prod.fst⟩ :: ⟨3, Value.slice ad4 r cap4, r, ics (B.take r)⟩ :: entR 3 rws) (Value.slice ad1 r cap1) (Value.slice ad2 r cap2) (Value.slice ad3 r cap3) (Value.slice ad4 r cap4) := T5.drop (L1 := ([])) (e := ⟨3, Value.slice (some ⟨p26, 0, none⟩) 1 1, 1, [Value.int .i64 zj]⟩) (L2 := (⟨23, Value.slice d13 (r + 1) c13, r + 1, (VS.reverse.take r) ++ [Value.slice adj nc capj]⟩ :: ⟨3, Value.slice d27 (r + 1) c27, r + 1, (ics (B.reverse.take r)) ++ [Value.int .i64 zj]⟩ :: ⟨23, Value.slice ad3 r cap3, r, rws.map Prod.fst⟩ :: ⟨3, Value.slice ad4 r cap4, r, ics (B.take r)⟩ :: entR 3 rws))
           clear T5
           exact ⟨_, _, by rw [XR1.out, XR2.out, ics_app]; exact T6.setT _ _⟩
         · refine wpT_f rfl rfl (fun K' hK' => ?_)
           go_simp
           have hq := ba1 U1 (.cells #[Value.int .i64 zj] 3)
           have T2 := T1.add (e := ⟨3, Value.slice (some ⟨U1.heap.size, 0, none⟩) 1 1, 1, [Value.int .i64 zj]⟩) hq (own_one (Own.new U1 3 [Value.int .i64 zj]) (Nat.le_refl _))
           refine hK' _ _ (keepW_of ⟨T2.bel, by rw [(T2.boxT.rules).1]; rfl, by rw [(T2.boxT.rules).1]; rfl⟩) ?_
           clear hK' K' hq T1
           obtain ⟨p26, hp26⟩ : ∃ p, p = U1.heap.size := ⟨_, rfl⟩
           rw [← hp26] at T2 ⊢
           clear hp26
           generalize U1.alloc (.cells #[Value.int .i64 zj] 3) = U2 at *
           refine wpT_f rfl rfl (fun K' hK' => ?_)
           refine wp_apps U2 _ _ rfl (b0 + 2) 23 1 24 (Value.slice none 0 0) Try.underlying22 orow_info rfl (by omega) (by omega) _ r (VS.reverse.take r) rfl (T2.many.1 _ (List.mem_cons_of_mem _ (List.mem_cons_of_mem _ List.mem_cons_self))) T2.sz _ 1 [Value.slice adj nc capj] rfl (owns_sl (T2.many.1 _ (List.mem_cons_of_mem _ List.mem_cons_self)) (by omega)) (by first | (simp; done) | (rw [ics_len, NC.out]; simp)) (fun u hu => by first | (rw [List.mem_singleton.1 hu]; rfl) | (obtain ⟨z, _, rfl⟩ := List.mem_map.1 hu; rfl)) (by omega) ?_
           intro v13 U3 hown hkp
           obtain ⟨d13, c13, hv⟩ := oslice hown
           subst hv
           have T3 : Ro y2 b0 25 U3 (⟨3, Value.slice (some ⟨p26, 0, none⟩) 1 1, 1, [Value.int .i64 zj]⟩ :: ⟨23, Value.slice (some ⟨p12, 0, none⟩) 1 1, 1, [Value.slice adj nc capj]⟩ :: ⟨23, Value.slice d13 (r + 1) c13, r + 1, (VS.reverse.take r) ++ [Value.slice adj nc capj]⟩ :: ⟨3, Value.slice ad2 r cap2, r, ics (B.reverse.take r)⟩ :: ⟨23, Value.slice ad3 r cap3, r, rws.map Prod.fst⟩ :: ⟨3, Value.slice ad4 r cap4, r, ics (B.take r)⟩ :: entR 3 rws) (Value.slice ad1 r cap1) (Value.slice ad2 r cap2) (Value.slice ad3 r cap3) (Value.slice ad4 r cap4) := T2.app (L1 := (⟨3, Value.slice (some ⟨p26, 0, none⟩) 1 1, 1, [Value.int .i64 zj]⟩ :: ⟨23, Value.slice (some ⟨p12, 0, none⟩) 1 1, 1, [Value.slice adj nc capj]⟩ :: [])) (e := ⟨23, Value.slice ad1 r cap1, r, VS.reverse.take r⟩) (e' := ⟨23, Value.slice d13 (r + 1) c13, r + 1, (VS.reverse.take r) ++ [Value.slice adj nc capj]⟩) (L2 := (⟨3, Value.slice ad2 r cap2, r, ics (B.reverse.take r)⟩ :: ⟨23, Value.slice ad3 r cap3, r, rws.map Prod.fst⟩ :: ⟨3, Value.slice ad4 r cap4, r, ics (B.take r)⟩ :: entR 3 rws)) hkp hown
           refine hK' _ _ (keepW_of ⟨T3.bel, by rw [(T3.boxT.rules).1]; rfl, by rw [(T3.boxT.rules).1]; rfl⟩) ?_
           clear hK' K' hown hkp T2
           try go_simp
           refine wpT_t ?_
           try simp only [opsAt, List.getElem?_toArray, List.getElem?_cons_zero, List.getElem?_cons_succ, Option.getD_some]
           repeat (go_big_quiet_step (fail))
           refine wpQuiet_nil ?_
           refine wpT_f rfl rfl (fun K' hK' => ?_)
           refine wp_apps U3 _ _ rfl (b0 + 2) 3 1 8 (Value.int .i64 0) Try.underlying23 oint_info rfl (by omega) (by omega) _ r (ics (B.reverse.take r)) rfl (T3.many.1 _ (List.mem_cons_of_mem _ (List.mem_cons_of_mem _ (List.mem_cons_of_mem _ List.mem_cons_self)))) T3.sz _ 1 [Value.int .i64 zj] rfl (owns_sl (T3.many.1 _ List.mem_cons_self) (by omega)) (by first | (simp; done) | (rw [ics_len, NC.out]; simp)) (fun u hu => by first | (rw [List.mem_singleton.1 hu]; rfl) | (obtain ⟨z, _, rfl⟩ := List.mem_map.1 hu; rfl)) (by omega) ?_
           intro v27 U4 hown hkp
           obtain ⟨d27, c27, hv⟩ := oslice hown
           subst hv
           have T4 : Ro y2 b0 25 U4 (⟨3, Value.slice (some ⟨p26, 0, none⟩) 1 1, 1, [Value.int .i64 zj]⟩ :: ⟨23, Value.slice (some ⟨p12, 0, none⟩) 1 1, 1, [Value.slice adj nc capj]⟩ :: ⟨23, Value.slice d13 (r + 1) c13, r + 1, (VS.reverse.take r) ++ [Value.slice adj nc capj]⟩ :: ⟨3, Value.slice d27 (r + 1) c27, r + 1, (ics (B.reverse.take r)) ++ [Value.int .i64 zj]⟩ :: ⟨23, Value.slice ad3 r cap3, r, rws.map Prod.fst⟩ :: ⟨3, Value.slice ad4 r cap4, r, ics (B.take r)⟩ :: entR 3 rws) (Value.slice ad1 r cap1) (Value.slice ad2 r cap2) (Value.slice ad3 r cap3) (Value.slice ad4 r cap4) := T3.app (L1 := (⟨3, Value.slice (some ⟨p26, 0, none⟩) 1 1, 1, [Value.int .i64 zj]⟩ :: ⟨23, Value.slice (some ⟨p12, 0, none⟩) 1 1, 1, [Value.slice adj nc capj]⟩ :: ⟨23, Value.slice d13 (r + 1) c13, r + 1, (VS.reverse.take r) ++ [Value.slice adj nc capj]⟩ :: [])) (e := ⟨3, Value.slice ad2 r cap2, r, ics (B.reverse.take r)⟩) (e' := ⟨3, Value.slice d27 (r + 1) c27, r + 1, (ics (B.reverse.take r)) ++ [Value.int .i64 zj]⟩) (L2 := (⟨23, Value.slice ad3 r cap3, r, rws.map Prod.fst⟩ :: ⟨3, Value.slice ad4 r cap4, r, ics (B.take r)⟩ :: entR 3 rws)) hkp hown
           refine hK' _ _ (keepW_of ⟨T4.bel, by rw [(T4.boxT.rules).1]; rfl, by rw [(T4.boxT.rules).1]; rfl⟩) ?_
           clear hK' K' hown hkp T3
           refine wpT_nil ?_
           try simp only [opsAt, List.getElem?_toArray, List.getElem?_cons_zero, List.getElem?_cons_succ, Option.getD_some]
           obtain ⟨rT, fT⟩ := T4.boxT.rules
           have zT := T4.boxT.lt
           go_wp2_with fail
           go_meet
           have T5 : Ro y2 b0 25 U4 (⟨3, Value.slice (some ⟨p26, 0, none⟩) 1 1, 1, [Value.int .i64 zj]⟩ :: ⟨23, Value.slice d13 (r + 1) c13, r + 1, (VS.reverse.take r) ++ [Value.slice adj nc capj]⟩ :: ⟨3, Value.slice d27 (r + 1) c27, r + 1, (ics (B.reverse.take r)) ++ [Value.int .i64 zj]⟩ :: ⟨23, Value.slice ad3 r cap3, r, rws.map Prod.fst⟩ :: ⟨3, Value.slice ad4 r cap4, r, ics (B.take r)⟩ :: entR 3 rws) (Value.slice ad1 r cap1) (Value.slice ad2 r cap2) (Value.slice ad3 r cap3) (Value.slice ad4 r cap4) := T4.drop (L1 := (⟨3, Value.slice (some ⟨p26, 0, none⟩) 1 1, 1, [Value.int .i64 zj]⟩ :: [])) (e := ⟨23, Value.slice (some ⟨p12, 0, none⟩) 1 1, 1, [Value.slice adj nc capj]⟩) (L2 := (⟨23, Value.slice d13 (r + 1) c13, r + 1, (VS.reverse.take r) ++ [Value.slice adj nc capj]⟩ :: ⟨3, Value.slice d27 (r + 1) c27, r + 1, (ics (B.reverse.take r)) ++ [Value.int .i64 zj]⟩ :: ⟨23, Value.slice ad3 r cap3, r, rws.map Prod.fst⟩ :: ⟨3, Value.slice ad4 r cap4, r, ics (B.take r)⟩ :: entR 3 rws))
           clear T4
           have T6 : Ro y2 b0 25 U4 (⟨23, Value.slice d13 (r + 1) c13, r + 1, (VS.reverse.take r) ++ [Value.slice adj nc capj]⟩ :: ⟨3, Value.slice d27 (r + 1) c27, r + 1, (ics (B.reverse.take r)) ++ [Value.int .i64 zj]⟩ :: ⟨23, Value.slice ad3 r cap3, r, rws.map Prod.fst⟩ :: ⟨3, Value.slice ad4 r cap4, r, ics (B.take r)⟩ :: entR 3 rws) (Value.slice ad1 r cap1) (Value.slice ad2 r cap2) (Value.slice ad3 r cap3) (Value.slice ad4 r cap4) := T5.drop (L1 := ([])) (e := ⟨3, Value.slice (some ⟨p26, 0, none⟩) 1 1, 1, [Value.int .i64 zj]⟩) (L2 := (⟨23, Value.slice d13 (r + 1) c13, r + 1, (VS.reverse.take r) ++ [Value.slice adj nc capj]⟩ :: ⟨3, Value.slice d27 (r + 1) c27, r + 1, (ics (B.reverse.take r)) ++ [Value.int .i64 zj]⟩ :: ⟨23, Value.slice ad3 r cap3, r, rws.map Prod.fst⟩ :: ⟨3, Value.slice ad4 r cap4, r, ics (B.take r)⟩ :: entR 3 rws))
           clear T5
           exact ⟨_, _, by rw [XR1.out, XR2.out, ics_app]; exact T6.setT _ _⟩
       · refine wpT_f rfl rfl (fun K' hK' => ?_)
         go_simp
         have hq := ba1 U (.cells #[Value.int .i64 zj] 3)
         have T1 := TU.add (e := ⟨3, Value.slice (some ⟨U.heap.size, 0, none⟩) 1 1, 1, [Value.int .i64 zj]⟩) hq (own_one (Own.new U 3 [Value.int .i64 zj]) (Nat.le_refl _))
         refine hK' _ _ (keepW_of ⟨T1.bel, by rw [(T1.boxT.rules).1]; rfl, by rw [(T1.boxT.rules).1]; rfl⟩) ?_
         clear hK' K' hq TU
         obtain ⟨p26, hp26⟩ : ∃ p, p = U.heap.size := ⟨_, rfl⟩
         rw [← hp26] at T1 ⊢
         clear hp26
         generalize U.alloc (.cells #[Value.int .i64 zj] 3) = U1 at *
         refine wpT_f rfl rfl (fun K' hK' => ?_)
         go_simp
         have hq := ba1 U1 (.cells #[Value.slice adj nc capj] 23)
         have T2 := T1.add (e := ⟨23, Value.slice (some ⟨U1.heap.size, 0, none⟩) 1 1, 1, [Value.slice adj nc capj]⟩) hq (own_one (Own.new U1 23 [Value.slice adj nc capj]) (Nat.le_refl _))
         refine hK' _ _ (keepW_of ⟨T2.bel, by rw [(T2.boxT.rules).1]; rfl, by rw [(T2.boxT.rules).1]; rfl⟩) ?_
         clear hK' K' hq T1
         obtain ⟨p12, hp12⟩ : ∃ p, p = U1.heap.size := ⟨_, rfl⟩
         rw [← hp12] at T2 ⊢
         clear hp12
         generalize U1.alloc (.cells #[Value.slice adj nc capj] 23) = U2 at *
         refine wpT_f rfl rfl (fun K' hK' => ?_)
         refine wp_apps U2 _ _ rfl (b0 + 2) 23 1 24 (Value.slice none 0 0) Try.underlying22 orow_info rfl (by omega) (by omega) _ r (VS.reverse.take r) rfl (T2.many.1 _ (List.mem_cons_of_mem _ (List.mem_cons_of_mem _ List.mem_cons_self))) T2.sz _ 1 [Value.slice adj nc capj] rfl (owns_sl (T2.many.1 _ List.mem_cons_self) (by omega)) (by first | (simp; done) | (rw [ics_len, NC.out]; simp)) (fun u hu => by first | (rw [List.mem_singleton.1 hu]; rfl) | (obtain ⟨z, _, rfl⟩ := List.mem_map.1 hu; rfl)) (by omega) ?_
         intro v13 U3 hown hkp
         obtain ⟨d13, c13, hv⟩ := oslice hown
         subst hv
         have T3 : Ro y2 b0 25 U3 (⟨23, Value.slice (some ⟨p12, 0, none⟩) 1 1, 1, [Value.slice adj nc capj]⟩ :: ⟨3, Value.slice (some ⟨p26, 0, none⟩) 1 1, 1, [Value.int .i64 zj]⟩ :: ⟨23, Value.slice d13 (r + 1) c13, r + 1, (VS.reverse.take r) ++ [Value.slice adj nc capj]⟩ :: ⟨3, Value.slice ad2 r cap2, r, ics (B.reverse.take r)⟩ :: ⟨23, Value.slice ad3 r cap3, r, rws.map Prod.fst⟩ :: ⟨3, Value.slice ad4 r cap4, r, ics (B.take r)⟩ :: entR 3 rws) (Value.slice ad1 r cap1) (Value.slice ad2 r cap2) (Value.slice ad3 r cap3) (Value.slice ad4 r cap4) := T2.app (L1 := (⟨23, Value.slice (some ⟨p12, 0, none⟩) 1 1, 1, [Value.slice adj nc capj]⟩ :: ⟨3, Value.slice (some ⟨p26, 0, none⟩) 1 1, 1, [Value.int .i64 zj]⟩ :: [])) (e := ⟨23, Value.slice ad1 r cap1, r, VS.reverse.take r⟩) (e' := ⟨23, Value.slice d13 (r + 1) c13, r + 1, (VS.reverse.take r) ++ [Value.slice adj nc capj]⟩) (L2 := (⟨3, Value.slice ad2 r cap2, r, ics (B.reverse.take r)⟩ :: ⟨23, Value.slice ad3 r cap3, r, rws.map Prod.fst⟩ :: ⟨3, Value.slice ad4 r cap4, r, ics (B.take r)⟩ :: entR 3 rws)) hkp hown
         refine hK' _ _ (keepW_of ⟨T3.bel, by rw [(T3.boxT.rules).1]; rfl, by rw [(T3.boxT.rules).1]; rfl⟩) ?_
         clear hK' K' hown hkp T2
         try go_simp
         refine wpT_t ?_
         try simp only [opsAt, List.getElem?_toArray, List.getElem?_cons_zero, List.getElem?_cons_succ, Option.getD_some]
         repeat (go_big_quiet_step (fail))
         refine wpQuiet_nil ?_
         refine wpT_f rfl rfl (fun K' hK' => ?_)
         refine wp_apps U3 _ _ rfl (b0 + 2) 3 1 8 (Value.int .i64 0) Try.underlying23 oint_info rfl (by omega) (by omega) _ r (ics (B.reverse.take r)) rfl (T3.many.1 _ (List.mem_cons_of_mem _ (List.mem_cons_of_mem _ (List.mem_cons_of_mem _ List.mem_cons_self)))) T3.sz _ 1 [Value.int .i64 zj] rfl (owns_sl (T3.many.1 _ (List.mem_cons_of_mem _ List.mem_cons_self)) (by omega)) (by first | (simp; done) | (rw [ics_len, NC.out]; simp)) (fun u hu => by first | (rw [List.mem_singleton.1 hu]; rfl) | (obtain ⟨z, _, rfl⟩ := List.mem_map.1 hu; rfl)) (by omega) ?_
         intro v27 U4 hown hkp
         obtain ⟨d27, c27, hv⟩ := oslice hown
         subst hv
         have T4 : Ro y2 b0 25 U4 (⟨23, Value.slice (some ⟨p12, 0, none⟩) 1 1, 1, [Value.slice adj nc capj]⟩ :: ⟨3, Value.slice (some ⟨p26, 0, none⟩) 1 1, 1, [Value.int .i64 zj]⟩ :: ⟨23, Value.slice d13 (r + 1) c13, r + 1, (VS.reverse.take r) ++ [Value.slice adj nc capj]⟩ :: ⟨3, Value.slice d27 (r + 1) c27, r + 1, (ics (B.reverse.take r)) ++ [Value.int .i64 zj]⟩ :: ⟨23, Value.slice ad3 r cap3, r, rws.map Prod.fst⟩ :: ⟨3, Value.slice ad4 r cap4, r, ics (B.take r)⟩ :: entR 3 rws) (Value.slice ad1 r cap1) (Value.slice ad2 r cap2) (Value.slice ad3 r cap3) (Value.slice ad4 r cap4) := T3.app (L1 := (⟨23, Value.slice (some ⟨p12, 0, none⟩) 1 1, 1, [Value.slice adj nc capj]⟩ :: ⟨3, Value.slice (some ⟨p26, 0, none⟩) 1 1, 1, [Value.int .i64 zj]⟩ :: ⟨23, Value.slice d13 (r + 1) c13, r + 1, (VS.reverse.take r) ++ [Value.slice adj nc capj]⟩ :: [])) (e := ⟨3, Value.slice ad2 r cap2, r, ics (B.reverse.take r)⟩) (e' := ⟨3, Value.slice d27 (r + 1) c27, r + 1, (ics (B.reverse.take r)) ++ [Value.int .i64 zj]⟩) (L2 := (⟨23, Value.slice ad3 r cap3, r, rws.map Prod.fst⟩ :: ⟨3, Value.slice ad4 r cap4, r, ics (B.take r)⟩ :: entR 3 rws)) hkp hown
         refine hK' _ _ (keepW_of ⟨T4.bel, by rw [(T4.boxT.rules).1]; rfl, by rw [(T4.boxT.rules).1]; rfl⟩) ?_
         clear hK' K' hown hkp T3
         refine wpT_nil ?_
         try simp only [opsAt, List.getElem?_toArray, List.getElem?_cons_zero, List.getElem?_cons_succ, Option.getD_some]
         obtain ⟨rT, fT⟩ := T4.boxT.rules
         have zT := T4.boxT.lt
         go_wp2_with fail
         go_meet
         have T5 : Ro y2 b0 25 U4 (⟨3, Value.slice (some ⟨p26, 0, none⟩) 1 1, 1, [Value.int .i64 zj]⟩ :: ⟨23, Value.slice d13 (r + 1) c13, r + 1, (VS.reverse.take r) ++ [Value.slice adj nc capj]⟩ :: ⟨3, Value.slice d27 (r + 1) c27, r + 1, (ics (B.reverse.take r)) ++ [Value.int .i64 zj]⟩ :: ⟨23, Value.slice ad3 r cap3, r, rws.map Prod.fst⟩ :: ⟨3, Value.slice ad4 r cap4, r, ics (B.take r)⟩ :: entR 3 rws) (Value.slice ad1 r cap1) (Value.slice ad2 r cap2) (Value.slice ad3 r cap3) (Value.slice ad4 r cap4) := T4.drop (L1 := ([])) (e := ⟨23, Value.slice (some ⟨p12, 0, none⟩) 1 1, 1, [Value.slice adj nc capj]⟩) (L2 := (⟨3, Value.slice (some ⟨p26, 0, none⟩) 1 1, 1, [Value.int .i64 zj]⟩ :: ⟨23, Value.slice d13 (r + 1) c13, r + 1, (VS.reverse.take r) ++ [Value.slice adj nc capj]⟩ :: ⟨3, Value.slice d27 (r + 1) c27, r + 1, (ics (B.reverse.take r)) ++ [Value.int .i64 zj]⟩ :: ⟨23, Value.slice ad3 r cap3, r, rws.map Prod.fst⟩ :: ⟨3, Value.slice ad4 r cap4, r, ics (B.take r)⟩ :: entR 3 rws))
         clear T4
         have T6 : Ro y2 b0 25 U4 (⟨23, Value.slice d13 (r + 1) c13, r + 1, (VS.reverse.take r) ++ [Value.slice adj nc capj]⟩ :: ⟨3, Value.slice d27 (r + 1) c27, r + 1, (ics (B.reverse.take r)) ++ [Value.int .i64 zj]⟩ :: ⟨23, Value.slice ad3 r cap3, r, rws.map Prod.fst⟩ :: ⟨3, Value.slice ad4 r cap4, r, ics (B.take r)⟩ :: entR 3 rws) (Value.slice ad1 r cap1) (Value.slice ad2 r cap2) (Value.slice ad3 r cap3) (Value.slice ad4 r cap4) := T5.drop (L1 := ([])) (e := ⟨3, Value.slice (some ⟨p26, 0, none⟩) 1 1, 1, [Value.int .i64 zj]⟩) (L2 := (⟨23, Value.slice d13 (r + 1) c13, r + 1, (VS.reverse.take r) ++ [Value.slice adj nc capj]⟩ :: ⟨3, Value.slice d27 (r + 1) c27, r + 1, (ics (B.reverse.take r)) ++ [Value.int .i64 zj]⟩ :: ⟨23, Value.slice ad3 r cap3, r, rws.map Prod.fst⟩ :: ⟨3, Value.slice ad4 r cap4, r, ics (B.take r)⟩ :: entR 3 rws))
         clear T5
         exact ⟨_, _, by rw [XR1.out, XR2.out, ics_app]; exact T6.setT _ _⟩
      case rest =>
        obtain ⟨x1, x2, TU⟩ := hcut
        obtain ⟨ad1, cap1, e1⟩ := oslice (TU.many.1 _ List.mem_cons_self)
        replace e1 : x1 = .slice ad1 (r + 1) cap1 := e1
        subst e1
        obtain ⟨ad2, cap2, e2⟩ := oslice (TU.many.1 _ (List.mem_cons_of_mem _ List.mem_cons_self))
        replace e2 : x2 = .slice ad2 (r + 1) cap2 := e2
        subst e2
        rename World => W
        trace_state
        go_upto_region 9 with fail
        have hR : Below W.heap.size W W.drew := (Below.refl _ _).drew
        replace TU := TU.below hR
        have kS : (fun W' : World => Below y2.heap.size y2 W' ∧ W'.cell? ⟨b0 + 1, 0, none⟩ = some (.slice ad3 r cap3) ∧ W'.cell? ⟨b0 + 1, 1, none⟩ = some (.slice ad4 r cap4)) W.drew := ⟨TU.bel, by rw [(TU.boxU.rules).1]; rfl, by rw [(TU.boxU.rules).1]; rfl⟩
        have mS := fun e => (bcell (keepW_is (S := fun W' : World => Below y2.heap.size y2 W' ∧ W'.cell? ⟨b0 + 1, 0, none⟩ = some (.slice ad3 r cap3) ∧ W'.cell? ⟨b0 + 1, 1, none⟩ = some (.slice ad4 r cap4)) kS e).1).1
        have mS0 := fun e => (keepW_is (S := fun W' : World => Below y2.heap.size y2 W' ∧ W'.cell? ⟨b0 + 1, 0, none⟩ = some (.slice ad3 r cap3) ∧ W'.cell? ⟨b0 + 1, 1, none⟩ = some (.slice ad4 r cap4)) kS e).2.1
        have mS1 := fun e => (keepW_is (S := fun W' : World => Below y2.heap.size y2 W' ∧ W'.cell? ⟨b0 + 1, 0, none⟩ = some (.slice ad3 r cap3) ∧ W'.cell? ⟨b0 + 1, 1, none⟩ = some (.slice ad4 r cap4)) kS e).2.2
        refine wp_region_tree (fun W' => ∃ e, W' = keepW (fun W' : World => Below y2.heap.size y2 W' ∧ W'.cell? ⟨b0 + 1, 0, none⟩ = some (.slice ad3 r cap3) ∧ W'.cell? ⟨b0 + 1, 1, none⟩ = some (.slice ad4 r cap4)) W.drew e) (.t [0, 1, 3, 4, 5, 6, 7, 11, 12, 13, 14, 15, 16, 17] (.two 2 (.two 8 (.two 9 (.two 10 (.t [20] (.f 18 (.f 19 (.nil [21, 22, 23])))) 18 (.f 10 (.t [20] (.f 19 (.nil [21, 22, 23]))))) 18 (.f 9 (.f 10 (.t [20] (.f 19 (.nil [21, 22, 23])))))) 18 (.f 8 (.f 9 (.f 10 (.t [20] (.f 19 (.nil [21, 22, 23]))))))) 18 (.f 2 (.f 8 (.f 9 (.f 10 (.t [20] (.f 19 (.nil [21, 22, 23]))))))))) (by kernel_rfl) (by kernel_rfl) (fun _ _ _ _ _ h => h) (keepW_of kS) ?_
        refine wpT_t ?_
        try simp only [opsAt, List.getElem?_toArray, List.getElem?_cons_zero, List.getElem?_cons_succ, Option.getD_some]
        repeat (go_big_quiet_step (fail))
        refine wpQuiet_nil ?_
        clear mS mS0 mS1 kS cR cBr
        generalize hU : W.drew = U at *
        clear hU
        refine wpT_two ?_ ?_
        · refine wpT_f rfl rfl (fun K' hK' => ?_)
          go_simp
          have hq := ba1 U (.cells #[] 3)
          have T1 := TU.add (e := ⟨3, Value.slice (some ⟨U.heap.size, 0, none⟩) 0 0, 0, []⟩) hq (own_empty (Own.new U 3 []) (Nat.le_refl _))
          refine hK' _ _ (keepW_of ⟨T1.bel, by rw [(T1.boxU.rules).1]; rfl, by rw [(T1.boxU.rules).1]; rfl⟩) ?_
          clear hK' K' hq TU
          obtain ⟨p2, hp2⟩ : ∃ p, p = U.heap.size := ⟨_, rfl⟩
          rw [← hp2] at T1 ⊢
          clear hp2
          generalize U.alloc (.cells #[] 3) = U1 at *
          refine wpT_two ?_ ?_
          · refine wpT_f rfl rfl (fun K' hK' => ?_)
            refine wp_apps U1 _ _ rfl (b0 + 2) 3 1 8 (Value.int .i64 0) Try.underlying23 oint_info rfl (by omega) (by omega) _ 0 [] rfl (T1.many.1 _ List.mem_cons_self) T1.sz _ nc (ics AR) rfl (SR.out.below T1.bel) (by first | (simp; done) | (rw [ics_len, NC.out]; simp)) (fun u hu => by first | (rw [List.mem_singleton.1 hu]; rfl) | (obtain ⟨z, _, rfl⟩ := List.mem_map.1 hu; rfl)) (by omega) ?_
            intro v8 U2 hown hkp
            simp only [Nat.zero_add, List.nil_append] at hown
            obtain ⟨d8, c8, hv⟩ := oslice hown
            subst hv
            have T2 : Ro y2 b0 25 U2 (⟨3, Value.slice d8 nc c8, nc, (ics AR)⟩ :: ⟨23, Value.slice ad1 (r + 1) cap1, r + 1, VS.reverse.take (r + 1)⟩ :: ⟨3, Value.slice ad2 (r + 1) cap2, r + 1, ics (B.reverse.take (r + 1))⟩ :: ⟨23, Value.slice ad3 r cap3, r, rws.map Prod.fst⟩ :: ⟨3, Value.slice ad4 r cap4, r, ics (B.take r)⟩ :: entR 3 rws) (Value.slice ad1 (r + 1) cap1) (Value.slice ad2 (r + 1) cap2) (Value.slice ad3 r cap3) (Value.slice ad4 r cap4) := T1.app (L1 := ([])) (e := ⟨3, Value.slice (some ⟨p2, 0, none⟩) 0 0, 0, []⟩) (e' := ⟨3, Value.slice d8 nc c8, nc, (ics AR)⟩) (L2 := (⟨23, Value.slice ad1 (r + 1) cap1, r + 1, VS.reverse.take (r + 1)⟩ :: ⟨3, Value.slice ad2 (r + 1) cap2, r + 1, ics (B.reverse.take (r + 1))⟩ :: ⟨23, Value.slice ad3 r cap3, r, rws.map Prod.fst⟩ :: ⟨3, Value.slice ad4 r cap4, r, ics (B.take r)⟩ :: entR 3 rws)) hkp hown
            refine hK' _ _ (keepW_of ⟨T2.bel, by rw [(T2.boxU.rules).1]; rfl, by rw [(T2.boxU.rules).1]; rfl⟩) ?_
            clear hK' K' hown hkp T1
            refine wpT_two ?_ ?_
            · refine wpT_f rfl rfl (fun K' hK' => ?_)
              go_simp
              have hq := ba1 U2 (.cells #[Value.slice d8 nc c8] 23)
              have T3 := T2.add (e := ⟨23, Value.slice (some ⟨U2.heap.size, 0, none⟩) 1 1, 1, [Value.slice d8 nc c8]⟩) hq (own_one (Own.new U2 23 [Value.slice d8 nc c8]) (Nat.le_refl _))
              refine hK' _ _ (keepW_of ⟨T3.bel, by rw [(T3.boxU.rules).1]; rfl, by rw [(T3.boxU.rules).1]; rfl⟩) ?_
              clear hK' K' hq T2
              obtain ⟨p9, hp9⟩ : ∃ p, p = U2.heap.size := ⟨_, rfl⟩
              rw [← hp9] at T3 ⊢
              clear hp9
              generalize U2.alloc (.cells #[Value.slice d8 nc c8] 23) = U3 at *
              refine wpT_two ?_ ?_
              · refine wpT_f rfl rfl (fun K' hK' => ?_)
                refine wp_apps U3 _ _ rfl (b0 + 2) 23 1 24 (Value.slice none 0 0) Try.underlying22 orow_info rfl (by omega) (by omega) _ r (rws.map Prod.fst) rfl (T3.many.1 _ (List.mem_cons_of_mem _ (List.mem_cons_of_mem _ (List.mem_cons_of_mem _ (List.mem_cons_of_mem _ List.mem_cons_self))))) T3.sz _ 1 [Value.slice d8 nc c8] rfl (owns_sl (T3.many.1 _ List.mem_cons_self) (by omega)) (by first | (simp; done) | (rw [ics_len, NC.out]; simp)) (fun u hu => by first | (rw [List.mem_singleton.1 hu]; rfl) | (obtain ⟨z, _, rfl⟩ := List.mem_map.1 hu; rfl)) (by omega) ?_
                intro v10 U4 hown hkp
                obtain ⟨d10, c10, hv⟩ := oslice hown
                subst hv
                have T4 : Ro y2 b0 25 U4 (⟨23, Value.slice (some ⟨p9, 0, none⟩) 1 1, 1, [Value.slice d8 nc c8]⟩ :: ⟨3, Value.slice d8 nc c8, nc, (ics AR)⟩ :: ⟨23, Value.slice ad1 (r + 1) cap1, r + 1, VS.reverse.take (r + 1)⟩ :: ⟨3, Value.slice ad2 (r + 1) cap2, r + 1, ics (B.reverse.take (r + 1))⟩ :: ⟨23, Value.slice d10 (r + 1) c10, r + 1, (rws.map Prod.fst) ++ [Value.slice d8 nc c8]⟩ :: ⟨3, Value.slice ad4 r cap4, r, ics (B.take r)⟩ :: entR 3 rws) (Value.slice ad1 (r + 1) cap1) (Value.slice ad2 (r + 1) cap2) (Value.slice ad3 r cap3) (Value.slice ad4 r cap4) := T3.app (L1 := (⟨23, Value.slice (some ⟨p9, 0, none⟩) 1 1, 1, [Value.slice d8 nc c8]⟩ :: ⟨3, Value.slice d8 nc c8, nc, (ics AR)⟩ :: ⟨23, Value.slice ad1 (r + 1) cap1, r + 1, VS.reverse.take (r + 1)⟩ :: ⟨3, Value.slice ad2 (r + 1) cap2, r + 1, ics (B.reverse.take (r + 1))⟩ :: [])) (e := ⟨23, Value.slice ad3 r cap3, r, rws.map Prod.fst⟩) (e' := ⟨23, Value.slice d10 (r + 1) c10, r + 1, (rws.map Prod.fst) ++ [Value.slice d8 nc c8]⟩) (L2 := (⟨3, Value.slice ad4 r cap4, r, ics (B.take r)⟩ :: entR 3 rws)) hkp hown
                refine hK' _ _ (keepW_of ⟨T4.bel, by rw [(T4.boxU.rules).1]; rfl, by rw [(T4.boxU.rules).1]; rfl⟩) ?_
                clear hK' K' hown hkp T3
                try go_simp
                refine wpT_t ?_
                try simp only [opsAt, List.getElem?_toArray, List.getElem?_cons_zero, List.getElem?_cons_succ, Option.getD_some]
                repeat (go_big_quiet_step (fail))
                refine wpQuiet_nil ?_
                refine wpT_f rfl rfl (fun K' hK' => ?_)
                go_simp
                have hq := ba1 U4 (.cells #[Value.int .i64 zr] 3)
                have T5 := T4.add (e := ⟨3, Value.slice (some ⟨U4.heap.size, 0, none⟩) 1 1, 1, [Value.int .i64 zr]⟩) hq (own_one (Own.new U4 3 [Value.int .i64 zr]) (Nat.le_refl _))
                refine hK' _ _ (keepW_of ⟨T5.bel, by rw [(T5.boxU.rules).1]; rfl, by rw [(T5.boxU.rules).1]; rfl⟩) ?_
                clear hK' K' hq T4
                obtain ⟨p18, hp18⟩ : ∃ p, p = U4.heap.size := ⟨_, rfl⟩
                rw [← hp18] at T5 ⊢
                clear hp18
                generalize U4.alloc (.cells #[Value.int .i64 zr] 3) = U5 at *
                refine wpT_f rfl rfl (fun K' hK' => ?_)
                refine wp_apps U5 _ _ rfl (b0 + 2) 3 1 8 (Value.int .i64 0) Try.underlying23 oint_info rfl (by omega) (by omega) _ r (ics (B.take r)) rfl (T5.many.1 _ (List.mem_cons_of_mem _ (List.mem_cons_of_mem _ (List.mem_cons_of_mem _ (List.mem_cons_of_mem _ (List.mem_cons_of_mem _ (List.mem_cons_of_mem _ List.mem_cons_self))))))) T5.sz _ 1 [Value.int .i64 zr] rfl (owns_sl (T5.many.1 _ List.mem_cons_self) (by omega)) (by first | (simp; done) | (rw [ics_len, NC.out]; simp)) (fun u hu => by first | (rw [List.mem_singleton.1 hu]; rfl) | (obtain ⟨z, _, rfl⟩ := List.mem_map.1 hu; rfl)) (by omega) ?_
                intro v19 U6 hown hkp
                obtain ⟨d19, c19, hv⟩ := oslice hown
                subst hv
                have T6 : Ro y2 b0 25 U6 (⟨3, Value.slice (some ⟨p18, 0, none⟩) 1 1, 1, [Value.int .i64 zr]⟩ :: ⟨23, Value.slice (some ⟨p9, 0, none⟩) 1 1, 1, [Value.slice d8 nc c8]⟩ :: ⟨3, Value.slice d8 nc c8, nc, (ics AR)⟩ :: ⟨23, Value.slice ad1 (r + 1) cap1, r + 1, VS.reverse.take (r + 1)⟩ :: ⟨3, Value.slice ad2 (r + 1) cap2, r + 1, ics (B.reverse.take (r + 1))⟩ :: ⟨23, Value.slice d10 (r + 1) c10, r + 1, (rws.map Prod.fst) ++ [Value.slice d8 nc c8]⟩ :: ⟨3, Value.slice d19 (r + 1) c19, r + 1, (ics (B.take r)) ++ [Value.int .i64 zr]⟩ :: entR 3 rws) (Value.slice ad1 (r + 1) cap1) (Value.slice ad2 (r + 1) cap2) (Value.slice ad3 r cap3) (Value.slice ad4 r cap4) := T5.app (L1 := (⟨3, Value.slice (some ⟨p18, 0, none⟩) 1 1, 1, [Value.int .i64 zr]⟩ :: ⟨23, Value.slice (some ⟨p9, 0, none⟩) 1 1, 1, [Value.slice d8 nc c8]⟩ :: ⟨3, Value.slice d8 nc c8, nc, (ics AR)⟩ :: ⟨23, Value.slice ad1 (r + 1) cap1, r + 1, VS.reverse.take (r + 1)⟩ :: ⟨3, Value.slice ad2 (r + 1) cap2, r + 1, ics (B.reverse.take (r + 1))⟩ :: ⟨23, Value.slice d10 (r + 1) c10, r + 1, (rws.map Prod.fst) ++ [Value.slice d8 nc c8]⟩ :: [])) (e := ⟨3, Value.slice ad4 r cap4, r, ics (B.take r)⟩) (e' := ⟨3, Value.slice d19 (r + 1) c19, r + 1, (ics (B.take r)) ++ [Value.int .i64 zr]⟩) (L2 := (entR 3 rws)) hkp hown
                refine hK' _ _ (keepW_of ⟨T6.bel, by rw [(T6.boxU.rules).1]; rfl, by rw [(T6.boxU.rules).1]; rfl⟩) ?_
                clear hK' K' hown hkp T5
                refine wpT_nil ?_
                try simp only [opsAt, List.getElem?_toArray, List.getElem?_cons_zero, List.getElem?_cons_succ, Option.getD_some]
                obtain ⟨rT, fT⟩ := T6.boxU.rules
                have zT := T6.boxU.lt
                go_wp2_with fail
                go_roundw
                case rel =>
                  have T7 : Ro y2 b0 25 U6 (⟨3, Value.slice (some ⟨p18, 0, none⟩) 1 1, 1, [Value.int .i64 zr]⟩ :: ⟨3, Value.slice d8 nc c8, nc, (ics AR)⟩ :: ⟨23, Value.slice ad1 (r + 1) cap1, r + 1, VS.reverse.take (r + 1)⟩ :: ⟨3, Value.slice ad2 (r + 1) cap2, r + 1, ics (B.reverse.take (r + 1))⟩ :: ⟨23, Value.slice d10 (r + 1) c10, r + 1, (rws.map Prod.fst) ++ [Value.slice d8 nc c8]⟩ :: ⟨3, Value.slice d19 (r + 1) c19, r + 1, (ics (B.take r)) ++ [Value.int .i64 zr]⟩ :: entR 3 rws) (Value.slice ad1 (r + 1) cap1) (Value.slice ad2 (r + 1) cap2) (Value.slice ad3 r cap3) (Value.slice ad4 r cap4) := T6.drop (L1 := (⟨3, Value.slice (some ⟨p18, 0, none⟩) 1 1, 1, [Value.int .i64 zr]⟩ :: [])) (e := ⟨23, Value.slice (some ⟨p9, 0, none⟩) 1 1, 1, [Value.slice d8 nc c8]⟩) (L2 := (⟨3, Value.slice d8 nc c8, nc, (ics AR)⟩ :: ⟨23, Value.slice ad1 (r + 1) cap1, r + 1, VS.reverse.take (r + 1)⟩ :: ⟨3, Value.slice ad2 (r + 1) cap2, r + 1, ics (B.reverse.take (r + 1))⟩ :: ⟨23, Value.slice d10 (r + 1) c10, r + 1, (rws.map Prod.fst) ++ [Value.slice d8 nc c8]⟩ :: ⟨3, Value.slice d19 (r + 1) c19, r + 1, (ics (B.take r)) ++ [Value.int .i64 zr]⟩ :: entR 3 rws))
                  clear T6
                  have T8 : Ro y2 b0 25 U6 (⟨3, Value.slice d8 nc c8, nc, (ics AR)⟩ :: ⟨23, Value.slice ad1 (r + 1) cap1, r + 1, VS.reverse.take (r + 1)⟩ :: ⟨3, Value.slice ad2 (r + 1) cap2, r + 1, ics (B.reverse.take (r + 1))⟩ :: ⟨23, Value.slice d10 (r + 1) c10, r + 1, (rws.map Prod.fst) ++ [Value.slice d8 nc c8]⟩ :: ⟨3, Value.slice d19 (r + 1) c19, r + 1, (ics (B.take r)) ++ [Value.int .i64 zr]⟩ :: entR 3 rws) (Value.slice ad1 (r + 1) cap1) (Value.slice ad2 (r + 1) cap2) (Value.slice ad3 r cap3) (Value.slice ad4 r cap4) := T7.drop (L1 := ([])) (e := ⟨3, Value.slice (some ⟨p18, 0, none⟩) 1 1, 1, [Value.int .i64 zr]⟩) (L2 := (⟨3, Value.slice d8 nc c8, nc, (ics AR)⟩ :: ⟨23, Value.slice ad1 (r + 1) cap1, r + 1, VS.reverse.take (r + 1)⟩ :: ⟨3, Value.slice ad2 (r + 1) cap2, r + 1, ics (B.reverse.take (r + 1))⟩ :: ⟨23, Value.slice d10 (r + 1) c10, r + 1, (rws.map Prod.fst) ++ [Value.slice d8 nc c8]⟩ :: ⟨3, Value.slice d19 (r + 1) c19, r + 1, (ics (B.take r)) ++ [Value.int .i64 zr]⟩ :: entR 3 rws))
                  clear T7
                  have HH := (T8.setU (Value.slice d10 (r + 1) c10) (Value.slice d19 (r + 1) c19)).rot
                  have GG := roEnd (rw1 := rws) (rw2 := rws ++ [(Value.slice d8 nc c8, AR)]) (n1 := r + 1) (B4 := B.take (r + 1)) (by rw [entR_app, NC.out]) (by rw [List.map_append]; rfl) (by rw [XR4.out, ics_app]; rfl) HH
                  have G1 : Hid ((rws ++ [(Value.slice d8 nc c8, AR)]).map Prod.snd = A.take (r + 1)) := roTake HWS.out XR3.out
                  have G2 : r + 1 ≤ A.length := hlt
                  first
                    | exact ⟨r + 1, _, _, _, _, _, G2, by go_num, G1, GG⟩
                    | (repeat apply Exists.intro); exact ⟨⟨r + 1, _, _, _, _, _, G2, by go_num, G1, GG⟩, rfl⟩
                case measure => simp [intOf]; try omega
              · refine wpT_f rfl rfl (fun K' hK' => ?_)
                go_simp
                have hq := ba1 U3 (.cells #[Value.int .i64 zr] 3)
                have T4 := T3.add (e := ⟨3, Value.slice (some ⟨U3.heap.size, 0, none⟩) 1 1, 1, [Value.int .i64 zr]⟩) hq (own_one (Own.new U3 3 [Value.int .i64 zr]) (Nat.le_refl _))
                refine hK' _ _ (keepW_of ⟨T4.bel, by rw [(T4.boxU.rules).1]; rfl, by rw [(T4.boxU.rules).1]; rfl⟩) ?_
                clear hK' K' hq T3
                obtain ⟨p18, hp18⟩ : ∃ p, p = U3.heap.size := ⟨_, rfl⟩
                rw [← hp18] at T4 ⊢
                clear hp18
                generalize U3.alloc (.cells #[Value.int .i64 zr] 3) = U4 at *
                refine wpT_f rfl rfl (fun K' hK' => ?_)
                refine wp_apps U4 _ _ rfl (b0 + 2) 23 1 24 (Value.slice none 0 0) Try.underlying22 orow_info rfl (by omega) (by omega) _ r (rws.map Prod.fst) rfl (T4.many.1 _ (List.mem_cons_of_mem _ (List.mem_cons_of_mem _ (List.mem_cons_of_mem _ (List.mem_cons_of_mem _ (List.mem_cons_of_mem _ List.mem_cons_self)))))) T4.sz _ 1 [Value.slice d8 nc c8] rfl (owns_sl (T4.many.1 _ (List.mem_cons_of_mem _ List.mem_cons_self)) (by omega)) (by first | (simp; done) | (rw [ics_len, NC.out]; simp)) (fun u hu => by first | (rw [List.mem_singleton.1 hu]; rfl) | (obtain ⟨z, _, rfl⟩ := List.mem_map.1 hu; rfl)) (by omega) ?_
                intro v10 U5 hown hkp
                obtain ⟨d10, c10, hv⟩ := oslice hown
                subst hv
                have T5 : Ro y2 b0 25 U5 (⟨3, Value.slice (some ⟨p18, 0, none⟩) 1 1, 1, [Value.int .i64 zr]⟩ :: ⟨23, Value.slice (some ⟨p9, 0, none⟩) 1 1, 1, [Value.slice d8 nc c8]⟩ :: ⟨3, Value.slice d8 nc c8, nc, (ics AR)⟩ :: ⟨23, Value.slice ad1 (r + 1) cap1, r + 1, VS.reverse.take (r + 1)⟩ :: ⟨3, Value.slice ad2 (r + 1) cap2, r + 1, ics (B.reverse.take (r + 1))⟩ :: ⟨23, Value.slice d10 (r + 1) c10, r + 1, (rws.map Prod.fst) ++ [Value.slice d8 nc c8]⟩ :: ⟨3, Value.slice ad4 r cap4, r, ics (B.take r)⟩ :: entR 3 rws) (Value.slice ad1 (r + 1) cap1) (Value.slice ad2 (r + 1) cap2) (Value.slice ad3 r cap3) (Value.slice ad4 r cap4) := T4.app (L1 := (⟨3, Value.slice (some ⟨p18, 0, none⟩) 1 1, 1, [Value.int .i64 zr]⟩ :: ⟨23, Value.slice (some ⟨p9, 0, none⟩) 1 1, 1, [Value.slice d8 nc c8]⟩ :: ⟨3, Value.slice d8 nc c8, nc, (ics AR)⟩ :: ⟨23, Value.slice ad1 (r + 1) cap1, r + 1, VS.reverse.take (r + 1)⟩ :: ⟨3, Value.slice ad2 (r + 1) cap2, r + 1, ics (B.reverse.take (r + 1))⟩ :: [])) (e := ⟨23, Value.slice ad3 r cap3, r, rws.map Prod.fst⟩) (e' := ⟨23, Value.slice d10 (r + 1) c10, r + 1, (rws.map Prod.fst) ++ [Value.slice d8 nc c8]⟩) (L2 := (⟨3, Value.slice ad4 r cap4, r, ics (B.take r)⟩ :: entR 3 rws)) hkp hown
                refine hK' _ _ (keepW_of ⟨T5.bel, by rw [(T5.boxU.rules).1]; rfl, by rw [(T5.boxU.rules).1]; rfl⟩) ?_
                clear hK' K' hown hkp T4
                try go_simp
                refine wpT_t ?_
                try simp only [opsAt, List.getElem?_toArray, List.getElem?_cons_zero, List.getElem?_cons_succ, Option.getD_some]
                repeat (go_big_quiet_step (fail))
                refine wpQuiet_nil ?_
                refine wpT_f rfl rfl (fun K' hK' => ?_)
                refine wp_apps U5 _ _ rfl (b0 + 2) 3 1 8 (Value.int .i64 0) Try.underlying23 oint_info rfl (by omega) (by omega) _ r (ics (B.take r)) rfl (T5.many.1 _ (List.mem_cons_of_mem _ (List.mem_cons_of_mem _ (List.mem_cons_of_mem _ (List.mem_cons_of_mem _ (List.mem_cons_of_mem _ (List.mem_cons_of_mem _ List.mem_cons_self))))))) T5.sz _ 1 [Value.int .i64 zr] rfl (owns_sl (T5.many.1 _ List.mem_cons_self) (by omega)) (by first | (simp; done) | (rw [ics_len, NC.out]; simp)) (fun u hu => by first | (rw [List.mem_singleton.1 hu]; rfl) | (obtain ⟨z, _, rfl⟩ := List.mem_map.1 hu; rfl)) (by omega) ?_
                intro v19 U6 hown hkp
                obtain ⟨d19, c19, hv⟩ := oslice hown
                subst hv
                have T6 : Ro y2 b0 25 U6 (⟨3, Value.slice (some ⟨p18, 0, none⟩) 1 1, 1, [Value.int .i64 zr]⟩ :: ⟨23, Value.slice (some ⟨p9, 0, none⟩) 1 1, 1, [Value.slice d8 nc c8]⟩ :: ⟨3, Value.slice d8 nc c8, nc, (ics AR)⟩ :: ⟨23, Value.slice ad1 (r + 1) cap1, r + 1, VS.reverse.take (r + 1)⟩ :: ⟨3, Value.slice ad2 (r + 1) cap2, r + 1, ics (B.reverse.take (r + 1))⟩ :: ⟨23, Value.slice d10 (r + 1) c10, r + 1, (rws.map Prod.fst) ++ [Value.slice d8 nc c8]⟩ :: ⟨3, Value.slice d19 (r + 1) c19, r + 1, (ics (B.take r)) ++ [Value.int .i64 zr]⟩ :: entR 3 rws) (Value.slice ad1 (r + 1) cap1) (Value.slice ad2 (r + 1) cap2) (Value.slice ad3 r cap3) (Value.slice ad4 r cap4) := T5.app (L1 := (⟨3, Value.slice (some ⟨p18, 0, none⟩) 1 1, 1, [Value.int .i64 zr]⟩ :: ⟨23, Value.slice (some ⟨p9, 0, none⟩) 1 1, 1, [Value.slice d8 nc c8]⟩ :: ⟨3, Value.slice d8 nc c8, nc, (ics AR)⟩ :: ⟨23, Value.slice ad1 (r + 1) cap1, r + 1, VS.reverse.take (r + 1)⟩ :: ⟨3, Value.slice ad2 (r + 1) cap2, r + 1, ics (B.reverse.take (r + 1))⟩ :: ⟨23, Value.slice d10 (r + 1) c10, r + 1, (rws.map Prod.fst) ++ [Value.slice d8 nc c8]⟩ :: [])) (e := ⟨3, Value.slice ad4 r cap4, r, ics (B.take r)⟩) (e' := ⟨3, Value.slice d19 (r + 1) c19, r + 1, (ics (B.take r)) ++ [Value.int .i64 zr]⟩) (L2 := (entR 3 rws)) hkp hown
                refine hK' _ _ (keepW_of ⟨T6.bel, by rw [(T6.boxU.rules).1]; rfl, by rw [(T6.boxU.rules).1]; rfl⟩) ?_
                clear hK' K' hown hkp T5
                refine wpT_nil ?_
                try simp only [opsAt, List.getElem?_toArray, List.getElem?_cons_zero, List.getElem?_cons_succ, Option.getD_some]
                obtain ⟨rT, fT⟩ := T6.boxU.rules
                have zT := T6.boxU.lt
                go_wp2_with fail
                go_roundw
                case rel =>
                  have T7 : Ro y2 b0 25 U6 (⟨3, Value.slice (some ⟨p18, 0, none⟩) 1 1, 1, [Value.int .i64 zr]⟩ :: ⟨3, Value.slice d8 nc c8, nc, (ics AR)⟩ :: ⟨23, Value.slice ad1 (r + 1) cap1, r + 1, VS.reverse.take (r + 1)⟩ :: ⟨3, Value.slice ad2 (r + 1) cap2, r + 1, ics (B.reverse.take (r + 1))⟩ :: ⟨23, Value.slice d10 (r + 1) c10, r + 1, (rws.map Prod.fst) ++ [Value.slice d8 nc c8]⟩ :: ⟨3, Value.slice d19 (r + 1) c19, r + 1, (ics (B.take r)) ++ [Value.int .i64 zr]⟩ :: entR 3 rws) (Value.slice ad1 (r + 1) cap1) (Value.slice ad2 (r + 1) cap2) (Value.slice ad3 r cap3) (Value.slice ad4 r cap4) := T6.drop (L1 := (⟨3, Value.slice (some ⟨p18, 0, none⟩) 1 1, 1, [Value.int .i64 zr]⟩ :: [])) (e := ⟨23, Value.slice (some ⟨p9, 0, none⟩) 1 1, 1, [Value.slice d8 nc c8]⟩) (L2 := (⟨3, Value.slice d8 nc c8, nc, (ics AR)⟩ :: ⟨23, Value.slice ad1 (r + 1) cap1, r + 1, VS.reverse.take (r + 1)⟩ :: ⟨3, Value.slice ad2 (r + 1) cap2, r + 1, ics (B.reverse.take (r + 1))⟩ :: ⟨23, Value.slice d10 (r + 1) c10, r + 1, (rws.map Prod.fst) ++ [Value.slice d8 nc c8]⟩ :: ⟨3, Value.slice d19 (r + 1) c19, r + 1, (ics (B.take r)) ++ [Value.int .i64 zr]⟩ :: entR 3 rws))
                  clear T6
                  have T8 : Ro y2 b0 25 U6 (⟨3, Value.slice d8 nc c8, nc, (ics AR)⟩ :: ⟨23, Value.slice ad1 (r + 1) cap1, r + 1, VS.reverse.take (r + 1)⟩ :: ⟨3, Value.slice ad2 (r + 1) cap2, r + 1, ics (B.reverse.take (r + 1))⟩ :: ⟨23, Value.slice d10 (r + 1) c10, r + 1, (rws.map Prod.fst) ++ [Value.slice d8 nc c8]⟩ :: ⟨3, Value.slice d19 (r + 1) c19, r + 1, (ics (B.take r)) ++ [Value.int .i64 zr]⟩ :: entR 3 rws) (Value.slice ad1 (r + 1) cap1) (Value.slice ad2 (r + 1) cap2) (Value.slice ad3 r cap3) (Value.slice ad4 r cap4) := T7.drop (L1 := ([])) (e := ⟨3, Value.slice (some ⟨p18, 0, none⟩) 1 1, 1, [Value.int .i64 zr]⟩) (L2 := (⟨3, Value.slice d8 nc c8, nc, (ics AR)⟩ :: ⟨23, Value.slice ad1 (r + 1) cap1, r + 1, VS.reverse.take (r + 1)⟩ :: ⟨3, Value.slice ad2 (r + 1) cap2, r + 1, ics (B.reverse.take (r + 1))⟩ :: ⟨23, Value.slice d10 (r + 1) c10, r + 1, (rws.map Prod.fst) ++ [Value.slice d8 nc c8]⟩ :: ⟨3, Value.slice d19 (r + 1) c19, r + 1, (ics (B.take r)) ++ [Value.int .i64 zr]⟩ :: entR 3 rws))
                  clear T7
                  have HH := (T8.setU (Value.slice d10 (r + 1) c10) (Value.slice d19 (r + 1) c19)).rot
                  have GG := roEnd (rw1 := rws) (rw2 := rws ++ [(Value.slice d8 nc c8, AR)]) (n1 := r + 1) (B4 := B.take (r + 1)) (by rw [entR_app, NC.out]) (by rw [List.map_append]; rfl) (by rw [XR4.out, ics_app]; rfl) HH
                  have G1 : Hid ((rws ++ [(Value.slice d8 nc c8, AR)]).map Prod.snd = A.take (r + 1)) := roTake HWS.out XR3.out
                  have G2 : r + 1 ≤ A.length := hlt
                  first
                    | exact ⟨r + 1, _, _, _, _, _, G2, by go_num, G1, GG⟩
                    | (repeat apply Exists.intro); exact ⟨⟨r + 1, _, _, _, _, _, G2, by go_num, G1, GG⟩, rfl⟩
                case measure => simp [intOf]; try omega
            · refine wpT_f rfl rfl (fun K' hK' => ?_)
              go_simp
              have hq := ba1 U2 (.cells #[Value.int .i64 zr] 3)
              have T3 := T2.add (e := ⟨3, Value.slice (some ⟨U2.heap.size, 0, none⟩) 1 1, 1, [Value.int .i64 zr]⟩) hq (own_one (Own.new U2 3 [Value.int .i64 zr]) (Nat.le_refl _))
              refine hK' _ _ (keepW_of ⟨T3.bel, by rw [(T3.boxU.rules).1]; rfl, by rw [(T3.boxU.rules).1]; rfl⟩) ?_
              clear hK' K' hq T2
              obtain ⟨p18, hp18⟩ : ∃ p, p = U2.heap.size := ⟨_, rfl⟩
              rw [← hp18] at T3 ⊢
              clear hp18
              generalize U2.alloc (.cells #[Value.int .i64 zr] 3) = U3 at *
              refine wpT_f rfl rfl (fun K' hK' => ?_)
              go_simp
              have hq := ba1 U3 (.cells #[Value.slice d8 nc c8] 23)
              have T4 := T3.add (e := ⟨23, Value.slice (some ⟨U3.heap.size, 0, none⟩) 1 1, 1, [Value.slice d8 nc c8]⟩) hq (own_one (Own.new U3 23 [Value.slice d8 nc c8]) (Nat.le_refl _))
              refine hK' _ _ (keepW_of ⟨T4.bel, by rw [(T4.boxU.rules).1]; rfl, by rw [(T4.boxU.rules).1]; rfl⟩) ?_
              clear hK' K' hq T3
              obtain ⟨p9, hp9⟩ : ∃ p, p = U3.heap.size := ⟨_, rfl⟩
              rw [← hp9] at T4 ⊢
              clear hp9
              generalize U3.alloc (.cells #[Value.slice d8 nc c8] 23) = U4 at *
              refine wpT_f rfl rfl (fun K' hK' => ?_)
              refine wp_apps U4 _ _ rfl (b0 + 2) 23 1 24 (Value.slice none 0 0) Try.underlying22 orow_info rfl (by omega) (by omega) _ r (rws.map Prod.fst) rfl (T4.many.1 _ (List.mem_cons_of_mem _ (List.mem_cons_of_mem _ (List.mem_cons_of_mem _ (List.mem_cons_of_mem _ (List.mem_cons_of_mem _ List.mem_cons_self)))))) T4.sz _ 1 [Value.slice d8 nc c8] rfl (owns_sl (T4.many.1 _ List.mem_cons_self) (by omega)) (by first | (simp; done) | (rw [ics_len, NC.out]; simp)) (fun u hu => by first | (rw [List.mem_singleton.1 hu]; rfl) | (obtain ⟨z, _, rfl⟩ := List.mem_map.1 hu; rfl)) (by omega) ?_
              intro v10 U5 hown hkp
              obtain ⟨d10, c10, hv⟩ := oslice hown
              subst hv
              have T5 : Ro y2 b0 25 U5 (⟨23, Value.slice (some ⟨p9, 0, none⟩) 1 1, 1, [Value.slice d8 nc c8]⟩ :: ⟨3, Value.slice (some ⟨p18, 0, none⟩) 1 1, 1, [Value.int .i64 zr]⟩ :: ⟨3, Value.slice d8 nc c8, nc, (ics AR)⟩ :: ⟨23, Value.slice ad1 (r + 1) cap1, r + 1, VS.reverse.take (r + 1)⟩ :: ⟨3, Value.slice ad2 (r + 1) cap2, r + 1, ics (B.reverse.take (r + 1))⟩ :: ⟨23, Value.slice d10 (r + 1) c10, r + 1, (rws.map Prod.fst) ++ [Value.slice d8 nc c8]⟩ :: ⟨3, Value.slice ad4 r cap4, r, ics (B.take r)⟩ :: entR 3 rws) (Value.slice ad1 (r + 1) cap1) (Value.slice ad2 (r + 1) cap2) (Value.slice ad3 r cap3) (Value.slice ad4 r cap4) := T4.app (L1 := (⟨23, Value.slice (some ⟨p9, 0, none⟩) 1 1, 1, [Value.slice d8 nc c8]⟩ :: ⟨3, Value.slice (some ⟨p18, 0, none⟩) 1 1, 1, [Value.int .i64 zr]⟩ :: ⟨3, Value.slice d8 nc c8, nc, (ics AR)⟩ :: ⟨23, Value.slice ad1 (r + 1) cap1, r + 1, VS.reverse.take (r + 1)⟩ :: ⟨3, Value.slice ad2 (r + 1) cap2, r + 1, ics (B.reverse.take (r + 1))⟩ :: [])) (e := ⟨23, Value.slice ad3 r cap3, r, rws.map Prod.fst⟩) (e' := ⟨23, Value.slice d10 (r + 1) c10, r + 1, (rws.map Prod.fst) ++ [Value.slice d8 nc c8]⟩) (L2 := (⟨3, Value.slice ad4 r cap4, r, ics (B.take r)⟩ :: entR 3 rws)) hkp hown
              refine hK' _ _ (keepW_of ⟨T5.bel, by rw [(T5.boxU.rules).1]; rfl, by rw [(T5.boxU.rules).1]; rfl⟩) ?_
              clear hK' K' hown hkp T4
              try go_simp
              refine wpT_t ?_
              try simp only [opsAt, List.getElem?_toArray, List.getElem?_cons_zero, List.getElem?_cons_succ, Option.getD_some]
              repeat (go_big_quiet_step (fail))
              refine wpQuiet_nil ?_
              refine wpT_f rfl rfl (fun K' hK' => ?_)
              refine wp_apps U5 _ _ rfl (b0 + 2) 3 1 8 (Value.int .i64 0) Try.underlying23 oint_info rfl (by omega) (by omega) _ r (ics (B.take r)) rfl (T5.many.1 _ (List.mem_cons_of_mem _ (List.mem_cons_of_mem _ (List.mem_cons_of_mem _ (List.mem_cons_of_mem _ (List.mem_cons_of_mem _ (List.mem_cons_of_mem _ List.mem_cons_self))))))) T5.sz _ 1 [Value.int .i64 zr] rfl (owns_sl (T5.many.1 _ (List.mem_cons_of_mem _ List.mem_cons_self)) (by omega)) (by first | (simp; done) | (rw [ics_len, NC.out]; simp)) (fun u hu => by first | (rw [List.mem_singleton.1 hu]; rfl) | (obtain ⟨z, _, rfl⟩ := List.mem_map.1 hu; rfl)) (by omega) ?_
              intro v19 U6 hown hkp
              obtain ⟨d19, c19, hv⟩ := oslice hown
              subst hv
              have T6 : Ro y2 b0 25 U6 (⟨23, Value.slice (some ⟨p9, 0, none⟩) 1 1, 1, [Value.slice d8 nc c8]⟩ :: ⟨3, Value.slice (some ⟨p18, 0, none⟩) 1 1, 1, [Value.int .i64 zr]⟩ :: ⟨3, Value.slice d8 nc c8, nc, (ics AR)⟩ :: ⟨23, Value.slice ad1 (r + 1) cap1, r + 1, VS.reverse.take (r + 1)⟩ :: ⟨3, Value.slice ad2 (r + 1) cap2, r + 1, ics (B.reverse.take (r + 1))⟩ :: ⟨23, Value.slice d10 (r + 1) c10, r + 1, (rws.map Prod.fst) ++ [Value.slice d8 nc c8]⟩ :: ⟨3, Value.slice d19 (r + 1) c19, r + 1, (ics (B.take r)) ++ [Value.int .i64 zr]⟩ :: entR 3 rws) (Value.slice ad1 (r + 1) cap1) (Value.slice ad2 (r + 1) cap2) (Value.slice ad3 r cap3) (Value.slice ad4 r cap4) := T5.app (L1 := (⟨23, Value.slice (some ⟨p9, 0, none⟩) 1 1, 1, [Value.slice d8 nc c8]⟩ :: ⟨3, Value.slice (some ⟨p18, 0, none⟩) 1 1, 1, [Value.int .i64 zr]⟩ :: ⟨3, Value.slice d8 nc c8, nc, (ics AR)⟩ :: ⟨23, Value.slice ad1 (r + 1) cap1, r + 1, VS.reverse.take (r + 1)⟩ :: ⟨3, Value.slice ad2 (r + 1) cap2, r + 1, ics (B.reverse.take (r + 1))⟩ :: ⟨23, Value.slice d10 (r + 1) c10, r + 1, (rws.map Prod.fst) ++ [Value.slice d8 nc c8]⟩ :: [])) (e := ⟨3, Value.slice ad4 r cap4, r, ics (B.take r)⟩) (e' := ⟨3, Value.slice d19 (r + 1) c19, r + 1, (ics (B.take r)) ++ [Value.int .i64 zr]⟩) (L2 := (entR 3 rws)) hkp hown
              refine hK' _ _ (keepW_of ⟨T6.bel, by rw [(T6.boxU.rules).1]; rfl, by rw [(T6.boxU.rules).1]; rfl⟩) ?_
              clear hK' K' hown hkp T5
              refine wpT_nil ?_
              try simp only [opsAt, List.getElem?_toArray, List.getElem?_cons_zero, List.getElem?_cons_succ, Option.getD_some]
              obtain ⟨rT, fT⟩ := T6.boxU.rules
              have zT := T6.boxU.lt
              go_wp2_with fail
              go_roundw
              case rel =>
                have T7 : Ro y2 b0 25 U6 (⟨3, Value.slice (some ⟨p18, 0, none⟩) 1 1, 1, [Value.int .i64 zr]⟩ :: ⟨3, Value.slice d8 nc c8, nc, (ics AR)⟩ :: ⟨23, Value.slice ad1 (r + 1) cap1, r + 1, VS.reverse.take (r + 1)⟩ :: ⟨3, Value.slice ad2 (r + 1) cap2, r + 1, ics (B.reverse.take (r + 1))⟩ :: ⟨23, Value.slice d10 (r + 1) c10, r + 1, (rws.map Prod.fst) ++ [Value.slice d8 nc c8]⟩ :: ⟨3, Value.slice d19 (r + 1) c19, r + 1, (ics (B.take r)) ++ [Value.int .i64 zr]⟩ :: entR 3 rws) (Value.slice ad1 (r + 1) cap1) (Value.slice ad2 (r + 1) cap2) (Value.slice ad3 r cap3) (Value.slice ad4 r cap4) := T6.drop (L1 := ([])) (e := ⟨23, Value.slice (some ⟨p9, 0, none⟩) 1 1, 1, [Value.slice d8 nc c8]⟩) (L2 := (⟨3, Value.slice (some ⟨p18, 0, none⟩) 1 1, 1, [Value.int .i64 zr]⟩ :: ⟨3, Value.slice d8 nc c8, nc, (ics AR)⟩ :: ⟨23, Value.slice ad1 (r + 1) cap1, r + 1, VS.reverse.take (r + 1)⟩ :: ⟨3, Value.slice ad2 (r + 1) cap2, r + 1, ics (B.reverse.take (r + 1))⟩ :: ⟨23, Value.slice d10 (r + 1) c10, r + 1, (rws.map Prod.fst) ++ [Value.slice d8 nc c8]⟩ :: ⟨3, Value.slice d19 (r + 1) c19, r + 1, (ics (B.take r)) ++ [Value.int .i64 zr]⟩ :: entR 3 rws))
                clear T6
                have T8 : Ro y2 b0 25 U6 (⟨3, Value.slice d8 nc c8, nc, (ics AR)⟩ :: ⟨23, Value.slice ad1 (r + 1) cap1, r + 1, VS.reverse.take (r + 1)⟩ :: ⟨3, Value.slice ad2 (r + 1) cap2, r + 1, ics (B.reverse.take (r + 1))⟩ :: ⟨23, Value.slice d10 (r + 1) c10, r + 1, (rws.map Prod.fst) ++ [Value.slice d8 nc c8]⟩ :: ⟨3, Value.slice d19 (r + 1) c19, r + 1, (ics (B.take r)) ++ [Value.int .i64 zr]⟩ :: entR 3 rws) (Value.slice ad1 (r + 1) cap1) (Value.slice ad2 (r + 1) cap2) (Value.slice ad3 r cap3) (Value.slice ad4 r cap4) := T7.drop (L1 := ([])) (e := ⟨3, Value.slice (some ⟨p18, 0, none⟩) 1 1, 1, [Value.int .i64 zr]⟩) (L2 := (⟨3, Value.slice d8 nc c8, nc, (ics AR)⟩ :: ⟨23, Value.slice ad1 (r + 1) cap1, r + 1, VS.reverse.take (r + 1)⟩ :: ⟨3, Value.slice ad2 (r + 1) cap2, r + 1, ics (B.reverse.take (r + 1))⟩ :: ⟨23, Value.slice d10 (r + 1) c10, r + 1, (rws.map Prod.fst) ++ [Value.slice d8 nc c8]⟩ :: ⟨3, Value.slice d19 (r + 1) c19, r + 1, (ics (B.take r)) ++ [Value.int .i64 zr]⟩ :: entR 3 rws))
                clear T7
                have HH := (T8.setU (Value.slice d10 (r + 1) c10) (Value.slice d19 (r + 1) c19)).rot
                have GG := roEnd (rw1 := rws) (rw2 := rws ++ [(Value.slice d8 nc c8, AR)]) (n1 := r + 1) (B4 := B.take (r + 1)) (by rw [entR_app, NC.out]) (by rw [List.map_append]; rfl) (by rw [XR4.out, ics_app]; rfl) HH
                have G1 : Hid ((rws ++ [(Value.slice d8 nc c8, AR)]).map Prod.snd = A.take (r + 1)) := roTake HWS.out XR3.out
                have G2 : r + 1 ≤ A.length := hlt
                first
                  | exact ⟨r + 1, _, _, _, _, _, G2, by go_num, G1, GG⟩
                  | (repeat apply Exists.intro); exact ⟨⟨r + 1, _, _, _, _, _, G2, by go_num, G1, GG⟩, rfl⟩
              case measure => simp [intOf]; try omega
          · refine wpT_f rfl rfl (fun K' hK' => ?_)
            go_simp
            have hq := ba1 U1 (.cells #[Value.int .i64 zr] 3)
            have T2 := T1.add (e := ⟨3, Value.slice (some ⟨U1.heap.size, 0, none⟩) 1 1, 1, [Value.int .i64 zr]⟩) hq (own_one (Own.new U1 3 [Value.int .i64 zr]) (Nat.le_refl _))
            refine hK' _ _ (keepW_of ⟨T2.bel, by rw [(T2.boxU.rules).1]; rfl, by rw [(T2.boxU.rules).1]; rfl⟩) ?_
            clear hK' K' hq T1
            obtain ⟨p18, hp18⟩ : ∃ p, p = U1.heap.size := ⟨_, rfl⟩
            rw [← hp18] at T2 ⊢
            clear hp18
            generalize U1.alloc (.cells #[Value.int .i64 zr] 3) = U2 at *
            refine wpT_f rfl rfl (fun K' hK' => ?_)
            refine wp_apps U2 _ _ rfl (b0 + 2) 3 1 8 (Value.int .i64 0) Try.underlying23 oint_info rfl (by omega) (by omega) _ 0 [] rfl (T2.many.1 _ (List.mem_cons_of_mem _ List.mem_cons_self)) T2.sz _ nc (ics AR) rfl (SR.out.below T2.bel) (by first | (simp; done) | (rw [ics_len, NC.out]; simp)) (fun u hu => by first | (rw [List.mem_singleton.1 hu]; rfl) | (obtain ⟨z, _, rfl⟩ := List.mem_map.1 hu; rfl)) (by omega) ?_
            intro v8 U3 hown hkp
            simp only [Nat.zero_add, List.nil_append] at hown
            obtain ⟨d8, c8, hv⟩ := oslice hown
            subst hv
            have T3 : Ro y2 b0 25 U3 (⟨3, Value.slice (some ⟨p18, 0, none⟩) 1 1, 1, [Value.int .i64 zr]⟩ :: ⟨3, Value.slice d8 nc c8, nc, (ics AR)⟩ :: ⟨23, Value.slice ad1 (r + 1) cap1, r + 1, VS.reverse.take (r + 1)⟩ :: ⟨3, Value.slice ad2 (r + 1) cap2, r + 1, ics (B.reverse.take (r + 1))⟩ :: ⟨23, Value.slice ad3 r cap3, r, rws.map Prod.fst⟩ :: ⟨3, Value.slice ad4 r cap4, r, ics (B.take r)⟩ :: entR 3 rws) (Value.slice ad1 (r + 1) cap1) (Value.slice ad2 (r + 1) cap2) (Value.slice ad3 r cap3) (Value.slice ad4 r cap4) := T2.app (L1 := (⟨3, Value.slice (some ⟨p18, 0, none⟩) 1 1, 1, [Value.int .i64 zr]⟩ :: [])) (e := ⟨3, Value.slice (some ⟨p2, 0, none⟩) 0 0, 0, []⟩) (e' := ⟨3, Value.slice d8 nc c8, nc, (ics AR)⟩) (L2 := (⟨23, Value.slice ad1 (r + 1) cap1, r + 1, VS.reverse.take (r + 1)⟩ :: ⟨3, Value.slice ad2 (r + 1) cap2, r + 1, ics (B.reverse.take (r + 1))⟩ :: ⟨23, Value.slice ad3 r cap3, r, rws.map Prod.fst⟩ :: ⟨3, Value.slice ad4 r cap4, r, ics (B.take r)⟩ :: entR 3 rws)) hkp hown
            refine hK' _ _ (keepW_of ⟨T3.bel, by rw [(T3.boxU.rules).1]; rfl, by rw [(T3.boxU.rules).1]; rfl⟩) ?_
            clear hK' K' hown hkp T2
            refine wpT_f rfl rfl (fun K' hK' => ?_)
            go_simp
            have hq := ba1 U3 (.cells #[Value.slice d8 nc c8] 23)
            have T4 := T3.add (e := ⟨23, Value.slice (some ⟨U3.heap.size, 0, none⟩) 1 1, 1, [Value.slice d8 nc c8]⟩) hq (own_one (Own.new U3 23 [Value.slice d8 nc c8]) (Nat.le_refl _))
            refine hK' _ _ (keepW_of ⟨T4.bel, by rw [(T4.boxU.rules).1]; rfl, by rw [(T4.boxU.rules).1]; rfl⟩) ?_
            clear hK' K' hq T3
            obtain ⟨p9, hp9⟩ : ∃ p, p = U3.heap.size := ⟨_, rfl⟩
            rw [← hp9] at T4 ⊢
            clear hp9
            generalize U3.alloc (.cells #[Value.slice d8 nc c8] 23) = U4 at *
            refine wpT_f rfl rfl (fun K' hK' => ?_)
            refine wp_apps U4 _ _ rfl (b0 + 2) 23 1 24 (Value.slice none 0 0) Try.underlying22 orow_info rfl (by omega) (by omega) _ r (rws.map Prod.fst) rfl (T4.many.1 _ (List.mem_cons_of_mem _ (List.mem_cons_of_mem _ (List.mem_cons_of_mem _ (List.mem_cons_of_mem _ (List.mem_cons_of_mem _ List.mem_cons_self)))))) T4.sz _ 1 [Value.slice d8 nc c8] rfl (owns_sl (T4.many.1 _ List.mem_cons_self) (by omega)) (by first | (simp; done) | (rw [ics_len, NC.out]; simp)) (fun u hu => by first | (rw [List.mem_singleton.1 hu]; rfl) | (obtain ⟨z, _, rfl⟩ := List.mem_map.1 hu; rfl)) (by omega) ?_
            intro v10 U5 hown hkp
            obtain ⟨d10, c10, hv⟩ := oslice hown
            subst hv
            have T5 : Ro y2 b0 25 U5 (⟨23, Value.slice (some ⟨p9, 0, none⟩) 1 1, 1, [Value.slice d8 nc c8]⟩ :: ⟨3, Value.slice (some ⟨p18, 0, none⟩) 1 1, 1, [Value.int .i64 zr]⟩ :: ⟨3, Value.slice d8 nc c8, nc, (ics AR)⟩ :: ⟨23, Value.slice ad1 (r + 1) cap1, r + 1, VS.reverse.take (r + 1)⟩ :: ⟨3, Value.slice ad2 (r + 1) cap2, r + 1, ics (B.reverse.take (r + 1))⟩ :: ⟨23, Value.slice d10 (r + 1) c10, r + 1, (rws.map Prod.fst) ++ [Value.slice d8 nc c8]⟩ :: ⟨3, Value.slice ad4 r cap4, r, ics (B.take r)⟩ :: entR 3 rws) (Value.slice ad1 (r + 1) cap1) (Value.slice ad2 (r + 1) cap2) (Value.slice ad3 r cap3) (Value.slice ad4 r cap4) := T4.app (L1 := (⟨23, Value.slice (some ⟨p9, 0, none⟩) 1 1, 1, [Value.slice d8 nc c8]⟩ :: ⟨3, Value.slice (some ⟨p18, 0, none⟩) 1 1, 1, [Value.int .i64 zr]⟩ :: ⟨3, Value.slice d8 nc c8, nc, (ics AR)⟩ :: ⟨23, Value.slice ad1 (r + 1) cap1, r + 1, VS.reverse.take (r + 1)⟩ :: ⟨3, Value.slice ad2 (r + 1) cap2, r + 1, ics (B.reverse.take (r + 1))⟩ :: [])) (e := ⟨23, Value.slice ad3 r cap3, r, rws.map Prod.fst⟩) (e' := ⟨23, Value.slice d10 (r + 1) c10, r + 1, (rws.map Prod.fst) ++ [Value.slice d8 nc c8]⟩) (L2 := (⟨3, Value.slice ad4 r cap4, r, ics (B.take r)⟩ :: entR 3 rws)) hkp hown
            refine hK' _ _ (keepW_of ⟨T5.bel, by rw [(T5.boxU.rules).1]; rfl, by rw [(T5.boxU.rules).1]; rfl⟩) ?_
            clear hK' K' hown hkp T4
            try go_simp
            refine wpT_t ?_
            try simp only [opsAt, List.getElem?_toArray, List.getElem?_cons_zero, List.getElem?_cons_succ, Option.getD_some]
            repeat (go_big_quiet_step (fail))
            refine wpQuiet_nil ?_
            refine wpT_f rfl rfl (fun K' hK' => ?_)
            refine wp_apps U5 _ _ rfl (b0 + 2) 3 1 8 (Value.int .i64 0) Try.underlying23 oint_info rfl (by omega) (by omega) _ r (ics (B.take r)) rfl (T5.many.1 _ (List.mem_cons_of_mem _ (List.mem_cons_of_mem _ (List.mem_cons_of_mem _ (List.mem_cons_of_mem _ (List.mem_cons_of_mem _ (List.mem_cons_of_mem _ List.mem_cons_self))))))) T5.sz _ 1 [Value.int .i64 zr] rfl (owns_sl (T5.many.1 _ (List.mem_cons_of_mem _ List.mem_cons_self)) (by omega)) (by first | (simp; done) | (rw [ics_len, NC.out]; simp)) (fun u hu => by first | (rw [List.mem_singleton.1 hu]; rfl) | (obtain ⟨z, _, rfl⟩ := List.mem_map.1 hu; rfl)) (by omega) ?_
            intro v19 U6 hown hkp
            obtain ⟨d19, c19, hv⟩ := oslice hown
            subst hv
            have T6 : Ro y2 b0 25 U6 (⟨23, Value.slice (some ⟨p9, 0, none⟩) 1 1, 1, [Value.slice d8 nc c8]⟩ :: ⟨3, Value.slice (some ⟨p18, 0, none⟩) 1 1, 1, [Value.int .i64 zr]⟩ :: ⟨3, Value.slice d8 nc c8, nc, (ics AR)⟩ :: ⟨23, Value.slice ad1 (r + 1) cap1, r + 1, VS.reverse.take (r + 1)⟩ :: ⟨3, Value.slice ad2 (r + 1) cap2, r + 1, ics (B.reverse.take (r + 1))⟩ :: ⟨23, Value.slice d10 (r + 1) c10, r + 1, (rws.map Prod.fst) ++ [Value.slice d8 nc c8]⟩ :: ⟨3, Value.slice d19 (r + 1) c19, r + 1, (ics (B.take r)) ++ [Value.int .i64 zr]⟩ :: entR 3 rws) (Value.slice ad1 (r + 1) cap1) (Value.slice ad2 (r + 1) cap2) (Value.slice ad3 r cap3) (Value.slice ad4 r cap4) := T5.app (L1 := (⟨23, Value.slice (some ⟨p9, 0, none⟩) 1 1, 1, [Value.slice d8 nc c8]⟩ :: ⟨3, Value.slice (some ⟨p18, 0, none⟩) 1 1, 1, [Value.int .i64 zr]⟩ :: ⟨3, Value.slice d8 nc c8, nc, (ics AR)⟩ :: ⟨23, Value.slice ad1 (r + 1) cap1, r + 1, VS.reverse.take (r + 1)⟩ :: ⟨3, Value.slice ad2 (r + 1) cap2, r + 1, ics (B.reverse.take (r + 1))⟩ :: ⟨23, Value.slice d10 (r + 1) c10, r + 1, (rws.map Prod.fst) ++ [Value.slice d8 nc c8]⟩ :: [])) (e := ⟨3, Value.slice ad4 r cap4, r, ics (B.take r)⟩) (e' := ⟨3, Value.slice d19 (r + 1) c19, r + 1, (ics (B.take r)) ++ [Value.int .i64 zr]⟩) (L2 := (entR 3 rws)) hkp hown
            refine hK' _ _ (keepW_of ⟨T6.bel, by rw [(T6.boxU.rules).1]; rfl, by rw [(T6.boxU.rules).1]; rfl⟩) ?_
            clear hK' K' hown hkp T5
            refine wpT_nil ?_
            try simp only [opsAt, List.getElem?_toArray, List.getElem?_cons_zero, List.getElem?_cons_succ, Option.getD_some]
            obtain ⟨rT, fT⟩ := T6.boxU.rules
            have zT := T6.boxU.lt
            go_wp2_with fail
            go_roundw
            case rel =>
              have T7 : Ro y2 b0 25 U6 (⟨3, Value.slice (some ⟨p18, 0, none⟩) 1 1, 1, [Value.int .i64 zr]⟩ :: ⟨3, Value.slice d8 nc c8, nc, (ics AR)⟩ :: ⟨23, Value.slice ad1 (r + 1) cap1, r + 1, VS.reverse.take (r + 1)⟩ :: ⟨3, Value.slice ad2 (r + 1) cap2, r + 1, ics (B.reverse.take (r + 1))⟩ :: ⟨23, Value.slice d10 (r + 1) c10, r + 1, (rws.map Prod.fst) ++ [Value.slice d8 nc c8]⟩ :: ⟨3, Value.slice d19 (r + 1) c19, r + 1, (ics (B.take r)) ++ [Value.int .i64 zr]⟩ :: entR 3 rws) (Value.slice ad1 (r + 1) cap1) (Value.slice ad2 (r + 1) cap2) (Value.slice ad3 r cap3) (Value.slice ad4 r cap4) := T6.drop (L1 := ([])) (e := ⟨23, Value.slice (some ⟨p9, 0, none⟩) 1 1, 1, [Value.slice d8 nc c8]⟩) (L2 := (⟨3, Value.slice (some ⟨p18, 0, none⟩) 1 1, 1, [Value.int .i64 zr]⟩ :: ⟨3, Value.slice d8 nc c8, nc, (ics AR)⟩ :: ⟨23, Value.slice ad1 (r + 1) cap1, r + 1, VS.reverse.take (r + 1)⟩ :: ⟨3, Value.slice ad2 (r + 1) cap2, r + 1, ics (B.reverse.take (r + 1))⟩ :: ⟨23, Value.slice d10 (r + 1) c10, r + 1, (rws.map Prod.fst) ++ [Value.slice d8 nc c8]⟩ :: ⟨3, Value.slice d19 (r + 1) c19, r + 1, (ics (B.take r)) ++ [Value.int .i64 zr]⟩ :: entR 3 rws))
              clear T6
              have T8 : Ro y2 b0 25 U6 (⟨3, Value.slice d8 nc c8, nc, (ics AR)⟩ :: ⟨23, Value.slice ad1 (r + 1) cap1, r + 1, VS.reverse.take (r + 1)⟩ :: ⟨3, Value.slice ad2 (r + 1) cap2, r + 1, ics (B.reverse.take (r + 1))⟩ :: ⟨23, Value.slice d10 (r + 1) c10, r + 1, (rws.map Prod.fst) ++ [Value.slice d8 nc c8]⟩ :: ⟨3, Value.slice d19 (r + 1) c19, r + 1, (ics (B.take r)) ++ [Value.int .i64 zr]⟩ :: entR 3 rws) (Value.slice ad1 (r + 1) cap1) (Value.slice ad2 (r + 1) cap2) (Value.slice ad3 r cap3) (Value.slice ad4 r cap4) := T7.drop (L1 := ([])) (e := ⟨3, Value.slice (some ⟨p18, 0, none⟩) 1 1, 1, [Value.int .i64 zr]⟩) (L2 := (⟨3, Value.slice d8 nc c8, nc, (ics AR)⟩ :: ⟨23, Value.slice ad1 (r + 1) cap1, r + 1, VS.reverse.take (r + 1)⟩ :: ⟨3, Value.slice ad2 (r + 1) cap2, r + 1, ics (B.reverse.take (r + 1))⟩ :: ⟨23, Value.slice d10 (r + 1) c10, r + 1, (rws.map Prod.fst) ++ [Value.slice d8 nc c8]⟩ :: ⟨3, Value.slice d19 (r + 1) c19, r + 1, (ics (B.take r)) ++ [Value.int .i64 zr]⟩ :: entR 3 rws))
              clear T7
              have HH := (T8.setU (Value.slice d10 (r + 1) c10) (Value.slice d19 (r + 1) c19)).rot
              have GG := roEnd (rw1 := rws) (rw2 := rws ++ [(Value.slice d8 nc c8, AR)]) (n1 := r + 1) (B4 := B.take (r + 1)) (by rw [entR_app, NC.out]) (by rw [List.map_append]; rfl) (by rw [XR4.out, ics_app]; rfl) HH
              have G1 : Hid ((rws ++ [(Value.slice d8 nc c8, AR)]).map Prod.snd = A.take (r + 1)) := roTake HWS.out XR3.out
              have G2 : r + 1 ≤ A.length := hlt
              first
                | exact ⟨r + 1, _, _, _, _, _, G2, by go_num, G1, GG⟩
                | (repeat apply Exists.intro); exact ⟨⟨r + 1, _, _, _, _, _, G2, by go_num, G1, GG⟩, rfl⟩
            case measure => simp [intOf]; try omega
        · refine wpT_f rfl rfl (fun K' hK' => ?_)
          go_simp
          have hq := ba1 U (.cells #[Value.int .i64 zr] 3)
          have T1 := TU.add (e := ⟨3, Value.slice (some ⟨U.heap.size, 0, none⟩) 1 1, 1, [Value.int .i64 zr]⟩) hq (own_one (Own.new U 3 [Value.int .i64 zr]) (Nat.le_refl _))
          refine hK' _ _ (keepW_of ⟨T1.bel, by rw [(T1.boxU.rules).1]; rfl, by rw [(T1.boxU.rules).1]; rfl⟩) ?_
          clear hK' K' hq TU
          obtain ⟨p18, hp18⟩ : ∃ p, p = U.heap.size := ⟨_, rfl⟩
          rw [← hp18] at T1 ⊢
          clear hp18
          generalize U.alloc (.cells #[Value.int .i64 zr] 3) = U1 at *
          refine wpT_f rfl rfl (fun K' hK' => ?_)
          go_simp
          have hq := ba1 U1 (.cells #[] 3)
          have T2 := T1.add (e := ⟨3, Value.slice (some ⟨U1.heap.size, 0, none⟩) 0 0, 0, []⟩) hq (own_empty (Own.new U1 3 []) (Nat.le_refl _))
          refine hK' _ _ (keepW_of ⟨T2.bel, by rw [(T2.boxU.rules).1]; rfl, by rw [(T2.boxU.rules).1]; rfl⟩) ?_
          clear hK' K' hq T1
          obtain ⟨p2, hp2⟩ : ∃ p, p = U1.heap.size := ⟨_, rfl⟩
          rw [← hp2] at T2 ⊢
          clear hp2
          generalize U1.alloc (.cells #[] 3) = U2 at *
          refine wpT_f rfl rfl (fun K' hK' => ?_)
          refine wp_apps U2 _ _ rfl (b0 + 2) 3 1 8 (Value.int .i64 0) Try.underlying23 oint_info rfl (by omega) (by omega) _ 0 [] rfl (T2.many.1 _ List.mem_cons_self) T2.sz _ nc (ics AR) rfl (SR.out.below T2.bel) (by first | (simp; done) | (rw [ics_len, NC.out]; simp)) (fun u hu => by first | (rw [List.mem_singleton.1 hu]; rfl) | (obtain ⟨z, _, rfl⟩ := List.mem_map.1 hu; rfl)) (by omega) ?_
          intro v8 U3 hown hkp
          simp only [Nat.zero_add, List.nil_append] at hown
          obtain ⟨d8, c8, hv⟩ := oslice hown
          subst hv
          have T3 : Ro y2 b0 25 U3 (⟨3, Value.slice d8 nc c8, nc, (ics AR)⟩ :: ⟨3, Value.slice (some ⟨p18, 0, none⟩) 1 1, 1, [Value.int .i64 zr]⟩ :: ⟨23, Value.slice ad1 (r + 1) cap1, r + 1, VS.reverse.take (r + 1)⟩ :: ⟨3, Value.slice ad2 (r + 1) cap2, r + 1, ics (B.reverse.take (r + 1))⟩ :: ⟨23, Value.slice ad3 r cap3, r, rws.map Prod.fst⟩ :: ⟨3, Value.slice ad4 r cap4, r, ics (B.take r)⟩ :: entR 3 rws) (Value.slice ad1 (r + 1) cap1) (Value.slice ad2 (r + 1) cap2) (Value.slice ad3 r cap3) (Value.slice ad4 r cap4) := T2.app (L1 := ([])) (e := ⟨3, Value.slice (some ⟨p2, 0, none⟩) 0 0, 0, []⟩) (e' := ⟨3, Value.slice d8 nc c8, nc, (ics AR)⟩) (L2 := (⟨3, Value.slice (some ⟨p18, 0, none⟩) 1 1, 1, [Value.int .i64 zr]⟩ :: ⟨23, Value.slice ad1 (r + 1) cap1, r + 1, VS.reverse.take (r + 1)⟩ :: ⟨3, Value.slice ad2 (r + 1) cap2, r + 1, ics (B.reverse.take (r + 1))⟩ :: ⟨23, Value.slice ad3 r cap3, r, rws.map Prod.fst⟩ :: ⟨3, Value.slice ad4 r cap4, r, ics (B.take r)⟩ :: entR 3 rws)) hkp hown
          refine hK' _ _ (keepW_of ⟨T3.bel, by rw [(T3.boxU.rules).1]; rfl, by rw [(T3.boxU.rules).1]; rfl⟩) ?_
          clear hK' K' hown hkp T2
          refine wpT_f rfl rfl (fun K' hK' => ?_)
          go_simp
          have hq := ba1 U3 (.cells #[Value.slice d8 nc c8] 23)
          have T4 := T3.add (e := ⟨23, Value.slice (some ⟨U3.heap.size, 0, none⟩) 1 1, 1, [Value.slice d8 nc c8]⟩) hq (own_one (Own.new U3 23 [Value.slice d8 nc c8]) (Nat.le_refl _))
          refine hK' _ _ (keepW_of ⟨T4.bel, by rw [(T4.boxU.rules).1]; rfl, by rw [(T4.boxU.rules).1]; rfl⟩) ?_
          clear hK' K' hq T3
          obtain ⟨p9, hp9⟩ : ∃ p, p = U3.heap.size := ⟨_, rfl⟩
          rw [← hp9] at T4 ⊢
          clear hp9
          generalize U3.alloc (.cells #[Value.slice d8 nc c8] 23) = U4 at *
          refine wpT_f rfl rfl (fun K' hK' => ?_)
          refine wp_apps U4 _ _ rfl (b0 + 2) 23 1 24 (Value.slice none 0 0) Try.underlying22 orow_info rfl (by omega) (by omega) _ r (rws.map Prod.fst) rfl (T4.many.1 _ (List.mem_cons_of_mem _ (List.mem_cons_of_mem _ (List.mem_cons_of_mem _ (List.mem_cons_of_mem _ (List.mem_cons_of_mem _ List.mem_cons_self)))))) T4.sz _ 1 [Value.slice d8 nc c8] rfl (owns_sl (T4.many.1 _ List.mem_cons_self) (by omega)) (by first | (simp; done) | (rw [ics_len, NC.out]; simp)) (fun u hu => by first | (rw [List.mem_singleton.1 hu]; rfl) | (obtain ⟨z, _, rfl⟩ := List.mem_map.1 hu; rfl)) (by omega) ?_
          intro v10 U5 hown hkp
          obtain ⟨d10, c10, hv⟩ := oslice hown
          subst hv
          have T5 : Ro y2 b0 25 U5 (⟨23, Value.slice (some ⟨p9, 0, none⟩) 1 1, 1, [Value.slice d8 nc c8]⟩ :: ⟨3, Value.slice d8 nc c8, nc, (ics AR)⟩ :: ⟨3, Value.slice (some ⟨p18, 0, none⟩) 1 1, 1, [Value.int .i64 zr]⟩ :: ⟨23, Value.slice ad1 (r + 1) cap1, r + 1, VS.reverse.take (r + 1)⟩ :: ⟨3, Value.slice ad2 (r + 1) cap2, r + 1, ics (B.reverse.take (r + 1))⟩ :: ⟨23, Value.slice d10 (r + 1) c10, r + 1, (rws.map Prod.fst) ++ [Value.slice d8 nc c8]⟩ :: ⟨3, Value.slice ad4 r cap4, r, ics (B.take r)⟩ :: entR 3 rws) (Value.slice ad1 (r + 1) cap1) (Value.slice ad2 (r + 1) cap2) (Value.slice ad3 r cap3) (Value.slice ad4 r cap4) := T4.app (L1 := (⟨23, Value.slice (some ⟨p9, 0, none⟩) 1 1, 1, [Value.slice d8 nc c8]⟩ :: ⟨3, Value.slice d8 nc c8, nc, (ics AR)⟩ :: ⟨3, Value.slice (some ⟨p18, 0, none⟩) 1 1, 1, [Value.int .i64 zr]⟩ :: ⟨23, Value.slice ad1 (r + 1) cap1, r + 1, VS.reverse.take (r + 1)⟩ :: ⟨3, Value.slice ad2 (r + 1) cap2, r + 1, ics (B.reverse.take (r + 1))⟩ :: [])) (e := ⟨23, Value.slice ad3 r cap3, r, rws.map Prod.fst⟩) (e' := ⟨23, Value.slice d10 (r + 1) c10, r + 1, (rws.map Prod.fst) ++ [Value.slice d8 nc c8]⟩) (L2 := (⟨3, Value.slice ad4 r cap4, r, ics (B.take r)⟩ :: entR 3 rws)) hkp hown
          refine hK' _ _ (keepW_of ⟨T5.bel, by rw [(T5.boxU.rules).1]; rfl, by rw [(T5.boxU.rules).1]; rfl⟩) ?_
          clear hK' K' hown hkp T4
          try go_simp
          refine wpT_t ?_
          try simp only [opsAt, List.getElem?_toArray, List.getElem?_cons_zero, List.getElem?_cons_succ, Option.getD_some]
          repeat (go_big_quiet_step (fail))
          refine wpQuiet_nil ?_
          refine wpT_f rfl rfl (fun K' hK' => ?_)
          refine wp_apps U5 _ _ rfl (b0 + 2) 3 1 8 (Value.int .i64 0) Try.underlying23 oint_info rfl (by omega) (by omega) _ r (ics (B.take r)) rfl (T5.many.1 _ (List.mem_cons_of_mem _ (List.mem_cons_of_mem _ (List.mem_cons_of_mem _ (List.mem_cons_of_mem _ (List.mem_cons_of_mem _ (List.mem_cons_of_mem _ List.mem_cons_self))))))) T5.sz _ 1 [Value.int .i64 zr] rfl (owns_sl (T5.many.1 _ (List.mem_cons_of_mem _ (List.mem_cons_of_mem _ List.mem_cons_self))) (by omega)) (by first | (simp; done) | (rw [ics_len, NC.out]; simp)) (fun u hu => by first | (rw [List.mem_singleton.1 hu]; rfl) | (obtain ⟨z, _, rfl⟩ := List.mem_map.1 hu; rfl)) (by omega) ?_
          intro v19 U6 hown hkp
          obtain ⟨d19, c19, hv⟩ := oslice hown
          subst hv
          have T6 : Ro y2 b0 25 U6 (⟨23, Value.slice (some ⟨p9, 0, none⟩) 1 1, 1, [Value.slice d8 nc c8]⟩ :: ⟨3, Value.slice d8 nc c8, nc, (ics AR)⟩ :: ⟨3, Value.slice (some ⟨p18, 0, none⟩) 1 1, 1, [Value.int .i64 zr]⟩ :: ⟨23, Value.slice ad1 (r + 1) cap1, r + 1, VS.reverse.take (r + 1)⟩ :: ⟨3, Value.slice ad2 (r + 1) cap2, r + 1, ics (B.reverse.take (r + 1))⟩ :: ⟨23, Value.slice d10 (r + 1) c10, r + 1, (rws.map Prod.fst) ++ [Value.slice d8 nc c8]⟩ :: ⟨3, Value.slice d19 (r + 1) c19, r + 1, (ics (B.take r)) ++ [Value.int .i64 zr]⟩ :: entR 3 rws) (Value.slice ad1 (r + 1) cap1) (Value.slice ad2 (r + 1) cap2) (Value.slice ad3 r cap3) (Value.slice ad4 r cap4) := T5.app (L1 := (⟨23, Value.slice (some ⟨p9, 0, none⟩) 1 1, 1, [Value.slice d8 nc c8]⟩ :: ⟨3, Value.slice d8 nc c8, nc, (ics AR)⟩ :: ⟨3, Value.slice (some ⟨p18, 0, none⟩) 1 1, 1, [Value.int .i64 zr]⟩ :: ⟨23, Value.slice ad1 (r + 1) cap1, r + 1, VS.reverse.take (r + 1)⟩ :: ⟨3, Value.slice ad2 (r + 1) cap2, r + 1, ics (B.reverse.take (r + 1))⟩ :: ⟨23, Value.slice d10 (r + 1) c10, r + 1, (rws.map Prod.fst) ++ [Value.slice d8 nc c8]⟩ :: [])) (e := ⟨3, Value.slice ad4 r cap4, r, ics (B.take r)⟩) (e' := ⟨3, Value.slice d19 (r + 1) c19, r + 1, (ics (B.take r)) ++ [Value.int .i64 zr]⟩) (L2 := (entR 3 rws)) hkp hown
          refine hK' _ _ (keepW_of ⟨T6.bel, by rw [(T6.boxU.rules).1]; rfl, by rw [(T6.boxU.rules).1]; rfl⟩) ?_
          clear hK' K' hown hkp T5
          refine wpT_nil ?_
          try simp only [opsAt, List.getElem?_toArray, List.getElem?_cons_zero, List.getElem?_cons_succ, Option.getD_some]
          obtain ⟨rT, fT⟩ := T6.boxU.rules
          have zT := T6.boxU.lt
          go_wp2_with fail
          go_roundw
          case rel =>
            have T7 : Ro y2 b0 25 U6 (⟨3, Value.slice d8 nc c8, nc, (ics AR)⟩ :: ⟨3, Value.slice (some ⟨p18, 0, none⟩) 1 1, 1, [Value.int .i64 zr]⟩ :: ⟨23, Value.slice ad1 (r + 1) cap1, r + 1, VS.reverse.take (r + 1)⟩ :: ⟨3, Value.slice ad2 (r + 1) cap2, r + 1, ics (B.reverse.take (r + 1))⟩ :: ⟨23, Value.slice d10 (r + 1) c10, r + 1, (rws.map Prod.fst) ++ [Value.slice d8 nc c8]⟩ :: ⟨3, Value.slice d19 (r + 1) c19, r + 1, (ics (B.take r)) ++ [Value.int .i64 zr]⟩ :: entR 3 rws) (Value.slice ad1 (r + 1) cap1) (Value.slice ad2 (r + 1) cap2) (Value.slice ad3 r cap3) (Value.slice ad4 r cap4) := T6.drop (L1 := ([])) (e := ⟨23, Value.slice (some ⟨p9, 0, none⟩) 1 1, 1, [Value.slice d8 nc c8]⟩) (L2 := (⟨3, Value.slice d8 nc c8, nc, (ics AR)⟩ :: ⟨3, Value.slice (some ⟨p18, 0, none⟩) 1 1, 1, [Value.int .i64 zr]⟩ :: ⟨23, Value.slice ad1 (r + 1) cap1, r + 1, VS.reverse.take (r + 1)⟩ :: ⟨3, Value.slice ad2 (r + 1) cap2, r + 1, ics (B.reverse.take (r + 1))⟩ :: ⟨23, Value.slice d10 (r + 1) c10, r + 1, (rws.map Prod.fst) ++ [Value.slice d8 nc c8]⟩ :: ⟨3, Value.slice d19 (r + 1) c19, r + 1, (ics (B.take r)) ++ [Value.int .i64 zr]⟩ :: entR 3 rws))
            clear T6
            have T8 : Ro y2 b0 25 U6 (⟨3, Value.slice d8 nc c8, nc, (ics AR)⟩ :: ⟨23, Value.slice ad1 (r + 1) cap1, r + 1, VS.reverse.take (r + 1)⟩ :: ⟨3, Value.slice ad2 (r + 1) cap2, r + 1, ics (B.reverse.take (r + 1))⟩ :: ⟨23, Value.slice d10 (r + 1) c10, r + 1, (rws.map Prod.fst) ++ [Value.slice d8 nc c8]⟩ :: ⟨3, Value.slice d19 (r + 1) c19, r + 1, (ics (B.take r)) ++ [Value.int .i64 zr]⟩ :: entR 3 rws) (Value.slice ad1 (r + 1) cap1) (Value.slice ad2 (r + 1) cap2) (Value.slice ad3 r cap3) (Value.slice ad4 r cap4) := T7.drop (L1 := (⟨3, Value.slice d8 nc c8, nc, (ics AR)⟩ :: [])) (e := ⟨3, Value.slice (some ⟨p18, 0, none⟩) 1 1, 1, [Value.int .i64 zr]⟩) (L2 := (⟨23, Value.slice ad1 (r + 1) cap1, r + 1, VS.reverse.take (r + 1)⟩ :: ⟨3, Value.slice ad2 (r + 1) cap2, r + 1, ics (B.reverse.take (r + 1))⟩ :: ⟨23, Value.slice d10 (r + 1) c10, r + 1, (rws.map Prod.fst) ++ [Value.slice d8 nc c8]⟩ :: ⟨3, Value.slice d19 (r + 1) c19, r + 1, (ics (B.take r)) ++ [Value.int .i64 zr]⟩ :: entR 3 rws))
            clear T7
            have HH := (T8.setU (Value.slice d10 (r + 1) c10) (Value.slice d19 (r + 1) c19)).rot
            have GG := roEnd (rw1 := rws) (rw2 := rws ++ [(Value.slice d8 nc c8, AR)]) (n1 := r + 1) (B4 := B.take (r + 1)) (by rw [entR_app, NC.out]) (by rw [List.map_append]; rfl) (by rw [XR4.out, ics_app]; rfl) HH
            have G1 : Hid ((rws ++ [(Value.slice d8 nc c8, AR)]).map Prod.snd = A.take (r + 1)) := roTake HWS.out XR3.out
            have G2 : r + 1 ≤ A.length := hlt
            first
              | exact ⟨r + 1, _, _, _, _, _, G2, by go_num, G1, GG⟩
              | (repeat apply Exists.intro); exact ⟨⟨r + 1, _, _, _, _, _, G2, by go_num, G1, GG⟩, rfl⟩
          case measure => simp [intOf]; try omega
    · obtain rfl : r = A.length := by omega
      have hnc := Lib.hid (rfl : (A.getD 0 []).length = (A.getD 0 []).length)
      have e1 : VS.reverse.take A.length = VS.reverse := List.take_of_length_le (by rw [List.length_reverse, VL.out]; exact Nat.le_refl _)
      have e2 : B.reverse.take A.length = B.reverse := List.take_of_length_le (by rw [List.length_reverse, BL.out]; exact Nat.le_refl _)
      have e3 : A.take A.length = A := List.take_of_length_le (Nat.le_refl _)
      have e4 : B.take A.length = B := List.take_of_length_le (by rw [BL.out]; exact Nat.le_refl _)
      rw [e1, e2, e4] at TU
      rw [e3] at HWS
      clear e1 e2 e3 e4
      obtain ⟨rwL, vi, rwR, RS, RL, RSET⟩ := rws_split HWS.out hri
      have RWS := Lib.hid RS
      have RWL := Lib.hid RL
      have RWT := Lib.hid RSET
      clear RL RSET
      have WI : A[ri].length = (A.getD 0 []).length := SY.out.wide ri hri
      have TI : W.ownsRow (b0 + 2) 3 1 vi A[ri].length (ics A[ri]) := TU.many.1 ⟨3, vi, A[ri].length, ics A[ri]⟩ (by rw [RS]; simp [entR])
      rw [WI] at TI
      obtain ⟨g, capg, _, eg, hg1, _, _⟩ := owns_openR TI n1
      subst eg
      clear TI
      have GI : A.getD ri [] = A[ri] := getD_get hri
      have TV : Ro y2 b0 25 W ((⟨23, .slice ad1 A.length cap1, A.length, VS.reverse⟩ :: ⟨3, .slice ad2 A.length cap2, A.length, ics B.reverse⟩ :: ⟨23, .slice ad3 A.length cap3, A.length, rws.map Prod.fst⟩ :: ⟨3, .slice ad4 A.length cap4, A.length, ics B⟩ :: entR 3 rwL) ++ ⟨3, .slice (some ⟨g, 0, none⟩) (A.getD 0 []).length capg, (A.getD 0 []).length, ics (sumrow A ri rk 0)⟩ :: entR 3 rwR) (.slice ad1 A.length cap1) (.slice ad2 A.length cap2) (.slice ad3 A.length cap3) (.slice ad4 A.length cap4) := by
        have e5 : entR 3 rws = entR 3 rwL ++ ⟨3, .slice (some ⟨g, 0, none⟩) (A.getD 0 []).length capg, (A.getD 0 []).length, ics (sumrow A ri rk 0)⟩ :: entR 3 rwR := by
          rw [RS, sumrow_0, GI]; simp [entR, WI]
        rw [e5] at TU
        exact TU
      have SG : Hid (ad3 = ad3) := rfl
      have hrkB : rk < B.length := by rw [BL.out]; exact hrk
      have hriB : ri < B.length := by rw [BL.out]; exact hri
      have r3 : (rws.map Prod.fst)[ri]? = some (.slice (some ⟨g, 0, none⟩) (A.getD 0 []).length capg) := by
        rw [RS, List.map_append, List.getElem?_append_right (by rw [List.length_map, RWL.out]; exact Nat.le_refl _)]
        simp [RWL.out]
      have o3 : W.ownsRow (b0 + 2) 23 1 (.slice ad3 A.length cap3) A.length (rws.map Prod.fst) := TV.many.1 ⟨23, .slice ad3 A.length cap3, A.length, rws.map Prod.fst⟩ (by simp)
      have o4 : W.ownsRow (b0 + 2) 3 1 (.slice ad4 A.length cap4) A.length (ics B) := TV.many.1 ⟨3, .slice ad4 A.length cap4, A.length, ics B⟩ (by simp)
      obtain ⟨g3, eg3, _, _, hg3⟩ := row_cellq o3 r3 (by omega)
      subst eg3
      have r5 : (ics B)[ri]? = some (.int .i64 B[ri]) := by simp [ics, hriB]
      obtain ⟨g4, eg4, _, _, hg4⟩ := row_cellq o4 r5 (by omega)
      subst eg4
      clear o3 o4 GI WI RS TU SG
      have ROW3 := Lib.hid r3
      have ROW5 := Lib.hid r5
      clear r3 r5
      have SS1 := Lib.hid SA
      obtain ⟨_, _, e, _, _, H⟩ := SA.out.open
      cases e
      obtain ⟨b, off, adk, capk, e, d1, d2, d3, sk⟩ := H.out rk hrk
      subst e
      obtain ⟨_, _, adz, capz, e, dz, dz2, dz3, _⟩ := H.out 0 r1
      cases e
      clear H
      have WK : A[rk].length = (A.getD 0 []).length := SY.out.wide rk hrk
      have WZ : A[0].length = (A.getD 0 []).length := SY.out.wide 0 r1
      rw [WK] at d1 d2 d3 sk
      rw [WZ, Nat.add_zero] at dz
      clear WZ dz2 dz3
      have SK := Lib.hid sk
      have LK := Lib.hid WK
      clear sk WK
      have SUMS := Lib.hid (fun c (hc : c < (A.getD 0 []).length) => sum_small SY.out hri hrk hc)
      have SUC := Lib.hid (fun m (hm : m < (A.getD ri []).length) => sumrow_succ (A := A) (k := rk) hm)
      have LI : Hid ((A.getD ri []).length = (A.getD 0 []).length) := by show _ = _; rw [getD_get hri]; exact SY.out.wide ri hri
      have GK : Hid (A.getD rk [] = A[rk]) := getD_get hrk
      go_wp2
      go_loopw [11] (fun i wr => ∃ m : Nat, m ≤ (A.getD 0 []).length ∧ i = .int .i64 m ∧ Ro y2 b0 25 wr ((⟨23, .slice ad1 A.length cap1, A.length, VS.reverse⟩ :: ⟨3, .slice ad2 A.length cap2, A.length, ics B.reverse⟩ :: ⟨23, .slice (some ⟨g3, 0, none⟩) A.length cap3, A.length, rws.map Prod.fst⟩ :: ⟨3, .slice (some ⟨g4, 0, none⟩) A.length cap4, A.length, ics B⟩ :: entR 3 rwL) ++ ⟨3, .slice (some ⟨g, 0, none⟩) (A.getD 0 []).length capg, (A.getD 0 []).length, ics (sumrow A ri rk m)⟩ :: entR 3 rwR) (.slice ad1 A.length cap1) (.slice ad2 A.length cap2) (.slice (some ⟨g3, 0, none⟩) A.length cap3) (.slice (some ⟨g4, 0, none⟩) A.length cap4)) (fun i _ => (A.getD 0 []).length + 1 - (intOf i).toNat)
      case atStart => exact ⟨0, Nat.zero_le _, rfl, TV⟩
      case round =>
        clear TV
        obtain ⟨m, hm, rfl, TV⟩ := hrel
        rename World => Y
        have oS := OS.out.below TV.bel
        have dz' := below_cell TV.bel dz
        by_cases hlt2 : m < (A.getD 0 []).length
        · have o3 : Y.ownsRow (b0 + 2) 23 1 (.slice (some ⟨g3, 0, none⟩) A.length cap3) A.length (rws.map Prod.fst) := TV.many.1 ⟨23, .slice (some ⟨g3, 0, none⟩) A.length cap3, A.length, rws.map Prod.fst⟩ (by simp)
          obtain ⟨_, e, le3, c3', _⟩ := row_cellq o3 ROW3.out (by omega)
          cases e
          have or : Y.ownsRow (b0 + 2) 3 1 (.slice (some ⟨g, 0, none⟩) (A.getD 0 []).length capg) (A.getD 0 []).length (ics (sumrow A ri rk m)) := TV.many.1 ⟨3, .slice (some ⟨g, 0, none⟩) (A.getD 0 []).length capg, (A.getD 0 []).length, ics (sumrow A ri rk m)⟩ (by simp)
          have lr : (sumrow A ri rk m).length = (A.getD 0 []).length := by rw [sumrow_len]; exact LI.out
          have xv : (sumrow A ri rk m).getD m 0 = (A.getD ri []).getD m 0 := by
            rw [List.getD_eq_getElem?_getD, sumrow_get (by rw [LI.out]; exact hlt2), if_neg (by omega)]; rfl
          obtain ⟨_, cx, fx, zx, _, lx⟩ := row_put or lr hlt2 ((A.getD ri []).getD m 0 + (A.getD rk []).getD m 0)
          rw [xv] at cx
          have TS := (TV.store (L1 := (⟨23, .slice ad1 A.length cap1, A.length, VS.reverse⟩ :: ⟨3, .slice ad2 A.length cap2, A.length, ics B.reverse⟩ :: ⟨23, .slice (some ⟨g3, 0, none⟩) A.length cap3, A.length, rws.map Prod.fst⟩ :: ⟨3, .slice (some ⟨g4, 0, none⟩) A.length cap4, A.length, ics B⟩ :: entR 3 rwL)) lr hlt2 ((A.getD ri []).getD m 0 + (A.getD rk []).getD m 0)).below (Below.refl _ _).drew
          rw [SUC.out m (by rw [LI.out]; exact hlt2)] at TS
          obtain ⟨_, _, e, _, _, HR⟩ := (SK.out.below TV.bel).open
          rw [LK.out] at e
          cases e
          obtain ⟨b3, off3, e, cy⟩ := HR.out m (by rw [LK.out]; exact hlt2)
          subst e
          have yv : A[rk][m]'(by rw [LK.out]; exact hlt2) = (A.getD rk []).getD m 0 := by rw [GK.out]; exact (getD_get _).symm
          rw [yv] at cy
          clear HR yv xv lr or o3
          have sm := SUMS.out m hlt2
          generalize (A.getD ri []).getD m 0 = x at *
          generalize (A.getD rk []).getD m 0 = y at *
          have d1' := below_cell TV.bel d1
          have hw : wrap64 (x + y) = x + y := by unfold wrap64; omega
          have zb1 := World.block_lt_of_cell? _ _ c3'
          have zb2 := World.block_lt_of_cell? _ _ cy
          have zb3 := World.block_lt_of_cell? _ _ d1'
          simp only at zb1 zb2 zb3
          obtain ⟨rU, fU⟩ := TV.boxU.rules
          have zU := TV.boxU.lt
          clear TV d1 dz
          obtain ⟨rS, fS⟩ := oS.rules
          have zS := oS.lt
          generalize (A.getD 0 []).length = nc at *
          have gl := @grow_lt
          go_wp2_with fail
          refine wp_region_st [.t [0, 1, 2, 3, 4, 5, 6, 7, 8, 9, 10, 11, 12, 13, 14, 15, 16, 17]] [18] (by kernel_rfl) (by kernel_rfl) (fun _ _ _ _ _ h => h) ?_
          refine wpX_t ?_
          try simp only [opsAt, List.getElem?_toArray, List.getElem?_cons_zero, List.getElem?_cons_succ, Option.getD_some]
          repeat (go_big_quiet_step (fail))
          refine wpQuiet_nil ?_
          clear gl
          refine wpX_nil ?_
          try simp only [opsAt, List.getElem?_toArray, List.getElem?_cons_zero, List.getElem?_cons_succ, Option.getD_some]
          go_wp2
          go_roundw
          case rel => exact ⟨m + 1, hlt2, by go_num, TS⟩
          case measure => simp [intOf]; try omega
        · obtain rfl : m = (A.getD 0 []).length := by omega
          have o4 : Y.ownsRow (b0 + 2) 3 1 (.slice (some ⟨g4, 0, none⟩) A.length cap4) A.length (ics B) := TV.many.1 ⟨3, .slice (some ⟨g4, 0, none⟩) A.length cap4, A.length, ics B⟩ (by simp)
          obtain ⟨_, cx, fx, zx, _, lx⟩ := row_put o4 BL.out hri (B.getD ri 0 + B.getD rk 0)
          have TS := (TV.store (L1 := (⟨23, .slice ad1 A.length cap1, A.length, VS.reverse⟩ :: ⟨3, .slice ad2 A.length cap2, A.length, ics B.reverse⟩ :: ⟨23, .slice (some ⟨g3, 0, none⟩) A.length cap3, A.length, rws.map Prod.fst⟩ :: [])) BL.out hri (B.getD ri 0 + B.getD rk 0)).below (Below.refl _ _).drew
          obtain ⟨_, _, e, _, _, HB⟩ := (SB2.out.below TV.bel).open
          rw [BL.out] at e
          cases e
          obtain ⟨b2, off2, e, cy⟩ := HB.out rk hrkB
          subst e
          have yv : B[rk] = B.getD rk 0 := by rw [getD_get]
          rw [yv] at cy
          have SUBV : Hid (B.set ri (B.getD ri 0 + B.getD rk 0) = sumB B ri rk) := rfl
          rw [SUBV.out] at TS
          have sm := side_small SY.out hri hrk
          clear HB yv o4
          generalize B.getD ri 0 = x at *
          generalize B.getD rk 0 = y at *
          have hw : wrap64 (x + y) = x + y := by unfold wrap64; omega
          have zb2 := World.block_lt_of_cell? _ _ cy
          simp only at zb2
          obtain ⟨rU, fU⟩ := TV.boxU.rules
          have zU := TV.boxU.lt
          clear TV d1 dz
          obtain ⟨rS, fS⟩ := oS.rules
          have zS := oS.lt
          have gl := @grow_lt
          go_wp2_with fail
          refine wp_region_st [.t [0, 1, 2, 3, 4, 5, 6, 7, 8, 9, 10, 11]] [12] (by kernel_rfl) (by kernel_rfl) (fun _ _ _ _ _ h => h) ?_
          refine wpX_t ?_
          try simp only [opsAt, List.getElem?_toArray, List.getElem?_cons_zero, List.getElem?_cons_succ, Option.getD_some]
          repeat (go_big_quiet_step (fail))
          refine wpQuiet_nil ?_
          clear gl
          refine wpX_nil ?_
          try simp only [opsAt, List.getElem?_toArray, List.getElem?_cons_zero, List.getElem?_cons_succ, Option.getD_some]
          go_upto_region 15 with fail
          clear rU fU zU rS fS zS cx fx zx cy zb2
          have oU2 := TS.boxU
          generalize (Y.setCell ⟨g4, ri, none⟩ (.int .i64 (x + y))).drew = Z at *
          have ST : SS Z (.slice ad1 A.length cap1) A.reverse := ss_rev VL.out (owns_sl (TS.many.1 ⟨23, .slice ad1 A.length cap1, A.length, VS.reverse⟩ (by simp)) (by omega)) (fun i h h' => (VG.out i h h').below TS.bel)
          have SBT : SI Z (.slice ad2 A.length cap2) B.reverse := owns_SI (TS.many.1 ⟨3, .slice ad2 A.length cap2, A.length, ics B.reverse⟩ (by simp)) (by rw [List.length_reverse]; exact BL.out) (by omega)
          have SBU : SI Z (.slice (some ⟨g4, 0, none⟩) A.length cap4) (sumB B ri rk) := owns_SI (TS.many.1 ⟨3, .slice (some ⟨g4, 0, none⟩) A.length cap4, A.length, ics (sumB B ri rk)⟩ (by simp)) (by unfold sumB; rw [List.length_set]; exact BL.out) (by omega)
          have SU : SS Z (.slice (some ⟨g3, 0, none⟩) A.length cap3) (sumA A ri rk) := by
            have e6 : sumA A ri rk = (rwL ++ (Value.slice (some ⟨g, 0, none⟩) (A.getD 0 []).length capg, sumrow A ri rk (A.getD 0 []).length) :: rwR).map Prod.snd := by
              unfold sumA
              rw [LI.out, RWT.out, List.map_append, List.map_cons]
            have e7 : rws.map Prod.fst = (rwL ++ (Value.slice (some ⟨g, 0, none⟩) (A.getD 0 []).length capg, sumrow A ri rk (A.getD 0 []).length) :: rwR).map Prod.fst := by
              rw [RWS.out, List.map_append, List.map_append]; rfl
            have o3 : Z.ownsRow (b0 + 2) 23 1 (.slice (some ⟨g3, 0, none⟩) A.length cap3) A.length (rws.map Prod.fst) := TS.many.1 ⟨23, .slice (some ⟨g3, 0, none⟩) A.length cap3, A.length, rws.map Prod.fst⟩ (by simp)
            have ln := o3.1
            rw [e7] at o3 ln
            rw [e6]
            have lrow : ∀ p ∈ rws, p.2.length ≤ 1000 := fun p hp => by
              have : p.2 ∈ A := by rw [← HWS.out]; exact List.mem_map.2 ⟨p, hp, rfl⟩
              obtain ⟨i, hi, e⟩ := List.getElem_of_mem this
              rw [← e, SY.out.wide i hi]; omega
            refine ss_rows (B := b0 + 2) (T := 3) (owns_sl o3 (by omega)) (by rw [List.length_map] at ln; omega) (fun p hp => ?_) (fun p hp => ?_)
            · rcases List.mem_append.1 hp with h | h
              · exact TS.many.1 ⟨3, p.1, p.2.length, ics p.2⟩ (List.mem_append_right _ (List.mem_cons_of_mem _ (List.mem_append_left _ (List.mem_map.2 ⟨p, h, rfl⟩))))
              · rcases List.mem_cons.1 h with rfl | h
                · have := TS.many.1 ⟨3, .slice (some ⟨g, 0, none⟩) (A.getD 0 []).length capg, (A.getD 0 []).length, ics (sumrow A ri rk (A.getD 0 []).length)⟩ (by simp)
                  simp only [sumrow_len, LI.out]
                  exact this
                · exact TS.many.1 ⟨3, p.1, p.2.length, ics p.2⟩ (List.mem_append_right _ (List.mem_cons_of_mem _ (List.mem_append_right _ (List.mem_cons_of_mem _ (List.mem_map.2 ⟨p, h, rfl⟩)))))
            · rcases List.mem_append.1 hp with h | h
              · exact lrow p (by rw [RWS.out]; exact List.mem_append_left _ h)
              · rcases List.mem_cons.1 h with rfl | h
                · simp only [sumrow_len, LI.out]; omega
                · exact lrow p (by rw [RWS.out]; exact List.mem_append_right _ (List.mem_cons_of_mem _ h))
          have REV := Lib.hid (solve_rev H0.out)
          have SUMQ := Lib.hid (fun h' => solve_sum H0.out hri hrk (fun e => c5 (by rw [e])) h')
          have oS := OS.out.below TS.bel
          have oT := TS.boxT
          have oU := TS.boxU
          have hA := SA.out.below TS.bel
          have hB := SB2.out.below TS.bel
          replace hy := below_to hy TS.bel
          clear TS oU2 SA SB2 VSL VG OS SK SS1 ROW3 ROW5 RWS RWT RWL HWS SUMS SUC GK SUBV dz' T0 oS0
          generalize hOO : oSolve A B = OO at *
          obtain ⟨X, BB, E⟩ := OO
          have SUMQ2 : Hid (ocheck (sumA A ri rk) (sumB B ri rk) = 0 → oSolve (sumA A ri rk) (sumB B ri rk) = (X, BB, E)) := SUMQ
          have HOO := Lib.hid hOO
          clear hOO SUMQ
          obtain ⟨rS, fS⟩ := oS.rules
          have zS := oS.lt
          go_wp2_with fail
          refine (osolve_any A B _ _ _ hA hB).mono ?_
          rintro e z1 ⟨x1, x2, rfl, sx, sb, hq⟩
          rw [HOO.out] at sx sb ⊢
          clear hA hB
          replace ST := ST.below hq
          replace SBT := SBT.below hq
          replace SU := SU.below hq
          replace SBU := SBU.below hq
          clear rS fS zS
          replace oT := oT.below hq
          replace oU := oU.below hq
          replace hy := below_to hy hq
          clear hq oS
          simp only at sx sb
          obtain ⟨rT, fT⟩ := oT.rules
          have zT := oT.lt
          go_wp2_with fail
          refine (osolve_any A.reverse B.reverse _ _ _ ST SBT).mono ?_
          rintro e z2 ⟨u1, u2, rfl, sy, sc, hq⟩
          rw [REV.out] at sy sc ⊢
          clear ST SBT rT fT zT oT
          replace sx := sx.below hq
          replace sb := sb.below hq
          replace SU := SU.below hq
          replace SBU := SBU.below hq
          replace oU := oU.below hq
          replace hy := below_to hy hq
          clear hq
          simp only at sy sc
          go_wp2_with fail
          refine (same29_true X _ _ _ sx sy).mono ?_
          rintro e z3 ⟨rfl, hq⟩
          clear sy
          replace sx := sx.below hq
          replace sb := sb.below hq
          replace sc := sc.below hq
          replace SU := SU.below hq
          replace SBU := SBU.below hq
          replace oU := oU.below hq
          replace hy := below_to hy hq
          clear hq
          go_wp2_with fail
          refine (sameall_true BB _ _ _ sb sc).mono ?_
          rintro e z4 ⟨rfl, hq⟩
          clear sc
          replace sx := sx.below hq
          replace sb := sb.below hq
          replace SU := SU.below hq
          replace SBU := SBU.below hq
          replace oU := oU.below hq
          replace hy := below_to hy hq
          clear hq
          obtain ⟨rU, fU⟩ := oU.rules
          have zU := oU.lt
          go_wp2_with fail
          refine (rocheck_any (sumA A ri rk) (sumB B ri rk) _ _ _ SU SBU).mono ?_
          rintro e z5 ⟨rfl, hq⟩
          clear rU fU zU
          replace sx := sx.below hq
          replace sb := sb.below hq
          replace SU := SU.below hq
          replace SBU := SBU.below hq
          replace oU := oU.below hq
          replace hy := below_to hy hq
          clear hq
          by_cases h1 : ocheck (sumA A ri rk) (sumB B ri rk) = 0
          case neg =>
            have b1 : (ocheck (sumA A ri rk) (sumB B ri rk) != 0) = true := by simpa using h1
            clear h1 SUMQ2
            go_wp2
            go_ret
            exact ⟨rfl, hy⟩
          have SQ := Lib.hid (SUMQ2.out h1)
          rw [h1]
          clear h1 SUMQ2
          obtain ⟨rU, fU⟩ := oU.rules
          have zU := oU.lt
          go_wp2_with fail
          refine (osolve_any (sumA A ri rk) (sumB B ri rk) _ _ _ SU SBU).mono ?_
          rintro e z6 ⟨v1, v2, rfl, sy, sc, hq⟩
          rw [SQ.out] at sy sc ⊢
          clear SU SBU rU fU zU oU
          replace sx := sx.below hq
          replace sb := sb.below hq
          replace hy := below_to hy hq
          clear hq
          simp only at sy sc
          go_wp2_with fail
          refine (same29_true X _ _ _ sx sy).mono ?_
          rintro e z7 ⟨rfl, hq⟩
          clear sx sy
          replace sb := sb.below hq
          replace sc := sc.below hq
          replace hy := below_to hy hq
          clear hq
          go_wp2_with fail
          refine (sameall_true BB _ _ _ sb sc).mono ?_
          rintro e z8 ⟨rfl, hq⟩
          clear sb sc
          replace hy := below_to hy hq
          clear hq
          go_wp2
          go_ret
          exact ⟨by first | rfl | simp, hy⟩
end Go.Proofs.Ythlcmlngmcoknaa

