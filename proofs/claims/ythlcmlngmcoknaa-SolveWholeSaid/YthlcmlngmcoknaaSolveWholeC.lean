/- What is proved here: the law SolveWhole returns true. Condition: a system and a list of fractions that can be read. -/
import Derived.Test.YthlcmlngmcoknaaC25
import Derived.Test.YthlcmlngmcoknaaC30
import Derived.Test.YthlcmlngmcoknaaC19
import Derived.Test.YthlcmlngmcoknaaC42
import Derived.Test.YthlcmlngmcoknaaC33
import Derived.Test.YthlcmlngmcoknaaC41
import Derived.Test.YthlcmlngmcoknaaC17
import Derived.Test.YthlcmlngmcoknaaC02
import Derived.Test.YthlcmlngmcoknaaC27
namespace Go.Proofs.Ythlcmlngmcoknaa
open Go.RowKit

theorem up_0 : up 0 = ((0 : Int), (1 : Int)) := rfl
theorem up_1 : up 1 = ((1 : Int), (1 : Int)) := rfl
theorem fl_take {l : List Nat} {i : Nat} (h : i < l.length) : ics ((l.take (i + 1)).map Int.ofNat) = ics ((l.take i).map Int.ofNat) ++ [.int .i64 (l.getD i 0 : Nat)] := by
  rw [List.take_succ_eq_append_getElem h, List.map_append, ics_app]
  simp [ics, List.getD, h]
theorem blist_at {w : Nat} {s : Rd} {i : Nat} (h : i < (flist w s).length) : (blist w s w).getD i [] = frow w s ((flist w s).getD i 0) := by
  rw [blist_fl, List.getD_eq_getElem?_getD, List.getElem?_map, List.getElem?_eq_getElem h, List.getD_eq_getElem?_getD, List.getElem?_eq_getElem h]; rfl
theorem mx_of {n d : Int} (h : ¬ 100 < (if (if n < -n then -n else n) < d then d else if n < -n then -n else n)) : d ≤ 100 ∧ -100 ≤ n ∧ n ≤ 100 := by
  by_cases h1 : n < -n
  · rw [if_pos h1] at h
    by_cases h2 : -n < d
    · rw [if_pos h2] at h; omega
    · rw [if_neg h2] at h; omega
  · rw [if_neg h1] at h
    by_cases h2 : n < d
    · rw [if_pos h2] at h; omega
    · rw [if_neg h2] at h; omega
theorem small_of {n d : Int} (h : fchk n d = 0) (h' : d ≤ 100 ∧ -100 ≤ n ∧ n ≤ 100) : 1 ≤ d ∧ d ≤ 100 ∧ -100 ≤ n ∧ n ≤ 100 := by
  obtain ⟨u1, u2, u3, u4, u5⟩ := fok_of h
  omega
theorem fcs_one {xs : List (Int × Int)} : ∀ u ∈ fcs xs, u.oneCell' = true := fun u hu => by
  unfold fcs at hu
  obtain ⟨p, _, h⟩ := List.mem_flatMap.1 hu
  simp only [List.mem_cons, List.not_mem_nil, or_false] at h
  rcases h with rfl | rfl <;> rfl
theorem own_emptyF {w : World} {p : Nat} {T : TypeId} (h : Own w p T []) {B : Nat} (hB : B ≤ p) : w.ownsRow B T 2 (.slice (some ⟨p, 0, none⟩) 0 0) 0 [] :=
  ⟨rfl, .inr ⟨p, 0, #[], rfl, hB, h, Nat.le_refl _, by decide, rfl, rfl⟩⟩
theorem owns_openW {w : World} {B n : Nat} {T : TypeId} {v : Value} {cs : List Value} (h : w.ownsRow B T 2 v n cs) (hn : 1 ≤ n) : ∃ g cap rest, v = .slice (some ⟨g, 0, none⟩) n cap ∧ n ≤ cap ∧ B ≤ g ∧ Own w g T (cs ++ rest) := by
  obtain ⟨h1, h2⟩ := h
  rcases h2 with ⟨_, h3⟩ | ⟨g, cap, cur, e, hb, hh, hc, _, hs, ht⟩
  · omega
  · refine ⟨g, cap, cur.toList.drop (n * 2), e, hc, hb, ?_⟩
    unfold Own
    rw [hh]
    rw [← ht, List.take_append_drop]
theorem ownF_cell {w : World} {g : Nat} {T : TypeId} {xs : List (Int × Int)} {rest : List Value} (h : Own w g T (fcs xs ++ rest)) {c : Nat} {p : Int × Int} (hp : xs[c]? = some p) :
    w.cell? ⟨g, c * 2, none⟩ = some (.int .i64 p.1) ∧ w.cell? ⟨g, c * 2 + 1, none⟩ = some (.int .i64 p.2) := by
  obtain ⟨hc, e⟩ := List.getElem?_eq_some_iff.1 hp
  have hf := fcs_len xs
  obtain ⟨g1, g2⟩ := fcs_get xs c hc
  rw [e] at g1 g2
  have cellk : ∀ k v, k < xs.length * 2 → (fcs xs)[k]? = some v → w.cell? ⟨g, k, none⟩ = some v := fun k v hk hv => by
    rw [h.cell k (by rw [List.length_append]; omega)]
    rw [List.getElem_append_left (by omega)]
    rw [List.getElem?_eq_getElem (by omega)] at hv
    exact hv
  exact ⟨cellk _ _ (by omega) g1, cellk _ _ (by omega) g2⟩
theorem ownF_set {w : World} {g : Nat} {T : TypeId} {xs : List (Int × Int)} {rest : List Value} (h : Own w g T (fcs xs ++ rest)) {c : Nat} (hc : c < xs.length) (a b : Int) :
    Own ((w.setCell ⟨g, c * 2, none⟩ (.int .i64 a)).setCell ⟨g, c * 2 + 1, none⟩ (.int .i64 b)) g T (fcs (xs.set c (a, b)) ++ rest) := by
  have hf := fcs_len xs
  have := (h.set (c * 2) (.int .i64 a)).set (c * 2 + 1) (.int .i64 b)
  rw [List.set_append_left _ _ (by omega), List.set_append_left _ _ (by rw [List.length_set]; omega), fcs_set xs c (a, b)] at this
  exact this
theorem ownF_sf {w : World} {g n cap : Nat} {T : TypeId} {xs : List (Int × Int)} {rest : List Value} (h : Own w g T (fcs xs ++ rest)) (hl : xs.length = n) (hc : n ≤ cap) (hn : n ≤ 1000) : SF w (.slice (some ⟨g, 0, none⟩) n cap) xs := by
  unfold SF
  rw [hl]
  refine ⟨_, _, rfl, hc, by omega, fun i x hx => ⟨g, 0, rfl, ?_⟩⟩
  obtain ⟨hi, e⟩ := List.getElem?_eq_some_iff.1 hx
  rw [Nat.zero_add, h.cell i (by rw [List.length_append]; omega), List.getElem_append_left hi, e]
theorem inr_i64 {x : Rat} (h : inr x) : i64 (up x).1 ∧ i64 (up x).2 := by
  obtain ⟨h1, h2⟩ := h
  have := x.den_pos
  exact ⟨⟨by show -9223372036854775808 ≤ x.num; omega, by show x.num ≤ 9223372036854775807; omega⟩, ⟨by show -9223372036854775808 ≤ (x.den : Int); omega, by show (x.den : Int) ≤ 9223372036854775807; omega⟩⟩
theorem row_cellw {w : World} {B : Nat} {T : TypeId} {ad : Option Addr} {n m cap i : Nat} {cs : List Value} {v : Value} (h : w.ownsRow B T 1 (.slice ad m cap) n cs) (hi : cs[i]? = some v) (hn : n ≤ 1000) : ∃ g, ad = some ⟨g, 0, none⟩ ∧ n ≤ cap ∧ w.cell? ⟨g, i, none⟩ = some v ∧ B ≤ g := by
  obtain ⟨hl, e⟩ := List.getElem?_eq_some_iff.1 hi
  obtain ⟨g, e1, _, e2, e3, e4⟩ := row_cell h hl hn
  exact ⟨g, e1, e2, by rw [← e]; exact e3, e4⟩
theorem free_at {l : List Nat} {i k : Nat} (h : i < k) (hk : k ≤ l.length) : (ics ((l.take k).map Int.ofNat))[i]? = some (.int .i64 (l.getD i 0 : Nat)) := by
  have hi : i < l.length := by omega
  have e : (l.take k)[i]? = some l[i] := by rw [List.getElem?_take_of_lt h, List.getElem?_eq_getElem hi]
  unfold ics
  rw [List.getElem?_map, List.getElem?_map, e]
  simp [List.getD, hi]
set_option maxRecDepth 100000 in
set_option maxHeartbeats 16000000 in
theorem solveWhole_any (A : List (List Int)) (B : List Int) (t : List (Int × Int)) (va vb vt : Value) (w : World) (hA : SS w va A) (hB : SI w vb B) (ht : SF w vt t) (hti : FI t) :
    Calls Try.prog 8 #[.agg #[va, vb], vt] w fun e w' => e = .returned (.bool true) ∧ Below w.heap.size w w' := by
  have TI := Lib.hid hti
  clear hti
  obtain ⟨adt, capt, rfl, ht1, ht2, _⟩ := ht.open
  go_enter Try.func8, Try.ntmps8
  have oS := Own.new w 25 [va, vb]
  have hy := ba1 w (.cells #[va, vb] 25)
  replace hA := hA.below hy
  replace hB := hB.below hy
  replace ht := ht.below hy
  obtain ⟨rS, fS⟩ := oS.rules
  have zS := oS.lt
  go_wp2_with fail
  refine (alive29_any _).mono ?_
  rintro e y1 ⟨rfl, hq⟩
  clear rS fS zS
  replace oS := oS.below hq
  replace hA := hA.below hq
  replace hB := hB.below hq
  replace ht := ht.below hq
  replace hy := below_to hy hq
  clear hq
  obtain ⟨rS, fS⟩ := oS.rules
  have zS := oS.lt
  go_wp2_with fail
  refine (rocheck_any A B _ _ _ hA hB).mono ?_
  rintro e y2 ⟨rfl, hq⟩
  clear rS fS zS
  replace oS := oS.below hq
  replace hA := hA.below hq
  replace hB := hB.below hq
  replace ht := ht.below hq
  replace hy := below_to hy hq
  clear hq
  obtain ⟨rS, fS⟩ := oS.rules
  have zS := oS.lt
  by_cases h0 : ocheck A B = 0
  case neg =>
    have b1 : (ocheck A B != 0) = true := by simpa using h0
    clear h0 hA hB ht
    go_wp2
    go_ret
    exact ⟨rfl, hy⟩
  have SY := Lib.hid (sys_of h0)
  have H0 := Lib.hid h0
  rw [h0]
  clear h0
  have r1 := SY.out.rows.1
  have r6 := SY.out.rows.2
  have n1 := SY.out.cols.1
  have n6 := SY.out.cols.2
  by_cases h6 : (6 : Int) < (t.length : Int)
  case pos =>
    have d6 : decide ((6 : Int) < (t.length : Int)) = true := decide_eq_true h6
    clear hA hB ht
    go_wp2
    go_ret
    exact ⟨rfl, hy⟩
  have d6 : decide ((6 : Int) < (t.length : Int)) = false := decide_eq_false h6
  go_wp2_with fail
  refine (osolve_any A B _ _ _ hA hB).mono ?_
  rintro e y3 ⟨x1, x2, rfl, sx, sb, hq⟩
  replace ht := ht.below hq
  clear rS fS zS
  replace oS := oS.below hq
  replace hA := hA.below hq
  replace hB := hB.below hq
  replace hy := below_to hy hq
  clear hq
  obtain ⟨rS, fS⟩ := oS.rules
  have zS := oS.lt
  cases hs : solvB A.length (A.getD 0 []).length (ored A B) with
  | false =>
    rw [oSolve_6 H0.out hs] at sx sb ⊢
    clear hs hA hB ht
    simp only at sx sb
    obtain ⟨_, _, rfl, _, _, _⟩ := sx.open
    obtain ⟨_, _, rfl, _, _, _⟩ := sb.open
    clear sx sb
    go_wp2
    go_ret
    exact ⟨by first | rfl | simp, hy⟩
  | true =>
    rw [oSolve_0 H0.out hs] at sx sb ⊢
    have ACC := Lib.hid (fun (h : smallT t (flist (A.getD 0 []).length (ored A B)).length) => accept_sums H0.out hs h)
    have RI := Lib.hid (o_inv A B)
    have FL := Lib.hid (fl_len A.length (A.getD 0 []).length (oA A B))
    have W0 := Lib.hid (SY.out.wide 0 r1)
    have INX := Lib.hid (fun c => (o_inv A B).quo_pl (tame_o SY.out) (whl_o A B _ _) c)
    have INF := Lib.hid (fun f (hf : f ≤ (A.getD 0 []).length) c => (o_inv A B).quo_fr (tame_o SY.out) (whl_o A B _ _) hf c)
    have DEN := Lib.hid ((o_inv A B).den (tame_o SY.out) (whl_o A B _ _))
    clear hs
    simp only at sx sb
    have SA := Lib.hid hA
    have SB2 := Lib.hid hB
    have ST := Lib.hid ht
    have OS := Lib.hid oS
    obtain ⟨ada, capa, e, ha1, ha2, H⟩ := hA.open
    subst e
    obtain ⟨b0, off0, ad0, cap0, e, dz, dz2, dz3, _⟩ := H.out 0 r1
    subst e
    obtain ⟨adb, capb, e, hb1, hb2, _⟩ := hB.open
    subst e
    rw [W0.out, Nat.add_zero] at dz
    clear H hA hB ht dz2 dz3
    have FLD : Hid (red A.length (oA A B) (A.getD 0 []).length = ored A B) := rfl
    rw [FLD.out] at FL
    clear FLD
    generalize ored A B = s at *
    generalize (A.getD 0 []).length = n at *
    have LB : (blist n s n).length = (flist n s).length := by rw [blist_fl, List.length_map]
    have SX := Lib.hid sx
    have SBS := Lib.hid sb
    obtain ⟨adx, capx, e, hx1, hx2, _⟩ := sx.open
    rw [plist_len] at e hx1 hx2
    subst e
    obtain ⟨adf, capf, e, hf1, hf2, _⟩ := sb.open
    rw [LB] at e hf1 hf2
    subst e
    have BAT := Lib.hid (fun i (h : i < (flist n s).length) => blist_at h)
    have FLG := Lib.hid (fun i (h : i < (flist n s).length) => fl_get h)
    have FLI := Lib.hid (fun i j (hij : i < j) (h : j < (flist n s).length) => fl_inc hij h)
    have FLT := Lib.hid (fun i (h : i < (flist n s).length) => fl_take h)
    have m6 : (flist n s).length ≤ 6 := by have := FL.out; omega
    have LBH := Lib.hid LB
    have FLH : Hid (flist n s = flist n s) := rfl
    clear sx sb LB FL
    generalize hm : (flist n s).length = m at *
    have HM := Lib.hid hm
    clear hm
    have zz := World.block_lt_of_cell? _ _ dz
    simp only at zz
    obtain ⟨rS, fS⟩ := OS.out.rules
    go_wp2_with fail
    clear rS fS
    go_loopw [10, 11] (fun fv i wr => ∃ k : Nat, k ≤ m ∧ i = .int .i64 k ∧ wr.ownsRow y3.heap.size 3 1 fv k (ics (((flist n s).take k).map Int.ofNat)) ∧ Below y3.heap.size y3 wr) (fun _ i _ => m + 1 - (intOf i).toNat)
    case atStart => exact ⟨0, Nat.zero_le _, rfl, World.ownsRow_nil _ _ _ _, Below.refl _ _⟩
    case round =>
      obtain ⟨k, hk, rfl, og, hC⟩ := hrel
      rename World => W
      obtain ⟨ado, capo, eo⟩ := oslice og
      subst eo
      by_cases hlt : k < m
      -- dev:begin
      · obtain ⟨f1, f2⟩ := FLG.out k hlt
        obtain ⟨_, _, e, _, _, H⟩ := (SBS.out.below hC).open
        rw [LBH.out] at e
        cases e
        obtain ⟨b, off, ad', cap', e, c1, c2, c3, s1⟩ := H.out k (by rw [LBH.out]; exact hlt)
        subst e
        rw [BAT.out k hlt, frow_len] at c1 c2 c3 s1
        clear H
        have FT := Lib.hid (FLT.out k hlt)
        have PRE : Hid (0 < k → (flist n s).getD (k - 1) 0 < (flist n s).getD k 0) := fun h => FLI.out (k - 1) k (by omega) hlt
        generalize hf : (flist n s).getD k 0 = f at *
        have HF := Lib.hid hf
        clear hf
        have S1 := Lib.hid s1
        have FRF := Lib.hid f2
        clear s1 f2
        have hn1 : wrap64 ((n : Int) - 1) = (n : Int) - 1 := by unfold wrap64; omega
        obtain ⟨l0, hl0⟩ : ∃ l0, l0 = n - 1 := ⟨_, rfl⟩
        have el0 : (n : Int) - 1 = (l0 : Int) := by omega
        have bl0 : f ≤ l0 ∧ l0 < n := by omega
        clear hl0
        rw [el0] at hn1
        go_wp2
        have HCH := Lib.hid hC
        have FEL := Lib.hid (fun c (hc : f < c) (hcn : c < n) => (show (frow n s f)[c]'(by rw [frow_len]; exact hcn) = (0, 1) from (by
          have q := frow_get (s := s) (f := f) hcn
          rw [getD_get (by rw [frow_len]; exact hcn)] at q
          rw [q, fr_after RI.out hc]; rfl)))
        have FE1 : Hid ((frow n s f)[f]'(by rw [frow_len]; exact f1) = (1, 1)) := by
          have q := frow_get (s := s) (f := f) f1
          rw [getD_get (by rw [frow_len]; exact f1)] at q
          show _ = _
          rw [q, fr_self]; rfl
        have FP0 : Hid ((plist n s)[f]'(by rw [plist_len]; exact f1) = (0, 1)) := by
          have q := plist_get (s := s) f1
          rw [getD_get (by rw [plist_len]; exact f1)] at q
          show _ = _
          rw [q, pl_free FRF.out]; rfl
        have zb := World.block_lt_of_cell? _ _ c1
        simp only at zb
        go_loopw [12] (fun i wr => ∃ l : Nat, f ≤ l ∧ l < n ∧ i = .int .i64 l ∧ wr = W) (fun i _ => (intOf i).toNat)
        case atStart => exact ⟨l0, bl0.1, bl0.2, rfl, rfl⟩
        case round =>
          obtain ⟨l, hl1, hl2, rfl, rfl⟩ := hrel
          obtain ⟨_, _, e, _, _, HR⟩ := S1.out.open
          rw [frow_len] at e
          cases e
          obtain ⟨b3, off3, e, c4, c5⟩ := HR.out l (by rw [frow_len]; exact hl2)
          subst e
          clear HR
          have d0 : decide ((0 : Int) ≤ (l : Int)) = true := decide_eq_true (by omega)
          by_cases hlf : f < l
          · rw [FEL.out l hlf hl2] at c4 c5
            go_wp2
            go_roundw
            case rel => exact ⟨l - 1, by omega, by omega, by go_num, by first | rfl | trivial⟩
            case measure => simp [intOf]; try omega
          · obtain rfl : l = f := by omega
            rw [FE1.out] at c4 c5
            have zb3 := World.block_lt_of_cell? _ _ c4
            simp only at zb3
            obtain ⟨_, _, e, _, _, HX⟩ := (SX.out.below hC).open
            rw [plist_len] at e
            cases e
            obtain ⟨b4, off4, e, c6, c7⟩ := HX.out l (by rw [plist_len]; exact f1)
            subst e
            rw [FP0.out] at c6 c7
            clear HX
            have zb4 := World.block_lt_of_cell? _ _ c6
            simp only at zb4
            have dl : decide ((l : Int) < 0) = false := decide_eq_false (by omega)
            by_cases hk0 : k = 0
            · subst hk0
              rw [Nat.add_zero] at c1
              go_upto_region 19 with fail
              have gl := @grow_lt
              go_wp2_with fail
              refine wp_region_st [.t [0, 1, 2, 3, 4, 5, 6, 7, 8, 9], .f 10, .t [11, 12, 13, 14, 15, 16, 17, 18, 19, 20, 21, 22, 23, 24, 25, 26, 27, 28, 29, 30, 31, 32]] [33] (by kernel_rfl) (by kernel_rfl) (fun _ _ _ _ _ h => h) ?_
              refine wpX_t ?_
              try simp only [opsAt, List.getElem?_toArray, List.getElem?_cons_zero, List.getElem?_cons_succ, Option.getD_some]
              repeat (go_big_quiet_step (fail))
              refine wpQuiet_nil ?_
              refine wpX_f rfl rfl (fun K' hK' => ?_)
              go_simp
              refine (rof_any 1 _).mono ?_
              rintro e z1 ⟨rfl, hq1⟩
              refine hK' _ _ (grow_of (below_to (Below.refl _ _).drew hq1)) ?_
              clear hK' K'
              refine wpX_t ?_
              try simp only [opsAt, List.getElem?_toArray, List.getElem?_cons_zero, List.getElem?_cons_succ, Option.getD_some]
              repeat (go_big_quiet_step (fail))
              refine wpQuiet_nil ?_
              refine wpX_nil ?_
              try simp only [opsAt, List.getElem?_toArray, List.getElem?_cons_zero, List.getElem?_cons_succ, Option.getD_some]
              clear gl
              have hW2 : Below wr.heap.size wr z1 := below_to (Below.refl _ _).drew hq1
              have og2 := owns_at og hW2
              have zC := hC.size
              have zW2 := hW2.size
              clear c1 c4 c5 c6 c7 zb zb3 zb4 hq1
              go_wp2_with (at_builtin; refine wpList_app _ rfl _ _ _ rfl y3.heap.size 3 1 8 (.int .i64 0) Try.underlying23 oint_info rfl (by omega) (by omega) _ _ _ rfl (og2.alloc _) (by omega) (by simp; omega) z1.heap.size [.int .i64 l] (0, 0) rfl (heap_alloc_new z1 _) rfl (by simp [Value.oneCell']) ?_; intro g cap2 w2 hown hg hbw)
              go_roundw
              case rel =>
                refine ⟨0 + 1, by omega, by go_num, ?_, (below_to (below_to hC hW2) (ba1 z1 _)).trans (hbw.mono (by omega))⟩
                rw [FT.out]; exact hown
              case measure => simp [intOf]; try omega
            · obtain ⟨k', rfl⟩ : ∃ k', k = k' + 1 := ⟨k - 1, by omega⟩
              obtain ⟨gf, eg, _, c8, _⟩ := row_cellw og (free_at (i := k') (by omega) (by rw [HM.out]; exact hk)) (by omega)
              subst eg
              have PR : (flist n s).getD k' 0 < l := PRE.out (by omega)
              generalize (flist n s).getD k' 0 = fp at *
              have dp : decide ((l : Int) ≤ (fp : Int)) = false := decide_eq_false (by omega)
              have dp2 : decide (l ≤ fp) = false := decide_eq_false (by omega)
              have dk : decide (0 < k' + 1) = true := decide_eq_true (by omega)
              have zb8 := World.block_lt_of_cell? _ _ c8
              simp only at zb8
              go_upto_region 19 with fail
              have gl := @grow_lt
              go_wp2_with fail
              refine wp_region_st [.t [0, 1, 2, 3, 4, 5, 6, 7, 8, 9], .f 10, .t [11, 12, 13, 14, 15, 16, 17, 18, 19, 20, 21, 22, 23, 24, 25, 26, 27, 28, 29, 30, 31, 32]] [33] (by kernel_rfl) (by kernel_rfl) (fun _ _ _ _ _ h => h) ?_
              refine wpX_t ?_
              try simp only [opsAt, List.getElem?_toArray, List.getElem?_cons_zero, List.getElem?_cons_succ, Option.getD_some]
              repeat (go_big_quiet_step (fail))
              refine wpQuiet_nil ?_
              refine wpX_f rfl rfl (fun K' hK' => ?_)
              go_simp
              refine (rof_any 1 _).mono ?_
              rintro e z1 ⟨rfl, hq1⟩
              refine hK' _ _ (grow_of (below_to (Below.refl _ _).drew hq1)) ?_
              clear hK' K'
              refine wpX_t ?_
              try simp only [opsAt, List.getElem?_toArray, List.getElem?_cons_zero, List.getElem?_cons_succ, Option.getD_some]
              repeat (go_big_quiet_step (fail))
              refine wpQuiet_nil ?_
              refine wpX_nil ?_
              try simp only [opsAt, List.getElem?_toArray, List.getElem?_cons_zero, List.getElem?_cons_succ, Option.getD_some]
              clear c8 zb8
              clear gl
              have hW2 : Below wr.heap.size wr z1 := below_to (Below.refl _ _).drew hq1
              have og2 := owns_at og hW2
              have zC := hC.size
              have zW2 := hW2.size
              clear c1 c4 c5 c6 c7 zb zb3 zb4 hq1
              go_wp2_with (at_builtin; refine wpList_app _ rfl _ _ _ rfl y3.heap.size 3 1 8 (.int .i64 0) Try.underlying23 oint_info rfl (by omega) (by omega) _ _ _ rfl (og2.alloc _) (by omega) (by simp; omega) z1.heap.size [.int .i64 l] (0, 0) rfl (heap_alloc_new z1 _) rfl (by simp [Value.oneCell']) ?_; intro g cap2 w2 hown hg hbw)
              go_roundw
              case rel =>
                refine ⟨k' + 1 + 1, by omega, by go_num, ?_, (below_to (below_to hC hW2) (ba1 z1 _)).trans (hbw.mono (by omega))⟩
                rw [FT.out]; exact hown
              case measure => simp [intOf]; try omega
      -- dev:end
      · obtain rfl : k = m := by omega
        have FTE : (flist n s).take k = flist n s := List.take_of_length_le (by rw [HM.out]; exact Nat.le_refl _)
        rw [FTE] at og
        have OF := Lib.hid og
        clear FTE og hlt hk
        go_wp2
        go_loopw [13] (fun i wr => ∃ q : Nat, q ≤ t.length ∧ i = .int .i64 q ∧ Below W.heap.size W wr ∧ Hid (∀ j (h : j < t.length), j < q → fchk t[j].1 t[j].2 = 0 ∧ 1 ≤ t[j].2 ∧ t[j].2 ≤ 100 ∧ -100 ≤ t[j].1 ∧ t[j].1 ≤ 100)) (fun i _ => t.length + 1 - (intOf i).toNat)
        case atStart => exact ⟨0, Nat.zero_le _, rfl, Below.refl _ _, fun j h hj => absurd hj (Nat.not_lt_zero _)⟩
        case round =>
          obtain ⟨q, hq, rfl, hD, SM⟩ := hrel
          rename World => Y
          by_cases hlt : q < t.length
          -- dev:begin
          · obtain ⟨_, _, e, _, _, H⟩ := (ST.out.below (below_to hC hD)).open
            cases e
            obtain ⟨b, off, e, c1, c2⟩ := H.out q hlt
            subst e
            clear H
            have SMN : Hid (fchk t[q].1 t[q].2 = 0 → t[q].2 ≤ 100 ∧ -100 ≤ t[q].1 ∧ t[q].1 ≤ 100 → ∀ j (h : j < t.length), j < q + 1 → fchk t[j].1 t[j].2 = 0 ∧ 1 ≤ t[j].2 ∧ t[j].2 ≤ 100 ∧ -100 ≤ t[j].1 ∧ t[j].1 ≤ 100) := fun h1 h2 j h hj => by
              rcases Nat.lt_or_ge j q with h3 | h3
              · exact SM.out j h h3
              · obtain rfl : j = q := by omega
                exact ⟨h1, small_of h1 h2⟩
            have I1 := (TI.out.get q hlt).1
            have I2 := (TI.out.get q hlt).2
            clear SM
            generalize t[q].1 = tn at *
            generalize t[q].2 = td at *
            have zb := World.block_lt_of_cell? _ _ c1
            simp only at zb
            go_upto_region 25 with fail
            by_cases h1 : fchk tn td = 0
            · have b1 : (fchk tn td != 0) = false := by simpa using h1
              obtain ⟨g1, g2, g3, g4, g5⟩ := fok_of h1
              have wn : wrap64 (-tn) = -tn := by unfold wrap64; omega
              have gl := @grow_lt
              go_wp2_with fail
              refine wp_region_st [.t [0, 1, 2, 3], .f 4, .t [5, 6, 7, 8, 9, 10, 11, 12, 13, 14, 15, 16, 17, 18, 19, 20, 21, 22, 23, 24]] [25] (by kernel_rfl) (by kernel_rfl) (fun _ _ _ _ _ h => h) ?_
              refine wpX_t ?_
              try simp only [opsAt, List.getElem?_toArray, List.getElem?_cons_zero, List.getElem?_cons_succ, Option.getD_some]
              repeat (go_big_quiet_step (fail))
              refine wpQuiet_nil ?_
              refine wpX_f rfl rfl (fun K' hK' => ?_)
              go_simp
              refine (rcheck_any tn td _ I1 I2).mono ?_
              rintro e z1 ⟨rfl, hq1⟩
              refine hK' _ _ (grow_of (below_to (Below.refl _ _).drew hq1)) ?_
              clear hK' K'
              refine wpX_t ?_
              try simp only [opsAt, List.getElem?_toArray, List.getElem?_cons_zero, List.getElem?_cons_succ, Option.getD_some]
              repeat (go_big_quiet_step (fail))
              refine wpQuiet_nil ?_
              refine wpX_nil ?_
              try simp only [opsAt, List.getElem?_toArray, List.getElem?_cons_zero, List.getElem?_cons_succ, Option.getD_some]
              clear gl wn g5
              replace hD := below_to hD (below_to (Below.refl _ _).drew hq1)
              clear hq1 c1 c2 zb
              have HMX := Lib.hid (fun h => mx_of (n := tn) (d := td) h)
              generalize (if (if tn < -tn then -tn else tn) < td then td else if tn < -tn then -tn else tn) = mx at HMX ⊢
              by_cases h2 : 100 < mx
              · have d2 : decide (100 < mx) = true := decide_eq_true h2
                clear h2
                go_wp2
                go_ret
                exact ⟨rfl, below_to hy (below_to hC hD)⟩
              · have d2 : decide (100 < mx) = false := decide_eq_false h2
                have SM2 := Lib.hid (SMN.out h1 (HMX.out h2))
                clear h2 SMN HMX
                go_wp2
                go_roundw
                case rel => exact ⟨q + 1, hlt, by go_num, hD, SM2⟩
                case measure => simp [intOf]; try omega
            · have b1 : (fchk tn td != 0) = true := by simpa using h1
              have gl := @grow_lt
              go_wp2_with fail
              refine wp_region_st [.t [0, 1, 2, 3], .f 4, .t [5, 6, 7, 8, 9, 10, 11, 12, 13, 14, 15, 16, 17, 18, 19, 20, 21, 22, 23, 24]] [25] (by kernel_rfl) (by kernel_rfl) (fun _ _ _ _ _ h => h) ?_
              refine wpX_t ?_
              try simp only [opsAt, List.getElem?_toArray, List.getElem?_cons_zero, List.getElem?_cons_succ, Option.getD_some]
              repeat (go_big_quiet_step (fail))
              refine wpQuiet_nil ?_
              refine wpX_f rfl rfl (fun K' hK' => ?_)
              go_simp
              refine (rcheck_any tn td _ I1 I2).mono ?_
              rintro e z1 ⟨rfl, hq1⟩
              refine hK' _ _ (grow_of (below_to (Below.refl _ _).drew hq1)) ?_
              clear hK' K'
              refine wpX_t ?_
              try simp only [opsAt, List.getElem?_toArray, List.getElem?_cons_zero, List.getElem?_cons_succ, Option.getD_some]
              repeat (go_big_quiet_step (fail))
              refine wpQuiet_nil ?_
              refine wpX_nil ?_
              try simp only [opsAt, List.getElem?_toArray, List.getElem?_cons_zero, List.getElem?_cons_succ, Option.getD_some]
              clear gl
              replace hD := below_to hD (below_to (Below.refl _ _).drew hq1)
              clear hq1 c1 c2 zb
              go_wp2
              go_ret
              exact ⟨rfl, below_to hy (below_to hC hD)⟩
          -- dev:end
          · obtain rfl : q = t.length := by omega
            by_cases hlb : t.length < k
            · have dlb : decide (t.length < k) = true := decide_eq_true hlb
              go_wp2
              go_ret
              exact ⟨rfl, below_to hy (below_to hC hD)⟩
            have dlb : decide (t.length < k) = false := decide_eq_false hlb
            have hCD := below_to hC hD
            have SXP : Sl Y (.slice adx n capx) n (fcs (plist n s)) := by
              have := SX.out.below hCD
              unfold SF at this
              rw [plist_len] at this
              exact this
            have hkt : k ≤ t.length := by omega
            have SMT : Hid (smallT t k) := fun j hj => by
              have h := SM.out j (by omega) (by omega)
              rw [getD_get (show j < t.length by omega)]
              exact h.2
            have TCH : Hid (∀ j, j < k → fchk (t.getD j (0, 0)).1 (t.getD j (0, 0)).2 = 0) := fun j hj => by
              have h := SM.out j (by omega) (by omega)
              rw [getD_get (show j < t.length by omega)]
              exact h.1
            have INX2 : Hid (∀ c, inr (s.pl n c)) := fun c => by
              obtain ⟨D, d1, d2, d3⟩ := DEN.out
              exact quo_inr d1 d2 (d3 _ (INX.out c))
            have INF2 : Hid (∀ i, i < k → ∀ c, inr (s.fr ((flist n s).getD i 0) c)) := fun i hi c => by
              obtain ⟨D, d1, d2, d3⟩ := DEN.out
              exact quo_inr d1 d2 (d3 _ (INF.out _ (by have := (FLG.out i hi).1; omega) c))
            have FR2 : Hid (∀ i, i < k → ∀ (h : k ≤ (flist n s).length), wsum n s t k ((flist n s).getD i 0) = qq (t.getD i (0, 0))) := fun i hi h => wsum_free h hi
            have zC := hCD.size
            go_upto_region 29 with fail
            go_wp2_with (at_builtin; refine wpList_apps (Y.alloc (.cells #[] 78)) rfl _ _ _ rfl Y.heap.size 78 2 16 (.agg #[.int .i64 0, .int .i64 0]) Try.underlying28 Try.infoFrac rfl (by omega) (by omega) _ 0 [] rfl (own_emptyF (Own.new Y 78 []) (Nat.le_refl _)) (by simp) _ n (fcs (plist n s)) rfl (SXP.below (ba1 Y _)) (by rw [fcs_len, plist_len]) fcs_one (by omega) ?_; intro v14 w14 hown hkp)
            simp only [Nat.zero_add, List.nil_append] at hown
            have hB14 : Below Y.heap.size Y w14 := (ba1 Y _).trans (hkp.below (by simp) (fun b hb => (row_lt (own_emptyF (Own.new Y 78 []) (Nat.le_refl _)) hb).1))
            obtain ⟨g, capg, rest, eg, hcg, hg, oG⟩ := owns_openW hown n1
            subst eg
            clear hown hkp SXP
            have OF2 := Lib.hid (owns_at OF.out hD)
            clear OF SM
            go_wp2
            go_loopw [15] (fun v wr => ∃ i : Nat, i ≤ k ∧ v = .int .i64 i ∧ Own wr g 78 (fcs (wlist n s t i 0) ++ rest) ∧ Below Y.heap.size Y wr ∧ Hid (∀ c, c < n → inr (wsum n s t i c))) (fun v _ => k + 1 - (intOf v).toNat)
            case atStart => exact ⟨0, Nat.zero_le _, rfl, by rw [wlist_0]; exact oG, hB14, fun c _ => by
              unfold wsum; rw [sm_zero]
              have := INX2.out c
              have e : s.pl n c + 0 = s.pl n c := by grind
              rw [e]; exact this⟩
            case round =>
              clear oG hB14
              obtain ⟨i, hi, rfl, oG, hE, IN⟩ := hrel
              rename World => V
              by_cases hik : i < k
              · obtain ⟨_, _, e, _, _, H⟩ := (ST.out.below hCD).open
                cases e
                obtain ⟨b, off, e, c1, c2⟩ := H.out i (by omega)
                subst e
                clear H
                obtain ⟨_, _, e, _, _, H⟩ := (SBS.out.below hCD).open
                rw [LBH.out] at e
                cases e
                obtain ⟨b2, off2, ad', cap', e, c3, _, _, s1⟩ := H.out i (by rw [LBH.out]; exact hik)
                subst e
                rw [BAT.out i hik, frow_len] at c3 s1
                clear H
                have TCI := Lib.hid (TCH.out i hik)
                have INI := Lib.hid (INF2.out i hik)
                have hit : i < t.length := by omega
                have TG : Hid (t[i] = t.getD i (0, 0)) := (getD_get hit).symm
                have I1 := Lib.hid (TI.out.get i hit)
                rw [TG.out] at c1 c2 I1
                have S1 := Lib.hid s1
                clear s1
                have C1 := Lib.hid c1
                have C2 := Lib.hid c2
                have C3 := Lib.hid c3
                clear c1 c2 c3
                go_wp2
                go_loopw [16] (fun v wr => ∃ c : Nat, c ≤ n ∧ v = .int .i64 c ∧ Own wr g 78 (fcs (wlist n s t i c) ++ rest) ∧ Below Y.heap.size Y wr ∧ Hid (∀ c', c' < n → inr (wrat n s t i c c'))) (fun v _ => n + 1 - (intOf v).toNat)
                case atStart => exact ⟨0, Nat.zero_le _, rfl, oG, hE, fun c hc => by unfold wrat; rw [if_neg (by omega)]; exact IN.out c hc⟩
                case round =>
                  clear oG hE IN
                  obtain ⟨c, hc, rfl, oG, hE, IN⟩ := hrel
                  rename World => U
                  by_cases hcn : c < n
                  · have c1 := below_cell hE C1.out
                    have c2 := below_cell hE C2.out
                    have c3 := below_cell hE C3.out
                    obtain ⟨_, _, e, _, _, HR⟩ := (S1.out.below hE).open
                    rw [frow_len] at e
                    cases e
                    obtain ⟨b3, off3, e, c4, c5⟩ := HR.out c (by rw [frow_len]; exact hcn)
                    subst e
                    clear HR
                    have FG : (frow n s ((flist n s).getD i 0))[c]'(by rw [frow_len]; exact hcn) = up (s.fr ((flist n s).getD i 0) c) := by
                      have q := frow_get (s := s) (f := (flist n s).getD i 0) hcn
                      rw [getD_get (by rw [frow_len]; exact hcn)] at q
                      exact q
                    rw [FG] at c4 c5
                    clear FG
                    have hin0 := IN.out c hcn
                    have wr0 : wrat n s t i c c = wsum n s t i c := by unfold wrat; rw [if_neg (by omega)]
                    rw [wr0] at hin0
                    have wq : (wlist n s t i c)[c]? = some (up (wsum n s t i c)) := by rw [wlist_get hcn, wr0]
                    obtain ⟨c6, c7⟩ := ownF_cell oG wq
                    clear wq wr0
                    have hfi := INI.out c
                    have IB := inr_i64 hfi
                    have IGs := inr_i64 hin0
                    have XP : fmul (t.getD i (0, 0)).1 (t.getD i (0, 0)).2 (up (s.fr ((flist n s).getD i 0) c)).1 (up (s.fr ((flist n s).getD i 0) c)).2 = pack (qq (t.getD i (0, 0)) * s.fr ((flist n s).getD i 0) c) := by
                      rw [fmul_qq TCI.out (up_chk hfi), qq_up]
                    have XI : i64 (fmul (t.getD i (0, 0)).1 (t.getD i (0, 0)).2 (up (s.fr ((flist n s).getD i 0) c)).1 (up (s.fr ((flist n s).getD i 0) c)).2).n ∧ i64 (fmul (t.getD i (0, 0)).1 (t.getD i (0, 0)).2 (up (s.fr ((flist n s).getD i 0) c)).1 (up (s.fr ((flist n s).getD i 0) c)).2).d := by rw [XP]; exact pack_i64 _
                    have WAD := Lib.hid (fun h1 => wadd (w := n) (s := s) (t := t) (i := i) (k := c) TCI.out hfi hin0 h1)
                    have I1' := I1.out
                    generalize hX : fmul (t.getD i (0, 0)).1 (t.getD i (0, 0)).2 (up (s.fr ((flist n s).getD i 0) c)).1 (up (s.fr ((flist n s).getD i 0) c)).2 = X at *
                    have HX := Lib.hid hX
                    clear hX XP hfi hin0
                    have WAD2 : Hid (X.e = 0 → (fadd (up (wsum n s t i c)).1 (up (wsum n s t i c)).2 X.n X.d).e = 0 → inr (wsum n s t (i + 1) c) ∧ up (wsum n s t (i + 1) c) = ((fadd (up (wsum n s t i c)).1 (up (wsum n s t i c)).2 X.n X.d).n, (fadd (up (wsum n s t i c)).1 (up (wsum n s t i c)).2 X.n X.d).d)) := fun h1 h2 => by
                      obtain ⟨p, e1, _, h3⟩ := WAD.out h1
                      subst e1
                      obtain ⟨h4, h5⟩ := h3 h2
                      refine ⟨h4, ?_⟩
                      show _ = ((fadd (up (wsum n s t i c)).1 (up (wsum n s t i c)).2 p.1 p.2).n, (fadd (up (wsum n s t i c)).1 (up (wsum n s t i c)).2 p.1 p.2).d)
                      rw [h5]; rfl
                    clear WAD
                    generalize hZ : fadd (up (wsum n s t i c)).1 (up (wsum n s t i c)).2 X.n X.d = ZF at *
                    have HZ := Lib.hid hZ
                    clear hZ
                    obtain ⟨gn, hgn⟩ : ∃ z, z = (up (wsum n s t i c)).1 := ⟨_, rfl⟩
                    obtain ⟨gd, hgd⟩ : ∃ z, z = (up (wsum n s t i c)).2 := ⟨_, rfl⟩
                    rw [← hgn, ← hgd] at HZ
                    rw [← hgn] at c6 IGs
                    rw [← hgd] at c7 IGs
                    clear hgn hgd
                    generalize (t.getD i (0, 0)).1 = tn at *
                    generalize (t.getD i (0, 0)).2 = td at *
                    generalize (up (s.fr ((flist n s).getD i 0) c)).1 = bn at *
                    generalize (up (s.fr ((flist n s).getD i 0) c)).2 = bd at *
                    have zb1 := World.block_lt_of_cell? _ _ c1
                    have zb3 := World.block_lt_of_cell? _ _ c3
                    have zb4 := World.block_lt_of_cell? _ _ c4
                    simp only at zb1 zb3 zb4
                    go_upto_region 36 with fail
                    go_wp2_with fail
                    have gl := @grow_lt
                    refine wp_region_fs [(15, ⟨78, [.int .i64 0, .int .i64 0], fun b => .pointer (some ⟨b, 0, none⟩)⟩)] [0, 1, 2, 3, 4, 5, 6, 7, 8, 9, 10] [.op 11, .tk 12, .tk 13, .tk 14, .fl 15, .op 16] [17] (by kernel_rfl) (by kernel_rfl) ⟨fun ρ W => by kernel_rfl, trivial⟩ (fun _ _ _ _ _ h => h) (fun _ _ _ _ _ h => h) ?_
                    try simp only [opsAt, List.getElem?_toArray, List.getElem?_cons_zero, List.getElem?_cons_succ, Option.getD_some]
                    repeat (go_big_quiet_step (fail))
                    refine wpQuiet_nil ?_
                    clear gl
                    refine wpFl_op rfl ?_
                    intro w3 hb3 K' hK'
                    go_simp
                    refine (rmul_any tn td bn bd _ I1'.1 I1'.2 IB.1 IB.2).mono ?_
                    rintro e w5 ⟨rfl, hq⟩
                    refine hK' _ _ (Mod.of_below hq) ?_
                    clear hK' K'
                    have hF := below_to hb3 hq
                    clear hb3 hq
                    rw [HX.out]
                    refine wpFl_tk ?_
                    try simp only [opsAt, List.getElem?_toArray, List.getElem?_cons_zero, List.getElem?_cons_succ, Option.getD_some]
                    repeat (go_big_quiet_step (fail))
                    refine wpQuiet_nil ?_
                    refine wpFl_tk ?_
                    try simp only [opsAt, List.getElem?_toArray, List.getElem?_cons_zero, List.getElem?_cons_succ, Option.getD_some]
                    repeat (go_big_quiet_step (fail))
                    refine wpQuiet_nil ?_
                    refine wpFl_tk ?_
                    try simp only [opsAt, List.getElem?_toArray, List.getElem?_cons_zero, List.getElem?_cons_succ, Option.getD_some]
                    repeat (go_big_quiet_step (fail))
                    refine wpQuiet_nil ?_
                    refine wpFl_fl rfl ?_
                    intro bP w6 hb6 oP zP0 _
                    go_simp
                    replace hF := below_to hF hb6
                    refine wpFl_op rfl ?_
                    intro w7 hb7 K' hK'
                    replace oP := oP.below hb7
                    replace hF := below_to hF hb7
                    clear hb6 hb7
                    obtain ⟨rP, fP⟩ := oP.rules
                    have zP := oP.lt
                    go_wp2_with fail
                    refine hK' _ _ (((Mod.refl _ _).set (by simp) _).set (by simp) _) ?_
                    clear hK' K' rP fP zP
                    replace oP := (oP.set 0 (.int .i64 X.n)).set 1 (.int .i64 X.d)
                    replace hF := (hF.setCell (p := ⟨bP, 0, none⟩) zP0 (.int .i64 X.n)).setCell (p := ⟨bP, 1, none⟩) zP0 (.int .i64 X.d)
                    refine wpFl_nil (fun w8 hb8 => ?_)
                    replace oP := oP.below hb8
                    replace hF := below_to hF hb8
                    clear hb8
                    try simp only [opsAt, List.getElem?_toArray, List.getElem?_cons_zero, List.getElem?_cons_succ, Option.getD_some]
                    clear c1 c2 c3 c4 c5 zb1 zb3 zb4 I1' IB
                    replace oG := oG.below hF
                    replace hE := below_to hE hF
                    replace c6 := below_cell hF c6
                    replace c7 := below_cell hF c7
                    clear hF zP0
                    rename World => V1
                    have zb6 := World.block_lt_of_cell? _ _ c6
                    simp only at zb6
                    obtain ⟨rP, fP⟩ := oP.rules
                    have zP := oP.lt
                    go_upto_region 37 with fail
                    go_wp2_with fail
                    have gl := @grow_lt
                    refine wp_region_fs [(9, ⟨78, [.int .i64 0, .int .i64 0], fun b => .pointer (some ⟨b, 0, none⟩)⟩)] [0, 1, 2, 3, 4] [.op 5, .tk 6, .tk 7, .tk 8, .fl 9, .op 10] [11] (by kernel_rfl) (by kernel_rfl) ⟨fun ρ W => by kernel_rfl, trivial⟩ (fun _ _ _ _ _ h => h) (fun _ _ _ _ _ h => h) ?_
                    try simp only [opsAt, List.getElem?_toArray, List.getElem?_cons_zero, List.getElem?_cons_succ, Option.getD_some]
                    repeat (go_big_quiet_step (fail))
                    refine wpQuiet_nil ?_
                    clear gl
                    refine wpFl_op rfl ?_
                    intro w3 hb3 K' hK'
                    go_simp
                    refine (radd_any gn gd X.n X.d _ IGs.1 IGs.2 XI.1 XI.2).mono ?_
                    rintro e w5 ⟨rfl, hq⟩
                    refine hK' _ _ (Mod.of_below hq) ?_
                    clear hK' K'
                    have hF := below_to hb3 hq
                    clear hb3 hq
                    rw [HZ.out]
                    refine wpFl_tk ?_
                    try simp only [opsAt, List.getElem?_toArray, List.getElem?_cons_zero, List.getElem?_cons_succ, Option.getD_some]
                    repeat (go_big_quiet_step (fail))
                    refine wpQuiet_nil ?_
                    refine wpFl_tk ?_
                    try simp only [opsAt, List.getElem?_toArray, List.getElem?_cons_zero, List.getElem?_cons_succ, Option.getD_some]
                    repeat (go_big_quiet_step (fail))
                    refine wpQuiet_nil ?_
                    refine wpFl_tk ?_
                    try simp only [opsAt, List.getElem?_toArray, List.getElem?_cons_zero, List.getElem?_cons_succ, Option.getD_some]
                    repeat (go_big_quiet_step (fail))
                    refine wpQuiet_nil ?_
                    refine wpFl_fl rfl ?_
                    intro bQ w6 hb6 oQ zQ0 _
                    go_simp
                    replace hF := below_to hF hb6
                    refine wpFl_op rfl ?_
                    intro w7 hb7 K' hK'
                    replace oQ := oQ.below hb7
                    replace hF := below_to hF hb7
                    clear hb6 hb7
                    obtain ⟨rQ, fQ⟩ := oQ.rules
                    have zQ := oQ.lt
                    go_wp2_with fail
                    refine hK' _ _ (((Mod.refl _ _).set (by simp) _).set (by simp) _) ?_
                    clear hK' K' rQ fQ zQ
                    replace oQ := (oQ.set 0 (.int .i64 ZF.n)).set 1 (.int .i64 ZF.d)
                    replace hF := (hF.setCell (p := ⟨bQ, 0, none⟩) zQ0 (.int .i64 ZF.n)).setCell (p := ⟨bQ, 1, none⟩) zQ0 (.int .i64 ZF.d)
                    refine wpFl_nil (fun w8 hb8 => ?_)
                    replace oQ := oQ.below hb8
                    replace hF := below_to hF hb8
                    clear hb8
                    try simp only [opsAt, List.getElem?_toArray, List.getElem?_cons_zero, List.getElem?_cons_succ, Option.getD_some]
                    clear c6 c7 zb6 rP fP zP oP IGs XI HX HZ
                    replace oG := oG.below hF
                    replace hE := below_to hE hF
                    clear hF
                    rename World => V2
                    by_cases h1 : X.e = 0
                    case neg =>
                      have b1 : (X.e != 0) = true := by simpa using h1
                      clear h1 WAD2
                      go_wp2
                      go_ret
                      exact ⟨rfl, below_to hy (below_to hCD hE)⟩
                    have b1 : (X.e != 0) = false := by simpa using h1
                    by_cases h2 : ZF.e = 0
                    case neg =>
                      have b2 : (ZF.e != 0) = true := by simpa using h2
                      clear h1 h2 WAD2
                      go_wp2
                      go_ret
                      exact ⟨rfl, below_to hy (below_to hCD hE)⟩
                    have b2 : (ZF.e != 0) = false := by simpa using h2
                    have WW := Lib.hid (WAD2.out h1 h2)
                    clear h1 h2 WAD2
                    obtain ⟨rQ, fQ⟩ := oQ.rules
                    have zQ := oQ.lt
                    have fG := oG.free
                    have zG := oG.lt
                    have oG2 := ownF_set oG (c := c) (by rw [wlist_len]; exact hcn) ZF.n ZF.d
                    rw [← WW.out.2, wlist_set hcn] at oG2
                    have hE2 := (hE.setCell (p := ⟨g, c * 2, none⟩) hg (.int .i64 ZF.n)).setCell (p := ⟨g, c * 2 + 1, none⟩) hg (.int .i64 ZF.d)
                    obtain ⟨c8, c9⟩ := ownF_cell oG (wlist_get (k := c) hcn)
                    clear oG hE
                    go_wp2
                    go_roundw
                    case rel =>
                      refine ⟨c + 1, hcn, by go_num, oG2, hE2, fun c' hc' => ?_⟩
                      rcases Nat.lt_trichotomy c' c with h | h | h
                      · have := IN.out c' hc'
                        unfold wrat at this ⊢
                        rw [if_pos h] at this
                        rw [if_pos (by omega)]; exact this
                      · subst h
                        unfold wrat; rw [if_pos (by omega)]; exact WW.out.1
                      · have := IN.out c' hc'
                        unfold wrat at this ⊢
                        rw [if_neg (by omega)] at this
                        rw [if_neg (by omega)]; exact this
                    case measure => simp [intOf]; try omega
                  · obtain rfl : c = n := by omega
                    go_wp2
                    go_roundw
                    case rel =>
                      refine ⟨i + 1, hik, by go_num, by rw [← wlist_next]; exact oG, hE, fun c' hc' => ?_⟩
                      have := IN.out c' hc'
                      unfold wrat at this
                      rw [if_pos hc'] at this
                      exact this
                    case measure => simp [intOf]; try omega
              · obtain rfl : i = k := by omega
                have SXF : SF V (.slice (some ⟨g, 0, none⟩) n capg) (wlist n s t i 0) := ownF_sf oG (wlist_len _ _ _ _ _) hcg (by omega)
                have XFI : FI (wlist n s t i 0) := fun p hp => by
                  unfold wlist at hp
                  obtain ⟨c, hc, rfl⟩ := List.mem_map.1 hp
                  have := IN.out c (List.mem_range.1 hc)
                  have e : wrat n s t i 0 c = wsum n s t i c := by unfold wrat; rw [if_neg (by omega)]
                  rw [e]; exact inr_i64 this
                have SXV := Lib.hid SXF
                have OGV := Lib.hid oG
                have XFH := Lib.hid XFI
                clear SXF XFI oG IN
                go_wp2
                go_loopw [21] (fun v wr => ∃ j : Nat, j ≤ i ∧ v = .int .i64 j ∧ Below V.heap.size V wr) (fun v _ => i + 1 - (intOf v).toNat)
                case atStart => exact ⟨0, Nat.zero_le _, rfl, Below.refl _ _⟩
                case round =>
                  obtain ⟨j, hj, rfl, hG2⟩ := hrel
                  rename World => U
                  have hyU := below_to hE hG2
                  by_cases hji : j < i
                  · obtain ⟨_, _, e, _, _, H⟩ := (ST.out.below (below_to hCD hyU)).open
                    cases e
                    obtain ⟨b, off, e, c1, c2⟩ := H.out j (by omega)
                    subst e
                    clear H
                    have hjt : j < t.length := by omega
                    have TG : t[j] = t.getD j (0, 0) := (getD_get hjt).symm
                    rw [TG] at c1 c2
                    clear TG
                    obtain ⟨f1, f2⟩ := FLG.out j hji
                    obtain ⟨gf, eg, _, c8, _⟩ := row_cellw (owns_at OF2.out hyU) (by have := free_at (l := flist n s) (i := j) (k := i) hji (by rw [HM.out]; exact Nat.le_refl _); rw [List.take_of_length_le (by rw [HM.out]; exact Nat.le_refl _)] at this; exact this) (by omega)
                    subst eg
                    have WE : up (wsum n s t i ((flist n s).getD j 0)) = t.getD j (0, 0) := by
                      rw [FR2.out j hji (by rw [HM.out]; exact Nat.le_refl _)]
                      exact up_qq (TCH.out j hji)
                    have we0 : wrat n s t i 0 ((flist n s).getD j 0) = wsum n s t i ((flist n s).getD j 0) := by unfold wrat; rw [if_neg (by omega)]
                    have wq : (wlist n s t i 0)[(flist n s).getD j 0]? = some (t.getD j (0, 0)) := by rw [wlist_get f1, we0, WE]
                    obtain ⟨c6, c7⟩ := ownF_cell (OGV.out.below hG2) wq
                    clear wq WE we0 f2
                    generalize (flist n s).getD j 0 = f at *
                    generalize (t.getD j (0, 0)).1 = tn at *
                    generalize (t.getD j (0, 0)).2 = td at *
                    have zb1 := World.block_lt_of_cell? _ _ c1
                    have zb6 := World.block_lt_of_cell? _ _ c6
                    have zb8 := World.block_lt_of_cell? _ _ c8
                    simp only at zb1 zb6 zb8
                    have gl := @grow_lt
                    go_upto_region 44 with fail
                    go_wp2_with fail
                    refine wp_region_st [.t [0, 1, 2, 3, 4, 5, 6, 7, 8, 9, 10]] [11] (by kernel_rfl) (by kernel_rfl) (fun _ _ _ _ _ h => h) ?_
                    refine wpX_t ?_
                    try simp only [opsAt, List.getElem?_toArray, List.getElem?_cons_zero, List.getElem?_cons_succ, Option.getD_some]
                    repeat (go_big_quiet_step (fail))
                    refine wpQuiet_nil ?_
                    clear gl
                    refine wpX_nil ?_
                    try simp only [opsAt, List.getElem?_toArray, List.getElem?_cons_zero, List.getElem?_cons_succ, Option.getD_some]
                    clear c1 c2 c6 c7 c8 zb1 zb6 zb8
                    go_wp2
                    go_roundw
                    case rel => exact ⟨j + 1, hji, by go_num, hG2.drew⟩
                    case measure => simp [intOf]; try omega
                  · have hyU2 := below_to hCD hyU
                    have oS := OS.out.below hyU2
                    have hA := SA.out.below hyU2
                    have hB := SB2.out.below hyU2
                    have hX := SXV.out.below hG2
                    have AC := Lib.hid (ACC.out SMT.out)
                    replace hy := below_to hy hyU2
                    generalize wlist n s t i 0 = xs at *
                    obtain ⟨rS, fS⟩ := oS.rules
                    have zS := oS.lt
                    clear hG2 hyU hyU2
                    go_wp2_with fail
                    refine (roaccept_any A B xs _ _ _ _ hA hB hX XFH.out).mono ?_
                    rintro e z1 ⟨rfl, hq⟩
                    rw [AC.out]
                    clear rS fS zS
                    replace oS := oS.below hq
                    replace hA := hA.below hq
                    replace hB := hB.below hq
                    replace hX := hX.below hq
                    replace hy := below_to hy hq
                    clear hq
                    obtain ⟨rS, fS⟩ := oS.rules
                    have zS := oS.lt
                    go_wp2_with fail
                    refine (oaccept_any A B xs _ _ _ _ hA hB hX XFH.out).mono ?_
                    rintro e z2 ⟨rfl, hq⟩
                    rw [AC.out]
                    clear rS fS zS
                    replace hy := below_to hy hq
                    clear hq oS hA hB hX
                    go_wp2
                    go_ret
                    exact ⟨by first | rfl | simp, hy⟩
end Go.Proofs.Ythlcmlngmcoknaa
