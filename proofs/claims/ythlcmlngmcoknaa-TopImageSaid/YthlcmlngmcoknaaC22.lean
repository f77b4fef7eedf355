/- What is proved here: contracts of functions and plain facts, several texts in one; each one says ahead what it proves, and its conditions. -/
import Derived.RangeFuncBound
import Derived.RangeFuncCalls
import Derived.RangeFuncLeaves
import Derived.Shelf.Abstract
import Derived.Shelf.RegionOpen
import Derived.WalkKit
import Derived.OwnWalkIn
import Derived.TacticsInMore
import Derived.LoopNIn
import Derived.LoopIn
import Derived.Test.YthlcmlngmcoknaaC21
import Derived.Test.YthlcmlngmcoknaaC17
import Derived.Test.YthlcmlngmcoknaaC01
/- What is proved here: the contract of the iterator of clean.steps. Condition: an image of the caller's own, a beam and a cleaning; rounds that keep what is known. -/
namespace Go.Proofs.Ythlcmlngmcoknaa
open Go.RowKit
attribute [local go_sem] Oper.semAt_some

theorem wpOpIn_val {F : Fence} {n : Nat} {P : Program} {ops : Array Oper} {Q : Exit → Act → World → Prop} {K : Act → World → Prop} {i : Nat} {a : Act} {w : World} {o : Oper} {v : Value} (ho : ops[i]? = some o) (hg : o.guard = none) (hro : F.round = none)
    (hab : ∀ f, o.about P w a.eval = some f → F.fn f) (hr : (execOp a.eval o).run P w = .ok (.value v) w) (hK : K (a.put o.dst v) w) : wpOpIn F n P ops Q i K a w := by
  unfold wpOpIn
  simp only [ho]
  have : Region.wanted o (yielded ops a.tmps) = true := by unfold Region.wanted; rw [hg]
  rw [if_pos this]
  refine ⟨hab, ?_⟩
  rw [hro, Oper.semAt_none, hr]
  exact hK
theorem wpOpIn_op {F : Fence} {n : Nat} {P : Program} {ops : Array Oper} {Q : Exit → Act → World → Prop} {K : Act → World → Prop} {i : Nat} {a : Act} {w : World} {o : Oper} (ho : ops[i]? = some o) (hg : o.guard = none) (h : o.wpIn F n P a w K Q) : wpOpIn F n P ops Q i K a w := by
  unfold wpOpIn
  simp only [ho]
  have : Region.wanted o (yielded ops a.tmps) = true := by unfold Region.wanted; rw [hg]
  rw [if_pos this]
  exact h
theorem lset {listed : Array Bool} {i : Nat} (hi : i < listed.size) (j : Nat) : (listed.setIfInBounds i true).getD j false = (decide (i = j) || listed.getD j false) := by
  by_cases h : i = j
  · subst h; simp [hi]
  · rw [getD_set_ne false h]; simp [h]
theorem pget {a : Act} {d : Nat} (v : Value) (hd : d < a.tmps.size) (e : Nat) : (a.put (some d) v).tmps[e]? = if d = e then some v else a.tmps[e]? := by
  simp only [Act.put]
  by_cases h : d = e
  · subst h; simp [hd]
  · rw [if_neg h, Array.getElem?_setIfInBounds_ne h]
theorem psize (a : Act) (d : Nat) (v : Value) : (a.put (some d) v).tmps.size = a.tmps.size := by simp [Act.put]
/-- What is known while the round's region comes up in whatever order. -/
structure R9 (tm : Array Value) (w1 : World) (yv pv lv bv : Value) (Bp : Bool → World → Prop) (Cp : Bool → Bool → World → Prop) (L : Nat → Bool) (a : Act) (w : World) : Prop where
  df : a.defers = []
  sz : a.tmps.size = 61
  low : ∀ d, d < 52 ∨ d = 60 → a.tmps[d]? = tm[d]?
  s0 : L 0 = true → a.tmps[52]? = some yv
  s1 : L 1 = true → a.tmps[53]? = some pv
  s2 : L 2 = true → a.tmps[54]? = some lv
  s3 : L 3 = true → a.tmps[55]? = some bv
  s4 : L 4 = true → a.tmps[56]? = some pv
  c5 : L 5 = true → L 2 = true ∧ L 3 = true ∧ L 4 = true
  c6 : L 6 = true → L 0 = true ∧ L 1 = true ∧ L 5 = true
  c7 : L 7 = true → L 6 = true
  p0 : L 5 = false → w = w1
  p1 : L 5 = true → ∃ r, a.tmps[57]? = some (.bool r) ∧ (L 6 = false → Bp r w) ∧ (L 6 = true → ∃ c, a.tmps[58]? = some (.bool c) ∧ Cp r c w ∧ (L 7 = true → a.tmps[59]? = some (.bool !c)))
theorem R9.start {tm : Array Value} {w1 : World} {yv pv lv bv : Value} {Bp : Bool → World → Prop} {Cp : Bool → Bool → World → Prop} {df : List Deferred} (h1 : tm.size = 61) (h2 : df = []) : R9 tm w1 yv pv lv bv Bp Cp (fun _ => false) ⟨tm, df⟩ w1 :=
  ⟨h2, h1, fun _ _ => rfl, fun h => (by cases h), fun h => (by cases h), fun h => (by cases h), fun h => (by cases h), fun h => (by cases h), fun h => (by cases h), fun h => (by cases h), fun h => (by cases h), fun _ => rfl, fun h => (by cases h)⟩
def upB (L : Nat → Bool) (i j : Nat) : Bool := decide (i = j) || L j
section
variable {tm : Array Value} {w1 w w' : World} {yv pv lv bv : Value} {Bp : Bool → World → Prop} {Cp : Bool → Bool → World → Prop} {L : Nat → Bool} {a : Act}
theorem R9.put0 (h : R9 tm w1 yv pv lv bv Bp Cp L a w) : R9 tm w1 yv pv lv bv Bp Cp (upB L 0) (a.put (some 52) yv) w := by
  have T := fun e => pget (a := a) (d := 52) yv (by rw [h.sz]; omega) e
  have h5 := h.c5
  have h6 := h.c6
  refine ⟨h.df, by rw [psize]; exact h.sz, fun d hd => by rw [T, if_neg (by omega)]; exact h.low d hd, ?_, ?_, ?_, ?_, ?_, ?_, ?_, ?_, ?_, ?_⟩
  all_goals simp only [upB, T]
  all_goals simp [-Bool.exists_bool]
  · exact h.s1
  · exact h.s2
  · exact h.s3
  · exact h.s4
  · exact h5
  · intro e; have := h6 e; simp [this]
  · exact h.c7
  · exact h.p0
  · exact h.p1
theorem R9.put1 (h : R9 tm w1 yv pv lv bv Bp Cp L a w) : R9 tm w1 yv pv lv bv Bp Cp (upB L 1) (a.put (some 53) pv) w := by
  have T := fun e => pget (a := a) (d := 53) pv (by rw [h.sz]; omega) e
  have h5 := h.c5
  have h6 := h.c6
  refine ⟨h.df, by rw [psize]; exact h.sz, fun d hd => by rw [T, if_neg (by omega)]; exact h.low d hd, ?_, ?_, ?_, ?_, ?_, ?_, ?_, ?_, ?_, ?_⟩
  all_goals simp only [upB, T]
  all_goals simp [-Bool.exists_bool]
  · exact h.s0
  · exact h.s2
  · exact h.s3
  · exact h.s4
  · exact h5
  · intro e; have := h6 e; simp [this]
  · exact h.c7
  · exact h.p0
  · exact h.p1
theorem R9.put2 (h : R9 tm w1 yv pv lv bv Bp Cp L a w) : R9 tm w1 yv pv lv bv Bp Cp (upB L 2) (a.put (some 54) lv) w := by
  have T := fun e => pget (a := a) (d := 54) lv (by rw [h.sz]; omega) e
  have h5 := h.c5
  have h6 := h.c6
  refine ⟨h.df, by rw [psize]; exact h.sz, fun d hd => by rw [T, if_neg (by omega)]; exact h.low d hd, ?_, ?_, ?_, ?_, ?_, ?_, ?_, ?_, ?_, ?_⟩
  all_goals simp only [upB, T]
  all_goals simp [-Bool.exists_bool]
  · exact h.s0
  · exact h.s1
  · exact h.s3
  · exact h.s4
  · intro e; have := h5 e; simp [this]
  · exact h6
  · exact h.c7
  · exact h.p0
  · exact h.p1
theorem R9.put3 (h : R9 tm w1 yv pv lv bv Bp Cp L a w) : R9 tm w1 yv pv lv bv Bp Cp (upB L 3) (a.put (some 55) bv) w := by
  have T := fun e => pget (a := a) (d := 55) bv (by rw [h.sz]; omega) e
  have h5 := h.c5
  have h6 := h.c6
  refine ⟨h.df, by rw [psize]; exact h.sz, fun d hd => by rw [T, if_neg (by omega)]; exact h.low d hd, ?_, ?_, ?_, ?_, ?_, ?_, ?_, ?_, ?_, ?_⟩
  all_goals simp only [upB, T]
  all_goals simp [-Bool.exists_bool]
  · exact h.s0
  · exact h.s1
  · exact h.s2
  · exact h.s4
  · intro e; have := h5 e; simp [this]
  · exact h6
  · exact h.c7
  · exact h.p0
  · exact h.p1
theorem R9.put4 (h : R9 tm w1 yv pv lv bv Bp Cp L a w) : R9 tm w1 yv pv lv bv Bp Cp (upB L 4) (a.put (some 56) pv) w := by
  have T := fun e => pget (a := a) (d := 56) pv (by rw [h.sz]; omega) e
  have h5 := h.c5
  have h6 := h.c6
  refine ⟨h.df, by rw [psize]; exact h.sz, fun d hd => by rw [T, if_neg (by omega)]; exact h.low d hd, ?_, ?_, ?_, ?_, ?_, ?_, ?_, ?_, ?_, ?_⟩
  all_goals simp only [upB, T]
  all_goals simp [-Bool.exists_bool]
  · exact h.s0
  · exact h.s1
  · exact h.s2
  · exact h.s3
  · intro e; have := h5 e; simp [this]
  · exact h6
  · exact h.c7
  · exact h.p0
  · exact h.p1
theorem R9.put5 (h : R9 tm w1 yv pv lv bv Bp Cp L a w) (h2 : L 2 = true) (h3 : L 3 = true) (h4 : L 4 = true) (h6 : L 6 = false) {r : Bool} (hB : Bp r w') : R9 tm w1 yv pv lv bv Bp Cp (upB L 5) (a.put (some 57) (.bool r)) w' := by
  have T := fun e => pget (a := a) (d := 57) (.bool r) (by rw [h.sz]; omega) e
  have h7 : L 7 = false := by
    cases e : L 7 with
    | false => rfl
    | true => rw [h.c7 e] at h6; cases h6
  refine ⟨h.df, by rw [psize]; exact h.sz, fun d hd => by rw [T, if_neg (by omega)]; exact h.low d hd, ?_, ?_, ?_, ?_, ?_, ?_, ?_, ?_, ?_, ?_⟩
  all_goals simp only [upB, T]
  all_goals simp [-Bool.exists_bool, h2, h3, h4, h6, h7]
  · exact h.s0
  · exact h.s1
  · exact h.s2 h2
  · exact h.s3 h3
  · exact h.s4 h4
  · exact hB
theorem R9.put6 (h : R9 tm w1 yv pv lv bv Bp Cp L a w) (h0 : L 0 = true) (h1 : L 1 = true) (h5 : L 5 = true) (h6 : L 6 = false) {r c : Bool} (hr : a.tmps[57]? = some (.bool r)) (hC : Cp r c w') : R9 tm w1 yv pv lv bv Bp Cp (upB L 6) (a.put (some 58) (.bool c)) w' := by
  have T := fun e => pget (a := a) (d := 58) (.bool c) (by rw [h.sz]; omega) e
  have h7 : L 7 = false := by
    cases e : L 7 with
    | false => rfl
    | true => rw [h.c7 e] at h6; cases h6
  refine ⟨h.df, by rw [psize]; exact h.sz, fun d hd => by rw [T, if_neg (by omega)]; exact h.low d hd, ?_, ?_, ?_, ?_, ?_, ?_, ?_, ?_, ?_, ?_⟩
  all_goals simp only [upB, T]
  all_goals simp [-Bool.exists_bool, h0, h1, h5, h7]
  · exact h.s0 h0
  · exact h.s1 h1
  · exact h.s2
  · exact h.s3
  · exact h.s4
  · exact h.c5 h5
  · exact ⟨r, hr, hC⟩
theorem R9.put7 (h : R9 tm w1 yv pv lv bv Bp Cp L a w) (h6 : L 6 = true) {c : Bool} (hc : a.tmps[58]? = some (.bool c)) : R9 tm w1 yv pv lv bv Bp Cp (upB L 7) (a.put (some 59) (.bool !c)) w := by
  have T := fun e => pget (a := a) (d := 59) (.bool !c) (by rw [h.sz]; omega) e
  obtain ⟨_, _, h5⟩ := h.c6 h6
  obtain ⟨r, k1, k2, k3⟩ := h.p1 h5
  obtain ⟨c', k4, k5, k6⟩ := k3 h6
  rw [hc] at k4
  simp only [Option.some.injEq, Value.bool.injEq] at k4
  subst k4
  refine ⟨h.df, by rw [psize]; exact h.sz, fun d hd => by rw [T, if_neg (by omega)]; exact h.low d hd, ?_, ?_, ?_, ?_, ?_, ?_, ?_, ?_, ?_, ?_⟩
  all_goals simp only [upB, T]
  all_goals simp [-Bool.exists_bool, h6, h5]
  · exact h.s0
  · exact h.s1
  · exact h.s2
  · exact h.s3
  · exact h.s4
  · exact h.c5 h5
  · exact ⟨(h.c6 h6).1, (h.c6 h6).2.1⟩
  · exact ⟨r, k1, hc, k5⟩
/-- All slots behind the region. -/
def fin9 (tm : Array Value) (yv pv lv bv : Value) (r c : Bool) : Array Value := (((((((tm.setIfInBounds 52 yv).setIfInBounds 53 pv).setIfInBounds 54 lv).setIfInBounds 55 bv).setIfInBounds 56 pv).setIfInBounds 57 (.bool r)).setIfInBounds 58 (.bool c)).setIfInBounds 59 (.bool !c)
/-- Behind the region all slots are known. -/
theorem R9.fin (h : R9 tm w1 yv pv lv bv Bp Cp L a w) (hl : ∀ i, i < 8 → L i = true) (ht : tm.size = 61) : ∃ r c, Cp r c w ∧ a = ⟨fin9 tm yv pv lv bv r c, []⟩ := by
  obtain ⟨r, k1, _, k3⟩ := h.p1 (hl 5 (by omega))
  obtain ⟨c, k4, k5, k6⟩ := k3 (hl 6 (by omega))
  refine ⟨r, c, k5, ?_⟩
  have hd := h.df
  have hs := h.sz
  have key : a.tmps = fin9 tm yv pv lv bv r c := by
    unfold fin9
    apply Array.ext_getElem?
    intro i
    simp only [Array.getElem?_setIfInBounds, Array.size_setIfInBounds, ht]
    by_cases e9 : 59 = i
    · subst e9; simpa using k6 (hl 7 (by omega))
    by_cases e8 : 58 = i
    · subst e8; simpa using k4
    by_cases e7 : 57 = i
    · subst e7; simpa using k1
    by_cases e6 : 56 = i
    · subst e6; simpa using h.s4 (hl 4 (by omega))
    by_cases e5 : 55 = i
    · subst e5; simpa using h.s3 (hl 3 (by omega))
    by_cases e4 : 54 = i
    · subst e4; simpa using h.s2 (hl 2 (by omega))
    by_cases e3 : 53 = i
    · subst e3; simpa using h.s1 (hl 1 (by omega))
    by_cases e2 : 52 = i
    · subst e2; simpa using h.s0 (hl 0 (by omega))
    rw [if_neg e9, if_neg e8, if_neg e7, if_neg e6, if_neg e5, if_neg e4, if_neg e3, if_neg e2]
    by_cases hi : i < 61
    · exact h.low i (by omega)
    · rw [Array.getElem?_eq_none (by omega), Array.getElem?_eq_none (by omega)]
  cases a
  simp only at hd key
  rw [hd, key]
end
section
variable {P : Program} {ops : Array Oper} {Q : Exit → Act → World → Prop} {tm : Array Value} {w : World} {k : Nat}
theorem eval_at {a : Act} {d : Nat} {v : Value} (h : a.tmps[d]? = some v) : a.eval (.tmp d) = v := by unfold Act.eval; simp [h]
def rdyB (ops : Array Oper) : Bool := [(5, 2), (5, 3), (5, 4), (6, 0), (6, 1), (6, 5), (7, 6)].all fun p => match ops[p.1]? with | some o => o.after.any (fun e => e.on == p.2 && Region.binds .any e) | none => false
theorem rdyB_spec (h : rdyB ops = true) {i j : Nat} (hp : (i, j) ∈ [(5, 2), (5, 3), (5, 4), (6, 0), (6, 1), (6, 5), (7, 6)]) {listed : Array Bool} (hi : i ∈ Region.ready .any ops listed) : listed.getD j false = true := by
  have h1 := List.all_eq_true.1 h (i, j) hp
  obtain ⟨_, o, ho, hall⟩ := mem_ready.1 hi
  simp only [ho] at h1
  obtain ⟨e, he, h2⟩ := Array.any_eq_true'.1 h1
  simp only [Bool.and_eq_true, beq_iff_eq] at h2
  rw [← h2.1]
  exact hall e he h2.2
/-- The round's region, in whatever order. -/
theorem region9 {id l f bP bT1 bT2 : Nat} {T1 T2 : TypeId} {at1 at2 : Array TypeId} {tb : TypeId} {yv pv lv bv : Value} (hyv : yv = .func (.yield l) #[] #[]) (hm : P.follows .mixedOrders = true) (h8 : ops.size = 8) (hlow : lowB ops = true) (hrdy : rdyB ops = true)
    (q0 : ∃ o : Oper, ops[0]? = some o ∧ o.guard = none ∧ o.dst = some 52 ∧ o.op = .move (.tmp 0)) (q1 : ∃ o : Oper, ops[1]? = some o ∧ o.guard = none ∧ o.dst = some 53 ∧ o.op = .load T1 (.tmp 11))
    (q2 : ∃ o : Oper, ops[2]? = some o ∧ o.guard = none ∧ o.dst = some 54 ∧ o.op = .load T2 (.tmp 1)) (q3 : ∃ o : Oper, ops[3]? = some o ∧ o.guard = none ∧ o.dst = some 55 ∧ o.op = .load T2 (.tmp 2))
    (q4 : ∃ o : Oper, ops[4]? = some o ∧ o.guard = none ∧ o.dst = some 56 ∧ o.op = .load T1 (.tmp 11)) (q5 : ∃ o : Oper, ops[5]? = some o ∧ o.guard = none ∧ o.dst = some 57 ∧ o.op = .call { callee := .value (.func f), args := #[.tmp 54, .tmp 55, .tmp 56], argTypes := at1 })
    (q6 : ∃ o : Oper, ops[6]? = some o ∧ o.guard = none ∧ o.dst = some 58 ∧ o.op = .call { callee := .value (.tmp 52), args := #[.tmp 53, .tmp 57], argTypes := at2 }) (q7 : ∃ o : Oper, ops[7]? = some o ∧ o.guard = none ∧ o.dst = some 59 ∧ o.op = .unOp .not tb (.tmp 58))
    (sz : tm.size = 61) (t0 : tm[0]? = some yv) (t1 : tm[1]? = some (.pointer (some ⟨bT1, 0, none⟩))) (t2 : tm[2]? = some (.pointer (some ⟨bT2, 0, none⟩))) (t11 : tm[11]? = some (.pointer (some ⟨bP, 0, none⟩)))
    (Bx : World → Prop) (bx1 : Bx w.drew)
    (l1 : ∀ X, Bx X → (Instr.loadAt T1 (.pointer (some ⟨bP, 0, none⟩))).run P X = .ok pv X) (l2 : ∀ X, Bx X → (Instr.loadAt T2 (.pointer (some ⟨bT1, 0, none⟩))).run P X = .ok lv X) (l3 : ∀ X, Bx X → (Instr.loadAt T2 (.pointer (some ⟨bT2, 0, none⟩))).run P X = .ok bv X)
    (eg : ∀ args w, (callFunc f args).run P w = .ok (.enter f args) w) (Bp : Bool → World → Prop) (Cp : Bool → Bool → World → Prop) (hBx : ∀ r X, Bp r X → Bx X)
    (call5 : CallsIn Fence.wide k P f #[lv, bv, pv] w.drew (fun e X => ∃ r, e = .returned (.bool r) ∧ Bp r X))
    (yld : ∀ r X, Bp r X → YieldAt Fence.wide k P l #[pv, .bool r] X (fun e Y => ∃ c, e = .returned (.bool c) ∧ Cp r c Y))
    (hend : ∀ r c X, Cp r c X → Q .normal ⟨fin9 tm yv pv lv bv r c, []⟩ X) :
    (Code.region id ops true).wpIn Fence.wide (k + 1) P Q ⟨tm, []⟩ w := by
  refine wpIn_region_inv hm hlow (fun listed a X => listed.size = 8 ∧ R9 tm w.drew yv pv lv bv Bp Cp (fun j => listed.getD j false) a X) ?_ ?_ ?_
  · refine ⟨by simp [h8], ?_⟩
    rw [h8, show (fun j => (Array.replicate 8 false).getD j false) = (fun _ => false) from funext fun j => by
      rcases Nat.lt_or_ge j 8 with h | h
      · simp [h]
      · simp [h]]
    exact R9.start sz rfl
  · rintro listed a X ⟨hs, h⟩ i hi
    obtain ⟨hun, o, ho, hall⟩ := mem_ready.1 hi
    have hlt : i < 8 := by rw [← h8]; exact (Array.getElem?_eq_some_iff.1 ho).1
    have unl : listed.getD i false = false := by
      have : i < listed.size := by omega
      simp [this] at hun ⊢
      exact hun
    have up : (fun j => (listed.setIfInBounds i true).getD j false) = upB (fun j => listed.getD j false) i := funext fun j => lset (by omega) j
    have hs' : (listed.setIfInBounds i true).size = 8 := by simpa using hs
    have ev : ∀ d v, d < 52 → tm[d]? = some v → a.eval (.tmp d) = v := fun d v hd e => eval_at ((h.low d (.inl hd)).trans e)
    have bx : listed.getD 6 false = false → Bx X := fun h6 => by
      cases e5 : listed.getD 5 false with
      | false => rw [h.p0 e5]; exact bx1
      | true =>
        obtain ⟨r, _, k2, _⟩ := h.p1 e5
        exact hBx r X (k2 h6)
    have no6 : i = 0 ∨ i = 1 ∨ i = 2 ∨ i = 3 ∨ i = 4 → listed.getD 6 false = false := fun hc => by
      cases e6 : listed.getD 6 false with
      | false => rfl
      | true =>
        obtain ⟨a0, a1, a5⟩ := h.c6 e6
        obtain ⟨a2, a3, a4⟩ := h.c5 a5
        rcases hc with rfl | rfl | rfl | rfl | rfl
        · rw [a0] at unl; cases unl
        · rw [a1] at unl; cases unl
        · rw [a2] at unl; cases unl
        · rw [a3] at unl; cases unl
        · rw [a4] at unl; cases unl
    rcases (by omega : i = 0 ∨ i = 1 ∨ i = 2 ∨ i = 3 ∨ i = 4 ∨ i = 5 ∨ i = 6 ∨ i = 7) with rfl | rfl | rfl | rfl | rfl | rfl | rfl | rfl
    · obtain ⟨o, e1, e2, e3, e4⟩ := q0
      refine wpOpIn_val e1 e2 rfl (fun _ _ => trivial) (v := yv) ?_ ⟨hs', by rw [up, e3]; exact h.put0⟩
      unfold execOp
      rw [e4]
      show (pure (Next.value (a.eval (.tmp 0))) : Sem Next).run P X = _
      rw [ev 0 _ (by decide) t0]
      rfl
    · obtain ⟨o, e1, e2, e3, e4⟩ := q1
      refine wpOpIn_val e1 e2 rfl (fun _ _ => trivial) (v := pv) ?_ ⟨hs', by rw [up, e3]; exact h.put1⟩
      unfold execOp
      rw [e4]
      show (do pure (Next.value (← Instr.loadAt _ (a.eval (.tmp 11)))) : Sem Next).run P X = _
      rw [ev 11 _ (by decide) t11]
      exact run_value (l1 X (bx (no6 (by simp))))
    · obtain ⟨o, e1, e2, e3, e4⟩ := q2
      refine wpOpIn_val e1 e2 rfl (fun _ _ => trivial) (v := lv) ?_ ⟨hs', by rw [up, e3]; exact h.put2⟩
      unfold execOp
      rw [e4]
      show (do pure (Next.value (← Instr.loadAt _ (a.eval (.tmp 1)))) : Sem Next).run P X = _
      rw [ev 1 _ (by decide) t1]
      exact run_value (l2 X (bx (no6 (by simp))))
    · obtain ⟨o, e1, e2, e3, e4⟩ := q3
      refine wpOpIn_val e1 e2 rfl (fun _ _ => trivial) (v := bv) ?_ ⟨hs', by rw [up, e3]; exact h.put3⟩
      unfold execOp
      rw [e4]
      show (do pure (Next.value (← Instr.loadAt _ (a.eval (.tmp 2)))) : Sem Next).run P X = _
      rw [ev 2 _ (by decide) t2]
      exact run_value (l3 X (bx (no6 (by simp))))
    · obtain ⟨o, e1, e2, e3, e4⟩ := q4
      refine wpOpIn_val e1 e2 rfl (fun _ _ => trivial) (v := pv) ?_ ⟨hs', by rw [up, e3]; exact h.put4⟩
      unfold execOp
      rw [e4]
      show (do pure (Next.value (← Instr.loadAt _ (a.eval (.tmp 11)))) : Sem Next).run P X = _
      rw [ev 11 _ (by decide) t11]
      exact run_value (l1 X (bx (no6 (by simp))))
    · obtain ⟨o, e1, e2, e3, e4⟩ := q5
      have a2 := rdyB_spec hrdy (j := 2) (by simp) hi
      have a3 := rdyB_spec hrdy (j := 3) (by simp) hi
      have a4 := rdyB_spec hrdy (j := 4) (by simp) hi
      have n6 : listed.getD 6 false = false := by
        cases e6 : listed.getD 6 false with
        | false => rfl
        | true => rw [(h.c6 e6).2.2] at unl; cases unl
      obtain rfl := h.p0 unl
      refine wpOpIn_op e1 e2 ⟨fun _ _ => trivial, ?_⟩
      rw [show Oper.semAt Fence.wide.round a.eval o = execOp a.eval o from rfl]
      have v2 := h.s2 a2
      have v3 := h.s3 a3
      have v4 := h.s4 a4
      have hr : (execOp a.eval o).run P w.drew = .ok (.enter f #[lv, bv, pv]) w.drew := by
        unfold execOp
        rw [e4]
        simp [resolve, invoke, go_sem, v2, v3, v4, eg]
      rw [hr]
      refine ⟨fun h => (by cases h), call5.mono ?_⟩
      rintro e Y ⟨r, rfl, hB⟩
      exact ⟨hs', by rw [up, e3]; exact h.put5 a2 a3 a4 n6 hB⟩
    · obtain ⟨o, e1, e2, e3, e4⟩ := q6
      have a0 := rdyB_spec hrdy (j := 0) (by simp) hi
      have a1 := rdyB_spec hrdy (j := 1) (by simp) hi
      have a5 := rdyB_spec hrdy (j := 5) (by simp) hi
      obtain ⟨r, k1, k2, _⟩ := h.p1 a5
      obtain ⟨fn, tmps, assign, body, hy, hR⟩ := yld r X (k2 unl)
      refine wpOpIn_op e1 e2 ⟨fun _ _ => trivial, ?_⟩
      rw [show Oper.semAt Fence.wide.round a.eval o = execOp a.eval o from rfl]
      have v0 := h.s0 a0
      rw [hyv] at v0
      have v1 := h.s1 a1
      have v5 := k1
      have hr : (execOp a.eval o).run P X = .ok (.round l fn tmps assign body) X := by
        unfold execOp
        rw [e4]
        simp [resolve, invoke, go_sem, v0, v1, v5, hy]
      rw [hr]
      refine ⟨fun h => (by cases h), hR.mono ?_⟩
      rintro e Y ⟨c, rfl, hC⟩
      exact ⟨hs', by rw [up, e3]; exact h.put6 a0 a1 a5 unl k1 hC⟩
    · obtain ⟨o, e1, e2, e3, e4⟩ := q7
      have a6 := rdyB_spec hrdy (j := 6) (by simp) hi
      obtain ⟨_, _, a5⟩ := h.c6 a6
      obtain ⟨r, k1, _, k3⟩ := h.p1 a5
      obtain ⟨c, k4, _⟩ := k3 a6
      refine wpOpIn_val e1 e2 rfl (fun _ _ => trivial) (v := .bool !c) ?_ ⟨hs', by rw [up, e3]; exact h.put7 a6 k4⟩
      unfold execOp
      rw [e4]
      simp [go_sem, k4]
  · rintro listed a X hall ⟨hs, h⟩
    obtain ⟨r, c, hC, rfl⟩ := h.fin (fun i hi => by
      have := hall i (by omega)
      have hlt : i < listed.size := by omega
      simp [hlt] at this ⊢
      exact this) sz
    exact hend r c X hC
end
end Go.Proofs.Ythlcmlngmcoknaa

/- What is proved here: the contract of the iterator of clean.steps. Condition: an image of the caller's own, a beam and a cleaning; rounds that keep what is known. -/
namespace Go.Proofs.Ythlcmlngmcoknaa
open Go.RowKit
attribute [local go_sem] Oper.semAt_some

/-- The flux of a component. -/
theorem flux_bd {z ca cb ct : Int} (h1 : 1 ≤ z) (h2 : z ≤ 1000000000) (h3 : 1 ≤ ca) (h4 : ca ≤ cb) (h5 : cb ≤ 10) (h6 : 1 ≤ ct) (h7 : ct ≤ 1000) :
    wrap64 (z * ca) = z * ca ∧ wrap64 (cb * ct) = cb * ct ∧ cb * ct ≠ 0 ∧ 0 ≤ (z * ca).tdiv (cb * ct) ∧ (z * ca).tdiv (cb * ct) ≤ 1000000000 ∧ wrap64 ((z * ca).tdiv (cb * ct)) = (z * ca).tdiv (cb * ct) := by
  have a1 : 0 ≤ z * ca := Int.mul_nonneg (by omega) (by omega)
  have a2 : z * ca ≤ z * cb := Int.mul_le_mul_of_nonneg_left h4 (by omega)
  have a3 : z * ca ≤ z * 10 := Int.mul_le_mul_of_nonneg_left (by omega) (by omega)
  have b1 : 1 * 1 ≤ cb * ct := Int.mul_le_mul (by omega) h6 (by omega) (by omega)
  have b2 : cb * ct ≤ 10 * ct := Int.mul_le_mul_of_nonneg_right h5 (by omega)
  have b3 : cb * 1 ≤ cb * ct := Int.mul_le_mul_of_nonneg_left h6 (by omega)
  have c1 : 0 ≤ (z * ca).tdiv (cb * ct) := Int.tdiv_nonneg a1 (by omega)
  have c2 : (z * ca).tdiv (cb * ct) ≤ z := by
    rw [Int.tdiv_eq_ediv_of_nonneg a1]
    refine Int.ediv_le_of_le_mul (by omega) ?_
    have : z * cb ≤ z * (cb * ct) := Int.mul_le_mul_of_nonneg_left (by omega) (by omega)
    omega
  exact ⟨Go.IntWalk.wrap64_in _ (by omega), Go.IntWalk.wrap64_in _ (by omega), by omega, c1, by omega, Go.IntWalk.wrap64_in _ (by omega)⟩
theorem MatO.keepD {X Y : World} {B Lm g D b7 : Nat} {Tr Ti : TypeId} {rest : List Value} {bb cp : Nat → Nat} {ex : Nat → List Value} {n W : Nat} {M : Nat → Nat → Int} (h : MatO X B Lm g Tr Ti rest bb cp ex n W M) (hk : KeepD D b7 X Y) (hD : Lm ≤ D) (hg : b7 ≠ g) (hb : b7 ∉ blks bb n) : MatO Y B Lm g Tr Ti rest bb cp ex n W M :=
  ⟨hk.own h.out (by have := h.base; omega) (Ne.symm hg), h.base, fun i hi => hk.own (h.row i hi) (by have := h.blk i hi; omega) (fun e => hb (by rw [← e]; exact blks_mem hi)), h.blk, h.inj⟩
theorem YieldAt.mono41 {F : Fence} {n : Nat} {P : Program} {l : Nat} {args : Array Value} {W : World} {R R' : Ending → World → Prop} (h : YieldAt F n P l args W R) (hr : ∀ e w, R e w → R' e w) : YieldAt F n P l args W R' := by
  obtain ⟨fn, tmps, assign, body, hy, hR⟩ := h
  exact ⟨fn, tmps, assign, body, hy, hR.mono hr⟩
theorem load_comp (b : Nat) (p0 p1 p2 : Int) (X : World) (o : Own X b 132 [.int .i64 p0, .int .i64 p1, .int .i64 p2]) : (Instr.loadAt 132 (.pointer (some ⟨b, 0, none⟩))).run Try.prog X = .ok (.agg #[.int .i64 p0, .int .i64 p1, .int .i64 p2]) X := by
  obtain ⟨r, f⟩ := o.rules
  simp [go_sem, r]
theorem load_img (b : Nat) (a : Option Addr) (n c : Nat) (X : World) (o : Own X b 22 [.slice a n c]) : (Instr.loadAt 22 (.pointer (some ⟨b, 0, none⟩))).run Try.prog X = .ok (.slice a n c) X := by
  obtain ⟨r, f⟩ := o.rules
  simp [go_sem, r]
theorem fin9_lit (yv pv lv bv : Value) (r c : Bool) (a0 a1 a2 a3 a4 a5 a6 a7 a8 a9 a10 a11 a12 a13 a14 a15 a16 a17 a18 a19 a20 a21 a22 a23 a24 a25 a26 a27 a28 a29 a30 a31 a32 a33 a34 a35 a36 a37 a38 a39 a40 a41 a42 a43 a44 a45 a46 a47 a48 a49 a50 a51 a52 a53 a54 a55 a56 a57 a58 a59 a60 : Value) : fin9 #[a0, a1, a2, a3, a4, a5, a6, a7, a8, a9, a10, a11, a12, a13, a14, a15, a16, a17, a18, a19, a20, a21, a22, a23, a24, a25, a26, a27, a28, a29, a30, a31, a32, a33, a34, a35, a36, a37, a38, a39, a40, a41, a42, a43, a44, a45, a46, a47, a48, a49, a50, a51, a52, a53, a54, a55, a56, a57, a58, a59, a60] yv pv lv bv r c = #[a0, a1, a2, a3, a4, a5, a6, a7, a8, a9, a10, a11, a12, a13, a14, a15, a16, a17, a18, a19, a20, a21, a22, a23, a24, a25, a26, a27, a28, a29, a30, a31, a32, a33, a34, a35, a36, a37, a38, a39, a40, a41, a42, a43, a44, a45, a46, a47, a48, a49, a50, a51, yv, pv, lv, bv, pv, .bool r, .bool c, .bool !c, a60] := by
  simp only [fin9, List.setIfInBounds_toArray, List.set_cons_succ, List.set_cons_zero]
set_option maxRecDepth 100000 in
set_option maxHeartbeats 16000000 in
theorem steps1_in (n m : Nat) (M0 N : Nat → Nat → Int) (ca cb cc cd : Int) (w0 : World) (vb : Value) (Lm g cap : Nat) (rest : List Value) (bb cp : Nat → Nat) (ex : Nat → List Value) (D b7 bT1 bT2 bT3 l : Nat) (J : List T3 → World → Prop) (Jx : World → Prop) (W : World) (k : Nat)
    (hb : BM n m N) (hcl : cleanB ca cb cc cd = true) (hr0 : inR 1000000000 n M0) (hB : IM w0 vb m N) (hw : Below w0.heap.size w0 W) (hcap : n ≤ cap) (hM : MatO W w0.heap.size Lm g 23 3 rest bb cp ex n n M0)
    (o1 : Own W bT1 22 [.slice (some ⟨g, 0, none⟩) n cap]) (o2 : Own W bT2 22 [vb]) (o3 : Own W bT3 56 [.int .i64 ca, .int .i64 cb, .int .i64 cc, .int .i64 cd])
    (hD : Lm ≤ D ∧ bT1 < D ∧ bT2 < D ∧ bT3 < D ∧ D ≤ W.heap.size ∧ w0.heap.size ≤ D) (hT : Lm ≤ bT1 ∧ Lm ≤ bT2 ∧ Lm ≤ bT3) (h7 : w0.heap.size ≤ b7 ∧ b7 ≠ g ∧ b7 ∉ blks bb n ∧ b7 ≠ bT1 ∧ b7 ≠ bT2 ∧ b7 ≠ bT3)
    (hJ : ∀ L X Y, J L X → Mod (blks bb n) X Y → J L Y)
    (hY : ∀ L (p : T3) r X, J L X → L.length < 100 → D ≤ X.heap.size → YieldAt Fence.wide k Try.prog l #[.agg #[.int .i64 p.x, .int .i64 p.y, .int .i64 p.f], .bool r] X (fun e Y => (r = true ∧ e = .returned (.bool true) ∧ J (L ++ [p]) Y ∧ KeepD D b7 X Y) ∨ (r = false ∧ e = .returned (.bool false) ∧ Jx Y ∧ Below w0.heap.size X Y)))
    (h0 : J [] W) :
    CallsIn Fence.wide (k + 1) Try.prog 131 #[.func (.yield l) #[] #[], .pointer (some ⟨bT1, 0, none⟩), .pointer (some ⟨bT2, 0, none⟩), .pointer (some ⟨bT3, 0, none⟩)] W (fun e W' => (∃ v, e = .returned v) ∧ Below w0.heap.size w0 W' ∧
      ((∃ L, J L W' ∧ LogN n L ∧ (∀ q, q ≤ L.length → inR 1000000000 n (subL N n (L.take q) M0)) ∧ MatO W' w0.heap.size Lm g 23 3 rest bb cp ex n n (subL N n L M0)) ∨ Jx W')) := by
  have HB := Lib.hid hb
  have n1 := hb.n1
  have n8 := hb.n8
  have HCL := Lib.hid hcl
  unfold cleanB at hcl
  simp only [Bool.and_eq_true, decide_eq_true_eq] at hcl
  obtain ⟨⟨⟨⟨⟨⟨d1, d2⟩, d3⟩, d4⟩, d5⟩, d6⟩, d7⟩ := hcl
  obtain ⟨st, hst⟩ : ∃ st : Nat, cd = st := ⟨cd.toNat, by omega⟩
  subst hst
  have hmn : n - 1 < m := by have := hb.hm; omega
  have CT := Lib.hid (And.intro hb.mid (hb.rng (n - 1) (n - 1) hmn hmn).2)
  have B0 := Lib.hid hB
  have HJ := Lib.hid hJ
  have HY := Lib.hid hY
  have HD := Lib.hid hD
  have HDD : Hid (Lm ≤ D ∧ bT1 < D ∧ bT2 < D ∧ bT3 < D ∧ w0.heap.size ≤ D) := ⟨hD.1, hD.2.1, hD.2.2.1, hD.2.2.2.1, hD.2.2.2.2.2⟩
  have HT := Lib.hid hT
  have H7 := Lib.hid h7
  have R0 := Lib.hid hr0
  obtain ⟨adb, capb, rfl, hb1, _, _⟩ := hB.open
  obtain ⟨_, _, e, _, _, HBo⟩ := (hB.below hw).open
  cases e
  obtain ⟨ba, ob, ba', ob', cb', rfl, cb1, cb2, HB'⟩ := HBo.out (n - 1) hmn
  have cb3 := HB'.out (n - 1) hmn
  clear HBo HB' hB hb hJ hY hD hT h7 hr0
  obtain ⟨ct, hct⟩ : ∃ ct, ct = N (n - 1) (n - 1) := ⟨_, rfl⟩
  rw [← hct] at CT cb3
  clear hct
  have e1 : (n : Int) - 1 = ((n - 1 : Nat) : Int) := by omega
  generalize n - 1 = q1 at *
  refine callsIn_of_wp Try.func131 rfl trivial ?_ rfl
  simp only [Try.ntmps131, List.size_toArray, List.length_cons, List.length_nil, Nat.reduceAdd, Nat.reduceSub, Array.replicate_succ, Array.replicate_zero, List.push_toArray, List.append_toArray, List.nil_append, List.cons_append]
  obtain ⟨r1, f1⟩ := o1.rules
  obtain ⟨r2, f2⟩ := o2.rules
  obtain ⟨r3, f3⟩ := o3.rules
  gi_wp2
  clear cb1 cb3 r1 f1 r2 f2 r3 f3
  gi_loopw [25] (fun iv wr => ∃ L : List T3, iv = .int .i64 L.length ∧ L.length ≤ st ∧ J L wr ∧ Hid (LogN n L) ∧ Hid (∀ q, q ≤ L.length → inR 1000000000 n (subL N n (L.take q) M0)) ∧ MatO wr w0.heap.size Lm g 23 3 rest bb cp ex n n (subL N n L M0) ∧
    Own wr bT1 22 [.slice (some ⟨g, 0, none⟩) n cap] ∧ Own wr bT2 22 [.slice (some ⟨ba, ob, none⟩) m capb] ∧ Own wr bT3 56 [.int .i64 ca, .int .i64 cb, .int .i64 cc, .int .i64 st] ∧ Below w0.heap.size w0 wr ∧ D ≤ wr.heap.size) (fun iv _ => st - (intOf iv).toNat)
  case atStart => exact ⟨[], rfl, Nat.zero_le _, h0, ⟨by simp, fun s hs => by simp at hs, fun s hs => by simp at hs⟩, fun q hq => by simp only [List.take_nil]; exact R0.out, hM, o1, o2, o3, hw, HD.out.2.2.2.2.1⟩
  case round =>
    clear h0 hM o1 o2 o3 hw HD R0
    obtain ⟨L, rfl, hL, hj, HL, HI, MX, o1, o2, o3, hC, hDV⟩ := hrel
    rename World => V
    by_cases hlt : L.length < st
    · have IX := MX.im hcap (by omega)
      have RC := HI.out L.length (Nat.le_refl _)
      rw [List.take_length] at RC
      obtain ⟨r1, f1⟩ := o1.rules
      gi_wp2_with fail
      refine ⟨trivial, ?_⟩
      refine (callsIn_wide.2 (brightest_any n _ _ _ IX n1)).mono ?_
      rintro e y1 ⟨x, y, hx, hy, rfl, hq⟩
      replace hj := HJ.out _ _ _ hj (Mod.of_below hq)
      replace MX := MX.below hq
      replace o1 := o1.below hq
      replace o2 := o2.below hq
      replace o3 := o3.below hq
      replace hC := below_to hC hq
      replace hDV : D ≤ y1.heap.size := by have := hq.size; omega
      clear r1 f1 hq IX
      have ZB := RC y x hy hx
      clear RC
      generalize subL N n L M0 y x = z at *
      obtain ⟨r3, f3⟩ := o3.rules
      by_cases g1 : z < cc
      · have q1' : decide (z < cc) = true := by simpa using g1
        gi_wp2
        refine bodyPost_ret (results_none rfl _ _ _) rfl ?_
        exact ⟨⟨_, rfl⟩, hC, .inl ⟨L, hj, HL.out, HI.out, MX⟩⟩
      have q1' : decide (z < cc) = false := by simpa using g1
      obtain ⟨w1, w2, ne, fl0, fl1, w3⟩ := flux_bd (z := z) (ca := ca) (cb := cb) (ct := ct) (by omega) (by omega) d1 d2 d3 (by have := CT.out; omega) CT.out.2
      have nb : (cb * ct == 0) = false := by simpa using ne
      by_cases g2 : (z * ca).tdiv (cb * ct) = 0
      · have q2 : ((z * ca).tdiv (cb * ct) == 0) = true := by simpa using g2
        gi_wp2
        refine bodyPost_ret (results_none rfl _ _ _) rfl ?_
        exact ⟨⟨_, rfl⟩, hC, .inl ⟨L, hj, HL.out, HI.out, MX⟩⟩
      have q2 : ((z * ca).tdiv (cb * ct) == 0) = false := by simpa using g2
      have oP := Own.new y1 132 [.int .i64 x, .int .i64 y, .int .i64 ((z * ca).tdiv (cb * ct))]
      have hP := ba1 y1 (.cells #[.int .i64 x, .int .i64 y, .int .i64 ((z * ca).tdiv (cb * ct))] 132)
      gi_wp2_with fail
      clear r3 f3 w1 w2 w3 ne nb q1' q2 g2
      generalize (z * ca).tdiv (cb * ct) = fl at *
      obtain ⟨bP, hbP⟩ : ∃ B, B = y1.heap.size := ⟨_, rfl⟩
      rw [← hbP] at oP ⊢
      have hPD : D ≤ bP := by omega
      clear hbP
      generalize y1.alloc (.cells #[.int .i64 x, .int .i64 y, .int .i64 fl] 132) = y2 at *
      replace hj := HJ.out _ _ _ hj (Mod.of_below hP)
      replace MX := (MX.below hP).below (Below.refl _ y2).drew
      replace o1 := o1.below hP
      replace o2 := o2.below hP
      replace o3 := o3.below hP
      replace hC := below_to hC hP
      replace hDV : D ≤ y2.heap.size := by have := hP.size; omega
      clear hP
      obtain ⟨p, hp⟩ : ∃ p : T3, p = ⟨x, y, fl⟩ := ⟨_, rfl⟩
      have px : p.x = x := by rw [hp]
      have py : p.y = y := by rw [hp]
      have pf : p.f = fl := by rw [hp]
      clear hp
      have hdr := (Below.refl y2.heap.size y2).drew
      have RC := HI.out L.length (Nat.le_refl _)
      rw [List.take_length] at RC
      have BL := Lib.hid MX.blksB
      have NI : ∀ b, Lm ≤ b → b ∉ blks bb n := fun b hb h => by have := BL.out b h; omega
      have hT := HT.out
      have hDD := HDD.out
      have h7 := H7.out
      have S0 := subL_snoc N n p L M0
      refine region9 (f := 91) (l := l) (bP := bP) (bT1 := bT1) (bT2 := bT2) (yv := .func (.yield l) #[] #[]) (pv := .agg #[.int .i64 x, .int .i64 y, .int .i64 fl]) (lv := .slice (some ⟨g, 0, none⟩) n cap) (bv := .slice (some ⟨ba, ob, none⟩) m capb) rfl (by kernel_rfl) (by kernel_rfl) (by kernel_rfl) (by kernel_rfl)
        ⟨_, rfl, rfl, rfl, rfl⟩ ⟨_, rfl, rfl, rfl, rfl⟩ ⟨_, rfl, rfl, rfl, rfl⟩ ⟨_, rfl, rfl, rfl, rfl⟩ ⟨_, rfl, rfl, rfl, rfl⟩ ⟨_, rfl, rfl, rfl, rfl⟩ ⟨_, rfl, rfl, rfl, rfl⟩ ⟨_, rfl, rfl, rfl, rfl⟩ rfl rfl rfl rfl rfl
        (fun X => J L X ∧ Below w0.heap.size w0 X ∧ D ≤ X.heap.size ∧ Own X bP 132 [.int .i64 x, .int .i64 y, .int .i64 fl] ∧ Own X bT1 22 [.slice (some ⟨g, 0, none⟩) n cap] ∧ Own X bT2 22 [.slice (some ⟨ba, ob, none⟩) m capb] ∧ Own X bT3 56 [.int .i64 ca, .int .i64 cb, .int .i64 cc, .int .i64 st])
        ⟨HJ.out _ _ _ hj (Mod.of_below hdr), below_to hC hdr, hDV, oP.below hdr, o1.below hdr, o2.below hdr, o3.below hdr⟩
        (fun X hX => load_comp bP _ _ _ X hX.2.2.2.1) (fun X hX => load_img bT1 _ _ _ X hX.2.2.2.2.1) (fun X hX => load_img bT2 _ _ _ X hX.2.2.2.2.2.1) (enters_of Try.func91 (by kernel_rfl) rfl)
        (fun r X => (J L X ∧ Below w0.heap.size w0 X ∧ D ≤ X.heap.size ∧ Own X bP 132 [.int .i64 x, .int .i64 y, .int .i64 fl] ∧ Own X bT1 22 [.slice (some ⟨g, 0, none⟩) n cap] ∧ Own X bT2 22 [.slice (some ⟨ba, ob, none⟩) m capb] ∧ Own X bT3 56 [.int .i64 ca, .int .i64 cb, .int .i64 cc, .int .i64 st]) ∧
          (r = true → inR 1000000000 n (subL N n (L ++ [p]) M0) ∧ MatO X w0.heap.size Lm g 23 3 rest bb cp ex n n (subL N n (L ++ [p]) M0)))
        (fun r c Y => Below w0.heap.size w0 Y ∧ ((c = true ∧ J (L ++ [p]) Y ∧ inR 1000000000 n (subL N n (L ++ [p]) M0) ∧ MatO Y w0.heap.size Lm g 23 3 rest bb cp ex n n (subL N n (L ++ [p]) M0) ∧
          Own Y bT1 22 [.slice (some ⟨g, 0, none⟩) n cap] ∧ Own Y bT2 22 [.slice (some ⟨ba, ob, none⟩) m capb] ∧ Own Y bT3 56 [.int .i64 ca, .int .i64 cb, .int .i64 cc, .int .i64 st] ∧ D ≤ Y.heap.size) ∨ (c = false ∧ Jx Y)))
        (fun r X h => h.1) ?call ?yld ?fin
      case call =>
        have hS := subtract_any n m (subL N n L M0) N p w0 Lm g cap rest bb cp ex (.slice (some ⟨ba, ob, none⟩) m capb) y2.drew MX (below_to hC hdr) B0.out HB.out RC ⟨by omega, by omega⟩
        rw [px, py, pf, ← S0] at hS
        refine (callsIn_wide.2 hS).mono ?_
        rintro e X ⟨r, rfl, hm, k1, k2⟩
        exact ⟨r, rfl, ⟨HJ.out _ _ _ (HJ.out _ _ _ hj (Mod.of_below hdr)) hm, hm.below (below_to hC hdr) (fun b hb => (BL.out b hb).1), Nat.le_trans hDV hm.size, hm.own (oP.below hdr) (NI _ (by omega)), hm.own (o1.below hdr) (NI _ (by omega)), hm.own (o2.below hdr) (NI _ (by omega)), hm.own (o3.below hdr) (NI _ (by omega))⟩, k1⟩
      case yld =>
        rintro r X ⟨⟨j1, j2, j3, j4, j5, j6, j7⟩, k1⟩
        have hy := HY.out L p r X j1 (by omega) j3
        rw [px, py, pf] at hy
        refine YieldAt.mono41 hy ?_
        rintro e Y (⟨rfl, rfl, jj, kk⟩ | ⟨rfl, rfl, jj, kk⟩)
        · obtain ⟨k3, k4⟩ := k1 rfl
          exact ⟨true, rfl, kk.below j2 (by omega) h7.1, .inl ⟨rfl, jj, k3, k4.keepD kk (by omega) h7.2.1 h7.2.2.1, kk.own j5 (by omega) (Ne.symm h7.2.2.2.1), kk.own j6 (by omega) (Ne.symm h7.2.2.2.2.1), kk.own j7 (by omega) (Ne.symm h7.2.2.2.2.2), Nat.le_trans j3 kk.size⟩⟩
        · exact ⟨false, rfl, j2.trans kk, .inr ⟨rfl, jj⟩⟩
      case fin =>
        rintro r c X ⟨hX, (⟨rfl, k1, k2, k3, k4, k5, k6, k7⟩ | ⟨rfl, k1⟩)⟩
        · rw [fin9_lit]
          have LN : LogN n (L ++ [p]) := by
            obtain ⟨l1, l2, l3⟩ := HL.out
            refine ⟨by simp; omega, ?_, ?_⟩
            · intro s hs
              rcases List.mem_append.1 hs with h | h
              · exact l2 s h
              · rw [List.mem_singleton.1 h, px, py]; omega
            · intro s hs
              rcases List.mem_append.1 hs with h | h
              · exact l3 s h
              · rw [List.mem_singleton.1 h, pf]; omega
          have IN : ∀ q, q ≤ (L ++ [p]).length → inR 1000000000 n (subL N n ((L ++ [p]).take q) M0) := by
            intro q hq
            rcases Nat.lt_or_ge L.length q with h | h
            · rw [List.take_of_length_le (by simp at hq ⊢; omega)]; exact k2
            · rw [List.take_append_of_le_length h]; exact HI.out q h
          clear S0 BL NI hdr RC MX oP
          gi_wp2
          go_roundw
          case rel => exact ⟨L ++ [p], by simp [go_sem], by simp; omega, k1, LN, IN, k3, k4, k5, k6, hX, k7⟩
          case measure =>
            simp only [intOf]
            have : (st : Int) ≤ 100 := by omega
            omega
        · rw [fin9_lit]
          gi_wp2
          refine bodyPost_ret (results_none rfl _ _ _) rfl ?_
          exact ⟨⟨_, rfl⟩, hX, .inr k1⟩
    · have hE : L.length = st := by omega
      gi_wp2
      refine ⟨rfl, _, results_none rfl _ _ _, ?_⟩
      exact ⟨⟨_, rfl⟩, hC, .inl ⟨L, hj, HL.out, HI.out, MX⟩⟩
end Go.Proofs.Ythlcmlngmcoknaa

/- What is proved here: what the caller of clean.steps holds between two rounds; the contract of clean.steps. Condition: images of the caller's own. -/
namespace Go.Proofs.Ythlcmlngmcoknaa
open Go.RowKit

theorem set_same41 {w : World} {b : Nat} {T : TypeId} {v : Value} (h : Own w b T [v]) : w.setCell ⟨b, 0, none⟩ v = w := by
  unfold Own at h
  have key : ∀ f : Obj → Obj, f (.cells #[v] T) = .cells #[v] T → w.heap.modify b f = w.heap := fun f hf => by
    apply Array.ext_getElem?
    intro i
    rw [Array.getElem?_modify]
    split
    · next e => subst e; rw [h]; simp [hf]
    · rfl
  unfold World.setCell
  rw [key _ (by simp)]
theorem MatO.down {w : World} {B B' Lm g : Nat} {Tr Ti : TypeId} {rest : List Value} {bb cp : Nat → Nat} {ex : Nat → List Value} {n W : Nat} {M : Nat → Nat → Int} (h : MatO w B Lm g Tr Ti rest bb cp ex n W M) (hB : B' ≤ B) : MatO w B' Lm g Tr Ti rest bb cp ex n W M :=
  ⟨h.out, ⟨by have := h.base; omega, h.base.2⟩, h.row, fun i hi => by have := h.blk i hi; omega, h.inj⟩
theorem owns_mod {w w' : World} {B : Nat} {T : TypeId} {size : Nat} {v : Value} {n : Nat} {cs : List Value} {bs : List Nat} (h : w.ownsRow B T size v n cs) (hm : Mod bs w w') (hb : ∀ b ∈ bs, b < B) : w'.ownsRow B T size v n cs := by
  obtain ⟨h1, h2⟩ := h
  refine ⟨h1, ?_⟩
  rcases h2 with h2 | ⟨g, cap, cur, e, hB, hg, h3⟩
  · exact .inl h2
  · refine .inr ⟨g, cap, cur, e, hB, ?_, h3⟩
    rw [hm.block g (Array.getElem?_eq_some_iff.1 hg).1 (fun hh => by have := hb g hh; omega)]
    exact hg
theorem owns_put {w : World} {B : Nat} {T : TypeId} {size : Nat} {v : Value} {n : Nat} {cs : List Value} (h : w.ownsRow B T size v n cs) {l : Nat} (hl : l < B) (o : Obj) : (w.putObj l o).ownsRow B T size v n cs := by
  obtain ⟨h1, h2⟩ := h
  refine ⟨h1, ?_⟩
  rcases h2 with h2 | ⟨g, cap, cur, e, hB, hg, h3⟩
  · exact .inl h2
  · exact .inr ⟨g, cap, cur, e, hB, (World.putObj_heap_other (by omega)).trans hg, h3⟩
theorem own_put {w : World} {b : Nat} {T : TypeId} {cs : List Value} (h : Own w b T cs) {l : Nat} (hl : b ≠ l) (o : Obj) : Own (w.putObj l o) b T cs := (World.putObj_heap_other hl).trans h
/-- What the caller of steps holds between two rounds. -/
structure JS (w0 : World) (b6 b7 b8 D n g cap : Nat) (L : List T3) (X : World) : Prop where
  lt : b6 < D ∧ b7 < D ∧ b8 < D ∧ b6 ≠ b7 ∧ b6 ≠ b8 ∧ b7 ≠ b8 ∧ w0.heap.size ≤ D ∧ w0.heap.size ≤ b6 ∧ w0.heap.size ≤ b7 ∧ w0.heap.size ≤ b8
  o6 : Own X b6 22 [.slice (some ⟨g, 0, none⟩) n cap]
  row : ∃ a c, Own X b7 68 [.slice a L.length c] ∧ X.ownsRow (D + 2) 132 3 (.slice a L.length c) L.length (tcs L)
  o8 : Own X b8 30 [.int .i64 0]
  bel : Below w0.heap.size w0 X
  siz : D + 2 ≤ X.heap.size
/-- What it holds when the cleaning is given up. -/
structure JX (w0 : World) (b6 b7 b8 D : Nat) (X : World) : Prop where
  lt : b6 < D ∧ b7 < D ∧ b8 < D ∧ w0.heap.size ≤ D
  o6 : Own X b6 22 [.slice none 0 0]
  o7 : Own X b7 68 [.slice none 0 0]
  o8 : Own X b8 30 [.int .i64 16]
  bel : Below w0.heap.size w0 X
  siz : D + 2 ≤ X.heap.size
section
variable {w0 X Y : World} {b6 b7 b8 D n g cap : Nat} {L : List T3}
theorem JS.put (h : JS w0 b6 b7 b8 D n g cap L X) {l : Nat} (h1 : D ≤ l) (h2 : l < D + 2) (o : Obj) : JS w0 b6 b7 b8 D n g cap L (X.putObj l o) := by
  obtain ⟨lt, o6, ⟨a, c, o7, r⟩, o8, bel, siz⟩ := h
  exact ⟨lt, own_put o6 (by omega) o, ⟨a, c, own_put o7 (by omega) o, owns_put r h2 o⟩, own_put o8 (by omega) o, (KeepD.putObj (b7 := D) (KeepD.refl D D X) h1 o).below bel lt.2.2.2.2.2.2.1 lt.2.2.2.2.2.2.1, by simpa using siz⟩
theorem JX.put (h : JX w0 b6 b7 b8 D X) {l : Nat} (h1 : D ≤ l) (o : Obj) : JX w0 b6 b7 b8 D (X.putObj l o) := by
  obtain ⟨lt, o6, o7, o8, bel, siz⟩ := h
  exact ⟨lt, own_put o6 (by omega) o, own_put o7 (by omega) o, own_put o8 (by omega) o, (KeepD.putObj (b7 := D) (KeepD.refl D D X) h1 o).below bel lt.2.2.2 lt.2.2.2, by simpa using siz⟩
theorem JS.mod (h : JS w0 b6 b7 b8 D n g cap L X) {bs : List Nat} (hm : Mod bs X Y) (hb : ∀ b ∈ bs, w0.heap.size ≤ b ∧ b < D ∧ b ≠ b6 ∧ b ≠ b7 ∧ b ≠ b8) : JS w0 b6 b7 b8 D n g cap L Y := by
  obtain ⟨lt, o6, ⟨a, c, o7, r⟩, o8, bel, siz⟩ := h
  exact ⟨lt, hm.own o6 (fun hh => (hb _ hh).2.2.1 rfl), ⟨a, c, hm.own o7 (fun hh => (hb _ hh).2.2.2.1 rfl), owns_mod r hm (fun b hh => by have := hb b hh; omega)⟩, hm.own o8 (fun hh => (hb _ hh).2.2.2.2 rfl), hm.below bel (fun b hh => (hb b hh).1), Nat.le_trans siz hm.size⟩
end
set_option maxRecDepth 100000 in
set_option maxHeartbeats 4000000 in
theorem steps_any (a1 a2 : Option Addr) (n1 c1 n2 c2 : Nat) (ca cb cc cd : Int) (w : World) :
    Calls Try.prog 88 #[.slice a1 n1 c1, .slice a2 n2 c2, .agg #[.int .i64 ca, .int .i64 cb, .int .i64 cc, .int .i64 cd]] w fun e W =>
      e = .returned (.func (.func 131) #[] #[.pointer (some ⟨w.heap.size, 0, none⟩), .pointer (some ⟨w.heap.size + 1, 0, none⟩), .pointer (some ⟨w.heap.size + 2, 0, none⟩)]) ∧
      Own W w.heap.size 22 [.slice a1 n1 c1] ∧ Own W (w.heap.size + 1) 22 [.slice a2 n2 c2] ∧ Own W (w.heap.size + 2) 56 [.int .i64 ca, .int .i64 cb, .int .i64 cc, .int .i64 cd] ∧ Below w.heap.size w W ∧ W.heap.size = w.heap.size + 3 := by
  have p1 := Own.new w 22 [.slice a1 n1 c1]
  have p2 := Own.new (w.alloc (.cells #[.slice a1 n1 c1] 22)) 22 [.slice a2 n2 c2]
  have p3 := Own.new ((w.alloc (.cells #[.slice a1 n1 c1] 22)).alloc (.cells #[.slice a2 n2 c2] 22)) 56 [.int .i64 ca, .int .i64 cb, .int .i64 cc, .int .i64 cd]
  simp only [World.size_alloc] at p2 p3
  have q1 := (p1.alloc (.cells #[.slice a2 n2 c2] 22)).alloc (.cells #[.int .i64 ca, .int .i64 cb, .int .i64 cc, .int .i64 cd] 56)
  have q2 := p2.alloc (.cells #[.int .i64 ca, .int .i64 cb, .int .i64 cc, .int .i64 cd] 56)
  have q := ba3 w (.cells #[.slice a1 n1 c1] 22) (.cells #[.slice a2 n2 c2] 22) (.cells #[.int .i64 ca, .int .i64 cb, .int .i64 cc, .int .i64 cd] 56)
  go_enter Try.func88, Try.ntmps88
  go_wp2
  refine bodyPost_ret (v := .func (.func 131) #[] #[.pointer (some ⟨w.heap.size, 0, none⟩), .pointer (some ⟨w.heap.size + 1, 0, none⟩), .pointer (some ⟨w.heap.size + 2, 0, none⟩)]) (by simp [results, Try.results88, go_sem]) rfl ⟨rfl, q1, q2, p3, q, by simp⟩
end Go.Proofs.Ythlcmlngmcoknaa
