/- What is proved here: contracts of functions and plain facts, several texts in one; each one says ahead what it proves, and its conditions. -/
import Derived.Test.YtpjhiojdnebgoaaC01
import Derived.Test.YtpjhiojdnebgoaaC36
/- What is proved here: a region that draws its order, in which new blocks are made at any moment while calls and appends to rows of the call's own follow one another, may be walked in one order; what the new blocks hold may come from slots that were read before. No condition but the Bool that is asked. -/
namespace Go.Proofs.Ytpjhiojdnebgoaa
open Go.RowKit

/-- Slots hold values. -/
def Hold (sl : List (Nat × Value)) (a : Act) : Prop := ∀ p ∈ sl, a.tmps[p.1]? = some p.2
section
variable {P : Program} {ops : Array Oper} {Q : Exit → Act → World → Prop} {S : World → Prop} {sl : List (Nat × Value)} {fv : Nat → Option FlS} {M : Nat → Bool} {K : Act → World → Prop}

/-- The walk: new blocks where they are first wanted, and the operations that follow one another; memory may grow before each. -/
def wpFt (P : Program) (ops : Array Oper) (Q : Exit → Act → World → Prop) (S : World → Prop) (sl : List (Nat × Value)) (fv : Nat → Option FlS) (K : Act → World → Prop) : List It → List Nat → Act → World → Prop
  | [], _, a, w => ∀ w1, Below w.heap.size w w1 → K a w1
  | .fl k :: r, bs, a, w => match fv k with
    | some f => ∀ b w1, Below w.heap.size w w1 → Own w1 b f.T f.zs → b ∉ bs → Hold sl (a.put ((ops[k]?).bind (·.dst)) (f.val b)) ∧ wpFt P ops Q S sl fv K r (b :: bs) (a.put ((ops[k]?).bind (·.dst)) (f.val b)) w1
    | none => False
  | .op i :: r, bs, a, w => match ops[i]? with
    | some o => ∀ w1, Below w.heap.size w w1 → o.wp P a w1 (fun a' w' => Mod bs w1 w' ∧ S w' ∧ Hold sl a' ∧ wpFt P ops Q S sl fv K r bs a' w') Q
    | none => False
  | .tk i :: r, bs, a, w => wpQuiet P ops (fun _ => True) (fun a' => Hold sl a' ∧ wpFt P ops Q S sl fv K r bs a' w) (opsAt ops [i]) a
theorem hold_put {d : Option Tmp} {v : Value} {a : Act} (hd : ∀ x, d = some x → x ∉ sl.map (·.1)) (h : Hold sl a) : Hold sl (a.put d v) := fun p hp => by
  cases d with
  | none => exact h p hp
  | some x =>
    have hx := hd x rfl
    have hne : x ≠ p.1 := fun e => hx (by rw [e]; exact List.mem_map.2 ⟨p, hp, rfl⟩)
    have := h p hp
    simp only [Act.put]
    rw [Array.getElem?_setIfInBounds_ne hne]; exact this
theorem hold_putE (hsl : ∀ k f, fv k = some f → ∀ x, dstOf ops k = some x → x ∉ sl.map (·.1)) : ∀ (e : List (Nat × Nat)) (a : Act), (∀ p ∈ e, ∃ f, fv p.1 = some f) → Hold sl a → Hold sl (putE ops fv e a)
  | [], _, _, h => h
  | (k, b) :: e, a, he, h => by
    obtain ⟨f, hf⟩ := he (k, b) (by simp)
    simp only [putE]
    exact hold_put (hsl k f hf) (hold_putE hsl e a (fun p hp => he p (List.mem_cons_of_mem _ hp)) h)

def FtC (P : Program) (ops : Array Oper) (Q : Exit → Act → World → Prop) (S : World → Prop) (sl : List (Nat × Value)) (fv : Nat → Option FlS) (M : Nat → Bool) (tl : List Nat) (n : Nat) (items : List It) : Prop :=
    ∀ (U : List Nat) (early : List (Nat × Nat)) (L listed : Array Bool) (bs : List Nat) (a : Act) (w w' : World),
      Hold sl a → (∀ j, M j = true → L.getD j false = true) → wpFt P ops Q S sl fv (fun a w => wpList P ops Q (opsAt ops tl) a w) items bs a w → Below w.heap.size w w' → S w' →
      (∀ p ∈ early, ∃ f, fv p.1 = some f ∧ Own w' p.2 f.T f.zs ∧ p.2 ∉ bs) → (early.map (·.1)).Nodup → (early.map (·.2)).Nodup → (∀ b ∈ bs, b < w'.heap.size) →
      (∀ k, k ∈ floatsOf items ↔ k ∈ U ∨ ∃ b, (k, b) ∈ early) → (∀ k ∈ U, ∀ b, (k, b) ∉ early) → (∀ k ∈ U, ∃ f, fv k = some f) → (floatsOf items).Nodup → U.Nodup → LR U L listed → Closed ops listed → itB ops tl items L = true → n = U.length + opsC items →
      wpAnyX P ops Q S (fun j => !tl.contains j) (tl.length + n) listed (putE ops fv early a) w'

/-- A new block that was made early, where it is wanted. -/
theorem Ft_eat {tl : List Nat} (hdd : ∀ k k' f f', fv k = some f → fv k' = some f' → k ≠ k' → ∀ x, dstOf ops k = some x → dstOf ops k' ≠ some x) {n : Nat} {r : List It} {k : Nat} (ih : FtC P ops Q S sl fv M tl n r)
    {U : List Nat} {early : List (Nat × Nat)} {L listed : Array Bool} {bs : List Nat} {a : Act} {w w' : World} {b : Nat} (hkb : (k, b) ∈ early)
    (_ : Hold sl a) (hM : ∀ j, M j = true → L.getD j false = true) (h : wpFt P ops Q S sl fv (fun a w => wpList P ops Q (opsAt ops tl) a w) (.fl k :: r) bs a w) (hb : Below w.heap.size w w') (hb0 : S w')
    (he : ∀ p ∈ early, ∃ f, fv p.1 = some f ∧ Own w' p.2 f.T f.zs ∧ p.2 ∉ bs) (he1 : (early.map (·.1)).Nodup) (he2 : (early.map (·.2)).Nodup) (hbs : ∀ b ∈ bs, b < w'.heap.size)
    (hf : ∀ k', k' ∈ floatsOf (.fl k :: r) ↔ k' ∈ U ∨ ∃ b, (k', b) ∈ early) (hUe : ∀ k ∈ U, ∀ b, (k, b) ∉ early) (hUf : ∀ k ∈ U, ∃ f, fv k = some f) (hfn : (floatsOf (.fl k :: r)).Nodup) (hUn : U.Nodup) (hLR : LR U L listed) (hcl : Closed ops listed) (hB : itB ops tl (.fl k :: r) L = true) (hn : n = U.length + opsC (.fl k :: r)) :
    wpAnyX P ops Q S (fun j => !tl.contains j) (tl.length + n) listed (putE ops fv early a) w' := by
  obtain ⟨f, hfk, ho, hnb⟩ := he (k, b) hkb
  simp only [floatsOf, List.nodup_cons] at hfn
  have hdist : ∀ p ∈ early, ∀ q ∈ early, p.1 ≠ q.1 → ∀ x, dstOf ops p.1 = some x → dstOf ops q.1 ≠ some x := fun p hp q hq hne x hx => by
    obtain ⟨f1, h1, _⟩ := he p hp
    obtain ⟨f2, h2, _⟩ := he q hq
    exact hdd p.1 q.1 f1 f2 h1 h2 hne x hx
  obtain ⟨e', g1, g2, g3, g4⟩ := putE_take (fv := fv) early a hkb he1 hdist
  rw [g1, hfk]
  simp only [wpFt, hfk] at h
  simp only [itB, Bool.and_eq_true] at hB
  refine ih U e' L listed (b :: bs) _ w' w' (h b w' hb ho hnb).1 hM (h b w' hb ho hnb).2 (Below.refl _ _) hb0 (fun p hp => ?_) g3 (g4 he2) (fun x hx => ?_) (fun k' => ?_) (fun k' hk' b' hb' => hUe k' hk' b' ((g2 _).1 hb').1) hUf hfn.2 hUn hLR hcl hB.2 hn
  · obtain ⟨hp1, hp2⟩ := (g2 p).1 hp
    obtain ⟨f1, h1, h2, h4⟩ := he p hp1
    refine ⟨f1, h1, h2, fun hm => ?_⟩
    rcases List.mem_cons.1 hm with e | hm
    · exact hp2 (by rw [nodup2 he2 hp1 hkb e])
    · exact h4 hm
  · rcases List.mem_cons.1 hx with rfl | hx
    · exact ho.lt
    · exact hbs x hx
  · have h1 := hf k'
    simp only [floatsOf, List.mem_cons] at h1
    constructor
    · intro hm
      rcases h1.1 (.inr hm) with h2 | ⟨b', h2⟩
      · exact .inl h2
      · exact .inr ⟨b', (g2 _).2 ⟨h2, fun e => hfn.1 (by simp only at e; rw [← e]; exact hm)⟩⟩
    · intro hm
      have h3 : k' = k ∨ k' ∈ floatsOf r := h1.2 (hm.imp id (fun ⟨b', hb'⟩ => ⟨b', ((g2 _).1 hb').1⟩))
      rcases h3 with rfl | h3
      · rcases hm with hm | ⟨b', hb'⟩
        · exact absurd hkb (hUe _ hm b)
        · exact absurd rfl ((g2 _).1 hb').2
      · exact h3

/-- A new block is made, early or in time. -/
theorem Ft_make (hSB : ∀ w w', S w → Below w.heap.size w w' → S w') {tl : List Nat} (hsl : ∀ k f, fv k = some f → ∀ x, dstOf ops k = some x → x ∉ sl.map (·.1)) (hfl : ∀ k f, fv k = some f → ∃ o, ops[k]? = some o ∧ o.guard.isNone = true ∧ (∀ e ∈ o.after, Region.binds .any e = true → M e.on = true) ∧ ∀ (a : Act) w, Hold sl a → (execOp a.eval o).run P w = .ok (.value (f.val w.heap.size)) (w.alloc (.cells f.zs.toArray f.T (0, 0))))
    {n : Nat} {items : List It} (ih : FtC P ops Q S sl fv M tl n items) {U : List Nat} {early : List (Nat × Nat)} {L listed : Array Bool} {bs : List Nat} {a : Act} {w w' : World} {j : Nat} (hj : j ∈ U) (hjr : j ∈ Region.ready .any ops listed)
    (hA : Hold sl a) (hM : ∀ j, M j = true → L.getD j false = true) (h : wpFt P ops Q S sl fv (fun a w => wpList P ops Q (opsAt ops tl) a w) items bs a w) (hb : Below w.heap.size w w') (hb0 : S w')
    (he : ∀ p ∈ early, ∃ f, fv p.1 = some f ∧ Own w' p.2 f.T f.zs ∧ p.2 ∉ bs) (he1 : (early.map (·.1)).Nodup) (he2 : (early.map (·.2)).Nodup) (hbs : ∀ b ∈ bs, b < w'.heap.size)
    (hf : ∀ k', k' ∈ floatsOf items ↔ k' ∈ U ∨ ∃ b, (k', b) ∈ early) (hUe : ∀ k ∈ U, ∀ b, (k, b) ∉ early) (hUf : ∀ k ∈ U, ∃ f, fv k = some f) (hfn : (floatsOf items).Nodup) (hUn : U.Nodup) (hLR : LR U L listed) (hcl : Closed ops listed) (hB : itB ops tl items L = true) (hn : n + 1 = U.length + opsC items) :
    wpOp P ops Q j (fun a' x' => ((!tl.contains j) = true → S x') ∧ wpAnyX P ops Q S (fun j => !tl.contains j) (tl.length + n) (listed.setIfInBounds j true) a' x') (putE ops fv early a) w' := by
  obtain ⟨f, hfj⟩ := hUf j hj
  obtain ⟨o, ho, hg, _, hrun⟩ := hfl j f hfj
  unfold wpOp
  simp only [ho, wanted_none hg, if_true]
  refine .inl ?_
  unfold Oper.wp
  rw [hrun _ _ (hold_putE hsl early a (fun p hp => let ⟨f1, h1, _⟩ := he p hp; ⟨f1, h1⟩) hA)]
  simp only [Oper.upon]
  have hbn := ba1 w' (.cells f.zs.toArray f.T (0, 0))
  have key := ih (U.erase j) ((j, w'.heap.size) :: early) L (listed.setIfInBounds j true) bs a w (w'.alloc (.cells f.zs.toArray f.T (0, 0))) hA hM h (below_to hb hbn) (hSB _ _ hb0 hbn) ?_ ?_ ?_ ?_ ?_ ?_ ?_ hfn (hUn.erase j) (hLR.setU hj hUn) (hcl.set hjr) hB (by rw [List.length_erase_of_mem hj]; have := List.length_pos_of_mem hj; omega)
  · have e : putE ops fv ((j, w'.heap.size) :: early) a = (putE ops fv early a).put o.dst (f.val w'.heap.size) := by simp [putE, dstOf, ho, hfj]
    rw [e] at key
    exact ⟨fun _ => hSB _ _ hb0 hbn, key⟩
  · intro p hp
    rcases List.mem_cons.1 hp with rfl | hp
    · exact ⟨f, hfj, Own.new w' f.T f.zs, fun hm => Nat.lt_irrefl _ (hbs _ hm)⟩
    · obtain ⟨f1, h1, h2, h4⟩ := he p hp
      exact ⟨f1, h1, h2.below hbn, h4⟩
  · simp only [List.map_cons, List.nodup_cons]
    exact ⟨fun hm => by obtain ⟨p, hp, e⟩ := List.mem_map.1 hm; exact hUe j hj p.2 (by rw [← e]; exact hp), he1⟩
  · simp only [List.map_cons, List.nodup_cons]
    refine ⟨fun hm => ?_, he2⟩
    obtain ⟨p, hp, e⟩ := List.mem_map.1 hm
    obtain ⟨_, _, h2, _⟩ := he p hp
    have := h2.lt
    omega
  · exact fun b hm => Nat.lt_of_lt_of_le (hbs b hm) hbn.size
  · intro k'
    rw [hf k']
    constructor
    · rintro (h1 | ⟨b, h1⟩)
      · by_cases e : k' = j
        · subst e; exact .inr ⟨w'.heap.size, by simp⟩
        · exact .inl ((List.mem_erase_of_ne e).2 h1)
      · exact .inr ⟨b, List.mem_cons_of_mem _ h1⟩
    · rintro (h1 | ⟨b, h1⟩)
      · exact .inl (List.mem_of_mem_erase h1)
      · rcases List.mem_cons.1 h1 with e | h1
        · cases e; exact .inl hj
        · exact .inr ⟨b, h1⟩
  · intro k' hk' b hm
    rcases List.mem_cons.1 hm with e | hm
    · cases e; exact (List.Nodup.not_mem_erase hUn) hk'
    · exact hUe k' (List.mem_of_mem_erase hk') b hm
  · exact fun k' hk' => hUf k' (List.mem_of_mem_erase hk')

theorem ready_ft {U : List Nat} {L listed : Array Bool} (hfl : ∀ k f, fv k = some f → ∃ o, ops[k]? = some o ∧ o.guard.isNone = true ∧ (∀ e ∈ o.after, Region.binds .any e = true → M e.on = true) ∧ ∀ (a : Act) w, Hold sl a → (execOp a.eval o).run P w = .ok (.value (f.val w.heap.size)) (w.alloc (.cells f.zs.toArray f.T (0, 0))))
    (hMd : ∀ k f, fv k = some f → M k = false) (hM : ∀ j, M j = true → L.getD j false = true) (hUf : ∀ k ∈ U, ∃ f, fv k = some f) (hLR : LR U L listed) {k : Nat} {f : FlS} (hk : k ∈ U) (hfk : fv k = some f) : k ∈ Region.ready .any ops listed := by
  obtain ⟨o, ho, _, hb, _⟩ := hfl k f hfk
  exact mem_ready.2 ⟨hLR.hU k hk, o, ho, fun e he hbb => by
    have hm := hb e he hbb
    have hu : e.on ∉ U := fun hu => by
      obtain ⟨f', hf'⟩ := hUf _ hu
      rw [hMd _ f' hf'] at hm; cases hm
    rw [(hLR.hN _ hu).2]
    exact hM _ hm⟩

theorem setM {L : Array Bool} (i : Nat) (hM : ∀ j, M j = true → L.getD j false = true) : ∀ j, M j = true → (L.setIfInBounds i true).getD j false = true := fun j hj => by
  by_cases e : i = j
  · subst e
    have := hM _ hj
    have hl : i < L.size := by
      rcases Nat.lt_or_ge i L.size with h | h
      · exact h
      · simp [Array.getD, Nat.not_lt.2 h] at this
    exact set_true hl false
  · rw [getD_set_ne false e]; exact hM j hj
theorem Ft_run (hMd : ∀ k f, fv k = some f → M k = false) (hSB : ∀ w w', S w → Below w.heap.size w w' → S w') (hsl : ∀ k f, fv k = some f → ∀ x, dstOf ops k = some x → x ∉ sl.map (·.1)) (hs : Region.noSelect ops = true) {tl : List Nat} (hQ : ∀ c a (d : Tmp) v w, Q (.panic c) (a.put (some d) v) w → Q (.panic c) a w) (hQ2 : ∀ c a (d : Tmp) v w, Q (.panic c) a w → Q (.panic c) (a.put (some d) v) w)
    (hfl : ∀ k f, fv k = some f → ∃ o, ops[k]? = some o ∧ o.guard.isNone = true ∧ (∀ e ∈ o.after, Region.binds .any e = true → M e.on = true) ∧ ∀ (a : Act) w, Hold sl a → (execOp a.eval o).run P w = .ok (.value (f.val w.heap.size)) (w.alloc (.cells f.zs.toArray f.T (0, 0))))
    (hdd : ∀ k k' f f', fv k = some f → fv k' = some f' → k ≠ k' → ∀ x, dstOf ops k = some x → dstOf ops k' ≠ some x)
    (htl : ∀ i ∈ tl, i < ops.size) :
    ∀ (n : Nat) (items : List It), FtC P ops Q S sl fv M tl n items := by
  intro n
  induction n with
  | zero =>
    intro items
    induction items with
    | nil =>
      intro U early L listed bs a w w' hA hM h hb hb0 he he1 he2 hbs hf hUe hUf hfn hUn hLR hcl hB hn
      have hU : U = [] := List.eq_nil_of_length_eq_zero (by simp only [opsC] at hn; omega)
      subst hU
      have hE : early = [] := by
        cases early with
        | nil => rfl
        | cons p e => exact absurd ((hf p.1).2 (.inr ⟨p.2, by simp⟩)) (by simp [floatsOf])
      subst hE
      obtain rfl := hLR.nil
      simp only [itB, Bool.and_eq_true, and_assoc] at hB
      have h5 := X_sched (P := P) (Q := Q) (C := fun _ => True) (E := fun _ => true) (n := 0) hs hQ (tl.map .f) listed a w' hcl hB.1 trivial (fun a2 w2 _ k2 => ⟨by simpa using hB.2.1, k2⟩) (X_of_list tl a w' htl (h w' hb))
      rw [lenS_map, Nat.zero_add] at h5
      refine X_of_any _ _ _ _ (fun j hj hun => ?_) h5
      have h6 := List.all_eq_true.1 hB.2.2 j (List.mem_range.2 hj)
      rw [hun, Bool.false_or] at h6
      rw [h6]; rfl
    | cons it r ih =>
      intro U early L listed bs a w w' hA hM h hb hb0 he he1 he2 hbs hf hUe hUf hfn hUn hLR hcl hB hn
      cases it with
      | op i => simp only [opsC] at hn; omega
      | tk i => simp only [opsC] at hn; omega
      | fl k =>
        have hU : U = [] := List.eq_nil_of_length_eq_zero (by simp only [opsC] at hn; omega)
        have hk : ∃ b, (k, b) ∈ early := by
          rcases (hf k).1 (by simp [floatsOf]) with h1 | h1
          · rw [hU] at h1; cases h1
          · exact h1
        obtain ⟨b, hkb⟩ := hk
        exact Ft_eat hdd ih hkb hA hM h hb hb0 he he1 he2 hbs hf hUe hUf hfn hUn hLR hcl hB hn
  | succ n IH =>
    intro items
    induction items with
    | nil =>
      intro U early L listed bs a w w' hA hM h hb hb0 he he1 he2 hbs hf hUe hUf hfn hUn hLR hcl hB hn
      cases U with
      | nil => simp [opsC] at hn
      | cons k U => exact absurd ((hf k).2 (.inl (by simp))) (by simp [floatsOf])
    | cons it r ih =>
      intro U early L listed bs a w w' hA hM h hb hb0 he he1 he2 hbs hf hUe hUf hfn hUn hLR hcl hB hn
      cases it with
      | fl k =>
        rcases (hf k).1 (by simp [floatsOf]) with hkU | ⟨b, hkb⟩
        · obtain ⟨f, hfk⟩ := hUf k hkU
          have hkr := ready_ft hfl hMd hM hUf hLR hkU hfk
          refine ⟨fun h0 => (by rw [h0] at hkr; cases hkr), fun j hj => ?_⟩
          by_cases hjU : j ∈ U
          · exact Ft_make hSB hsl hfl (IH _) hjU hj hA hM h hb hb0 he he1 he2 hbs hf hUe hUf hfn hUn hLR hcl hB hn
          · exfalso
            have hjL := hLR.ready hj hjU
            simp only [itB, Bool.and_eq_true] at hB
            have hB1 := hB.1
            split at hB1
            · rename_i c _
              simp only [Bool.and_eq_true, decide_eq_true_eq] at hB1
              rw [hB1.1] at hjL
              have hjc : j = c := by simpa using hjL
              subst hjc
              exact waits_no hj hB1.2 (hLR.hU k hkU)
            · cases hB1
        · exact Ft_eat hdd ih hkb hA hM h hb hb0 he he1 he2 hbs hf hUe hUf hfn hUn hLR hcl hB hn
      | tk i =>
        have hB0 := hB
        simp only [itB, Bool.and_eq_true, List.contains_iff_mem] at hB0
        obtain ⟨⟨⟨hrL, hB1⟩, hta⟩, hB2⟩ := hB0
        obtain ⟨o, ho⟩ : ∃ o, ops[i]? = some o := let ⟨_, o, ho, _⟩ := mem_ready.1 hrL; ⟨o, ho⟩
        rw [ho] at hB1
        simp only [Bool.and_eq_true] at hB1
        obtain ⟨⟨⟨⟨hg, hp⟩, haf⟩, hfd⟩, hall⟩ := hB1
        have hfU : ∀ k, k ∈ U → k ∈ floatsOf r := fun k hk => by have := (hf k).2 (.inl hk); simpa [floatsOf] using this
        have hiU : i ∉ U := fun hm => by
          have h1 := hLR.hA i hm
          exact not_both (mem_ready.1 hrL).1 h1
        have hir : i ∈ Region.ready .any ops listed := by
          obtain ⟨h1, o', ho', h2⟩ := mem_ready.1 hrL
          refine mem_ready.2 ⟨by rw [(hLR.hN i hiU).1]; exact h1, o', ho', fun e he' hbb => ?_⟩
          obtain rfl : o = o' := Option.some.inj (ho.symm.trans ho')
          have h3 : e.on ∉ U := fun hm => by
            have h4 := Array.all_eq_true'.1 haf e he'
            simp only [Bool.not_eq_true'] at h4
            have h5 : (floatsOf r).contains e.on = true := by simpa using hfU _ hm
            rw [h4] at h5; cases h5
          rw [(hLR.hN _ h3).2]
          exact h2 e he' hbb
        simp only [wpFt] at h
        have e0 : opsAt ops [i] = [o] := by simp [opsAt, ho]
        rw [e0] at h
        obtain ⟨v, hy, hnx⟩ := quiet_plain (K := wpQuiet P ops (fun _ => True) _ []) hp h
        have hsel := Region.noSelect_spec hs
        have hy2 : YieldsIf P ops S o v a := hy.imp (fun ⟨g1, g2⟩ => ⟨g1, fun w _ => g2 w trivial⟩) id
        have hdst : ∀ p ∈ early, ∀ x, dstOf ops p.1 = some x → x ∉ o.looksAt ops ∧ o.dst ≠ some x := fun p hp' x hx => by
          have hm : p.1 ∈ floatsOf r := by
            have := (hf p.1).2 (.inr ⟨p.2, hp'⟩)
            simpa [floatsOf] using this
          have h3 := List.all_eq_true.1 hfd p.1 hm
          rw [hx] at h3
          simp only [Bool.and_eq_true, Bool.not_eq_true', bne_iff_ne] at h3
          refine ⟨fun hm' => ?_, h3.2⟩
          have h4 : (o.looksAt ops).contains x = true := by simpa using hm'
          rw [h3.1] at h4; cases h4
        have hy3 := yields_putE (fv := fv) (fun cs b => hsel i o cs b ho) early a (fun p hp' x hx => (hdst p hp' x hx).1) hy2
        have key := IH r U early (L.setIfInBounds i true) (listed.setIfInBounds i true) bs (a.put o.dst v) w w' hnx.1 (setM i hM) hnx.2 hb hb0 he he1 he2 hbs (by simpa [floatsOf] using hf) hUe hUf (by simpa [floatsOf] using hfn) hUn (hLR.setI hiU) (hcl.set hir) hB2 (by simp only [opsC] at hn; omega)
        rw [putE_comm v early a (fun p hp' x hx hx' => (hdst p hp' x hx').2 hx)] at key
        refine wpAnyX_first ho hsel (fun c a' w' hh => by
          cases hd : o.dst with
          | none => rw [hd] at hh; exact hh
          | some d => rw [hd] at hh; exact hQ c a' d v w' hh) ops.size (tl.length + n) listed _ w' hcl (fun j oj hj hne hun hno => ?_) (fun j oj hj hne hun hno => ?_) hir hy3 hb0 key
        · have h3 := List.all_eq_true.1 hall j (List.mem_range.2 (Array.getElem?_eq_some_iff.1 hj).1)
          simp only [hj, Bool.or_eq_true, Bool.and_eq_true, beq_iff_eq, hne, or_false] at h3
          rcases h3 with h3 | h3
          · exfalso
            by_cases hjU : j ∈ U
            · have h5 : (floatsOf r).contains j = true := by simpa using hfU _ hjU
              rw [h5] at h3; exact absurd h3.2 (by simp)
            · rw [(hLR.hN j hjU).1, h3.1] at hun; cases hun
          · rcases h3 with h3 | h3
            · exfalso
              obtain ⟨e, he', hbb⟩ := Array.any_eq_true'.1 h3
              simp only [Bool.and_eq_true, beq_iff_eq] at hbb
              exact hno e he' hbb.1 hbb.2
            · exact h3
        · cases htc : tl.contains j with
          | false => rfl
          | true =>
            have h3 := List.all_eq_true.1 hta j (by simpa using htc)
            rw [h3] at hno; cases hno
      | op i =>
        have hB0 := hB
        simp only [itB, Bool.and_eq_true, decide_eq_true_eq] at hB0
        obtain ⟨⟨hrL, hB1⟩, hB2⟩ := hB0
        have hne : Region.ready .any ops listed ≠ [] := by
          cases hU : U with
          | nil =>
            subst hU
            obtain rfl := hLR.nil
            rw [hrL]; simp
          | cons k U' =>
            have hkU : k ∈ U := by rw [hU]; simp
            obtain ⟨f, hfk⟩ := hUf k hkU
            have hkr := ready_ft hfl hMd hM hUf hLR hkU hfk
            exact fun h0 => (by rw [h0] at hkr; cases hkr)
        refine ⟨fun h0 => absurd h0 hne, fun j hj => ?_⟩
        by_cases hjU : j ∈ U
        · exact Ft_make hSB hsl hfl (IH _) hjU hj hA hM h hb hb0 he he1 he2 hbs hf hUe hUf hfn hUn hLR hcl hB hn
        · have hjL := hLR.ready hj hjU
          rw [hrL] at hjL
          have hji : j = i := by simpa using hjL
          subst hji
          obtain ⟨_, o, ho, _⟩ := mem_ready.1 hj
          rw [ho] at hB1
          simp only [Bool.and_eq_true] at hB1
          unfold wpOp
          simp only [ho, wanted_none hB1.1, if_true]
          refine .inl ?_
          simp only [wpFt, ho] at h
          refine wp_putE (ops := ops) (fv := fv) (Region.noSelect_spec hs j o · · ho) hQ2 early a (fun p hp x hx => ?_) (fun a' w'' h' => ?_) (h w' hb)
          · have hm : p.1 ∈ floatsOf r := by
              have := (hf p.1).2 (.inr ⟨p.2, hp⟩)
              simpa [floatsOf] using this
            have h3 := List.all_eq_true.1 hB1.2 p.1 hm
            rw [hx] at h3
            simp only [Bool.and_eq_true, Bool.not_eq_true', bne_iff_ne] at h3
            refine ⟨fun hm' => ?_, h3.2⟩
            have h4 : (o.looksAt ops).contains x = true := by simpa using hm'
            rw [h3.1] at h4; cases h4
          · have hbN := h'.2.1
            refine ⟨fun _ => hbN, ?_⟩
            refine IH r U early (L.setIfInBounds j true) (listed.setIfInBounds j true) bs a' w'' w'' h'.2.2.1 (setM j hM) h'.2.2.2 (Below.refl _ _) hbN (fun p hp => ?_) he1 he2 (fun b hm => Nat.lt_of_lt_of_le (hbs b hm) h'.1.size) (by simpa [floatsOf] using hf) hUe hUf (by simpa [floatsOf] using hfn) hUn (hLR.setI hjU) (hcl.set hj) hB2 (by simp only [opsC] at hn; omega)
            obtain ⟨f1, h1, h2, h4⟩ := he p hp
            exact ⟨f1, h1, h'.1.own h2 h4, h4⟩

def allRunH (P : Program) (ops : Array Oper) (sl : List (Nat × Value)) : List (Nat × FlS) → Prop
  | [] => True
  | p :: r => (∀ (a : Act) W, Hold sl a → (execOp a.eval (ops[p.1]?.getD default)).run P W = .ok (.value (p.2.val W.heap.size)) (W.alloc (.cells p.2.zs.toArray p.2.T (0, 0)))) ∧ allRunH P ops sl r
theorem run_memH : ∀ {l : List (Nat × FlS)} {p : Nat × FlS}, allRunH P ops sl l → p ∈ l → ∀ (a : Act) W, Hold sl a → (execOp a.eval (ops[p.1]?.getD default)).run P W = .ok (.value (p.2.val W.heap.size)) (W.alloc (.cells p.2.zs.toArray p.2.T (0, 0)))
  | [], _, _, h => by cases h
  | q :: r, p, h, hp => by
    rcases List.mem_cons.1 hp with rfl | hp
    · exact h.1
    · exact run_memH h.2 hp
/-- The Bool that 'wp_region_ft' asks. -/
def ftB (ops : Array Oper) (m : List Nat) (items : List It) (tl fs : List Nat) : Bool :=
  Region.noSelect ops && takeB ops (fun j => !tl.contains j) true m (Array.replicate ops.size false) && itB ops tl items (mark (floatsOf items) (mark m (Array.replicate ops.size false))) && nodupB (floatsOf items) &&
  decide (tl.length + ((floatsOf items).length + opsC items) + m.length = ops.size) && (tl.all fun i => decide (i < ops.size)) && decide (fs = floatsOf items) &&
  (fs.all fun k => (match ops[k]? with | some o => o.guard.isNone && o.after.all (fun e => !Region.binds .any e || m.contains e.on) | none => false) && !(mark m (Array.replicate ops.size false)).getD k true && fs.all fun k' => k == k' || dstOf ops k != dstOf ops k') && (m.all fun j => decide (j < ops.size))
/-- A region that draws its order: operations m that look at memory of which S tells; then the new blocks fl and what follows one another, in one order; then tl. -/
theorem wp_region_ft {id : Nat} {a : Act} {w : World} (S : World → Prop) (sl : List (Nat × Value)) (bs0 : List Nat) (fl : List (Nat × FlS)) (m : List Nat) (items : List It) (tl : List Nat) (hm : P.follows .mixedOrders = true) (hB : ftB ops m items tl (fl.map (·.1)) = true) (hrun : allRunH P ops sl fl) (hsl : ((fl.map (·.1)).all fun k => match dstOf ops k with | some d => !(sl.map (·.1)).contains d | none => true) = true)
    (hQ : ∀ c a (d : Tmp) v w, Q (.panic c) (a.put (some d) v) w → Q (.panic c) a w) (hQ2 : ∀ c a (d : Tmp) v w, Q (.panic c) a w → Q (.panic c) (a.put (some d) v) w)
    (hSB : ∀ w w', S w → Below w.heap.size w w' → S w') (hw : S w.drew) (hbs : ∀ b ∈ bs0, b < w.heap.size)
    (h : wpQuiet P ops S (fun a' => Hold sl a' ∧ wpFt P ops Q S sl (fvOf fl) (fun a w => wpList P ops Q (opsAt ops tl) a w) items bs0 a' w) (opsAt ops m) a) :
    (Code.region id ops true).wp P Q a w := by
  simp only [ftB, Bool.and_eq_true, decide_eq_true_eq] at hB
  obtain ⟨⟨⟨⟨⟨⟨⟨⟨hs, h1⟩, h2⟩, h3⟩, hn⟩, htl⟩, hfs⟩, hfl⟩, hmz⟩ := hB
  have htl' : ∀ i ∈ tl, i < ops.size := fun i hi => by simpa using List.all_eq_true.1 htl i hi
  have hfv : ∀ k f, fvOf fl k = some f → k ∈ fl.map (·.1) := fun k f hk => List.mem_map.2 ⟨(k, f), fv_mem hk, rfl⟩
  refine wp_region_any hm ?_
  have hcl : Closed ops (Array.replicate ops.size false) := fun j oj _ hl => (by simp [Array.getElem?_replicate] at hl; split at hl <;> simp at hl)
  rw [show ops.size = (tl.length + ((floatsOf items).length + opsC items)) + m.length by omega]
  rw [← hn] at h1 h2 hfl hcl
  refine wpAny_of_X _ _ _ _ (take_read (S := S) (E := fun j => !tl.contains j) hs hQ hw m _ a hcl h1 h fun a' h' => ?_)
  have hcl' := closed_mark m _ true _ hcl h1
  have hk : ∀ k ∈ floatsOf items, (mark m (Array.replicate (tl.length + ((floatsOf items).length + opsC items) + m.length) false)).getD k true = false := fun k hk => by
    have := List.all_eq_true.1 hfl k (by rw [hfs]; exact hk)
    simp only [Bool.and_eq_true, Bool.not_eq_true'] at this
    exact this.1.2
  refine Ft_run (M := fun j => m.contains j) (fun k f hkf => ?_) hSB (fun k f hkf x hx => ?_) hs hQ hQ2 (fun k f hkf => ?_) (fun k k' f f' hkf hkf' hne x hx hx' => ?_) htl' _ items (floatsOf items) [] (mark (floatsOf items) (mark m _)) (mark m _) bs0 a' w _ h'.1 (fun j hj => ?_) h'.2 ((Below.refl w.heap.size w).drew) hw (fun p hp => by cases hp) List.nodup_nil List.nodup_nil (fun b hb => hbs b hb) (fun k => by simp) (fun k _ b hb => by cases hb) (fun k hk' => mem_fv (by rw [hfs]; exact hk')) (nodupB_spec h3) (nodupB_spec h3) ⟨hk, fun j hj => ⟨(mark_ne true _ _ hj).symm, (mark_ne false _ _ hj).symm⟩, fun j hj => mark_in _ _ hj (in_lt (hk j hj)), (mark_size _ _).symm⟩ hcl' h2 rfl
  · have h4 := List.all_eq_true.1 hfl k (hfv k f hkf)
    simp only [Bool.and_eq_true, Bool.not_eq_true'] at h4
    cases hc : m.contains k with
    | false => rfl
    | true =>
      have hkm : k ∈ m := by simpa using hc
      have h5 := h4.1.2
      by_cases hz : k < (Array.replicate (tl.length + ((floatsOf items).length + opsC items) + m.length) false).size
      · exact (not_both h5 (mark_in m _ hkm hz)).elim
      · have := List.all_eq_true.1 hmz k hkm
        simp only [decide_eq_true_eq] at this
        simp at hz
        omega
  · have h4 := List.all_eq_true.1 hsl k (hfv k f hkf)
    rw [hx] at h4
    intro hm
    have h5 : (sl.map (·.1)).contains x = true := by simpa using hm
    simp only [h5] at h4
    cases h4
  · have h4 := List.all_eq_true.1 hfl k (hfv k f hkf)
    simp only [Bool.and_eq_true] at h4
    have h5 := h4.1.1
    cases ho : ops[k]? with
    | none => rw [ho] at h5; cases h5
    | some o =>
      rw [ho] at h5
      simp only [Bool.and_eq_true] at h5
      refine ⟨o, rfl, h5.1, fun e he hbb => ?_, fun a w hA => ?_⟩
      · have := Array.all_eq_true'.1 h5.2 e he
        simpa [hbb] using this
      · have h6 := run_memH hrun (fv_mem hkf) a w hA
        simp only [ho, Option.getD_some] at h6
        exact h6
  · have h4 := List.all_eq_true.1 hfl k (hfv k f hkf)
    simp only [Bool.and_eq_true] at h4
    have h5 := List.all_eq_true.1 h4.2 k' (hfv k' f' hkf')
    simp only [Bool.or_eq_true, beq_iff_eq, hne, false_or, bne_iff_ne] at h5
    exact h5 (by rw [hx, hx'])
  · have hjm : j ∈ m := by simpa using hj
    have hlt := List.all_eq_true.1 hmz j hjm
    simp only [decide_eq_true_eq] at hlt
    have hz : j < (mark m (Array.replicate (tl.length + ((floatsOf items).length + opsC items) + m.length) false)).size := by rw [mark_size]; simp; omega
    by_cases hjf : j ∈ floatsOf items
    · exact mark_in _ _ hjf hz
    · rw [mark_ne false _ _ hjf]
      exact mark_in m _ hjm (by rw [mark_size] at hz; exact hz)
theorem wpFt_fl {k : Nat} {f : FlS} {r : List It} {bs : List Nat} {a : Act} {w : World} (hf : fv k = some f) (h : ∀ b w1, Below w.heap.size w w1 → Own w1 b f.T f.zs → b ∉ bs → Hold sl (a.put ((ops[k]?).bind (·.dst)) (f.val b)) ∧ wpFt P ops Q S sl fv K r (b :: bs) (a.put ((ops[k]?).bind (·.dst)) (f.val b)) w1) : wpFt P ops Q S sl fv K (.fl k :: r) bs a w := by
  simp only [wpFt, hf]; exact h
theorem wpFt_op {i : Nat} {o : Oper} {r : List It} {bs : List Nat} {a : Act} {w : World} (ho : ops[i]? = some o)
    (h : ∀ w1, Below w.heap.size w w1 → ∀ K' : Act → World → Prop, (∀ a' w', Mod bs w1 w' → S w' → Hold sl a' → wpFt P ops Q S sl fv K r bs a' w' → K' a' w') → o.wp P a w1 K' Q) : wpFt P ops Q S sl fv K (.op i :: r) bs a w := by
  simp only [wpFt, ho]; exact fun w1 hw1 => h w1 hw1 _ fun _ _ h1 h2 h3 h4 => ⟨h1, h2, h3, h4⟩
theorem wpFt_tk {i : Nat} {r : List It} {bs : List Nat} {a : Act} {w : World} (h : wpQuiet P ops (fun _ => True) (fun a' => Hold sl a' ∧ wpFt P ops Q S sl fv K r bs a' w) (opsAt ops [i]) a) : wpFt P ops Q S sl fv K (.tk i :: r) bs a w := h
theorem wpFt_nil {bs : List Nat} {a : Act} {w : World} (h : ∀ w1, Below w.heap.size w w1 → K a w1) : wpFt P ops Q S sl fv K [] bs a w := h
end
end Go.Proofs.Ytpjhiojdnebgoaa
