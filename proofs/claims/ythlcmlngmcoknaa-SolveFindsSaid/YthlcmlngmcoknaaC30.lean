/- What is proved here: contracts of functions and plain facts, several texts in one; each one says ahead what it proves, and its conditions. -/
import Derived.Test.YthlcmlngmcoknaaC26
import Derived.Test.YthlcmlngmcoknaaC17
/- What is proved here: sums of the plain solution and multiples of the basis: what they hold at the free unknowns, and that they are accepted. No program in sight. Condition: a valid system that has a solution, small multiples. -/
namespace Go.Proofs.Ythlcmlngmcoknaa
open Go.RowKit

/-- The free columns. -/
def flist (w : Nat) (s : Rd) : List Nat := (List.range w).filter fun k => freeB s k
theorem blist_fl (w : Nat) (s : Rd) : blist w s w = (flist w s).map fun k => frow w s k := rfl
section
variable {w : Nat} {s : Rd}
theorem fl_mem {f : Nat} (h : f ∈ flist w s) : f < w ∧ s.free f := by
  obtain ⟨h1, h2⟩ := List.mem_filter.1 h
  exact ⟨List.mem_range.1 h1, freeB_iff.1 h2⟩
theorem fl_get {i : Nat} (h : i < (flist w s).length) : (flist w s).getD i 0 < w ∧ s.free ((flist w s).getD i 0) := by
  rw [List.getD_eq_getElem?_getD, List.getElem?_eq_getElem h]
  exact fl_mem (List.getElem_mem h)
theorem fl_inc {i j : Nat} (hij : i < j) (h : j < (flist w s).length) : (flist w s).getD i 0 < (flist w s).getD j 0 := by
  have hp : (flist w s).Pairwise (· < ·) := (List.pairwise_lt_range (n := w)).sublist List.filter_sublist
  have := List.pairwise_iff_getElem.1 hp i j (by omega) h hij
  rw [List.getD_eq_getElem?_getD, List.getD_eq_getElem?_getD, List.getElem?_eq_getElem h, List.getElem?_eq_getElem (show i < (flist w s).length by omega)]
  exact this
theorem fl_len (n w : Nat) (A : Nat → Nat → Rat) : (flist w (red n A w)).length + (red n A w).bnd.length = w := free_count n A w
theorem pl_free {f : Nat} (hf : s.free f) : s.pl w f = 0 := sm_0 _ fun i hi => if_neg (hf i hi)
theorem fr_self (f : Nat) : s.fr f f = 1 := if_pos rfl
theorem fr_other {f g : Nat} (hg : s.free g) (h : g ≠ f) : s.fr f g = 0 := by
  unfold Rd.fr
  rw [if_neg h, sm_0 _ fun i hi => if_neg (hg i hi)]; grind
theorem fr_after {n : Nat} {A0 : Nat → Nat → Rat} (h : RInv n A0 w s) {f c : Nat} (hc : f < c) : s.fr f c = 0 := by
  unfold Rd.fr
  rw [if_neg (by omega), sm_0 _ fun i hi => ?_]
  · grind
  · by_cases hb : s.bnd.getD i 0 = c
    · rw [if_pos hb, h.ech i f hi (by omega)]
    · exact if_neg hb
end
/-- The plain solution and i multiples of the basis. -/
def wsum (w : Nat) (s : Rd) (t : List (Int × Int)) (i c : Nat) : Rat := s.pl w c + sm (fun j => qq (t.getD j (0, 0)) * s.fr ((flist w s).getD j 0) c) i
theorem wsum_succ (w : Nat) (s : Rd) (t : List (Int × Int)) (i c : Nat) : wsum w s t (i + 1) c = wsum w s t i c + qq (t.getD i (0, 0)) * s.fr ((flist w s).getD i 0) c := by
  unfold wsum; rw [sm_succ]; grind
/-- The sums in memory: k of them have one multiple more. -/
def wrat (w : Nat) (s : Rd) (t : List (Int × Int)) (i k c : Nat) : Rat := if c < k then wsum w s t (i + 1) c else wsum w s t i c
def wlist (w : Nat) (s : Rd) (t : List (Int × Int)) (i k : Nat) : List (Int × Int) := (List.range w).map fun c => up (wrat w s t i k c)
theorem wlist_len (w : Nat) (s : Rd) (t : List (Int × Int)) (i k : Nat) : (wlist w s t i k).length = w := by simp [wlist]
theorem wlist_get {w : Nat} {s : Rd} {t : List (Int × Int)} {i k c : Nat} (hc : c < w) : (wlist w s t i k)[c]? = some (up (wrat w s t i k c)) := by
  unfold wlist; rw [List.getElem?_map, List.getElem?_range hc]; rfl
theorem wlist_0 (w : Nat) (s : Rd) (t : List (Int × Int)) : wlist w s t 0 0 = plist w s := by
  unfold wlist plist
  refine List.map_congr_left fun c _ => ?_
  unfold wrat wsum
  rw [if_neg (by omega), sm_zero]
  have : s.pl w c + 0 = s.pl w c := by grind
  rw [this]
theorem wlist_next (w : Nat) (s : Rd) (t : List (Int × Int)) (i : Nat) : wlist w s t i w = wlist w s t (i + 1) 0 := by
  unfold wlist
  refine List.map_congr_left fun c hc => ?_
  unfold wrat
  rw [if_pos (List.mem_range.1 hc), if_neg (by omega)]
theorem wlist_set {w : Nat} {s : Rd} {t : List (Int × Int)} {i k : Nat} (hk : k < w) : (wlist w s t i k).set k (up (wsum w s t (i + 1) k)) = wlist w s t i (k + 1) := by
  refine List.ext_getElem? fun c => ?_
  rw [List.getElem?_set, wlist_len]
  rcases Nat.lt_or_ge c w with h | h
  · have e0 : ∀ k, (wlist w s t i k)[c]? = some (up (wrat w s t i k c)) := fun k => wlist_get h
    rw [e0, e0]
    by_cases e : k = c
    · subst e
      rw [if_pos rfl, if_pos hk]
      unfold wrat; rw [if_pos (by omega)]
    · rw [if_neg e]
      unfold wrat
      by_cases h2 : c < k
      · rw [if_pos h2, if_pos (by omega)]
      · rw [if_neg h2, if_neg (by omega)]
  · rw [if_neg (by omega), List.getElem?_eq_none (by rw [wlist_len]; exact h), List.getElem?_eq_none (by rw [wlist_len]; exact h)]
theorem wlist_at {w : Nat} {s : Rd} {t : List (Int × Int)} {i k : Nat} (hk : k < w) : (wlist w s t i k).getD k (0, 0) = up (wsum w s t i k) := by
  rw [List.getD_eq_getElem?_getD, wlist_get hk]
  unfold wrat; rw [if_neg (by omega)]; rfl
/-- One more multiple, where nothing is out of range. -/
theorem wadd {w : Nat} {s : Rd} {t : List (Int × Int)} {i k : Nat} (ht : fchk (t.getD i (0, 0)).1 (t.getD i (0, 0)).2 = 0) (hy : inr (s.fr ((flist w s).getD i 0) k)) (hg : inr (wsum w s t i k))
    (h1 : (fmul (t.getD i (0, 0)).1 (t.getD i (0, 0)).2 (up (s.fr ((flist w s).getD i 0) k)).1 (up (s.fr ((flist w s).getD i 0) k)).2).e = 0) :
    ∃ p : Int × Int, fmul (t.getD i (0, 0)).1 (t.getD i (0, 0)).2 (up (s.fr ((flist w s).getD i 0) k)).1 (up (s.fr ((flist w s).getD i 0) k)).2 = ⟨p.1, p.2, 0⟩ ∧ fchk p.1 p.2 = 0 ∧
    ((fadd (up (wsum w s t i k)).1 (up (wsum w s t i k)).2 p.1 p.2).e = 0 → inr (wsum w s t (i + 1) k) ∧ fadd (up (wsum w s t i k)).1 (up (wsum w s t i k)).2 p.1 p.2 = uf (wsum w s t (i + 1) k)) := by
  rw [fmul_qq ht (up_chk hy), qq_up] at h1 ⊢
  obtain ⟨i1, e1⟩ := pack_val h1
  refine ⟨up (qq (t.getD i (0, 0)) * s.fr ((flist w s).getD i 0) k), e1, up_chk i1, fun h2 => ?_⟩
  rw [fadd_qq (up_chk hg) (up_chk i1), qq_up, qq_up, ← wsum_succ] at h2 ⊢
  exact pack_val h2
/-- What the sum holds at a free unknown. -/
theorem wsum_free {w : Nat} {s : Rd} {t : List (Int × Int)} {m i : Nat} (hm : m ≤ (flist w s).length) (hi : i < m) : wsum w s t m ((flist w s).getD i 0) = qq (t.getD i (0, 0)) := by
  obtain ⟨h1, h2⟩ := fl_get (show i < (flist w s).length by omega)
  unfold wsum
  rw [pl_free h2, sm_single hi fun j hj hne => ?_, fr_self]
  · grind
  · rw [fr_other h2 ?_]
    · grind
    · rcases Nat.lt_or_gt_of_ne hne with h | h
      · have := fl_inc h (show i < (flist w s).length by omega); omega
      · have := fl_inc h (show j < (flist w s).length by omega); omega
/-- The product of some denominators. -/
def dprod (t : List (Int × Int)) : Nat → Int
  | 0 => 1
  | m + 1 => dprod t m * (t.getD m (0, 0)).2
theorem dprod_pos {t : List (Int × Int)} : ∀ m, (∀ j, j < m → 1 ≤ (t.getD j (0, 0)).2 ∧ (t.getD j (0, 0)).2 ≤ 100) → 0 < dprod t m ∧ dprod t m ≤ 100 ^ m
  | 0, _ => ⟨by show (0 : Int) < 1; decide, by show (1 : Int) ≤ 100 ^ 0; decide⟩
  | m + 1, h => by
    obtain ⟨a, b⟩ := dprod_pos m fun j hj => h j (by omega)
    obtain ⟨c, d⟩ := h m (by omega)
    refine ⟨Int.mul_pos a (by omega), ?_⟩
    rw [Int.pow_succ]
    exact Int.mul_le_mul b d (by omega) (by omega)
/-- A multiple of the basis over the product of the denominators. -/
theorem dprod_at {t : List (Int × Int)} : ∀ m, (∀ j, j < m → 1 ≤ (t.getD j (0, 0)).2 ∧ (t.getD j (0, 0)).2 ≤ 100 ∧ -100 ≤ (t.getD j (0, 0)).1 ∧ (t.getD j (0, 0)).1 ≤ 100) →
    ∀ j, j < m → ∃ u : Int, (dprod t m : Rat) * qq (t.getD j (0, 0)) = (u : Rat) ∧ siz ((100 ^ m : Int) : Rat) (u : Rat)
  | 0, _, j, hj => absurd hj (Nat.not_lt_zero _)
  | m + 1, h, j, hj => by
    have hp := dprod_pos m fun j hj => ⟨(h j (by omega)).1, (h j (by omega)).2.1⟩
    obtain ⟨a1, a2, a3, a4⟩ := h m (by omega)
    have pw : ((100 ^ (m + 1) : Int) : Rat) = ((100 ^ m : Int) : Rat) * ((100 : Int) : Rat) := by rw [Int.pow_succ, Rat.intCast_mul]
    show ∃ u : Int, ((dprod t m * (t.getD m (0, 0)).2 : Int) : Rat) * qq (t.getD j (0, 0)) = (u : Rat) ∧ siz ((100 ^ (m + 1) : Int) : Rat) (u : Rat)
    by_cases hjm : j = m
    · subst hjm
      refine ⟨dprod t j * (t.getD j (0, 0)).1, ?_, ?_⟩
      · have hd : (((t.getD j (0, 0)).2 : Int) : Rat) ≠ 0 := by
          intro h0
          have : (t.getD j (0, 0)).2 = 0 := Rat.intCast_inj.1 (by rw [h0]; rfl)
          omega
        have e : qq (t.getD j (0, 0)) = ((t.getD j (0, 0)).1 : Rat) / ((t.getD j (0, 0)).2 : Rat) := by unfold qq; rw [Rat.divInt_eq_div]
        rw [e, Rat.intCast_mul, Rat.intCast_mul]
        grind
      · rw [pw, Rat.intCast_mul]
        exact siz_mul (siz_int (by omega) hp.2) (siz_int a3 a4)
    · obtain ⟨u, e1, e2⟩ := dprod_at m (fun j hj => h j (by omega)) j (by omega)
      refine ⟨u * (t.getD m (0, 0)).2, ?_, ?_⟩
      · rw [Rat.intCast_mul, Rat.intCast_mul, ← e1]; grind
      · rw [pw, Rat.intCast_mul]
        exact siz_mul e2 (siz_int (by omega) a2)
theorem bet7_dbd : ∀ k, k < 7 → dbd (bet 7) k 0 * ((100 ^ (6 - k) : Int) : Rat) ≤ 1000000000000 := by decide +kernel
theorem dbd7_nn : ∀ k, k < 7 → 0 ≤ dbd (bet 7) k 0 := by decide +kernel
section
variable {A : List (List Int)} {B : List Int}
/-- The leading determinant and the bound rows by the number of bound columns. -/
theorem o_size (h : Sys A B (A.getD 0 []).length) : siz (dbd (bet 7) (ored A B).bnd.length 0) (ored A B).lead ∧
    ∀ i j, i < (ored A B).bnd.length → j ≤ (A.getD 0 []).length → siz (11 * dbd (bet 7) (ored A B).bnd.length 0) ((ored A B).lead * (ored A B).R i j) ∧ (j < (A.getD 0 []).length → siz (dbd (bet 7) (ored A B).bnd.length 0) ((ored A B).lead * (ored A B).R i j)) := by
  have hi := o_inv A B
  have t := tame_o h
  have hn := h.rows
  have hc := h.cols
  obtain ⟨σ, τ, g1, g2⟩ := hi.perm
  have le := hi.le
  have b9 : ∀ r, r < 7 → bet 7 r = 9 := fun r hr => if_neg (by omega)
  have hA : ∀ r j, r < A.length → j < (A.getD 0 []).length → siz 9 ((ored A B).A r j) := fun r j hr hj => by
    rw [g2 r hr]
    have := t.el _ _ (g1 r hr).1 hj
    rw [if_neg (by have := (g1 r hr).1; omega)] at this
    exact this
  have hR : ∀ r, r < A.length → siz (11 * 9) ((ored A B).A r (A.getD 0 []).length) := fun r hr => by
    rw [g2 r hr]
    have := t.right _ (g1 r hr).1
    rw [if_neg (by have := (g1 r hr).1; omega)] at this
    exact this
  have hB : ∀ r m, r < (ored A B).bnd.length → m < (ored A B).bnd.length → siz 9 ((ored A B).B r m) := fun r m hr hm => hA r _ (by omega) (hi.blt m hm)
  refine ⟨dt_siz (bet 7) _ 0 _ fun r m hr hm => by rw [Nat.zero_add, b9 r (by omega)]; exact hB r m hr hm, fun i j hi1 hj => ?_⟩
  rw [hi.lo hi1 j]
  have k1 : ∀ hjn : j < (A.getD 0 []).length, siz (dbd (bet 7) (ored A B).bnd.length 0) (dt (ored A B).bnd.length (upd (ored A B).B i fun r => (ored A B).A r j)) := fun hjn => by
    refine dt_siz (bet 7) _ 0 _ fun r m hr hm => ?_
    rw [Nat.zero_add, b9 r (by omega)]
    by_cases hmi : m = i
    · subst hmi; rw [upd_at]; exact hA r j (by omega) hjn
    · rw [upd_ne _ _ _ hmi]; exact hB r m hr hm
  refine ⟨?_, k1⟩
  rcases Nat.lt_or_ge j (A.getD 0 []).length with h2 | h2
  · refine siz_le (k1 h2) ?_
    have := dbd7_nn (ored A B).bnd.length (by omega)
    grind
  · obtain rfl : j = (A.getD 0 []).length := by omega
    refine tame_dt (β := bet 7) hi1 (by decide) (fun r m hr hm hmi => ?_) fun r hr => ?_
    · rw [upd_ne _ _ _ hmi, b9 r (by omega)]; exact hB r m hr hm
    · rw [upd_at, b9 r (by omega)]; exact hR r (by omega)
/-- Small multiples. -/
def smallT (t : List (Int × Int)) (m : Nat) : Prop := ∀ j, j < m → 1 ≤ (t.getD j (0, 0)).2 ∧ (t.getD j (0, 0)).2 ≤ 100 ∧ -100 ≤ (t.getD j (0, 0)).1 ∧ (t.getD j (0, 0)).1 ≤ 100
/-- The sums over one denominator. -/
theorem wsum_den (h : Sys A B (A.getD 0 []).length) {t : List (Int × Int)} (ht : smallT t (flist (A.getD 0 []).length (ored A B)).length) :
    ∃ D : Int, 0 < D ∧ D ≤ 1000000000000 ∧ ∀ c, c < (A.getD 0 []).length → ∃ u : Int, wsum (A.getD 0 []).length (ored A B) t (flist (A.getD 0 []).length (ored A B)).length c = (u : Rat) / (D : Rat) ∧ -17000000000000 ≤ u ∧ u ≤ 17000000000000 := by
  obtain ⟨s1, s2⟩ := o_size h
  have hi := o_inv A B
  have hc := h.cols
  have hl : (flist (A.getD 0 []).length (ored A B)).length + (ored A B).bnd.length = (A.getD 0 []).length := fl_len _ _ _
  obtain ⟨w1, w2⟩ := hi.wholes (whl_o A B A.length (A.getD 0 []).length) (Nat.le_refl _)
  obtain ⟨l, el⟩ := w1
  have l0 : l ≠ 0 := fun h0 => hi.lead (by rw [el, h0]; rfl)
  generalize hm : (flist (A.getD 0 []).length (ored A B)).length = m at *
  generalize hk : (ored A B).bnd.length = k at *
  have hp := dprod_pos m fun j hj => ⟨(ht j hj).1, (ht j hj).2.1⟩
  have K0 := dbd7_nn k (by omega)
  have K1 : dbd (bet 7) k 0 * ((100 ^ m : Int) : Rat) ≤ 1000000000000 := by
    refine Rat.le_trans (Rat.mul_le_mul_of_nonneg_left ?_ K0) (bet7_dbd k (by omega))
    have pw : 100 ^ m ≤ 100 ^ (6 - k) := Nat.pow_le_pow_right (by decide) (by omega)
    exact Rat.intCast_le_intCast.2 (by exact_mod_cast pw)
  generalize hK : dbd (bet 7) k 0 = K at *
  have P1 : (0 : Int) ≤ 100 ^ m := by have := hp.2; omega
  have P0 : (0 : Rat) ≤ ((100 ^ m : Int) : Rat) := by have := Rat.intCast_le_intCast.2 P1; exact this
  have sE : siz ((100 ^ m : Int) : Rat) (dprod t m : Rat) := siz_int (by omega) hp.2
  -- a number of the plain solution, of a free solution
  have hpl : ∀ c, whl ((ored A B).lead * (ored A B).pl (A.getD 0 []).length c) ∧ siz (11 * K) ((ored A B).lead * (ored A B).pl (A.getD 0 []).length c) := fun c => by
    rcases hi.pl_at c with ⟨i, hi1, _, e⟩ | ⟨_, e⟩
    · rw [e]; rw [hk] at hi1
      exact ⟨w2 _ _ (by have := hi.le; omega) (Nat.le_refl _), (s2 i _ hi1 (Nat.le_refl _)).1⟩
    · rw [e]
      have : (ored A B).lead * 0 = 0 := by grind
      rw [this]; exact ⟨whl_0, by constructor <;> grind⟩
  have hfr : ∀ f c, f < (A.getD 0 []).length → whl ((ored A B).lead * (ored A B).fr f c) ∧ siz K ((ored A B).lead * (ored A B).fr f c) := fun f c hf => by
    rcases hi.fr_at (f := f) c with ⟨_, e⟩ | ⟨i, hi1, _, e⟩ | ⟨_, e⟩
    · rw [e]
      have : (ored A B).lead * 1 = (ored A B).lead := by grind
      rw [this]; exact ⟨⟨l, el⟩, s1⟩
    · rw [e]; rw [hk] at hi1
      have q : (ored A B).lead * -(ored A B).R i f = -((ored A B).lead * (ored A B).R i f) := by grind
      rw [q]
      obtain ⟨z, hz⟩ := w2 i f (by have := hi.le; omega) (by omega)
      obtain ⟨a, b⟩ := (s2 i f hi1 (by omega)).2 hf
      exact ⟨⟨-z, by rw [hz, Rat.intCast_neg]⟩, by constructor <;> grind⟩
    · rw [e]
      have : (ored A B).lead * 0 = 0 := by grind
      rw [this]; exact ⟨whl_0, by constructor <;> grind⟩
  -- the sums times lead and the product of the denominators
  have sums : ∀ c, ∀ i, i ≤ m → ∃ z : Int, (ored A B).lead * (dprod t m : Rat) * wsum (A.getD 0 []).length (ored A B) t i c = (z : Rat) ∧ siz ((11 + ((i : Int) : Rat)) * (K * ((100 ^ m : Int) : Rat))) (z : Rat) := fun c i => by
    induction i with
    | zero =>
      intro _
      obtain ⟨⟨z, hz⟩, b⟩ := hpl c
      refine ⟨z * dprod t m, ?_, ?_⟩
      · unfold wsum; rw [sm_zero, Rat.intCast_mul, ← hz]; grind
      · rw [Rat.intCast_mul, ← hz]
        have := siz_mul b sE
        have e : (11 + (((0 : Nat) : Int) : Rat)) * (K * ((100 ^ m : Int) : Rat)) = 11 * K * ((100 ^ m : Int) : Rat) := by
          have : (((0 : Nat) : Int) : Rat) = 0 := rfl
          rw [this]; grind
        rw [e]; exact this
    | succ i ih =>
      intro him
      obtain ⟨z, hz, bz⟩ := ih (by omega)
      obtain ⟨⟨y, hy⟩, by1⟩ := hfr ((flist (A.getD 0 []).length (ored A B)).getD i 0) c (fl_get (by omega)).1
      obtain ⟨u, hu, bu⟩ := dprod_at m ht i (by omega)
      refine ⟨z + y * u, ?_, ?_⟩
      · rw [wsum_succ, Rat.intCast_add, Rat.intCast_mul, ← hz, ← hy, ← hu]; grind
      · rw [hy] at by1
        have := siz_add bz (siz_mul by1 bu)
        rw [Rat.intCast_add, Rat.intCast_mul]
        have e : (11 + (((i + 1 : Nat) : Int) : Rat)) * (K * ((100 ^ m : Int) : Rat)) = (11 + ((i : Int) : Rat)) * (K * ((100 ^ m : Int) : Rat)) + K * ((100 ^ m : Int) : Rat) := by
          have : (((i + 1 : Nat) : Int) : Rat) = ((i : Int) : Rat) + 1 := by rw [← Rat.intCast_one, ← Rat.intCast_add]; rfl
          rw [this]; grind
        rw [e]; exact this
  have bnd : ∀ z : Int, siz ((11 + ((m : Int) : Rat)) * (K * ((100 ^ m : Int) : Rat))) (z : Rat) → -17000000000000 ≤ z ∧ z ≤ 17000000000000 := fun z hz => by
    refine cast_siz (siz_le hz ?_)
    have m6 : ((m : Int) : Rat) ≤ 6 := by
      have : (m : Int) ≤ 6 := by omega
      have := Rat.intCast_le_intCast.2 this
      exact this
    have kn : 0 ≤ K * ((100 ^ m : Int) : Rat) := Rat.mul_nonneg K0 P0
    have q1 : (11 + ((m : Int) : Rat)) * (K * ((100 ^ m : Int) : Rat)) ≤ 17 * (K * ((100 ^ m : Int) : Rat)) := Rat.mul_le_mul_of_nonneg_right (by grind) kn
    have q2 : (17 : Rat) * (K * ((100 ^ m : Int) : Rat)) ≤ 17 * 1000000000000 := Rat.mul_le_mul_of_nonneg_left K1 (by decide)
    have q3 : (17 : Rat) * 1000000000000 = ((17000000000000 : Int) : Rat) := by decide +kernel
    rw [← q3]; exact Rat.le_trans q1 q2
  have lE : -1000000000000 ≤ l * dprod t m ∧ l * dprod t m ≤ 1000000000000 := by
    refine cast_siz ?_
    rw [Rat.intCast_mul, ← el]
    exact siz_le (siz_mul s1 sE) K1
  have nz : l * dprod t m ≠ 0 := Int.mul_ne_zero l0 (by omega)
  rcases Int.lt_or_le 0 (l * dprod t m) with hp1 | hp1
  · refine ⟨l * dprod t m, hp1, lE.2, fun c _ => ?_⟩
    obtain ⟨z, hz, bz⟩ := sums c m (Nat.le_refl _)
    refine ⟨z, ?_, bnd z bz⟩
    rw [← hz, el, ← Rat.intCast_mul]
    have : ((l * dprod t m : Int) : Rat) ≠ 0 := fun h0 => nz (Rat.intCast_inj.1 (by rw [h0]; rfl))
    grind
  · refine ⟨-(l * dprod t m), by omega, by omega, fun c _ => ?_⟩
    obtain ⟨z, hz, bz⟩ := sums c m (Nat.le_refl _)
    refine ⟨-z, ?_, by have := bnd z bz; omega⟩
    rw [Rat.intCast_neg, Rat.intCast_neg, ← hz, el, ← Rat.intCast_mul]
    have : ((l * dprod t m : Int) : Rat) ≠ 0 := fun h0 => nz (Rat.intCast_inj.1 (by rw [h0]; rfl))
    grind
/-- The sums solve the system. -/
theorem wsum_row (h : Sys A B (A.getD 0 []).length) (hs : solvB A.length (A.getD 0 []).length (ored A B) = true) (t : List (Int × Int)) {r : Nat} (hr : r < A.length) : ∀ i, i ≤ (flist (A.getD 0 []).length (ored A B)).length →
    sm (fun j => oA A B r j * wsum (A.getD 0 []).length (ored A B) t i j) (A.getD 0 []).length = oA A B r (A.getD 0 []).length
  | 0, _ => by
    rw [← pl_row h hs hr]
    refine sm_congr _ fun j _ => ?_
    unfold wsum; rw [sm_zero]; grind
  | i + 1, hi => by
    have ih := wsum_row h hs t hr i (by omega)
    obtain ⟨f1, f2⟩ := fl_get (show i < (flist (A.getD 0 []).length (ored A B)).length by omega)
    have hk := (o_inv A B).frees f1 f2 r hr
    rw [sm_succ, (o_inv A B).fr_w f1] at hk
    have e : sm (fun j => oA A B r j * wsum (A.getD 0 []).length (ored A B) t (i + 1) j) (A.getD 0 []).length = sm (fun j => oA A B r j * wsum (A.getD 0 []).length (ored A B) t i j) (A.getD 0 []).length + qq (t.getD i (0, 0)) * sm (fun j => oA A B r j * (ored A B).fr ((flist (A.getD 0 []).length (ored A B)).getD i 0) j) (A.getD 0 []).length := by
      rw [← sm_mul, ← sm_add]
      refine sm_congr _ fun j _ => ?_
      rw [wsum_succ]; grind
    rw [e, ih]
    grind
/-- The sums are accepted. -/
theorem accept_sums (hc : ocheck A B = 0) (hs : solvB A.length (A.getD 0 []).length (ored A B) = true) {t : List (Int × Int)} (ht : smallT t (flist (A.getD 0 []).length (ored A B)).length) :
    oaccept A B (wlist (A.getD 0 []).length (ored A B) t (flist (A.getD 0 []).length (ored A B)).length 0) = (true, 0) := by
  have h := sys_of hc
  obtain ⟨D, d1, d2, d3⟩ := wsum_den h ht
  have e : wlist (A.getD 0 []).length (ored A B) t (flist (A.getD 0 []).length (ored A B)).length 0 = (List.range (A.getD 0 []).length).map fun c => up (wsum (A.getD 0 []).length (ored A B) t (flist (A.getD 0 []).length (ored A B)).length c) := by
    unfold wlist
    refine List.map_congr_left fun c _ => ?_
    unfold wrat; rw [if_neg (by omega)]
  rw [e]
  have key : ∀ c : Nat, ∃ u : Int, c < (A.getD 0 []).length → wsum (A.getD 0 []).length (ored A B) t (flist (A.getD 0 []).length (ored A B)).length c = (u : Rat) / (D : Rat) ∧ -17000000000000 ≤ u ∧ u ≤ 17000000000000 := fun c => by
    by_cases hc : c < (A.getD 0 []).length
    · obtain ⟨u, hu⟩ := d3 c hc; exact ⟨u, fun _ => hu⟩
    · exact ⟨0, fun h => absurd h hc⟩
  obtain ⟨u, hu⟩ := Classical.axiomOfChoice key
  have hf : frB ((List.range (A.getD 0 []).length).map fun c => up (wsum (A.getD 0 []).length (ored A B) t (flist (A.getD 0 []).length (ored A B)).length c)) (A.getD 0 []).length = true :=
    frB_map fun c hc => by
      obtain ⟨e, a, b⟩ := hu c hc
      rw [e]; exact inr_frac d1 (by omega) (by omega) (by omega)
  rw [oaccept_0 hc hf]
  have := oacc_of h (g := fun c => wsum (A.getD 0 []).length (ored A B) t (flist (A.getD 0 []).length (ored A B)).length c) (D := D) (U := 17000000000000) (u := u) d1 (by omega) (fun c hc => hu c hc) (by omega) (by omega) fun i hi => wsum_row h hs t hi _ (Nat.le_refl _)
  exact congrArg (fun b => (b, (0 : Int))) this
end
end Go.Proofs.Ythlcmlngmcoknaa

/- What is proved here: the contracts of the reference's Product, below, Both, Less and Cmp of fractions. Condition: the numbers are 64-bit integers. -/
namespace Go.Proofs.Ythlcmlngmcoknaa
open Go.RowKit
set_option maxRecDepth 100000 in
set_option maxHeartbeats 4000000 in
theorem product_any (a b : Nat) (w : World) (ha : a ≤ 18446744073709551615) (hb : b ≤ 18446744073709551615) :
    Calls Try.prog 106 #[.int .u64 a, .int .u64 b] w fun e w' => e = .returned (.agg #[.int .u64 (dg (a * b) 0), .int .u64 (dg (a * b) 1), .int .u64 (dg (a * b) 2), .int .u64 (dg (a * b) 3)]) ∧ Below w.heap.size w w' := by
  obtain ⟨u1, u2, u3, u4⟩ := dg_small ha
  obtain ⟨v1, v2, v3, v4⟩ := dg_small hb
  have hx0 := dg_lt a 0
  have hx1 := dg_lt a 1
  have hy0 := dg_lt b 0
  have hy1 := dg_lt b 1
  have hA : a = dg a 0 + dg a 1 * 4294967296 := by rw [u1, u2]; omega
  have hB : b = dg b 0 + dg b 1 * 4294967296 := by rw [v1, v2]; omega
  obtain ⟨p⟩ := prod4 hx0 hx1 hy0 hy1
  obtain ⟨a0, c0, a1, c1, b1, e0, b2, e1, l0, l1, l2, l3, m0, m1, m2, m3, r1, r2, r3, r4, r5, r6, r7, r8, tot⟩ := p
  rw [← hA, ← hB] at tot
  have HD := Lib.hid (dg_of l0 l2 l3 m3 tot)
  clear tot hA hB u1 u2 v1 v2
  have U3 := Lib.hid u3
  have U4 := Lib.hid u4
  have V3 := Lib.hid v3
  have V4 := Lib.hid v4
  clear u3 u4 v3 v4
  have k00 := mul_bd hx0 hy0
  have k01 := mul_bd hx0 hy1
  have k10 := mul_bd hx1 hy0
  have k11 := mul_bd hx1 hy1
  go_enter Try.func106, Try.ntmps106
  go_wp2_with fail
  refine (big_any a _ ha).mono ?_
  rintro e w1 ⟨rfl, hb1⟩
  rw [U3.out, U4.out]
  obtain ⟨g1, f1⟩ := bcell hb1
  have z1 := (hb1).size
  try simp at z1
  try simp at g1
  try simp at f1
  have z1a : w.heap.size < w1.heap.size := by omega
  go_wp2_with fail
  refine (big_any b _ hb).mono ?_
  rintro e w2 ⟨rfl, hb2⟩
  rw [V3.out, V4.out]
  obtain ⟨g2, f2⟩ := bcell hb2
  have z2 := (hb2).size
  try simp at z2
  try simp at g2
  try simp at f2
  have z2a : w.heap.size < w2.heap.size := by omega
  generalize dg a 0 = x0 at *
  generalize dg a 1 = x1 at *
  generalize dg b 0 = y0 at *
  generalize dg b 1 = y1 at *
  go_wp2
  refine wp_loop_rounds 3 ?_
  rw [rounds_succ]
  go_wp2
  refine wp_loop_rounds 3 ?_
  rw [rounds_succ]
  go_wp2
  go_quiet (fail)
  go_wp2
  rw [rounds_succ]
  go_wp2
  go_quiet (fail)
  go_wp2
  rw [rounds_succ]
  go_wp2
  rw [rounds_succ]
  go_wp2
  refine wp_loop_rounds 3 ?_
  rw [rounds_succ]
  go_wp2
  go_quiet (fail)
  go_wp2
  rw [rounds_succ]
  go_wp2
  go_quiet (fail)
  go_wp2
  rw [rounds_succ]
  go_wp2
  have oR := (((((Own.new w 151 [.int .u64 0, .int .u64 0, .int .u64 0, .int .u64 0]).below hb1).below hb2).alloc (.cells #[.int .u64 x0, .int .u64 x1, .int .u64 0, .int .u64 0] 151)).alloc (.cells #[.int .u64 y0, .int .u64 y1, .int .u64 0, .int .u64 0] 151)).alloc (.cells #[.int .u64 0, .int .u64 0, .int .u64 0, .int .u64 0] 151)
  have hB := below_to (below_to (below_to (ba1 _ _) hb1) hb2) (ba3 w2 (.cells #[.int .u64 x0, .int .u64 x1, .int .u64 0, .int .u64 0] 151) (.cells #[.int .u64 y0, .int .u64 y1, .int .u64 0, .int .u64 0] 151) (.cells #[.int .u64 0, .int .u64 0, .int .u64 0, .int .u64 0] 151))
  have hne : w.heap.size ≠ w2.heap.size + 1 + 1 := by omega
  refine rounds_gen (fun W => Own W (w2.heap.size + 1 + 1) 151 [.int .u64 a0, .int .u64 b1, .int .u64 b2, .int .u64 e1] ∧ Own W w.heap.size 151 [.int .u64 0, .int .u64 0, .int .u64 0, .int .u64 0] ∧ Below w.heap.size w W) ?_ ?_
  · refine ⟨?_, ?_, ?_⟩
    · exact ((((((((((own_third w2 _ _ _ _).drewN _).set 0 _).drewN _).set 1 _).set 2 _).drewN _).set 1 _).drewN _).set 2 _).set 3 _
    · exact ((((((((((oR.drewN _).other hne 0 _).drewN _).other hne 1 _).other hne 2 _).drewN _).other hne 1 _).drewN _).other hne 2 _).other hne 3 _)
    · repeat (first | refine Below.setCell ?_ (by simp; omega) _ | refine bd ?_ _)
      exact hB
  · clear oR hB g1 f1 g2 f2 r1 r2 r3 r4 r5 r6 r7 r8
    rintro W ⟨oO, oR, hB⟩
    obtain ⟨c3, f3⟩ := oO.rules
    obtain ⟨c4, f4⟩ := oR.rules
    rw [rounds_succ]
    go_wp2
    refine bodyPost_ret (v := .agg #[.int .u64 a0, .int .u64 b1, .int .u64 b2, .int .u64 e1]) (by simp [results, Try.results106, go_sem, c4]) rfl ⟨by rw [HD.out.1, HD.out.2.1, HD.out.2.2.1, HD.out.2.2.2], ?_⟩
    repeat (refine Below.setCell ?_ (by first | omega | (simp; done) | (simp; omega)) _)
    exact hB
set_option maxRecDepth 100000 in
set_option maxHeartbeats 4000000 in
theorem bbelow_any (x y : Nat) (w : World) (hx : x < 340282366920938463463374607431768211456) (hy : y < 340282366920938463463374607431768211456) :
    Calls Try.prog 108 #[.agg #[.int .u64 (dg x 0), .int .u64 (dg x 1), .int .u64 (dg x 2), .int .u64 (dg x 3)], .agg #[.int .u64 (dg y 0), .int .u64 (dg y 1), .int .u64 (dg y 2), .int .u64 (dg y 3)]] w fun e w' => e = .returned (.bool (decide (x < y))) ∧ Below w.heap.size w w' := by
  have HX := Lib.hid (dg_sum x hx)
  have HY := Lib.hid (dg_sum y hy)
  clear hx hy
  have lx0 := dg_lt x 0
  have lx1 := dg_lt x 1
  have lx2 := dg_lt x 2
  have lx3 := dg_lt x 3
  have ly0 := dg_lt y 0
  have ly1 := dg_lt y 1
  have ly2 := dg_lt y 2
  have ly3 := dg_lt y 3
  generalize dg x 0 = x0 at *
  generalize dg x 1 = x1 at *
  generalize dg x 2 = x2 at *
  generalize dg x 3 = x3 at *
  generalize dg y 0 = y0 at *
  generalize dg y 1 = y1 at *
  generalize dg y 2 = y2 at *
  generalize dg y 3 = y3 at *
  go_enter Try.func108, Try.ntmps108
  go_wp2
  refine wp_loop_rounds 5 ?_
  rw [rounds_succ]
  go_wp2
  by_cases h3 : x3 = y3
  case neg =>
    have q : ((x3 : Int) != (y3 : Int)) = true := by simp; omega
    have H : Hid (decide (x < y) = decide (x3 < y3)) := by
      show _ = _
      have h1 := HX.out
      have h2 := HY.out
      exact decide_eq_decide.2 (by omega)
    clear h3
    go_quiet (fail)
    go_wp2
    go_quiet (fail)
    go_wp2
    go_ret
    exact ⟨by rw [H.out]; try rfl, by (repeat (refine bd ?_ _)); exact ba2 _ _ _⟩
  have q3 : ((x3 : Int) != (y3 : Int)) = false := by simp; omega
  have G3 := Lib.hid h3
  clear h3
  go_quiet (fail)
  go_wp2
  rw [rounds_succ]
  go_wp2
  by_cases h2 : x2 = y2
  case neg =>
    have q : ((x2 : Int) != (y2 : Int)) = true := by simp; omega
    have H : Hid (decide (x < y) = decide (x2 < y2)) := by
      show _ = _
      have h1 := HX.out
      have h2 := HY.out
      have g3 := G3.out
      exact decide_eq_decide.2 (by omega)
    clear h2
    go_quiet (fail)
    go_wp2
    go_quiet (fail)
    go_wp2
    go_ret
    exact ⟨by rw [H.out]; try rfl, by (repeat (refine bd ?_ _)); exact ba2 _ _ _⟩
  have q2 : ((x2 : Int) != (y2 : Int)) = false := by simp; omega
  have G2 := Lib.hid h2
  clear h2
  go_quiet (fail)
  go_wp2
  rw [rounds_succ]
  go_wp2
  by_cases h1 : x1 = y1
  case neg =>
    have q : ((x1 : Int) != (y1 : Int)) = true := by simp; omega
    have H : Hid (decide (x < y) = decide (x1 < y1)) := by
      show _ = _
      have h1 := HX.out
      have h2 := HY.out
      have g3 := G3.out
      have g2 := G2.out
      exact decide_eq_decide.2 (by omega)
    clear h1
    go_quiet (fail)
    go_wp2
    go_quiet (fail)
    go_wp2
    go_ret
    exact ⟨by rw [H.out]; try rfl, by (repeat (refine bd ?_ _)); exact ba2 _ _ _⟩
  have q1 : ((x1 : Int) != (y1 : Int)) = false := by simp; omega
  have G1 := Lib.hid h1
  clear h1
  go_quiet (fail)
  go_wp2
  rw [rounds_succ]
  go_wp2
  by_cases h0 : x0 = y0
  case neg =>
    have q : ((x0 : Int) != (y0 : Int)) = true := by simp; omega
    have H : Hid (decide (x < y) = decide (x0 < y0)) := by
      show _ = _
      have h1 := HX.out
      have h2 := HY.out
      have g3 := G3.out
      have g2 := G2.out
      have g1 := G1.out
      exact decide_eq_decide.2 (by omega)
    clear h0
    go_quiet (fail)
    go_wp2
    go_quiet (fail)
    go_wp2
    go_ret
    exact ⟨by rw [H.out]; try rfl, by (repeat (refine bd ?_ _)); exact ba2 _ _ _⟩
  have q0 : ((x0 : Int) != (y0 : Int)) = false := by simp; omega
  have G0 := Lib.hid h0
  clear h0
  go_quiet (fail)
  go_wp2
  rw [rounds_succ]
  go_wp2
  go_ret
  have H : decide (x < y) = false := by
    have h1 := HX.out
    have h2 := HY.out
    have g3 := G3.out
    have g2 := G2.out
    have g1 := G1.out
    have g0 := G0.out
    have g0 := G0.out
    have g1 := G1.out
    have g2 := G2.out
    have g3 := G3.out
    simp
    omega
  exact ⟨by rw [H]; try rfl, by (repeat (refine bd ?_ _)); exact ba2 _ _ _⟩

theorem rfrboth_any (an ad bn bd : Int) (w : World) (h1 : i64 an) (h2 : i64 ad) (h3 : i64 bn) (h4 : i64 bd) :
    Calls Try.prog 104 #[.agg #[.int .i64 an, .int .i64 ad], .agg #[.int .i64 bn, .int .i64 bd]] w fun e w' => e = .returned (.int .i64 (fboth an ad bn bd)) ∧ Below w.heap.size w w' := by
  by_cases p : fchk an ad = 0
  · have H := Lib.hid (fboth_0 (bn := bn) (bd := bd) p)
    have b1 : (fchk an ad != 0) = false := by simp [p]
    clear p
    go_enter Try.func104, Try.ntmps104
    go_wp2_with fail
    refine (rcheck_any _ _ _ h1 h2).mono ?_
    rintro e w1 ⟨rfl, hb1⟩
    obtain ⟨c1, f1⟩ := bcell hb1
    have z1 := (hb1).size
    try simp at z1
    try simp at c1
    try simp at f1
    have z1a : w.heap.size < w1.heap.size := by omega
    have z1b : w.heap.size + 1 < w1.heap.size := by omega
    go_wp2_with fail
    refine (rcheck_any _ _ _ h3 h4).mono ?_
    rintro e w2 ⟨rfl, hb2⟩
    go_wp2
    go_ret
    exact ⟨by rw [H.out]; try rfl, below_to (below_to (ba2 _ _ _) hb1) hb2⟩
  · have H := Lib.hid (fboth_1 (bn := bn) (bd := bd) p)
    have b1 : (fchk an ad != 0) = true := by simp [p]
    clear p
    go_enter Try.func104, Try.ntmps104
    go_wp2_with fail
    refine (rcheck_any _ _ _ h1 h2).mono ?_
    rintro e w1 ⟨rfl, hb1⟩
    obtain ⟨c1, f1⟩ := bcell hb1
    have z1 := (hb1).size
    try simp at z1
    try simp at c1
    try simp at f1
    have z1a : w.heap.size < w1.heap.size := by omega
    have z1b : w.heap.size + 1 < w1.heap.size := by omega
    go_wp2_with fail
    refine (rcheck_any _ _ _ h1 h2).mono ?_
    rintro e w2 ⟨rfl, hb2⟩
    go_wp2
    go_ret
    exact ⟨by rw [H.out]; try rfl, below_to (below_to (ba2 _ _ _) hb1) hb2⟩

end Go.Proofs.Ythlcmlngmcoknaa
