/- What is proved here: contracts of functions and plain facts, several texts in one; each one says ahead what it proves, and its conditions. -/
import Derived.Test.YthlcmlngmcoknaaC01
/- What is proved here: a schedule's Bool in parts, so that the kernel looks at each part by itself. No condition. -/
namespace Go.Proofs.Ythlcmlngmcoknaa
open Go.RowKit

section
variable {P : Program} {ops : Array Oper} {Q : Exit → Act → World → Prop}
theorem schedB_app (E : Nat → Bool) (st : Bool) : ∀ (a b : List Sg) (listed : Array Bool), schedB ops E st a listed = true → schedB ops E st b (markS a listed) = true → schedB ops E st (a ++ b) listed = true
  | [], _, _, _, h => h
  | .t is :: r, b, listed, h1, h2 => by
    simp only [schedB, Bool.and_eq_true] at h1
    show schedB ops E st (.t is :: (r ++ b)) listed = true
    simp only [schedB, Bool.and_eq_true]
    exact ⟨h1.1, schedB_app E st r b _ h1.2 h2⟩
  | .f i :: r, b, listed, h1, h2 => by
    simp only [schedB, Bool.and_eq_true] at h1
    show schedB ops E st (.f i :: (r ++ b)) listed = true
    simp only [schedB, Bool.and_eq_true]
    exact ⟨h1.1, schedB_app E st r b _ h1.2 h2⟩
theorem markS_app : ∀ (a b : List Sg) (listed : Array Bool), markS (a ++ b) listed = markS b (markS a listed)
  | [], _, _ => rfl
  | .t is :: r, b, listed => markS_app r b _
  | .f i :: r, b, listed => markS_app r b _
/-- As wp_region_st, the check of the schedule in six parts. -/
theorem wp_region_st6 {id : Nat} {a : Act} {w : World} (l1 : List Sg) (a1 a2 a3 a4 : List Sg) (L1 L2 L3 L4 : Array Bool) (tl : List Nat) (hl : l1 = a1 ++ (a2 ++ (a3 ++ a4))) (hm : P.follows .mixedOrders = true)
    (e1 : markS a1 (Array.replicate ops.size false) = L1) (e2 : markS a2 L1 = L2) (e3 : markS a3 L2 = L3) (e4 : markS a4 L3 = L4)
    (h0 : (Region.noSelect ops && decide (lenS (tl.map .f) + lenS l1 = ops.size) && ((List.range ops.size).all fun j => L4.getD j true || !inS l1 j) && tl.all fun i => decide (i < ops.size)) = true)
    (h1 : schedB ops (inS l1) true a1 (Array.replicate ops.size false) = true) (h2 : schedB ops (inS l1) true a2 L1 = true) (h3 : schedB ops (inS l1) true a3 L2 = true) (h4 : schedB ops (inS l1) true a4 L3 = true)
    (h5 : (schedB ops (fun _ => true) true (tl.map .f) L4 && (Region.ready .any ops (markS (tl.map .f) L4)).isEmpty) = true)
    (hQ : ∀ c a (d : Tmp) v w, Q (.panic c) (a.put (some d) v) w → Q (.panic c) a w)
    (h : wpX P ops Q (fun w' => ∃ e, w' = grow w e) (fun a' w' => wpList P ops Q (opsAt ops tl) a' w') l1 a w.drew) :
    (Code.region id ops true).wp P Q a w := by
  have em : markS l1 (Array.replicate ops.size false) = L4 := by rw [hl, markS_app, markS_app, markS_app, e1, e2, e3, e4]
  have es : schedB ops (inS l1) true l1 (Array.replicate ops.size false) = true := by
    conv => lhs; arg 4; rw [hl]
    refine schedB_app _ _ _ _ _ h1 ?_
    rw [e1]
    refine schedB_app _ _ _ _ _ h2 ?_
    rw [e2]
    refine schedB_app _ _ _ _ _ h3 ?_
    rw [e3]; exact h4
  simp only [Bool.and_eq_true] at h0 h5
  refine wp_region_st l1 tl hm ?_ hQ h
  unfold sB
  rw [em, es, h0.1.1.1, h5.1, h0.1.1.2, h0.1.2, h5.2, h0.2]
  rfl
end
end Go.Proofs.Ythlcmlngmcoknaa
