/- way.Order tells the nodes, the one left last first. -/
import Derived.Test.YtccbcbhiblohgaaBacks
import Derived.Test.YtccbcbhiblohgaaAbLaw
namespace Go.Proofs.Ytccbcbhiblohgaa
open Go Go.Ab S

theorem reverse_F : ∀ (l : List Int), l.length ≤ 8 → slices_Reverse_f 100 l = some (l.reverse, ())
  | [], _ => by kernel_rfl
  | [a], _ => by kernel_rfl
  | [a, b], _ => by kernel_rfl
  | [a, b, c], _ => by kernel_rfl
  | [a, b, c, d], _ => by kernel_rfl
  | [a, b, c, d, e], _ => by kernel_rfl
  | [a, b, c, d, e, f], _ => by kernel_rfl
  | [a, b, c, d, e, f, g], _ => by kernel_rfl
  | [a, b, c, d, e, f, g, h], _ => by kernel_rfl
  | a :: b :: c :: d :: e :: f :: g :: h :: i :: l, h9 => by simp at h9

theorem wayOrders_main (next : List (List Int)) : law_WayOrders_f 100 next = some (true, ()) := by
  simp only [law_WayOrders_f, law_WayOrders_p, ref_WayCheck_F (show 9 ≤ 100 by omega), way_Order_f, way_Order_p, way_Check_F (show 9 ≤ 100 by omega), Option.bind_some]
  by_cases h : wayCode next = 0
  · have hW := wayCode_ok h
    have h8 := hW.few
    have hl := (leftOf_ok hW).len
    have hm : (leftOf next).length ≤ maxLen := Nat.le_trans hl (Nat.le_trans h8 (by decide))
    obtain ⟨s0, hs0⟩ := ref_walk hW (nf := 100) (by omega)
    simp only [h, hs0, own_walk hW (nf := 100) (by omega), reverse_F _ (Nat.le_trans hl h8), Option.bind_some, bne_self_eq_false, cond_false]
    refine (loop_chk (n := (leftOf next).length) (F := fun fu t => law_WayOrders_l0 100 ((leftOf next).reverse, 0, ()) fu (leftOf next).reverse (leftOf next) t) (yes := some (true, ())) (no := some (false, ())) (fun _ => true) ?_ ?_ 100 0 (Int.le_refl _) (by omega) (by omega)).trans ?_
    · intro fu t a b
      simp only [law_WayOrders_l0]
      unfold law_WayOrders_b0
      have e1 : IntKind.i64.wrap (((leftOf next).length : Int) - 1) = ((leftOf next).length : Int) - 1 := Go.IntWalk.i64_in _ (by omega)
      have e2 : IntKind.i64.wrap (((leftOf next).length : Int) - 1 - t) = ((leftOf next).length : Int) - 1 - t := Go.IntWalk.i64_in _ (by omega)
      have e3 : (leftOf next).reverse.getD t.toNat 0 = (leftOf next).getD (((leftOf next).length : Int) - 1 - t).toNat 0 := by
        simp only [List.getD_eq_getElem?_getD]
        rw [List.getElem?_reverse (by omega), show (((leftOf next).length : Int) - 1 - t).toNat = (leftOf next).length - 1 - t.toNat by omega]
      simp only [List.length_reverse, b, decide_true, cond_true, e1, e2, inb_ok a b, inb_ok (show (0 : Int) ≤ ((leftOf next).length : Int) - 1 - t by omega) (show ((leftOf next).length : Int) - 1 - t < ((leftOf next).length : Int) by omega), e3, bne_self_eq_false, cond_false, wrap_step a b hm]
    · intro fu
      simp only [law_WayOrders_l0]
      unfold law_WayOrders_b0
      simp
    · rw [chk_iff.2 fun _ _ _ => rfl]; rfl
  · simp only [Option.bind_some, bne_t h, beq_self_eq_true, cond_true]
    rfl

theorem wayOrders_law (x : denPs (lawPs [.sl (.sl (.int .i64))])) (_ : wfPs [.sl (.sl (.int .i64))] x) : ∃ n, law_WayOrders_F n x = some (true, ()) := by
  obtain ⟨next, _⟩ := x
  exact ⟨100, wayOrders_main next⟩
end Go.Proofs.Ytccbcbhiblohgaa
