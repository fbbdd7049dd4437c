/- Ways: is a way tame? -/
import Derived.Test.YtccbcbhiblohgaaBacks
import Derived.Test.YtccbcbhiblohgaaRules
import Derived.Test.YtccbcbhiblohgaaFn5
namespace Go.Proofs.Ytccbcbhiblohgaa
open Go Go.Ab S

variable {next : List (List Int)} {nf : Nat}

theorem backs_good {p : Int × Int × Unit} (h : p ∈ backs next) : (0 ≤ p.1 ∧ p.1 < next.length) ∧ (0 ≤ p.2.1 ∧ p.2.1 < next.length) := by
  obtain ⟨i, j, h1, h2, rfl, _⟩ := (allB_mem _ _).1 h
  exact ⟨⟨by show (0 : Int) ≤ (i : Int); omega, by show (i : Int) < _; omega⟩, ⟨by show (0 : Int) ≤ (j : Int); omega, by show (j : Int) < _; omega⟩⟩

/-- does the second node of a pair rule the first one? -/
def tameB (nf : Nat) (next : List (List Int)) (t : Int) : Bool := domB nf next ((backs next).getD t.toNat (0, 0, ())).2.1 ((backs next).getD t.toNat (0, 0, ())).1
theorem rules_bit (hW : WayOK next) {r : List Int} (hr : RulesOK nf next r) {i j : Int} (hi : 0 ≤ i ∧ i < next.length) (hj : 0 ≤ j ∧ j < next.length) : (and32 (shrI .u32 (r.getD i.toNat 0) j) 1 == 0) = !domB nf next j i := by
  have h8 := hW.few
  obtain ⟨h1, h2⟩ := hr.2 i hi.1 hi.2
  rw [shr_and_beq0 h1 hj.1 (by omega), h2, Int.toNat_of_nonneg hj.1]

theorem tame_l0 (hW : WayOK next) (hn : 100 ≤ nf) {r : List Int} (hr : RulesOK nf next r) : loop_Tame_l0 nf (backs next, 0, ()) nf (backs next) r 0 = some (chk (tameB nf next) (backs next).length 0, 0, ()) := by
  have hl := backs_len hW
  have hm : (backs next).length ≤ maxLen := Nat.le_trans hl (by decide)
  refine (loop_chk (n := (backs next).length) (F := fun fu t => loop_Tame_l0 nf (backs next, 0, ()) fu (backs next) r t) (yes := some (true, 0, ())) (no := some (false, 0, ())) (tameB nf next) ?_ ?_ nf 0 (Int.le_refl _) (by omega) (by omega)).trans ?_
  · intro fu t a b
    have hg := backs_good (getD_mem (d := ((0, 0, ()) : Int × Int × Unit)) a b)
    have hb := rules_bit hW hr hg.1 hg.2
    simp only [and32] at hb
    simp only [loop_Tame_l0]
    unfold loop_Tame_b0
    simp only [b, decide_true, cond_true, inb_ok a b, hr.1, inb_ok hg.1.1 hg.1.2, hg.2.1, hb, wrap_step a b hm]
    show _ = bif domB nf next _ _ then _ else _
    cases domB nf next ((backs next).getD t.toNat (0, 0, ())).2.1 ((backs next).getD t.toNat (0, 0, ())).1 <;> rfl
  · intro fu
    simp only [loop_Tame_l0]
    unfold loop_Tame_b0
    simp
  · simp only [Int.sub_zero, Int.toNat_natCast]
    cases chk (tameB nf next) (backs next).length 0 <;> rfl

theorem ref_tame_F (hW : WayOK next) (hn : 100 ≤ nf) : ref_Tame_f nf next = some (chk (tameB nf next) (backs next).length 0, ()) := by
  have hl := backs_len hW
  have hm : (backs next).length ≤ maxLen := Nat.le_trans hl (by decide)
  simp only [ref_Tame_f, ref_Tame_p, pairs_F hW hn, Option.bind_some]
  refine (loop_chk (n := (backs next).length) (F := fun fu t => ref_Tame_l0 nf next (backs next, ()) fu (backs next) t) (yes := some (true, ())) (no := some (false, ())) (tameB nf next) ?_ ?_ nf 0 (Int.le_refl _) (by omega) (by omega)).trans ?_
  · intro fu t a b
    simp only [ref_Tame_l0]
    unfold ref_Tame_b0
    simp only [b, decide_true, cond_true, inb_ok a b, ref_Rules_F hW (show 12 ≤ nf by omega), Option.bind_some, wrap_step a b hm]
    show _ = bif domB nf next _ _ then _ else _
    cases domB nf next ((backs next).getD t.toNat (0, 0, ())).2.1 ((backs next).getD t.toNat (0, 0, ())).1 <;> rfl
  · intro fu
    simp only [ref_Tame_l0]
    unfold ref_Tame_b0
    simp
  · simp only [Int.sub_zero, Int.toNat_natCast]
    cases chk (tameB nf next) (backs next).length 0 <;> rfl
end Go.Proofs.Ytccbcbhiblohgaa
