/- Moves at once: how many circles are left. -/
import Derived.Test.YtkcnmbcefbeldaaSwapWalk
import Derived.Test.YtkcnmbcefbeldaaSwapDone
import Derived.Test.YtkcnmbcefbeldaaSwapRef
namespace Go.Proofs.Ytkcnmbcefbeldaa
open Go Go.Ab S

theorem end_rest {n : Nat} {f : Int → Int} {F U : List Int} (h : Freed n f F U) (he : ∀ j : Nat, j < n → F.getD j 0 ≠ j → U.getD j 0 ≠ 0) : RestC n f 0 F := by
  have key := end_above h he
  have hab : ∀ c : Int, Above n f 0 c ↔ Circ n f c := fun c => ⟨fun h => h.1, fun h => ⟨h, fun m => (h.inn m).1⟩⟩
  exact ⟨h.lenF, fun c hc ha => (key c hc).1 ((hab c).1 ha), fun c hc ha => (key c hc).2 fun h2 => ha ((hab c).2 h2)⟩

theorem swapRounds_main {nf : Nat} (hn : 100 ≤ nf) (regs : Int) (l : List Mv) : law_SwapRounds_f nf regs l = some (true, ()) := by
  obtain ⟨b1, b2⟩ := build_F (nf := nf) (by omega) regs l
  simp only [law_SwapRounds_f, law_SwapRounds_p, swap_Rounds_f, swap_Rounds_p]
  rw [check_F (by omega)]
  by_cases hc : mvCode regs l = 0
  · obtain ⟨F, U, f1, _, f2, f3⟩ := b1 hc
    have hcs : (1 ≤ regs ∧ regs ≤ 8) ∧ l.length ≤ 8 ∧ insB regs l = true := by
      unfold mvCode at hc
      split at hc
      · cases hc
      · split at hc
        · cases hc
        · rename_i h1 h2
          refine ⟨by omega, by omega, ?_⟩
          cases h : insB regs l with
          | false => exact absurd h h2
          | true => rfl
    obtain ⟨⟨c1, c2⟩, c3, c4⟩ := hcs
    obtain ⟨F', U', out', r1, _, _, r2, r3⟩ := free_F (nf := nf) (n := regs.toNat) (by omega) hn (P := fun _ _ => True) (fun _ _ _ _ _ _ _ _ _ _ _ _ => trivial) f1 f2 trivial
    have e0 : ((regs.toNat : Nat) : Int) = regs := by omega
    have hw := rounds_l0 (nf := nf) (n := regs.toNat) (by omega) (by omega) (end_rest r1 r2) (U', ())
    have hcir := circles_F (nf := nf) (by omega) (l := l) c3 (n := regs.toNat) (by omega) (fun r h0 h1 => by rw [e0] at h1 ⊢; exact mf_in c4 h0 h1)
    rw [e0] at hcir
    rw [f3, hc]
    simp only [Option.bind_some, bne_self_eq_false, cond_false, r3]
    rw [hw, hcir]
    simp
  · rw [b2 hc]
    simp only [Option.bind_some, bne_t hc, cond_true, beq_self_eq_true]

theorem swapRounds_law (x : denPs (lawPs [.int .i64, .sl (.pair (.int .i64) (.pair (.int .i64) .unit))])) (_ : wfPs [.int .i64, .sl (.pair (.int .i64) (.pair (.int .i64) .unit))] x) : ∃ n, law_SwapRounds_F n x = some (true, ()) := by
  obtain ⟨regs, l, _⟩ := x
  exact ⟨100, swapRounds_main (by omega) regs l⟩
end Go.Proofs.Ytkcnmbcefbeldaa
