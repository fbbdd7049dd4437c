/- way.Back tells by which pairs one goes back. -/
import Derived.Test.YtccbcbhiblohgaaBacks
import Derived.Test.YtccbcbhiblohgaaAbLaw
namespace Go.Proofs.Ytccbcbhiblohgaa
open Go Go.Ab S

theorem wayBacks_main (next : List (List Int)) : law_WayBacks_f 100000000000 next = some (true, ()) := by
  simp only [law_WayBacks_f, law_WayBacks_p, ref_WayCheck_F (show 9 ≤ 100000000000 by omega)]
  by_cases h : wayCode next = 0
  · have hW := wayCode_ok h
    have hl := backs_len hW
    simp only [back_F h, h, Option.bind_some, bne_self_eq_false, beq_self_eq_true, cond_false, cond_true, pairs_F hW (nf := 100000000000) (by omega),
      twos_F (nf := 100000000000) (backs next) (Nat.le_trans hl (by decide)) (by omega)]
  · simp only [back_bad (show 9 ≤ 100000000000 by omega) h, Option.bind_some, bne_t h, beq_self_eq_true, cond_true]
    rfl

theorem wayBacks_law (x : denPs (lawPs [.sl (.sl (.int .i64))])) (_ : wfPs [.sl (.sl (.int .i64))] x) : ∃ n, law_WayBacks_F n x = some (true, ()) := by
  obtain ⟨next, _⟩ := x
  exact ⟨100000000000, wayBacks_main next⟩
end Go.Proofs.Ytccbcbhiblohgaa
