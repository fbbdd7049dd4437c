/- loop.Tame tells whether a way is tame. -/
import Derived.Test.YtccbcbhiblohgaaTame
import Derived.Test.YtccbcbhiblohgaaAbLaw
namespace Go.Proofs.Ytccbcbhiblohgaa
open Go Go.Ab S

theorem loopTames_main (next : List (List Int)) : law_LoopTames_f 100000000000 next = some (true, ()) := by
  simp only [law_LoopTames_f, law_LoopTames_p, ref_WayCheck_F (show 9 ≤ 100000000000 by omega), loop_Tame_f, loop_Tame_p, Option.bind_some]
  by_cases h : wayCode next = 0
  · have hW := wayCode_ok h
    obtain ⟨r, hr, hr2⟩ := rules_F hW (nf := 100000000000) (Nat.le_refl _)
    simp only [back_F h, hr2, h, Option.bind_some, bne_self_eq_false, beq_self_eq_true, cond_false, cond_true, tame_l0 hW (nf := 100000000000) (by omega) hr, ref_tame_F hW (nf := 100000000000) (by omega)]
  · simp only [back_bad (show 9 ≤ 100000000000 by omega) h, Option.bind_some, bne_t h, beq_self_eq_true, cond_true, Bool.not_false]

theorem loopTames_law (x : denPs (lawPs [.sl (.sl (.int .i64))])) (_ : wfPs [.sl (.sl (.int .i64))] x) : ∃ n, law_LoopTames_F n x = some (true, ()) := by
  obtain ⟨next, _⟩ := x
  exact ⟨100000000000, loopTames_main next⟩
end Go.Proofs.Ytccbcbhiblohgaa
