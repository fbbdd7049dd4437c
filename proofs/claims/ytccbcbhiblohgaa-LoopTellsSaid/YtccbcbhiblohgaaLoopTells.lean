/- loop.Loops tells the loop of each head. -/
import Derived.Test.YtccbcbhiblohgaaLoopRef
import Derived.Test.YtccbcbhiblohgaaAbLaw
namespace Go.Proofs.Ytccbcbhiblohgaa
open Go Go.Ab S

theorem loopTells_main (next : List (List Int)) : law_LoopTells_f 100000000000 next = some (true, ()) := by
  simp only [law_LoopTells_f, law_LoopTells_p, ref_WayCheck_F (show 9 ≤ 100000000000 by omega), Option.bind_some]
  by_cases h : wayCode next = 0
  · have hW := wayCode_ok h
    have h8 := hW.few
    have hm : next.length ≤ maxLen := Nat.le_trans h8 (by decide)
    obtain ⟨out, ho, ho2⟩ := loops_F h
    simp only [ho2, h, Option.bind_some, bne_self_eq_false, cond_false]
    refine (loop_chk (n := next.length) (F := fun fu t => law_LoopTells_l0 100000000000 next (out, 0, ()) fu out t) (yes := some (true, ())) (no := some (false, ())) (fun _ => true) ?_ ?_ 100000000000 0 (Int.le_refl _) (by omega) (by omega)).trans ?_
    · intro fu t a b
      have b' : t < (out.length : Int) := by rw [ho.1]; exact b
      simp only [law_LoopTells_l0]
      unfold law_LoopTells_b0
      simp only [b, b', decide_true, cond_true, inb_ok a b', ref_loop_eq hW (show 100 ≤ 100000000000 by omega) ho a b, Option.bind_some, bne_self_eq_false, cond_false, wrap_step a b hm]
    · intro fu
      simp only [law_LoopTells_l0]
      unfold law_LoopTells_b0
      simp [ho.1]
    · rw [chk_iff.2 fun _ _ _ => rfl]; rfl
  · simp only [loops_bad (show 9 ≤ 100000000000 by omega) h, Option.bind_some, bne_t h, beq_self_eq_true, cond_true]
    rfl

theorem loopTells_law (x : denPs (lawPs [.sl (.sl (.int .i64))])) (_ : wfPs [.sl (.sl (.int .i64))] x) : ∃ n, law_LoopTells_F n x = some (true, ()) := by
  obtain ⟨next, _⟩ := x
  exact ⟨100000000000, loopTells_main next⟩
end Go.Proofs.Ytccbcbhiblohgaa
