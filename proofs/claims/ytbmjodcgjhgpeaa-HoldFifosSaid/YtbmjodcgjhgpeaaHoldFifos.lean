/- hold.Fifo tells how many misses there are. -/
import Derived.Test.YtbmjodcgjhgpeaaHold
import Derived.Test.YtbmjodcgjhgpeaaAbLaw
namespace Go.Proofs.Ytbmjodcgjhgpeaa
open Go Go.Ab S

theorem holdFifos_main (refs : List Int) (places : Int) : law_HoldFifos_f 100 refs places = some (true, ()) := by
  simp only [law_HoldFifos_f, law_HoldFifos_p, hold_Fifo_f, hold_Fifo_p, wrong_F, holdCode_F, Option.bind_some]
  by_cases h : holdCode refs places = 0
  · obtain ⟨m, _, h1, h2⟩ := hold_runs h false
    simp only [h, bne_self_eq_false, cond_false, h1, h2, Option.bind_some, beq_self_eq_true, cond_true]
  · simp only [bne_t h, cond_true, Option.bind_some, beq_self_eq_true]

theorem holdFifos_law (x : denPs (lawPs [.sl (.int .i64), .int .i64])) (_ : wfPs [.sl (.int .i64), .int .i64] x) : ∃ n, law_HoldFifos_F n x = some (true, ()) := by
  obtain ⟨refs, places, _⟩ := x
  exact ⟨100, holdFifos_main refs places⟩
end Go.Proofs.Ytbmjodcgjhgpeaa
