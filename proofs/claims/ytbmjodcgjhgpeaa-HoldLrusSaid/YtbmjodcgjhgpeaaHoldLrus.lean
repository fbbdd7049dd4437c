/- hold.Lru tells how many misses there are. -/
import Derived.Test.YtbmjodcgjhgpeaaHold
import Derived.Test.YtbmjodcgjhgpeaaAbLaw
namespace Go.Proofs.Ytbmjodcgjhgpeaa
open Go Go.Ab S

theorem holdLrus_main (refs : List Int) (places : Int) : law_HoldLrus_f 100 refs places = some (true, ()) := by
  simp only [law_HoldLrus_f, law_HoldLrus_p, hold_Lru_f, hold_Lru_p, wrong_F, holdCode_F, Option.bind_some]
  by_cases h : holdCode refs places = 0
  · obtain ⟨m, _, h1, h2⟩ := hold_runs h true
    simp only [h, bne_self_eq_false, cond_false, h1, h2, Option.bind_some, beq_self_eq_true, cond_true]
  · simp only [bne_t h, cond_true, Option.bind_some, beq_self_eq_true]

theorem holdLrus_law (x : denPs (lawPs [.sl (.int .i64), .int .i64])) (_ : wfPs [.sl (.int .i64), .int .i64] x) : ∃ n, law_HoldLrus_F n x = some (true, ()) := by
  obtain ⟨refs, places, _⟩ := x
  exact ⟨100, holdLrus_main refs places⟩
end Go.Proofs.Ytbmjodcgjhgpeaa
