/- The row of the law SingleRuns. -/
import Derived.Test.YtfbiknjadkpamaaRows
import Derived.Test.YtfbiknjadkpamaaSingleRuns
namespace Go.Proofs.Ytfbiknjadkpamaa
open Go Go.Ab Go.ChangeShapes Go.WideShapes Go.ChangeAt Go.RowKit

theorem singleRuns_own : ownKnob Try.prog.godebug = none := by kernel_rfl
theorem singleRuns_laidOut : laidOutB Try.prog = true := by kernel_rfl
theorem singleRuns_tys : TMs Try.prog [.int .i64, .sl (.pair (.sl (.pair (.int .i64) (.pair (.sl (.int .i64)) (.unit)))) (.pair (.sl (.pair (.int .i64) (.pair (.int .i64) (.pair (.int .i64) (.pair (.int .i64) (.pair (.int .i64) (.unit))))))) (.pair (.int .i64) (.pair (.int .i64) (.pair (.int .i64) (.pair (.sl (.int .i64)) (.unit))))))), .sl (.int .i64)] [3, 22, 26] := tms_ok S.tabs.1 _ _ (by kernel_rfl)

set_option maxRecDepth 100000 in
theorem singleRuns_lifted (os : Os) (started : os.Started) (H : Type) (enc : TypeId × Value → H) :
    ReturnsInHanded {} Try.checked os 4 .any (Rows.singleRunsSpec.pre6 enc Try.prog Try.f4 Rows.singleRunsRow.domain false) (Rows.singleRunsSpec.post enc Try.prog Try.f4 false true false false) := by
  refine returnsInHanded_of_change (C := Try.checked) singleRuns_own started (by kernel_rfl) Try.func4
    (ChangeSpec.witness6 (enc := enc) (C := Try.checked) false ⟨#[], #[.int .i64 0, .slice none 0 0, .slice none 0 0], []⟩ 8 (by kernel_rfl) (by kernel_rfl) (by kernel_rfl) (by kernel_rfl)) ?_
  intro W base args ds gs before hval hW _ _
  exact law_post (P := Try.prog) (F := fun k x => S.law_SingleRuns_F k x) singleRuns_laidOut (by rw [Try.params4]) singleRuns_tys (by decide) (tb := 4) (by kernel_rfl) Try.underlying4 rfl
    (fun ds hd => match ds, hd with | [_, _, _], _ => rfl) S.law_SingleRuns_holds singleRuns_law hval hW

theorem singleRuns_holds : Rows.SingleRunsSaid :=
  OpenClaim.holds_of_wide 4 Try.f4 rfl rfl rfl rfl rfl rfl rfl ⟨rfl, rfl, rfl, rfl, rfl⟩ rfl rfl rfl rfl rfl (by kernel_rfl) Try.func4 (by kernel_rfl)
    (of_decide_eq_true (by kernel_rfl)) (by unfold Func.isWrapper; first | (rw [if_pos (by decide +kernel)]; kernel_rfl) | (rw [if_neg (by decide +kernel)]; exact ⟨rfl, rfl⟩))
    (fun os started H enc _ => singleRuns_lifted os started H enc)

end Go.Proofs.Ytfbiknjadkpamaa
