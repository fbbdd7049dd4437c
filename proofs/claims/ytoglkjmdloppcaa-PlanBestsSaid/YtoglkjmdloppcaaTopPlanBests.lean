/- The row of the law PlanBests. -/
import Derived.Test.YtoglkjmdloppcaaRows
import Derived.Test.YtoglkjmdloppcaaAbLaw
import Derived.Test.YtoglkjmdloppcaaPlanBests
namespace Go.Proofs.Ytoglkjmdloppcaa
open Go Go.Ab Go.ChangeShapes Go.WideShapes Go.ChangeAt Go.RowKit

theorem planBests_own : ownKnob Try.prog.godebug = none := by kernel_rfl
theorem planBests_laidOut : laidOutB Try.prog = true := by kernel_rfl
theorem planBests_by : byB Try.prog = true := by kernel_rfl
theorem planBests_tys : TMs Try.prog [.int .i64, .sl (.pair (.int .i64) (.pair (.int .i64) (.unit))), .int .i64] [3, 59, 3] := tms_ok S.tabs.1 _ _ (by kernel_rfl)

set_option maxRecDepth 100000 in
theorem planBests_lifted (os : Os) (started : os.Started) (H : Type) (enc : TypeId × Value → H) :
    ReturnsInHanded {} Try.checked os 9 .any (Rows.planBestsSpec.pre6 enc Try.prog Try.f9 Rows.planBestsRow.domain false) (Rows.planBestsSpec.post enc Try.prog Try.f9 false true false false) := by
  refine returnsInHanded_of_change_sized (C := Try.checked) planBests_own started (by kernel_rfl) Try.func9
    (ChangeSpec.witness6 (enc := enc) (C := Try.checked) false ⟨#[], #[.int .i64 0, .slice none 0 0, .int .i64 0], []⟩ 8 (by kernel_rfl) (by kernel_rfl) (by kernel_rfl) (by kernel_rfl)) ?_
  intro W base args ds gs before hval hW _ hwt _
  exact law_post_sz (P := Try.prog) (hwt := hwt) planBests_by (F := fun k x => S.law_PlanBests_F k x) planBests_laidOut (by rw [Try.params9]) planBests_tys (by decide) (tb := 4) (by kernel_rfl) Try.underlying4 rfl
    (fun ds hd => match ds, hd with | [_, _, _], _ => rfl) S.law_PlanBests_holds (fun x h _ => planBests_law x h) hval hW

theorem planBests_holds : Rows.PlanBestsSaid :=
  OpenClaim.holds_of_wide 9 Try.f9 rfl rfl rfl rfl rfl rfl rfl ⟨rfl, rfl, rfl, rfl, rfl⟩ rfl rfl rfl rfl rfl (by kernel_rfl) Try.func9 (by kernel_rfl)
    (of_decide_eq_true (by kernel_rfl)) (by unfold Func.isWrapper; first | (rw [if_pos (by decide +kernel)]; kernel_rfl) | (rw [if_neg (by decide +kernel)]; exact ⟨rfl, rfl⟩))
    (fun os started H enc _ => planBests_lifted os started H enc)

end Go.Proofs.Ytoglkjmdloppcaa
