/- The row of the law PlanLists. -/
import Derived.Test.YtgbldmehdipfaaaRows
import Derived.Test.YtgbldmehdipfaaaPlanLists
namespace Go.Proofs.Ytgbldmehdipfaaa
open Go Go.Ab Go.ChangeShapes Go.WideShapes Go.ChangeAt Go.RowKit

theorem planLists_own : ownKnob Try.prog.godebug = none := by kernel_rfl
theorem planLists_laidOut : laidOutB Try.prog = true := by kernel_rfl
theorem planLists_tys : TMs Try.prog [.int .i64, .sl (.pair (.int .i64) (.pair (.int .i64) (.unit))), .int .i64, .sl (.int .i64)] [3, 24, 3, 38] := tms_ok S.tabs.1 _ _ (by kernel_rfl)

set_option maxRecDepth 100000 in
theorem planLists_lifted (os : Os) (started : os.Started) (H : Type) (enc : TypeId × Value → H) :
    ReturnsInHanded {} Try.checked os 8 .any (Rows.planListsSpec.pre6 enc Try.prog Try.f8 Rows.planListsRow.domain false) (Rows.planListsSpec.post enc Try.prog Try.f8 false true false false) := by
  refine returnsInHanded_of_change (C := Try.checked) planLists_own started (by kernel_rfl) Try.func8
    (ChangeSpec.witness6 (enc := enc) (C := Try.checked) false ⟨#[], #[.int .i64 0, .slice none 0 0, .int .i64 0, .slice none 0 0], []⟩ 8 (by kernel_rfl) (by kernel_rfl) (by kernel_rfl) (by kernel_rfl)) ?_
  intro W base args ds gs before hval hW _ _
  exact law_post (P := Try.prog) (F := fun k x => S.law_PlanLists_F k x) planLists_laidOut (by rw [Try.params8]) planLists_tys (by decide) (tb := 4) (by kernel_rfl) Try.underlying4 rfl
    (fun ds hd => match ds, hd with | [_, _, _, _], _ => rfl) S.law_PlanLists_holds planLists_law hval hW

theorem planLists_holds : Rows.PlanListsSaid :=
  OpenClaim.holds_of_wide 8 Try.f8 rfl rfl rfl rfl rfl rfl rfl ⟨rfl, rfl, rfl, rfl, rfl⟩ rfl rfl rfl rfl rfl (by kernel_rfl) Try.func8 (by kernel_rfl)
    (of_decide_eq_true (by kernel_rfl)) (by unfold Func.isWrapper; first | (rw [if_pos (by decide +kernel)]; kernel_rfl) | (rw [if_neg (by decide +kernel)]; exact ⟨rfl, rfl⟩))
    (fun os started H enc _ => planLists_lifted os started H enc)

end Go.Proofs.Ytgbldmehdipfaaa
