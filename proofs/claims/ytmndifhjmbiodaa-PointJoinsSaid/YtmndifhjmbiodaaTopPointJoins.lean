/- The row of the law PointJoins. -/
import Derived.Test.YtmndifhjmbiodaaRows
import Derived.Test.YtmndifhjmbiodaaAbLaw
import Derived.Test.YtmndifhjmbiodaaPointJoins
namespace Go.Proofs.Ytmndifhjmbiodaa
open Go Go.Ab Go.ChangeShapes Go.WideShapes Go.ChangeAt Go.RowKit

theorem pointJoins_own : ownKnob Try.prog.godebug = none := by kernel_rfl
theorem pointJoins_laidOut : laidOutB Try.prog = true := by kernel_rfl
theorem pointJoins_tys : TMs Try.prog [.int .i64, .sl (.pair (.int .i64) (.pair (.int .i64) (.pair (.int .i64) (.unit))))] [3, 56] := tms_ok S.tabs.1 _ _ (by kernel_rfl)

set_option maxRecDepth 100000 in
theorem pointJoins_lifted (os : Os) (started : os.Started) (H : Type) (enc : TypeId × Value → H) :
    ReturnsInHanded {} Try.checked os 9 .any (Rows.pointJoinsSpec.pre6 enc Try.prog Try.f9 Rows.pointJoinsRow.domain false) (Rows.pointJoinsSpec.post enc Try.prog Try.f9 false true false false) := by
  refine returnsInHanded_of_change (C := Try.checked) pointJoins_own started (by kernel_rfl) Try.func9
    (ChangeSpec.witness6 (enc := enc) (C := Try.checked) false ⟨#[], #[.int .i64 0, .slice none 0 0], []⟩ 8 (by kernel_rfl) (by kernel_rfl) (by kernel_rfl) (by kernel_rfl)) ?_
  intro W base args ds gs before hval hW _ _
  exact law_post (P := Try.prog) (F := fun k x => S.law_PointJoins_F k x) pointJoins_laidOut (by rw [Try.params9]) pointJoins_tys (by decide) (tb := 4) (by kernel_rfl) Try.underlying4 rfl
    (fun ds hd => match ds, hd with | [_, _], _ => rfl) S.law_PointJoins_holds pointJoins_law hval hW

theorem pointJoins_holds : Rows.PointJoinsSaid :=
  OpenClaim.holds_of_wide 9 Try.f9 rfl rfl rfl rfl rfl rfl rfl ⟨rfl, rfl, rfl, rfl, rfl⟩ rfl rfl rfl rfl rfl (by kernel_rfl) Try.func9 (by kernel_rfl)
    (of_decide_eq_true (by kernel_rfl)) (by unfold Func.isWrapper; first | (rw [if_pos (by decide +kernel)]; kernel_rfl) | (rw [if_neg (by decide +kernel)]; exact ⟨rfl, rfl⟩))
    (fun os started H enc _ => pointJoins_lifted os started H enc)

end Go.Proofs.Ytmndifhjmbiodaa
