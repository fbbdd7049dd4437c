/- The row of the law ColorPeels. -/
import Derived.Test.YtgbldmehdipfaaaRows
import Derived.Test.YtgbldmehdipfaaaColorPeels
namespace Go.Proofs.Ytgbldmehdipfaaa
open Go Go.Ab Go.ChangeShapes Go.WideShapes Go.ChangeAt Go.RowKit

theorem colorPeels_own : ownKnob Try.prog.godebug = none := by kernel_rfl
theorem colorPeels_laidOut : laidOutB Try.prog = true := by kernel_rfl
theorem colorPeels_tys : TMs Try.prog [.int .i64, .sl (.pair (.int .i64) (.pair (.int .i64) (.unit))), .int .i64] [3, 24, 3] := tms_ok S.tabs.1 _ _ (by kernel_rfl)

set_option maxRecDepth 100000 in
theorem colorPeels_lifted (os : Os) (started : os.Started) (H : Type) (enc : TypeId × Value → H) :
    ReturnsInHanded {} Try.checked os 4 .any (Rows.colorPeelsSpec.pre6 enc Try.prog Try.f4 Rows.colorPeelsRow.domain false) (Rows.colorPeelsSpec.post enc Try.prog Try.f4 false true false false) := by
  refine returnsInHanded_of_change (C := Try.checked) colorPeels_own started (by kernel_rfl) Try.func4
    (ChangeSpec.witness6 (enc := enc) (C := Try.checked) false ⟨#[], #[.int .i64 0, .slice none 0 0, .int .i64 0], []⟩ 8 (by kernel_rfl) (by kernel_rfl) (by kernel_rfl) (by kernel_rfl)) ?_
  intro W base args ds gs before hval hW _ _
  exact law_post (P := Try.prog) (F := fun k x => S.law_ColorPeels_F k x) colorPeels_laidOut (by rw [Try.params4]) colorPeels_tys (by decide) (tb := 4) (by kernel_rfl) Try.underlying4 rfl
    (fun ds hd => match ds, hd with | [_, _, _], _ => rfl) S.law_ColorPeels_holds colorPeels_law hval hW

theorem colorPeels_holds : Rows.ColorPeelsSaid :=
  OpenClaim.holds_of_wide 4 Try.f4 rfl rfl rfl rfl rfl rfl rfl ⟨rfl, rfl, rfl, rfl, rfl⟩ rfl rfl rfl rfl rfl (by kernel_rfl) Try.func4 (by kernel_rfl)
    (of_decide_eq_true (by kernel_rfl)) (by unfold Func.isWrapper; first | (rw [if_pos (by decide +kernel)]; kernel_rfl) | (rw [if_neg (by decide +kernel)]; exact ⟨rfl, rfl⟩))
    (fun os started H enc _ => colorPeels_lifted os started H enc)

end Go.Proofs.Ytgbldmehdipfaaa
