/- The row of the law MachTexts. -/
import Derived.Test.YtkcnmbcefbeldaaRows
import Derived.Test.YtkcnmbcefbeldaaMachTexts
namespace Go.Proofs.Ytkcnmbcefbeldaa
open Go Go.Ab Go.ChangeShapes Go.WideShapes Go.ChangeAt Go.RowKit

theorem machTexts_own : ownKnob Try.prog.godebug = none := by kernel_rfl
theorem machTexts_laidOut : laidOutB Try.prog = true := by kernel_rfl
theorem machTexts_tys : TMs Try.prog [.sl (.int .u8)] [48] := tms_ok S.tabs.1 _ _ (by kernel_rfl)

set_option maxRecDepth 100000 in
theorem machTexts_lifted (os : Os) (started : os.Started) (H : Type) (enc : TypeId × Value → H) :
    ReturnsInHanded {} Try.checked os 9 .any (Rows.machTextsSpec.pre6 enc Try.prog Try.f9 Rows.machTextsRow.domain false) (Rows.machTextsSpec.post enc Try.prog Try.f9 false true false false) := by
  refine returnsInHanded_of_change (C := Try.checked) machTexts_own started (by kernel_rfl) Try.func9
    (ChangeSpec.witness6 (enc := enc) (C := Try.checked) false ⟨#[], #[.slice none 0 0], []⟩ 8 (by kernel_rfl) (by kernel_rfl) (by kernel_rfl) (by kernel_rfl)) ?_
  intro W base args ds gs before hval hW _ _
  exact law_post (P := Try.prog) (F := fun k x => S.law_MachTexts_F k x) machTexts_laidOut (by rw [Try.params9]) machTexts_tys (by decide) (tb := 4) (by kernel_rfl) Try.underlying4 rfl
    (fun ds hd => match ds, hd with | [_], _ => rfl) S.law_MachTexts_holds machTexts_law hval hW

theorem machTexts_holds : Rows.MachTextsSaid :=
  OpenClaim.holds_of_wide 9 Try.f9 rfl rfl rfl rfl rfl rfl rfl ⟨rfl, rfl, rfl, rfl, rfl⟩ rfl rfl rfl rfl rfl (by kernel_rfl) Try.func9 (by kernel_rfl)
    (of_decide_eq_true (by kernel_rfl)) (by unfold Func.isWrapper; first | (rw [if_pos (by decide +kernel)]; kernel_rfl) | (rw [if_neg (by decide +kernel)]; exact ⟨rfl, rfl⟩))
    (fun os started H enc _ => machTexts_lifted os started H enc)

end Go.Proofs.Ytkcnmbcefbeldaa
