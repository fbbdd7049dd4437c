/- The row of the law MachSizes. -/
import Derived.Test.YtgbldmehdipfaaaRows
import Derived.Test.YtgbldmehdipfaaaMachSizes
namespace Go.Proofs.Ytgbldmehdipfaaa
open Go Go.Ab Go.ChangeShapes Go.WideShapes Go.ChangeAt Go.RowKit

theorem machSizes_own : ownKnob Try.prog.godebug = none := by kernel_rfl
theorem machSizes_laidOut : laidOutB Try.prog = true := by kernel_rfl
theorem machSizes_tys : TMs Try.prog [.int .u8] [5] := tms_ok S.tabs.1 _ _ (by kernel_rfl)

set_option maxRecDepth 100000 in
theorem machSizes_lifted (os : Os) (started : os.Started) (H : Type) (enc : TypeId × Value → H) :
    ReturnsInHanded {} Try.checked os 3 .any (Rows.machSizesSpec.pre6 enc Try.prog Try.f3 Rows.machSizesRow.domain false) (Rows.machSizesSpec.post enc Try.prog Try.f3 false true false false) := by
  refine returnsInHanded_of_change (C := Try.checked) machSizes_own started (by kernel_rfl) Try.func3
    (ChangeSpec.witness6 (enc := enc) (C := Try.checked) false ⟨#[], #[.int .u8 0], []⟩ 8 (by kernel_rfl) (by kernel_rfl) (by kernel_rfl) (by kernel_rfl)) ?_
  intro W base args ds gs before hval hW _ _
  exact law_post (P := Try.prog) (F := fun k x => S.law_MachSizes_F k x) machSizes_laidOut (by rw [Try.params3]) machSizes_tys (by decide) (tb := 4) (by kernel_rfl) Try.underlying4 rfl
    (fun ds hd => match ds, hd with | [_], _ => rfl) S.law_MachSizes_holds machSizes_law hval hW

theorem machSizes_holds : Rows.MachSizesSaid :=
  OpenClaim.holds_of_wide 3 Try.f3 rfl rfl rfl rfl rfl rfl rfl ⟨rfl, rfl, rfl, rfl, rfl⟩ rfl rfl rfl rfl rfl (by kernel_rfl) Try.func3 (by kernel_rfl)
    (of_decide_eq_true (by kernel_rfl)) (by unfold Func.isWrapper; first | (rw [if_pos (by decide +kernel)]; kernel_rfl) | (rw [if_neg (by decide +kernel)]; exact ⟨rfl, rfl⟩))
    (fun os started H enc _ => machSizes_lifted os started H enc)

end Go.Proofs.Ytgbldmehdipfaaa
