/- The row of the law JumpLays. -/
import Derived.Test.YtgbldmehdipfaaaRows
import Derived.Test.YtgbldmehdipfaaaJumpLays
namespace Go.Proofs.Ytgbldmehdipfaaa
open Go Go.Ab Go.ChangeShapes Go.WideShapes Go.ChangeAt Go.RowKit

theorem jumpLays_own : ownKnob Try.prog.godebug = none := by kernel_rfl
theorem jumpLays_laidOut : laidOutB Try.prog = true := by kernel_rfl
theorem jumpLays_tys : TMs Try.prog [.sl (.pair (.int .i64) (.pair (.bool) (.pair (.int .i64) (.unit))))] [51] := tms_ok S.tabs.1 _ _ (by kernel_rfl)

set_option maxRecDepth 100000 in
theorem jumpLays_lifted (os : Os) (started : os.Started) (H : Type) (enc : TypeId × Value → H) :
    ReturnsInHanded {} Try.checked os 9 .any (Rows.jumpLaysSpec.pre6 enc Try.prog Try.f9 Rows.jumpLaysRow.domain false) (Rows.jumpLaysSpec.post enc Try.prog Try.f9 false true false false) := by
  refine returnsInHanded_of_change (C := Try.checked) jumpLays_own started (by kernel_rfl) Try.func9
    (ChangeSpec.witness6 (enc := enc) (C := Try.checked) false ⟨#[], #[.slice none 0 0], []⟩ 8 (by kernel_rfl) (by kernel_rfl) (by kernel_rfl) (by kernel_rfl)) ?_
  intro W base args ds gs before hval hW _ _
  exact law_post (P := Try.prog) (F := fun k x => S.law_JumpLays_F k x) jumpLays_laidOut (by rw [Try.params9]) jumpLays_tys (by decide) (tb := 4) (by kernel_rfl) Try.underlying4 rfl
    (fun ds hd => match ds, hd with | [_], _ => rfl) S.law_JumpLays_holds jumpLays_law hval hW

theorem jumpLays_holds : Rows.JumpLaysSaid :=
  OpenClaim.holds_of_wide 9 Try.f9 rfl rfl rfl rfl rfl rfl rfl ⟨rfl, rfl, rfl, rfl, rfl⟩ rfl rfl rfl rfl rfl (by kernel_rfl) Try.func9 (by kernel_rfl)
    (of_decide_eq_true (by kernel_rfl)) (by unfold Func.isWrapper; first | (rw [if_pos (by decide +kernel)]; kernel_rfl) | (rw [if_neg (by decide +kernel)]; exact ⟨rfl, rfl⟩))
    (fun os started H enc _ => jumpLays_lifted os started H enc)

end Go.Proofs.Ytgbldmehdipfaaa
