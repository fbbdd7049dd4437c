/- The row of the law LinkTells. -/
import Derived.Test.YtmndifhjmbiodaaRows
import Derived.Test.YtmndifhjmbiodaaAbLaw
import Derived.Test.YtmndifhjmbiodaaLinkTells
namespace Go.Proofs.Ytmndifhjmbiodaa
open Go Go.Ab Go.ChangeShapes Go.WideShapes Go.ChangeAt Go.RowKit

theorem linkTells_own : ownKnob Try.prog.godebug = none := by kernel_rfl
theorem linkTells_laidOut : laidOutB Try.prog = true := by kernel_rfl
theorem linkTells_tys : TMs Try.prog [.sl (.pair (.sl (.int .u8)) (.pair (.sl (.pair (.int .i64) (.pair (.int .i64) (.unit)))) (.pair (.sl (.pair (.int .i64) (.pair (.int .i64) (.unit)))) (.unit))))] [29] := tms_ok S.tabs.1 _ _ (by kernel_rfl)

set_option maxRecDepth 100000 in
theorem linkTells_lifted (os : Os) (started : os.Started) (H : Type) (enc : TypeId × Value → H) :
    ReturnsInHanded {} Try.checked os 6 .any (Rows.linkTellsSpec.pre6 enc Try.prog Try.f6 Rows.linkTellsRow.domain false) (Rows.linkTellsSpec.post enc Try.prog Try.f6 false true false false) := by
  refine returnsInHanded_of_change (C := Try.checked) linkTells_own started (by kernel_rfl) Try.func6
    (ChangeSpec.witness6 (enc := enc) (C := Try.checked) false ⟨#[], #[.slice none 0 0], []⟩ 8 (by kernel_rfl) (by kernel_rfl) (by kernel_rfl) (by kernel_rfl)) ?_
  intro W base args ds gs before hval hW _ _
  exact law_post (P := Try.prog) (F := fun k x => S.law_LinkTells_F k x) linkTells_laidOut (by rw [Try.params6]) linkTells_tys (by decide) (tb := 4) (by kernel_rfl) Try.underlying4 rfl
    (fun ds hd => match ds, hd with | [_], _ => rfl) S.law_LinkTells_holds linkTells_law hval hW

theorem linkTells_holds : Rows.LinkTellsSaid :=
  OpenClaim.holds_of_wide 6 Try.f6 rfl rfl rfl rfl rfl rfl rfl ⟨rfl, rfl, rfl, rfl, rfl⟩ rfl rfl rfl rfl rfl (by kernel_rfl) Try.func6 (by kernel_rfl)
    (of_decide_eq_true (by kernel_rfl)) (by unfold Func.isWrapper; first | (rw [if_pos (by decide +kernel)]; kernel_rfl) | (rw [if_neg (by decide +kernel)]; exact ⟨rfl, rfl⟩))
    (fun os started H enc _ => linkTells_lifted os started H enc)

end Go.Proofs.Ytmndifhjmbiodaa
