/- The row of the law LinkFinds. -/
import Derived.Test.YtmndifhjmbiodaaRows
import Derived.Test.YtmndifhjmbiodaaAbLaw
import Derived.Test.YtmndifhjmbiodaaLinkFinds
namespace Go.Proofs.Ytmndifhjmbiodaa
open Go Go.Ab Go.ChangeShapes Go.WideShapes Go.ChangeAt Go.RowKit

theorem linkFinds_own : ownKnob Try.prog.godebug = none := by kernel_rfl
theorem linkFinds_laidOut : laidOutB Try.prog = true := by kernel_rfl
theorem linkFinds_tys : TMs Try.prog [.sl (.pair (.sl (.int .u8)) (.pair (.sl (.pair (.int .i64) (.pair (.int .i64) (.unit)))) (.pair (.sl (.pair (.int .i64) (.pair (.int .i64) (.unit)))) (.unit)))), .int .i64] [29, 3] := tms_ok S.tabs.1 _ _ (by kernel_rfl)

set_option maxRecDepth 100000 in
theorem linkFinds_lifted (os : Os) (started : os.Started) (H : Type) (enc : TypeId × Value → H) :
    ReturnsInHanded {} Try.checked os 4 .any (Rows.linkFindsSpec.pre6 enc Try.prog Try.f4 Rows.linkFindsRow.domain false) (Rows.linkFindsSpec.post enc Try.prog Try.f4 false true false false) := by
  refine returnsInHanded_of_change (C := Try.checked) linkFinds_own started (by kernel_rfl) Try.func4
    (ChangeSpec.witness6 (enc := enc) (C := Try.checked) false ⟨#[], #[.slice none 0 0, .int .i64 0], []⟩ 8 (by kernel_rfl) (by kernel_rfl) (by kernel_rfl) (by kernel_rfl)) ?_
  intro W base args ds gs before hval hW _ _
  exact law_post (P := Try.prog) (F := fun k x => S.law_LinkFinds_F k x) linkFinds_laidOut (by rw [Try.params4]) linkFinds_tys (by decide) (tb := 4) (by kernel_rfl) Try.underlying4 rfl
    (fun ds hd => match ds, hd with | [_, _], _ => rfl) S.law_LinkFinds_holds linkFinds_law hval hW

theorem linkFinds_holds : Rows.LinkFindsSaid :=
  OpenClaim.holds_of_wide 4 Try.f4 rfl rfl rfl rfl rfl rfl rfl ⟨rfl, rfl, rfl, rfl, rfl⟩ rfl rfl rfl rfl rfl (by kernel_rfl) Try.func4 (by kernel_rfl)
    (of_decide_eq_true (by kernel_rfl)) (by unfold Func.isWrapper; first | (rw [if_pos (by decide +kernel)]; kernel_rfl) | (rw [if_neg (by decide +kernel)]; exact ⟨rfl, rfl⟩))
    (fun os started H enc _ => linkFinds_lifted os started H enc)

end Go.Proofs.Ytmndifhjmbiodaa
