/- The row of the law NeedCodes. -/
import Derived.Test.YtpnganfbonlphaaRows
import Derived.Test.YtpnganfbonlphaaAbLaw
import Derived.Test.YtpnganfbonlphaaNeedCodes
namespace Go.Proofs.Ytpnganfbonlphaa
open Go Go.Ab Go.ChangeShapes Go.WideShapes Go.ChangeAt Go.RowKit

theorem needCodes_own : ownKnob Try.prog.godebug = none := by kernel_rfl
theorem needCodes_laidOut : laidOutB Try.prog = true := by kernel_rfl
theorem needCodes_tys : TMs Try.prog [.int .i64, .sl (.pair (.int .i64) (.pair (.int .i64) (.pair (.int .i64) (.pair (.int .i64) (.unit))))), .int .i64, .sl (.int .i64)] [3, 22, 3, 29] := tms_ok S.tabs.1 _ _ (by kernel_rfl)

set_option maxRecDepth 100000 in
theorem needCodes_lifted (os : Os) (started : os.Started) (H : Type) (enc : TypeId × Value → H) :
    ReturnsInHanded {} Try.checked os 9 .any (Rows.needCodesSpec.pre6 enc Try.prog Try.f9 Rows.needCodesRow.domain false) (Rows.needCodesSpec.post enc Try.prog Try.f9 false true false false) := by
  refine returnsInHanded_of_change (C := Try.checked) needCodes_own started (by kernel_rfl) Try.func9
    (ChangeSpec.witness6 (enc := enc) (C := Try.checked) false ⟨#[], #[.int .i64 0, .slice none 0 0, .int .i64 0, .slice none 0 0], []⟩ 8 (by kernel_rfl) (by kernel_rfl) (by kernel_rfl) (by kernel_rfl)) ?_
  intro W base args ds gs before hval hW _ _
  exact law_post (P := Try.prog) (F := fun k x => S.law_NeedCodes_F k x) needCodes_laidOut (by rw [Try.params9]) needCodes_tys (by decide) (tb := 4) (by kernel_rfl) Try.underlying4 rfl
    (fun ds hd => match ds, hd with | [_, _, _, _], _ => rfl) S.law_NeedCodes_holds needCodes_law hval hW

theorem needCodes_holds : Rows.NeedCodesSaid :=
  OpenClaim.holds_of_wide 9 Try.f9 rfl rfl rfl rfl rfl rfl rfl ⟨rfl, rfl, rfl, rfl, rfl⟩ rfl rfl rfl rfl rfl (by kernel_rfl) Try.func9 (by kernel_rfl)
    (of_decide_eq_true (by kernel_rfl)) (by unfold Func.isWrapper; first | (rw [if_pos (by decide +kernel)]; kernel_rfl) | (rw [if_neg (by decide +kernel)]; exact ⟨rfl, rfl⟩))
    (fun os started H enc _ => needCodes_lifted os started H enc)

end Go.Proofs.Ytpnganfbonlphaa
