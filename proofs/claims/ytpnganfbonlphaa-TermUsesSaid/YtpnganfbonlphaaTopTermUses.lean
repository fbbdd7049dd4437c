/- The row of the law TermUses. -/
import Derived.Test.YtpnganfbonlphaaRows
import Derived.Test.YtpnganfbonlphaaAbLaw
import Derived.Test.YtpnganfbonlphaaTermUses
namespace Go.Proofs.Ytpnganfbonlphaa
open Go Go.Ab Go.ChangeShapes Go.WideShapes Go.ChangeAt Go.RowKit

theorem termUses_own : ownKnob Try.prog.godebug = none := by kernel_rfl
theorem termUses_laidOut : laidOutB Try.prog = true := by kernel_rfl
theorem termUses_tys : TMs Try.prog [.int .i64, .sl (.pair (.int .i64) (.pair (.int .i64) (.pair (.int .i64) (.pair (.int .i64) (.unit)))))] [3, 22] := tms_ok S.tabs.1 _ _ (by kernel_rfl)

set_option maxRecDepth 100000 in
theorem termUses_lifted (os : Os) (started : os.Started) (H : Type) (enc : TypeId × Value → H) :
    ReturnsInHanded {} Try.checked os 4 .any (Rows.termUsesSpec.pre6 enc Try.prog Try.f4 Rows.termUsesRow.domain false) (Rows.termUsesSpec.post enc Try.prog Try.f4 false true false false) := by
  refine returnsInHanded_of_change (C := Try.checked) termUses_own started (by kernel_rfl) Try.func4
    (ChangeSpec.witness6 (enc := enc) (C := Try.checked) false ⟨#[], #[.int .i64 0, .slice none 0 0], []⟩ 8 (by kernel_rfl) (by kernel_rfl) (by kernel_rfl) (by kernel_rfl)) ?_
  intro W base args ds gs before hval hW _ _
  exact law_post (P := Try.prog) (F := fun k x => S.law_TermUses_F k x) termUses_laidOut (by rw [Try.params4]) termUses_tys (by decide) (tb := 4) (by kernel_rfl) Try.underlying4 rfl
    (fun ds hd => match ds, hd with | [_, _], _ => rfl) S.law_TermUses_holds termUses_law hval hW

theorem termUses_holds : Rows.TermUsesSaid :=
  OpenClaim.holds_of_wide 4 Try.f4 rfl rfl rfl rfl rfl rfl rfl ⟨rfl, rfl, rfl, rfl, rfl⟩ rfl rfl rfl rfl rfl (by kernel_rfl) Try.func4 (by kernel_rfl)
    (of_decide_eq_true (by kernel_rfl)) (by unfold Func.isWrapper; first | (rw [if_pos (by decide +kernel)]; kernel_rfl) | (rw [if_neg (by decide +kernel)]; exact ⟨rfl, rfl⟩))
    (fun os started H enc _ => termUses_lifted os started H enc)

end Go.Proofs.Ytpnganfbonlphaa
