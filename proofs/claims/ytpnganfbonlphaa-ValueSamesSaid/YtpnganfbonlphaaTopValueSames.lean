/- The row of the law ValueSames. -/
import Derived.Test.YtpnganfbonlphaaRows
import Derived.Test.YtpnganfbonlphaaValueSames
namespace Go.Proofs.Ytpnganfbonlphaa
open Go Go.Ab Go.ChangeShapes Go.WideShapes Go.ChangeAt Go.RowKit

theorem valueSames_own : ownKnob Try.prog.godebug = none := by kernel_rfl
theorem valueSames_laidOut : laidOutB Try.prog = true := by kernel_rfl
theorem valueSames_tys : TMs Try.prog [.int .i64, .sl (.pair (.int .i64) (.pair (.int .i64) (.pair (.int .i64) (.pair (.int .i64) (.unit))))), .int .i64, .int .i64] [3, 22, 3, 3] := tms_ok S.tabs.1 _ _ (by kernel_rfl)

set_option maxRecDepth 100000 in
theorem valueSames_lifted (os : Os) (started : os.Started) (H : Type) (enc : TypeId × Value → H) :
    ReturnsInHanded {} Try.checked os 14 .any (Rows.valueSamesSpec.pre6 enc Try.prog Try.f14 Rows.valueSamesRow.domain false) (Rows.valueSamesSpec.post enc Try.prog Try.f14 false true false false) := by
  refine returnsInHanded_of_change (C := Try.checked) valueSames_own started (by kernel_rfl) Try.func14
    (ChangeSpec.witness6 (enc := enc) (C := Try.checked) false ⟨#[], #[.int .i64 0, .slice none 0 0, .int .i64 0, .int .i64 0], []⟩ 8 (by kernel_rfl) (by kernel_rfl) (by kernel_rfl) (by kernel_rfl)) ?_
  intro W base args ds gs before hval hW _ _
  exact law_post (P := Try.prog) (F := fun k x => S.law_ValueSames_F k x) valueSames_laidOut (by rw [Try.params14]) valueSames_tys (by decide) (tb := 4) (by kernel_rfl) Try.underlying4 rfl
    (fun ds hd => match ds, hd with | [_, _, _, _], _ => rfl) S.law_ValueSames_holds valueSames_law hval hW

theorem valueSames_holds : Rows.ValueSamesSaid :=
  OpenClaim.holds_of_wide 14 Try.f14 rfl rfl rfl rfl rfl rfl rfl ⟨rfl, rfl, rfl, rfl, rfl⟩ rfl rfl rfl rfl rfl (by kernel_rfl) Try.func14 (by kernel_rfl)
    (of_decide_eq_true (by kernel_rfl)) (by unfold Func.isWrapper; first | (rw [if_pos (by decide +kernel)]; kernel_rfl) | (rw [if_neg (by decide +kernel)]; exact ⟨rfl, rfl⟩))
    (fun os started H enc _ => valueSames_lifted os started H enc)

end Go.Proofs.Ytpnganfbonlphaa
