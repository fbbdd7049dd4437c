/- The row of the law MachCodes. -/
import Derived.Test.YtokjogplnoeicaaRows
import Derived.Test.YtokjogplnoeicaaAbLaw
import Derived.Test.YtokjogplnoeicaaMachCodes
namespace Go.Proofs.Ytokjogplnoeicaa
open Go Go.Ab Go.ChangeShapes Go.WideShapes Go.ChangeAt Go.RowKit

theorem machCodes_own : ownKnob Try.prog.godebug = none := by kernel_rfl
theorem machCodes_laidOut : laidOutB Try.prog = true := by kernel_rfl
theorem machCodes_by : byB Try.prog = true := by kernel_rfl
theorem machCodes_tys : TMs Try.prog [.int .i64, .sl (.pair (.sl (.pair (.int .i64) (.pair (.int .i64) (.pair (.int .i64) (.pair (.int .i64) (.pair (.int .i64) (.unit))))))) (.pair (.int .i64) (.pair (.int .i64) (.pair (.int .i64) (.unit))))), .sl (.int .i64)] [3, 22, 31] := tms_ok S.tabs.1 _ _ (by kernel_rfl)

set_option maxRecDepth 100000 in
theorem machCodes_lifted (os : Os) (started : os.Started) (H : Type) (enc : TypeId × Value → H) :
    ReturnsInHanded {} Try.checked os 18 .any (Rows.machCodesSpec.pre6 enc Try.prog Try.f18 Rows.machCodesRow.domain false) (Rows.machCodesSpec.post enc Try.prog Try.f18 false true false false) := by
  refine returnsInHanded_of_change_sized (C := Try.checked) machCodes_own started (by kernel_rfl) Try.func18
    (ChangeSpec.witness6 (enc := enc) (C := Try.checked) false ⟨#[], #[.int .i64 0, .slice none 0 0, .slice none 0 0], []⟩ 8 (by kernel_rfl) (by kernel_rfl) (by kernel_rfl) (by kernel_rfl)) ?_
  intro W base args ds gs before hval hW _ hwt _
  exact law_post_sz (P := Try.prog) (hwt := hwt) machCodes_by (F := fun k x => S.law_MachCodes_F k x) machCodes_laidOut (by rw [Try.params18]) machCodes_tys (by decide) (tb := 4) (by kernel_rfl) Try.underlying4 rfl
    (fun ds hd => match ds, hd with | [_, _, _], _ => rfl) S.law_MachCodes_holds machCodes_law hval hW

theorem machCodes_holds : Rows.MachCodesSaid :=
  OpenClaim.holds_of_wide 18 Try.f18 rfl rfl rfl rfl rfl rfl rfl ⟨rfl, rfl, rfl, rfl, rfl⟩ rfl rfl rfl rfl rfl (by kernel_rfl) Try.func18 (by kernel_rfl)
    (of_decide_eq_true (by kernel_rfl)) (by unfold Func.isWrapper; first | (rw [if_pos (by decide +kernel)]; kernel_rfl) | (rw [if_neg (by decide +kernel)]; exact ⟨rfl, rfl⟩))
    (fun os started H enc _ => machCodes_lifted os started H enc)

end Go.Proofs.Ytokjogplnoeicaa
