/- The row of the law TileCosts. -/
import Derived.Test.YtpnganfbonlphaaRows
import Derived.Test.YtpnganfbonlphaaTileCosts
namespace Go.Proofs.Ytpnganfbonlphaa
open Go Go.Ab Go.ChangeShapes Go.WideShapes Go.ChangeAt Go.RowKit

theorem tileCosts_own : ownKnob Try.prog.godebug = none := by kernel_rfl
theorem tileCosts_laidOut : laidOutB Try.prog = true := by kernel_rfl
theorem tileCosts_tys : TMs Try.prog [.int .i64, .sl (.pair (.int .i64) (.pair (.int .i64) (.pair (.int .i64) (.pair (.int .i64) (.unit))))), .sl (.pair (.int .i64) (.pair (.int .i64) (.pair (.int .i64) (.pair (.int .i64) (.unit)))))] [3, 22, 86] := tms_ok S.tabs.1 _ _ (by kernel_rfl)

set_option maxRecDepth 100000 in
theorem tileCosts_lifted (os : Os) (started : os.Started) (H : Type) (enc : TypeId × Value → H) :
    ReturnsInHanded {} Try.checked os 18 .any (Rows.tileCostsSpec.pre6 enc Try.prog Try.f18 Rows.tileCostsRow.domain false) (Rows.tileCostsSpec.post enc Try.prog Try.f18 false true false false) := by
  refine returnsInHanded_of_change (C := Try.checked) tileCosts_own started (by kernel_rfl) Try.func18
    (ChangeSpec.witness6 (enc := enc) (C := Try.checked) false ⟨#[], #[.int .i64 0, .slice none 0 0, .slice none 0 0], []⟩ 8 (by kernel_rfl) (by kernel_rfl) (by kernel_rfl) (by kernel_rfl)) ?_
  intro W base args ds gs before hval hW _ _
  exact law_post (P := Try.prog) (F := fun k x => S.law_TileCosts_F k x) tileCosts_laidOut (by rw [Try.params18]) tileCosts_tys (by decide) (tb := 4) (by kernel_rfl) Try.underlying4 rfl
    (fun ds hd => match ds, hd with | [_, _, _], _ => rfl) S.law_TileCosts_holds tileCosts_law hval hW

theorem tileCosts_holds : Rows.TileCostsSaid :=
  OpenClaim.holds_of_wide 18 Try.f18 rfl rfl rfl rfl rfl rfl rfl ⟨rfl, rfl, rfl, rfl, rfl⟩ rfl rfl rfl rfl rfl (by kernel_rfl) Try.func18 (by kernel_rfl)
    (of_decide_eq_true (by kernel_rfl)) (by unfold Func.isWrapper; first | (rw [if_pos (by decide +kernel)]; kernel_rfl) | (rw [if_neg (by decide +kernel)]; exact ⟨rfl, rfl⟩))
    (fun os started H enc _ => tileCosts_lifted os started H enc)

end Go.Proofs.Ytpnganfbonlphaa
