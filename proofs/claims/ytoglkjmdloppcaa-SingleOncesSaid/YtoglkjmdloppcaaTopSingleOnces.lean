/- The row of the law SingleOnces. -/
import Derived.Test.YtoglkjmdloppcaaRows
import Derived.Test.YtoglkjmdloppcaaAbLaw
import Derived.Test.YtoglkjmdloppcaaSingleOnces
namespace Go.Proofs.Ytoglkjmdloppcaa
open Go Go.Ab Go.ChangeShapes Go.WideShapes Go.ChangeAt Go.RowKit

theorem singleOnces_own : ownKnob Try.prog.godebug = none := by kernel_rfl
theorem singleOnces_laidOut : laidOutB Try.prog = true := by kernel_rfl
theorem singleOnces_by : byB Try.prog = true := by kernel_rfl
theorem singleOnces_tys : TMs Try.prog [.int .i64, .sl (.pair (.sl (.pair (.int .i64) (.pair (.sl (.int .i64)) (.unit)))) (.pair (.sl (.pair (.int .i64) (.pair (.int .i64) (.pair (.int .i64) (.pair (.int .i64) (.pair (.int .i64) (.unit))))))) (.pair (.int .i64) (.pair (.int .i64) (.pair (.int .i64) (.pair (.sl (.int .i64)) (.unit)))))))] [3, 40] := tms_ok S.tabs.1 _ _ (by kernel_rfl)

set_option maxRecDepth 100000 in
theorem singleOnces_lifted (os : Os) (started : os.Started) (H : Type) (enc : TypeId × Value → H) :
    ReturnsInHanded {} Try.checked os 5 .any (Rows.singleOncesSpec.pre6 enc Try.prog Try.f5 Rows.singleOncesRow.domain false) (Rows.singleOncesSpec.post enc Try.prog Try.f5 false true false false) := by
  refine returnsInHanded_of_change_sized (C := Try.checked) singleOnces_own started (by kernel_rfl) Try.func5
    (ChangeSpec.witness6 (enc := enc) (C := Try.checked) false ⟨#[], #[.int .i64 0, .slice none 0 0], []⟩ 8 (by kernel_rfl) (by kernel_rfl) (by kernel_rfl) (by kernel_rfl)) ?_
  intro W base args ds gs before hval hW _ hwt _
  exact law_post_sz (P := Try.prog) (hwt := hwt) singleOnces_by (F := fun k x => S.law_SingleOnces_F k x) singleOnces_laidOut (by rw [Try.params5]) singleOnces_tys (by decide) (tb := 4) (by kernel_rfl) Try.underlying4 rfl
    (fun ds hd => match ds, hd with | [_, _], _ => rfl) S.law_SingleOnces_holds singleOnces_law hval hW

theorem singleOnces_holds : Rows.SingleOncesSaid :=
  OpenClaim.holds_of_wide 5 Try.f5 rfl rfl rfl rfl rfl rfl rfl ⟨rfl, rfl, rfl, rfl, rfl⟩ rfl rfl rfl rfl rfl (by kernel_rfl) Try.func5 (by kernel_rfl)
    (of_decide_eq_true (by kernel_rfl)) (by unfold Func.isWrapper; first | (rw [if_pos (by decide +kernel)]; kernel_rfl) | (rw [if_neg (by decide +kernel)]; exact ⟨rfl, rfl⟩))
    (fun os started H enc _ => singleOnces_lifted os started H enc)

end Go.Proofs.Ytoglkjmdloppcaa
