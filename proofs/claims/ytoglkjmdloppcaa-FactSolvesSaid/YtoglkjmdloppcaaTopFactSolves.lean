/- The row of the law FactSolves. -/
import Derived.Test.YtoglkjmdloppcaaRows
import Derived.Test.YtoglkjmdloppcaaAbLaw
import Derived.Test.YtoglkjmdloppcaaFactSolves
namespace Go.Proofs.Ytoglkjmdloppcaa
open Go Go.Ab Go.ChangeShapes Go.WideShapes Go.ChangeAt Go.RowKit

theorem factSolves_own : ownKnob Try.prog.godebug = none := by kernel_rfl
theorem factSolves_laidOut : laidOutB Try.prog = true := by kernel_rfl
theorem factSolves_by : byB Try.prog = true := by kernel_rfl
theorem factSolves_tys : TMs Try.prog [.sl (.sl (.int .i64)), .pair (.bool) (.pair (.bool) (.pair (.sl (.int .u32)) (.pair (.sl (.int .u32)) (.pair (.int .u32) (.unit)))))] [22, 26] := tms_ok S.tabs.1 _ _ (by kernel_rfl)

set_option maxRecDepth 100000 in
theorem factSolves_lifted (os : Os) (started : os.Started) (H : Type) (enc : TypeId × Value → H) :
    ReturnsInHanded {} Try.checked os 3 .any (Rows.factSolvesSpec.pre6 enc Try.prog Try.f3 Rows.factSolvesRow.domain false) (Rows.factSolvesSpec.post enc Try.prog Try.f3 false true false false) := by
  refine returnsInHanded_of_change_sized (C := Try.checked) factSolves_own started (by kernel_rfl) Try.func3
    (ChangeSpec.witness6 (enc := enc) (C := Try.checked) false ⟨#[], #[.slice none 0 0, .agg #[.bool false, .bool false, .slice none 0 0, .slice none 0 0, .int .u32 0]], []⟩ 8 (by kernel_rfl) (by kernel_rfl) (by kernel_rfl) (by kernel_rfl)) ?_
  intro W base args ds gs before hval hW _ hwt _
  exact law_post_sz (P := Try.prog) (hwt := hwt) factSolves_by (F := fun k x => S.law_FactSolves_F k x) factSolves_laidOut (by rw [Try.params3]) factSolves_tys (by decide) (tb := 4) (by kernel_rfl) Try.underlying4 rfl
    (fun ds hd => match ds, hd with | [_, _], _ => rfl) S.law_FactSolves_holds (fun x h _ => factSolves_law x h) hval hW

theorem factSolves_holds : Rows.FactSolvesSaid :=
  OpenClaim.holds_of_wide 3 Try.f3 rfl rfl rfl rfl rfl rfl rfl ⟨rfl, rfl, rfl, rfl, rfl⟩ rfl rfl rfl rfl rfl (by kernel_rfl) Try.func3 (by kernel_rfl)
    (of_decide_eq_true (by kernel_rfl)) (by unfold Func.isWrapper; first | (rw [if_pos (by decide +kernel)]; kernel_rfl) | (rw [if_neg (by decide +kernel)]; exact ⟨rfl, rfl⟩))
    (fun os started H enc _ => factSolves_lifted os started H enc)

end Go.Proofs.Ytoglkjmdloppcaa
