/- The row of the law SpanTells. -/
import Derived.Test.YtokjogplnoeicaaRows
import Derived.Test.YtokjogplnoeicaaAbLaw
import Derived.Test.YtokjogplnoeicaaSpanTells
namespace Go.Proofs.Ytokjogplnoeicaa
open Go Go.Ab Go.ChangeShapes Go.WideShapes Go.ChangeAt Go.RowKit

theorem spanTells_own : ownKnob Try.prog.godebug = none := by kernel_rfl
theorem spanTells_laidOut : laidOutB Try.prog = true := by kernel_rfl
theorem spanTells_tys : TMs Try.prog [.int .i64, .sl (.pair (.sl (.pair (.int .i64) (.pair (.int .i64) (.pair (.int .i64) (.pair (.int .i64) (.pair (.int .i64) (.unit))))))) (.pair (.int .i64) (.pair (.int .i64) (.pair (.int .i64) (.unit))))), .sl (.pair (.int .i64) (.pair (.int .i64) (.unit)))] [3, 22, 58] := tms_ok S.tabs.1 _ _ (by kernel_rfl)

set_option maxRecDepth 100000 in
theorem spanTells_lifted (os : Os) (started : os.Started) (H : Type) (enc : TypeId × Value → H) :
    ReturnsInHanded {} Try.checked os 10 .any (Rows.spanTellsSpec.pre6 enc Try.prog Try.f10 Rows.spanTellsRow.domain false) (Rows.spanTellsSpec.post enc Try.prog Try.f10 false true false false) := by
  refine returnsInHanded_of_change (C := Try.checked) spanTells_own started (by kernel_rfl) Try.func10
    (ChangeSpec.witness6 (enc := enc) (C := Try.checked) false ⟨#[], #[.int .i64 0, .slice none 0 0, .slice none 0 0], []⟩ 8 (by kernel_rfl) (by kernel_rfl) (by kernel_rfl) (by kernel_rfl)) ?_
  intro W base args ds gs before hval hW _ _
  exact law_post (P := Try.prog) (F := fun k x => S.law_SpanTells_F k x) spanTells_laidOut (by rw [Try.params10]) spanTells_tys (by decide) (tb := 4) (by kernel_rfl) Try.underlying4 rfl
    (fun ds hd => match ds, hd with | [_, _, _], _ => rfl) S.law_SpanTells_holds spanTells_law hval hW

theorem spanTells_holds : Rows.SpanTellsSaid :=
  OpenClaim.holds_of_wide 10 Try.f10 rfl rfl rfl rfl rfl rfl rfl ⟨rfl, rfl, rfl, rfl, rfl⟩ rfl rfl rfl rfl rfl (by kernel_rfl) Try.func10 (by kernel_rfl)
    (of_decide_eq_true (by kernel_rfl)) (by unfold Func.isWrapper; first | (rw [if_pos (by decide +kernel)]; kernel_rfl) | (rw [if_neg (by decide +kernel)]; exact ⟨rfl, rfl⟩))
    (fun os started H enc _ => spanTells_lifted os started H enc)

end Go.Proofs.Ytokjogplnoeicaa
