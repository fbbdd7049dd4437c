/- The row of the law ColorLeasts. -/
import Derived.Test.YtkcnmbcefbeldaaRows
import Derived.Test.YtkcnmbcefbeldaaAbLaw
import Derived.Test.YtkcnmbcefbeldaaColorLeasts
namespace Go.Proofs.Ytkcnmbcefbeldaa
open Go Go.Ab Go.ChangeShapes Go.WideShapes Go.ChangeAt Go.RowKit

theorem colorLeasts_own : ownKnob Try.prog.godebug = none := by kernel_rfl
theorem colorLeasts_laidOut : laidOutB Try.prog = true := by kernel_rfl
theorem colorLeasts_tys : TMs Try.prog [.int .i64, .sl (.pair (.int .i64) (.pair (.int .i64) (.unit)))] [3, 22] := tms_ok S.tabs.1 _ _ (by kernel_rfl)

set_option maxRecDepth 100000 in
theorem colorLeasts_lifted (os : Os) (started : os.Started) (H : Type) (enc : TypeId × Value → H) :
    ReturnsInHanded {} Try.checked os 3 .any (Rows.colorLeastsSpec.pre6 enc Try.prog Try.f3 Rows.colorLeastsRow.domain false) (Rows.colorLeastsSpec.post enc Try.prog Try.f3 false true false false) := by
  refine returnsInHanded_of_change (C := Try.checked) colorLeasts_own started (by kernel_rfl) Try.func3
    (ChangeSpec.witness6 (enc := enc) (C := Try.checked) false ⟨#[], #[.int .i64 0, .slice none 0 0], []⟩ 8 (by kernel_rfl) (by kernel_rfl) (by kernel_rfl) (by kernel_rfl)) ?_
  intro W base args ds gs before hval hW _ _
  exact law_post (P := Try.prog) (F := fun k x => S.law_ColorLeasts_F k x) colorLeasts_laidOut (by rw [Try.params3]) colorLeasts_tys (by decide) (tb := 4) (by kernel_rfl) Try.underlying4 rfl
    (fun ds hd => match ds, hd with | [_, _], _ => rfl) S.law_ColorLeasts_holds colorLeasts_law hval hW

theorem colorLeasts_holds : Rows.ColorLeastsSaid :=
  OpenClaim.holds_of_wide 3 Try.f3 rfl rfl rfl rfl rfl rfl rfl ⟨rfl, rfl, rfl, rfl, rfl⟩ rfl rfl rfl rfl rfl (by kernel_rfl) Try.func3 (by kernel_rfl)
    (of_decide_eq_true (by kernel_rfl)) (by unfold Func.isWrapper; first | (rw [if_pos (by decide +kernel)]; kernel_rfl) | (rw [if_neg (by decide +kernel)]; exact ⟨rfl, rfl⟩))
    (fun os started H enc _ => colorLeasts_lifted os started H enc)

end Go.Proofs.Ytkcnmbcefbeldaa
