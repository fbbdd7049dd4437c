/- The row of the law MachRuns. -/
import Derived.Test.YtokjogplnoeicaaRows
import Derived.Test.YtokjogplnoeicaaMachRuns
namespace Go.Proofs.Ytokjogplnoeicaa
open Go Go.Ab Go.ChangeShapes Go.WideShapes Go.ChangeAt Go.RowKit

theorem machRuns_own : ownKnob Try.prog.godebug = none := by kernel_rfl
theorem machRuns_laidOut : laidOutB Try.prog = true := by kernel_rfl
theorem machRuns_tys : TMs Try.prog [.sl (.int .u8), .sl (.int .i64)] [92, 31] := tms_ok S.tabs.1 _ _ (by kernel_rfl)

set_option maxRecDepth 100000 in
theorem machRuns_lifted (os : Os) (started : os.Started) (H : Type) (enc : TypeId × Value → H) :
    ReturnsInHanded {} Try.checked os 17 .any (Rows.machRunsSpec.pre6 enc Try.prog Try.f17 Rows.machRunsRow.domain false) (Rows.machRunsSpec.post enc Try.prog Try.f17 false true false false) := by
  refine returnsInHanded_of_change (C := Try.checked) machRuns_own started (by kernel_rfl) Try.func17
    (ChangeSpec.witness6 (enc := enc) (C := Try.checked) false ⟨#[], #[.slice none 0 0, .slice none 0 0], []⟩ 8 (by kernel_rfl) (by kernel_rfl) (by kernel_rfl) (by kernel_rfl)) ?_
  intro W base args ds gs before hval hW _ _
  exact law_post (P := Try.prog) (F := fun k x => S.law_MachRuns_F k x) machRuns_laidOut (by rw [Try.params17]) machRuns_tys (by decide) (tb := 4) (by kernel_rfl) Try.underlying4 rfl
    (fun ds hd => match ds, hd with | [_, _], _ => rfl) S.law_MachRuns_holds machRuns_law hval hW

theorem machRuns_holds : Rows.MachRunsSaid :=
  OpenClaim.holds_of_wide 17 Try.f17 rfl rfl rfl rfl rfl rfl rfl ⟨rfl, rfl, rfl, rfl, rfl⟩ rfl rfl rfl rfl rfl (by kernel_rfl) Try.func17 (by kernel_rfl)
    (of_decide_eq_true (by kernel_rfl)) (by unfold Func.isWrapper; first | (rw [if_pos (by decide +kernel)]; kernel_rfl) | (rw [if_neg (by decide +kernel)]; exact ⟨rfl, rfl⟩))
    (fun os started H enc _ => machRuns_lifted os started H enc)

end Go.Proofs.Ytokjogplnoeicaa
