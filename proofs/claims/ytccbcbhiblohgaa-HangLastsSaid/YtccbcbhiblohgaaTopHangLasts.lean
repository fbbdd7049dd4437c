/- The row of the law HangLasts. -/
import Derived.Test.YtccbcbhiblohgaaRows
import Derived.Test.YtccbcbhiblohgaaHangLasts
namespace Go.Proofs.Ytccbcbhiblohgaa
open Go Go.Ab Go.ChangeShapes Go.WideShapes Go.ChangeAt Go.RowKit

theorem hangLasts_own : ownKnob Try.prog.godebug = none := by kernel_rfl
theorem hangLasts_laidOut : laidOutB Try.prog = true := by kernel_rfl
theorem hangLasts_tys : TMs Try.prog [.sl (.sl (.int .i64))] [22] := tms_ok S.tabs.1 _ _ (by kernel_rfl)

set_option maxRecDepth 100000 in
theorem hangLasts_lifted (os : Os) (started : os.Started) (H : Type) (enc : TypeId × Value → H) :
    ReturnsInHanded {} Try.checked os 16 .any (Rows.hangLastsSpec.pre6 enc Try.prog Try.f16 Rows.hangLastsRow.domain false) (Rows.hangLastsSpec.post enc Try.prog Try.f16 false true false false) := by
  refine returnsInHanded_of_change (C := Try.checked) hangLasts_own started (by kernel_rfl) Try.func16
    (ChangeSpec.witness6 (enc := enc) (C := Try.checked) false ⟨#[], #[.slice none 0 0], []⟩ 8 (by kernel_rfl) (by kernel_rfl) (by kernel_rfl) (by kernel_rfl)) ?_
  intro W base args ds gs before hval hW _ _
  exact law_post (P := Try.prog) (F := fun k x => S.law_HangLasts_F k x) hangLasts_laidOut (by rw [Try.params16]) hangLasts_tys (by decide) (tb := 4) (by kernel_rfl) Try.underlying4 rfl
    (fun ds hd => match ds, hd with | [_], _ => rfl) S.law_HangLasts_holds hangLasts_law hval hW

theorem hangLasts_holds : Rows.HangLastsSaid :=
  OpenClaim.holds_of_wide 16 Try.f16 rfl rfl rfl rfl rfl rfl rfl ⟨rfl, rfl, rfl, rfl, rfl⟩ rfl rfl rfl rfl rfl (by kernel_rfl) Try.func16 (by kernel_rfl)
    (of_decide_eq_true (by kernel_rfl)) (by unfold Func.isWrapper; first | (rw [if_pos (by decide +kernel)]; kernel_rfl) | (rw [if_neg (by decide +kernel)]; exact ⟨rfl, rfl⟩))
    (fun os started H enc _ => hangLasts_lifted os started H enc)

end Go.Proofs.Ytccbcbhiblohgaa
