/- The row of the law HoldLeasts. -/
import Derived.Test.YtoglkjmdloppcaaRows
import Derived.Test.YtoglkjmdloppcaaAbLaw
import Derived.Test.YtoglkjmdloppcaaHoldLeasts
namespace Go.Proofs.Ytoglkjmdloppcaa
open Go Go.Ab Go.ChangeShapes Go.WideShapes Go.ChangeAt Go.RowKit

theorem holdLeasts_own : ownKnob Try.prog.godebug = none := by kernel_rfl
theorem holdLeasts_laidOut : laidOutB Try.prog = true := by kernel_rfl
theorem holdLeasts_by : byB Try.prog = true := by kernel_rfl
theorem holdLeasts_tys : TMs Try.prog [.sl (.int .i64), .int .i64] [34, 3] := tms_ok S.tabs.1 _ _ (by kernel_rfl)

set_option maxRecDepth 100000 in
theorem holdLeasts_lifted (os : Os) (started : os.Started) (H : Type) (enc : TypeId × Value → H) :
    ReturnsInHanded {} Try.checked os 8 .any (Rows.holdLeastsSpec.pre6 enc Try.prog Try.f8 Rows.holdLeastsRow.domain false) (Rows.holdLeastsSpec.post enc Try.prog Try.f8 false true false false) := by
  refine returnsInHanded_of_change_sized (C := Try.checked) holdLeasts_own started (by kernel_rfl) Try.func8
    (ChangeSpec.witness6 (enc := enc) (C := Try.checked) false ⟨#[], #[.slice none 0 0, .int .i64 0], []⟩ 8 (by kernel_rfl) (by kernel_rfl) (by kernel_rfl) (by kernel_rfl)) ?_
  intro W base args ds gs before hval hW _ hwt _
  exact law_post_sz (P := Try.prog) (hwt := hwt) holdLeasts_by (F := fun k x => S.law_HoldLeasts_F k x) holdLeasts_laidOut (by rw [Try.params8]) holdLeasts_tys (by decide) (tb := 4) (by kernel_rfl) Try.underlying4 rfl
    (fun ds hd => match ds, hd with | [_, _], _ => rfl) S.law_HoldLeasts_holds (fun x h _ => holdLeasts_law x h) hval hW

theorem holdLeasts_holds : Rows.HoldLeastsSaid :=
  OpenClaim.holds_of_wide 8 Try.f8 rfl rfl rfl rfl rfl rfl rfl ⟨rfl, rfl, rfl, rfl, rfl⟩ rfl rfl rfl rfl rfl (by kernel_rfl) Try.func8 (by kernel_rfl)
    (of_decide_eq_true (by kernel_rfl)) (by unfold Func.isWrapper; first | (rw [if_pos (by decide +kernel)]; kernel_rfl) | (rw [if_neg (by decide +kernel)]; exact ⟨rfl, rfl⟩))
    (fun os started H enc _ => holdLeasts_lifted os started H enc)

end Go.Proofs.Ytoglkjmdloppcaa
