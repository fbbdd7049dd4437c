/- What a value is. -/
import Derived.Test.YtokjogplnoeicaaFn1
import Derived.Test.YtokjogplnoeicaaLib
namespace Go.Proofs.Ytokjogplnoeicaa
open Go Go.Ab S

theorem value_F' (nf : Nat) (x : Int) : ref_Value_f nf x = some (decide (0 ≤ x) && decide (x ≤ 255), ()) := by
  simp only [ref_Value_f, ref_Value_p]
  by_cases h : 0 ≤ x <;> simp [h]
end Go.Proofs.Ytokjogplnoeicaa
