/- way.Check and the document's answer agree. -/
import Derived.Test.YtccbcbhiblohgaaWay
import Derived.Test.YtccbcbhiblohgaaAbLaw
namespace Go.Proofs.Ytccbcbhiblohgaa
open Go Go.Ab S

theorem wayChecks_law (x : denPs (lawPs [.sl (.sl (.int .i64))])) (_ : wfPs [.sl (.sl (.int .i64))] x) : ∃ n, law_WayChecks_F n x = some (true, ()) := by
  obtain ⟨next, _⟩ := x
  refine ⟨9, ?_⟩
  simp only [law_WayChecks_F, law_WayChecks_f, law_WayChecks_p]
  rw [way_Check_F (by decide), ref_WayCheck_F (by decide)]
  simp
end Go.Proofs.Ytccbcbhiblohgaa
