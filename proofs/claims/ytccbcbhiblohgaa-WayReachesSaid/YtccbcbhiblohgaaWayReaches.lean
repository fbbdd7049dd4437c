/- way.Reach tells to which nodes one comes, as the document says. -/
import Derived.Test.YtccbcbhiblohgaaReach
import Derived.Test.YtccbcbhiblohgaaAbLaw
namespace Go.Proofs.Ytccbcbhiblohgaa
open Go Go.Ab S

theorem reachGo_nodes {next : List (List Int)} (hW : WayOK next) {wo : Int} : ∀ (f k : Nat) (s : List Int), Nodes next.length s → Nodes next.length (reachGo next wo f s k)
  | 0, _, _, h => h
  | f + 1, k, s, h => by
    simp only [reachGo]
    split
    · rename_i hk
      exact reachGo_nodes hW f _ _ (round_nodes hW (nodes_at h hk) h)
    · exact h
theorem reach_nodes {next : List (List Int)} (hW : WayOK next) {nf : Nat} {i wo : Int} (hi : 0 ≤ i ∧ i < next.length) : Nodes next.length (reach nf next i wo) := by
  unfold reach
  split
  · exact ⟨List.nodup_nil, fun x hx => by cases hx⟩
  · exact reachGo_nodes hW nf 0 [i] (one_nodes hi)

theorem wayReaches_law (x : denPs (lawPs [.sl (.sl (.int .i64))])) (_ : wfPs [.sl (.sl (.int .i64))] x) : ∃ n, law_WayReaches_F n x = some (true, ()) := by
  obtain ⟨next, _⟩ := x
  refine ⟨12, ?_⟩
  simp only [law_WayReaches_F, law_WayReaches_f, law_WayReaches_p, way_Reach_f, way_Reach_p]
  rw [way_Check_F (by decide), ref_WayCheck_F (by decide)]
  simp only [Option.bind_some]
  by_cases h : wayCode next = 0
  · have hW := wayCode_ok h
    have hp := hW.pos
    have h0 : (0 : Int) ≤ 0 ∧ (0 : Int) < next.length := by omega
    rw [h, from_F hW (by decide) h0, reach_F hW (by decide) h0]
    have hN := reach_nodes (nf := 12) (wo := -1) hW h0
    have h8 := hW.few
    have hl := hN.len
    simp only [Option.bind_some, show ((0 : Int) != 0) = false from rfl, cond_false]
    rw [set_F _ (Nat.le_trans hl (Nat.le_trans h8 (by decide))) (by omega) fun y hy => by have := hN.good y hy; omega]
    simp
  · simp [bne_t h]
end Go.Proofs.Ytccbcbhiblohgaa
