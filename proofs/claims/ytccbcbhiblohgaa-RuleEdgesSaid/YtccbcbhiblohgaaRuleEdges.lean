/- rule.Edge tells the edge of what each node rules. -/
import Derived.Test.YtccbcbhiblohgaaEdges
import Derived.Test.YtccbcbhiblohgaaAbLaw
namespace Go.Proofs.Ytccbcbhiblohgaa
open Go Go.Ab S

theorem ruleEdges_main {nf : Nat} (hn : 100000000000 ≤ nf) (next : List (List Int)) : law_RuleEdges_f nf next = some (true, ()) := by
  simp only [law_RuleEdges_f, law_RuleEdges_p, ref_WayCheck_F (show 9 ≤ nf by omega)]
  by_cases h : wayCode next = 0
  · have hW := wayCode_ok h
    have h8 := hW.few
    have hm : next.length ≤ maxLen := Nat.le_trans h8 (by decide)
    obtain ⟨o, ⟨h1, h3⟩, h2⟩ := edge_F h hn
    rw [h2, h]
    simp only [Option.bind_some, show ((0 : Int) != 0) = false from rfl, cond_false]
    have key := loop_inv (n := next.length) (F := fun fu t (q : List Int) => law_RuleEdges_l0 nf next (o, 0, ()) fu q t) (fun _ q => q = o) (fun fu t q ht0 ht1 hq => by
      subst hq
      refine ⟨q, ?_, rfl⟩
      rw [law_RuleEdges_l0, law_RuleEdges_b0, inb_ok ht0 (by omega), h1]
      simp only [ht1, decide_true, cond_true, ref_Edge_F hW (show 12 ≤ nf by omega), Option.bind_some, h3 t ht0 ht1, bne_self_eq_false, cond_false, wrap_step ht0 ht1 hm]) nf 0 o (Int.le_refl _) (by omega) (by omega) rfl
    obtain ⟨fu', s', g1, g5⟩ := key
    subst g1
    rw [g5, law_RuleEdges_l0, law_RuleEdges_b0]
    simp [h1]
  · simp only [rule_Edge_f, rule_Edge_p, way_Check_F (show 9 ≤ nf by omega), Option.bind_some, bne_t h, cond_true]
    simp

theorem ruleEdges_law (x : denPs (lawPs [.sl (.sl (.int .i64))])) (_ : wfPs [.sl (.sl (.int .i64))] x) : ∃ n, law_RuleEdges_F n x = some (true, ()) := by
  obtain ⟨next, _⟩ := x
  exact ⟨100000000000, ruleEdges_main (Nat.le_refl _) next⟩
end Go.Proofs.Ytccbcbhiblohgaa
