/- value.Same and the document's answer agree. -/
import Derived.Test.YtpnganfbonlphaaFirsts
namespace Go.Proofs.Ytpnganfbonlphaa
open Go Go.Ab S

theorem valueSames_main (vars : Int) (l : List Term5) (i j : Int) : law_ValueSames_f 18 vars l i j = some (true, ()) := by
  simp only [law_ValueSames_f, law_ValueSames_p, value_Same_f, value_Same_p]
  have e0 : ∀ x : Int, within x [i, j] = decide (0 ≤ i ∧ i < x ∧ 0 ≤ j ∧ j < x) := fun x => by
    simp only [within, List.all_cons, List.all_nil, Bool.and_true, Bool.decide_and, Bool.and_assoc]
  simp only [term_F (nf := 18) (by omega) vars l, terms_F' (nf := 18) (by omega) vars l, within_F (nf := 18) _ [i, j] (by simp [maxLen]) (by simp), e0, Option.bind_some]
  by_cases hc : termCode vars l = 0
  · obtain ⟨_, _, _, hl, hg⟩ := termCode_ok hc
    have hlen : (nums l [] []).length = l.length := by rw [nums_len]; simp
    simp only [hc, bne_self_eq_false, cond_false, beq_self_eq_true, cond_true, numbers_F (nf := 18) hl (by omega) hg, firsts_F (nf := 18) hl (by omega) hg, Option.bind_some, hlen]
    have e3 : (if j < i then j else i) < 0 ↔ i < 0 ∨ j < 0 := by split <;> omega
    have e4 : (if j > i then j else i) ≥ (l.length : Int) ↔ i ≥ l.length ∨ j ≥ l.length := by split <;> omega
    simp only [e3, e4]
    by_cases h1 : i < 0 ∨ j < 0
    · have : ¬ (0 ≤ i ∧ i < l.length ∧ 0 ≤ j ∧ j < l.length) := by omega
      simp [h1, this]
    · by_cases h2 : i ≥ l.length ∨ j ≥ l.length
      · have : ¬ (0 ≤ i ∧ i < l.length ∧ 0 ≤ j ∧ j < l.length) := by omega
        simp [h1, h2, this]
      · have h3 : 0 ≤ i ∧ i < l.length ∧ 0 ≤ j ∧ j < l.length := by omega
        have a := inb_ok h3.1 h3.2.1
        have b := inb_ok h3.2.2.1 h3.2.2.2
        simp only [h1, h2, h3, a, b, decide_false, cond_false, cond_true, Option.bind_some, and_self, decide_true, Bool.not_true, beq_self_eq_true]
  · simp [beq_f hc, bne_t hc]

theorem valueSames_law (x : denPs (lawPs [.int .i64, .sl (.pair (.int .i64) (.pair (.int .i64) (.pair (.int .i64) (.pair (.int .i64) .unit)))), .int .i64, .int .i64])) (_ : wfPs [.int .i64, .sl (.pair (.int .i64) (.pair (.int .i64) (.pair (.int .i64) (.pair (.int .i64) .unit)))), .int .i64, .int .i64] x) : ∃ n, law_ValueSames_F n x = some (true, ()) := by
  obtain ⟨vars, l, i, j, _⟩ := x
  exact ⟨18, valueSames_main vars l i j⟩
end Go.Proofs.Ytpnganfbonlphaa
