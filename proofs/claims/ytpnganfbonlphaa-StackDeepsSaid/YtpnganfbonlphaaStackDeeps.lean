/- stack.Deep tells how many are on the stack at the most. -/
import Derived.Test.YtpnganfbonlphaaStack
import Derived.Test.YtpnganfbonlphaaAbLaw
namespace Go.Proofs.Ytpnganfbonlphaa
open Go Go.Ab S

def deepGo : List SOp → Int → Int → Int
  | [], _, most => most
  | (op, _, _) :: r, deep, most => if op > 2 then deepGo r (deep - 1) most else deepGo r (deep + 1) (if deep + 1 > most then deep + 1 else most)

theorem deep_l0 {nf : Nat} (code : List SOp) (hl : code.length ≤ 40) : ∀ (fu : Nat) (deep most t : Int), -t ≤ deep → deep ≤ t → 0 ≤ t → t ≤ code.length → code.length < t + fu → stack_Deep_l0 nf code fu deep most t = some (deepGo (code.drop t.toNat) deep most, 0, ())
  | 0, _, _, _, _, _, _, _, h => by omega
  | fu + 1, deep, most, t, h0, h1, h2, h3, h4 => by
    rw [stack_Deep_l0, stack_Deep_b0]
    by_cases ht : t < code.length
    · rw [inb_ok (by omega) ht, wrap_in (n := deep + 1) (by omega) (by omega), wrap_in (n := deep - 1) (by omega) (by omega), wrap_in (n := t + 1) (by omega) (by omega)]
      rw [deep_l0 code hl fu (deep + 1) _ (t + 1) (by omega) (by omega) (by omega) (by omega) (by omega), deep_l0 code hl fu (deep - 1) _ (t + 1) (by omega) (by omega) (by omega) (by omega) (by omega)]
      rw [drop_step code t (0, 0, ()) (by omega) ht]
      generalize code.getD t.toNat (0, 0, ()) = x
      obtain ⟨op, v, _⟩ := x
      by_cases h : op > 2 <;> simp [ht, h, deepGo]
    · simp [ht, deepGo, List.drop_eq_nil_of_le (show code.length ≤ t.toNat by omega)]

theorem law_l0 {nf : Nat} (code : List SOp) (hl : code.length ≤ 40) (k : Int) : ∀ (fu : Nat) (deep most t : Int), -t ≤ deep → deep ≤ t → deep ≤ most → 0 ≤ t → t ≤ code.length → code.length < t + fu → law_StackDeeps_l0 nf code (k, 0, ()) fu most deep t = some (k == deepGo (code.drop t.toNat) deep most, ())
  | 0, _, _, _, _, _, _, _, _, h => by omega
  | fu + 1, deep, most, t, h0, h1, h5, h2, h3, h4 => by
    rw [law_StackDeeps_l0, law_StackDeeps_b0]
    by_cases ht : t < code.length
    · rw [inb_ok (by omega) ht, wrap_in (n := deep + 1) (by omega) (by omega), wrap_in (n := deep + 1 - 2) (by omega) (by omega), wrap_in (n := t + 1) (by omega) (by omega)]
      have e : deep + 1 - 2 = deep - 1 := by omega
      rw [e, drop_step code t (0, 0, ()) (by omega) ht]
      generalize code.getD t.toNat (0, 0, ()) = x
      obtain ⟨op, v, _⟩ := x
      by_cases h : op > 2
      · have h6 : ¬ deep - 1 > most := by omega
        simp only [ht, show op ≥ 3 by omega, h6, decide_true, decide_false, cond_true, cond_false]
        rw [law_l0 code hl k fu (deep - 1) most (t + 1) (by omega) (by omega) (by omega) (by omega) (by omega) (by omega)]
        simp [deepGo, h]
      · have h7 : ¬ op ≥ 3 := by omega
        by_cases h8 : deep + 1 > most
        · simp only [ht, h7, h8, decide_true, decide_false, cond_true, cond_false]
          rw [law_l0 code hl k fu (deep + 1) (deep + 1) (t + 1) (by omega) (by omega) (by omega) (by omega) (by omega) (by omega)]
          simp [deepGo, h, h8]
        · simp only [ht, h7, h8, decide_true, decide_false, cond_true, cond_false]
          rw [law_l0 code hl k fu (deep + 1) most (t + 1) (by omega) (by omega) (by omega) (by omega) (by omega) (by omega)]
          simp [deepGo, h, h8]
    · simp [ht, deepGo, List.drop_eq_nil_of_le (show code.length ≤ t.toNat by omega)]

theorem wrong_len {vars : Int} {code : List SOp} (h : wrong vars code = 0) : code.length ≤ 40 := by
  unfold wrong at h
  by_cases h1 : vars > 6
  · simp [h1] at h
  · by_cases h2 : code.length > 40
    · simp [h1, h2] at h
    · omega

theorem stackDeeps_law (x : denPs (lawPs [.sl (.pair (.int .i64) (.pair (.int .i64) .unit))])) (_ : wfPs [.sl (.pair (.int .i64) (.pair (.int .i64) .unit))] x) : ∃ n, law_StackDeeps_F n x = some (true, ()) := by
  obtain ⟨code, _⟩ := x
  refine ⟨42, ?_⟩
  simp only [law_StackDeeps_F, law_StackDeeps_f, law_StackDeeps_p, stack_Deep_f, stack_Deep_p]
  rw [wrong_F (by decide), check_F (by decide)]
  simp only [Option.bind_some]
  by_cases h : wrong (-1) code = 0
  · have hl := wrong_len h
    rw [h]
    simp only [show ((0 : Int) != 0) = false from rfl, cond_false]
    rw [deep_l0 code hl 42 0 0 0 (by omega) (by omega) (by omega) (by omega) (by omega)]
    simp only [Option.bind_some]
    rw [law_l0 code hl _ 42 0 0 0 (by omega) (by omega) (by omega) (by omega) (by omega) (by omega)]
    simp
  · simp [bne_t h]
end Go.Proofs.Ytpnganfbonlphaa
