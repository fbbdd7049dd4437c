/- term.Check and the document's answer agree. -/
import Derived.Test.YtpnganfbonlphaaFn1
import Derived.Test.YtpnganfbonlphaaAbLaw
namespace Go.Proofs.Ytpnganfbonlphaa
open Go Go.Ab S

theorem wrap_step {t : Int} {n : Nat} (h0 : 0 ≤ t) (h1 : t < n) (hn : n ≤ maxLen) : IntKind.i64.wrap (t + 1) = t + 1 :=
  Go.IntWalk.i64_in _ (by simp [maxLen] at *; omega)

theorem inb_ok {t : Int} {n : Nat} (h0 : 0 ≤ t) (h1 : t < n) : inb t n = true := by
  simp [inb]; omega

def inside (n : Int) (l : List Int) : Bool := l.all fun x => decide (0 ≤ x) && decide (x < n)

theorem inside_l0 (nf : Nat) (n : Int) (l : List Int) (hl : l.length ≤ maxLen) : ∀ (fu : Nat) (t : Int), 0 ≤ t → t ≤ l.length → l.length < t + fu → ref_Inside_l0 nf n l fu t = some (inside n (l.drop t.toNat), ()) := by
  intro fu
  induction fu with
  | zero => intro t h0 h1 h2; omega
  | succ fu ih =>
    intro t h0 h1 h2
    rw [ref_Inside_l0, ref_Inside_b0]
    by_cases ht : t < l.length
    · have hlt : t.toNat < l.length := by omega
      rw [inb_ok h0 ht, wrap_step h0 ht hl, ih (t + 1) (by omega) (by omega) (by omega), List.drop_eq_getElem_cons hlt]
      have e1 : l.getD t.toNat 0 = l[t.toNat] := by simp [List.getD, hlt]
      have e2 : (t + 1).toNat = t.toNat + 1 := by omega
      rw [e1, e2]
      generalize l[t.toNat] = x
      simp only [ht, decide_true, cond_true, inside, List.all_cons]
      by_cases hx : x < 0
      · simp [hx, show ¬ 0 ≤ x by omega]
      · by_cases hy : x < n
        · simp [hx, hy, show 0 ≤ x by omega, show ¬ n ≤ x by omega]
        · simp [hx, hy, show n ≤ x by omega]
    · have hd : l.drop t.toNat = [] := List.drop_eq_nil_of_le (by omega)
      simp [ht, hd, inside]

theorem inside_F {nf : Nat} (n : Int) (l : List Int) (hl : l.length ≤ maxLen) (hf : l.length < nf) : ref_Inside_f nf n l = some (inside n l, ()) := by
  have := inside_l0 nf n l hl nf 0 (Int.le_refl _) (by omega) (by omega)
  simpa [ref_Inside_f, ref_Inside_p] using this

theorem value_F (nf : Nat) (x : Int) : ref_Value_f nf x = some (decide (0 ≤ x) && decide (x ≤ 255), ()) := by
  simp only [ref_Value_f, ref_Value_p]
  by_cases h : 0 ≤ x <;> simp [h]

theorem check_l0 (nf : Nat) (hn : 3 < nf) (vars : Int) (l : List (Int × Int × Int × Int × PUnit)) (hl : l.length ≤ maxLen) : ∀ (fu : Nat) (t : Int), 0 ≤ t → t ≤ l.length → l.length < t + fu → ∃ v, term_Check_l0 nf vars l fu t = some v ∧ ref_TermsCheck_l0 nf vars l fu t = some v := by
  intro fu
  induction fu with
  | zero => intro t h0 h1 h2; omega
  | succ fu ih =>
    intro t h0 h1 h2
    rw [term_Check_l0, ref_TermsCheck_l0, term_Check_b0, ref_TermsCheck_b0]
    by_cases ht : t < l.length
    · obtain ⟨v, e1, e2⟩ := ih (t + 1) (by omega) (by omega) (by omega)
      rw [inb_ok h0 ht, wrap_step h0 ht hl, e1, e2]
      generalize l.getD t.toNat (0, 0, 0, 0, ()) = x
      obtain ⟨op, a, b, k, _⟩ := x
      simp only [ht, decide_true, cond_true, value_F, inside_F (nf := nf) vars [k] (by simp [maxLen]) (by simp; omega), inside_F (nf := nf) t [a, b] (by simp [maxLen]) (by simp; omega), Option.bind_some, inside, List.all_cons, List.all_nil, Bool.and_true]
      by_cases o1 : op = 1
      · subst o1
        by_cases k0 : 0 ≤ k
        · by_cases k1 : k ≤ 255
          · simp [k0, k1, show ¬ k < 0 by omega, show ¬ 255 < k by omega]
          · simp [k0, k1, show ¬ k < 0 by omega, show 255 < k by omega]
        · simp [k0, show k < 0 by omega]
      · by_cases o2 : op = 2
        · subst o2
          by_cases k0 : 0 ≤ k
          · by_cases k1 : k < vars
            · simp [k0, k1, show ¬ k < 0 by omega, show ¬ vars ≤ k by omega]
            · simp [k0, k1, show ¬ k < 0 by omega, show vars ≤ k by omega]
          · simp [k0, show k < 0 by omega]
        · simp only [show (op == 1) = false by simpa using o1, show (op == 2) = false by simpa using o2, cond_false]
          by_cases o3 : op < 1
          · simp [o3]
          · by_cases o4 : 6 < op
            · simp [o3, o4]
            · simp only [o3, show ¬ op > 6 by omega, show op > 2 by omega, show op ≥ 3 by omega, decide_true, decide_false, cond_true, cond_false]
              have e3 : (if b < a then b else a) < 0 ↔ ¬ (0 ≤ a ∧ 0 ≤ b) := by split <;> omega
              have e4 : (if b > a then b else a) ≥ t ↔ ¬ (a < t ∧ b < t) := by split <;> omega
              simp only [e3, e4]
              by_cases a0 : 0 ≤ a <;> by_cases b0 : 0 ≤ b <;> by_cases a1 : a < t <;> by_cases b1 : b < t <;> simp [a0, b0, a1, b1]
    · simp [ht]

theorem termChecks_law (x : denPs (lawPs [.int .i64, .sl (.pair (.int .i64) (.pair (.int .i64) (.pair (.int .i64) (.pair (.int .i64) .unit))))])) (h : wfPs [.int .i64, .sl (.pair (.int .i64) (.pair (.int .i64) (.pair (.int .i64) (.pair (.int .i64) .unit))))] x) : ∃ n, law_TermChecks_F n x = some (true, ()) := by
  obtain ⟨vars, l, _⟩ := x
  obtain ⟨_, ⟨hl, _⟩, _⟩ := h
  refine ⟨l.length + 4, ?_⟩
  have key : ∃ v, term_Check_f (l.length + 4) vars l = some v ∧ ref_TermsCheck_f (l.length + 4) vars l = some v := by
    simp only [term_Check_f, ref_TermsCheck_f, term_Check_p, ref_TermsCheck_p]
    obtain ⟨v, e1, e2⟩ := check_l0 (l.length + 4) (by omega) vars l hl (l.length + 4) 0 (Int.le_refl _) (by omega) (by omega)
    rw [e1, e2]
    by_cases h0 : l.length = 0
    · simp [h0]
    · have : (((l.length : Nat) : Int) == 0) = false := by simp; intro h; exact h0 (by simp [h])
      have h1 : ¬ (((l.length : Nat) : Int) < 1) := by omega
      simp only [this, h1, decide_false]
      by_cases a : vars < 0 <;> by_cases b : vars > 6 <;> by_cases c : ((l.length : Nat) : Int) > 16 <;> simp [a, b, c]
  obtain ⟨v, e1, e2⟩ := key
  simp only [law_TermChecks_F, law_TermChecks_f, law_TermChecks_p]
  rw [e1, e2]
  simp

end Go.Proofs.Ytpnganfbonlphaa
