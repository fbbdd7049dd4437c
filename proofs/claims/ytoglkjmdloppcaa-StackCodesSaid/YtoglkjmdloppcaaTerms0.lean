/- Terms: what is wrong with them. -/
import Derived.Test.YtoglkjmdloppcaaFn1
import Derived.Test.YtoglkjmdloppcaaLib
import Derived.Test.YtoglkjmdloppcaaVal0
namespace Go.Proofs.Ytoglkjmdloppcaa
open Go Go.Ab S

abbrev Term5 := Int × Int × Int × Int × Unit
abbrev T0 : Term5 := (0, 0, 0, 0, ())

def within (n : Int) (l : List Int) : Bool := l.all fun x => decide (0 ≤ x) && decide (x < n)

theorem within_F {nf : Nat} (n : Int) (l : List Int) (hl : l.length ≤ maxLen) (hf : l.length < nf) : ref_Inside_f nf n l = some (within n l, ()) := by
  have h := loop_all (l := l) (d := 0) (F := fun fu t (_ : Unit) => ref_Inside_l0 nf n l fu t) (fin := fun _ => some (true, ()))
    (step := fun x _ s k => bif decide (x < 0) then some (false, ()) else bif decide (x ≥ n) then some (false, ()) else k s) ?_ ?_ nf () hf
  · show ref_Inside_l0 nf n l nf 0 = _
    rw [show ref_Inside_l0 nf n l nf 0 = _ from h]
    have key : ∀ (l : List Int) (t : Int), goL (fun x _ (s : Unit) k => bif decide (x < 0) then some (false, ()) else bif decide (x ≥ n) then some (false, ()) else k s) (fun _ => some (true, ())) l t () = some (within n l, ()) := by
      intro l
      induction l with
      | nil => intro t; rfl
      | cons x r ih =>
        intro t
        simp only [goL, within, List.all_cons] at ih ⊢
        by_cases h1 : x < 0
        · simp [h1, show ¬ 0 ≤ x by omega]
        · by_cases h2 : n ≤ x
          · simp [h1, h2, show ¬ x < n by omega]
          · simp only [h1, h2, ge_iff_le, decide_false, cond_false, ih, show 0 ≤ x by omega, show x < n by omega, decide_true, Bool.true_and]
    exact key l 0
  · intro fu t s a b
    simp only [ref_Inside_l0, ref_Inside_b0, inb_ok a b, wrap_step a b hl, b, decide_true, cond_true]
  · intro fu t s a
    simp [ref_Inside_l0, ref_Inside_b0, a]

def termGo (vars : Int) : List Term5 → Int → Int
  | [], _ => 0
  | (op, a, b, k, _) :: r, t => if op < 1 ∨ op > 6 then 6 else if (op = 1 ∧ (k < 0 ∨ k > 255)) ∨ (op = 2 ∧ (k < 0 ∨ k ≥ vars)) then 4 else if op > 2 ∧ (a < 0 ∨ b < 0 ∨ a ≥ t ∨ b ≥ t) then 2 else termGo vars r (t + 1)
/-- what is wrong with terms -/
def termCode (vars : Int) (l : List Term5) : Int := if vars < 0 ∨ vars > 6 ∨ l.length < 1 ∨ l.length > 16 then 1 else termGo vars l 0

theorem term_l0 {nf : Nat} (vars : Int) (l : List Term5) (hl : l.length ≤ 16) : ∀ (fu : Nat) (t : Int), 0 ≤ t → t ≤ l.length → l.length < t + fu → term_Check_l0 nf vars l fu t = some (termGo vars (l.drop t.toNat) t, ())
  | 0, _, _, _, h => by omega
  | fu + 1, t, h0, h1, h2 => by
    rw [term_Check_l0, term_Check_b0]
    by_cases ht : t < l.length
    · rw [inb_ok h0 ht, wrap_step h0 ht (Nat.le_trans hl (by decide)), term_l0 vars l hl fu (t + 1) (by omega) (by omega) (by omega), drop_step l t (0, 0, 0, 0, ()) h0 ht]
      generalize l.getD t.toNat (0, 0, 0, 0, ()) = x
      obtain ⟨op, a, b, k, _⟩ := x
      have e3 : (if b < a then b else a) < 0 ↔ a < 0 ∨ b < 0 := by split <;> omega
      have e4 : (if b > a then b else a) ≥ t ↔ a ≥ t ∨ b ≥ t := by split <;> omega
      simp only [ht, decide_true, cond_true, termGo, e3, e4]
      by_cases o1 : op < 1
      · simp [o1]
      · by_cases o2 : op > 6
        · simp [o1, o2]
        · by_cases o3 : op = 1
          · subst o3
            by_cases k0 : k < 0 <;> by_cases k1 : k > 255 <;> simp [k0, k1]
          · by_cases o4 : op = 2
            · subst o4
              by_cases k0 : k < 0 <;> by_cases k1 : k ≥ vars <;> simp [k0, k1]
            · have o5 : op > 2 := by omega
              by_cases a0 : a < 0 <;> by_cases b0 : b < 0 <;> by_cases a1 : a ≥ t <;> by_cases b1 : b ≥ t <;> simp [o1, o2, o3, o4, o5, beq_f o3, beq_f o4, a0, b0, a1, b1]
    · simp [ht, termGo, List.drop_eq_nil_of_le (show l.length ≤ t.toNat by omega)]

theorem terms_l0 {nf : Nat} (hn : 3 < nf) (vars : Int) (l : List Term5) (hl : l.length ≤ 16) : ∀ (fu : Nat) (t : Int), 0 ≤ t → t ≤ l.length → l.length < t + fu → ref_TermsCheck_l0 nf vars l fu t = some (termGo vars (l.drop t.toNat) t, ())
  | 0, _, _, _, h => by omega
  | fu + 1, t, h0, h1, h2 => by
    rw [ref_TermsCheck_l0, ref_TermsCheck_b0]
    by_cases ht : t < l.length
    · rw [inb_ok h0 ht, wrap_step h0 ht (Nat.le_trans hl (by decide)), terms_l0 hn vars l hl fu (t + 1) (by omega) (by omega) (by omega), drop_step l t (0, 0, 0, 0, ()) h0 ht]
      generalize l.getD t.toNat (0, 0, 0, 0, ()) = x
      obtain ⟨op, a, b, k, _⟩ := x
      simp only [ht, decide_true, cond_true, termGo, value_F', within_F (nf := nf) vars [k] (by simp [maxLen]) (by simp; omega), within_F (nf := nf) t [a, b] (by simp [maxLen]) (by simp; omega), Option.bind_some, within, List.all_cons, List.all_nil, Bool.and_true]
      by_cases o1 : op < 1
      · simp [o1]
      · by_cases o2 : op > 6
        · simp [o1, o2]
        · by_cases o3 : op = 1
          · subst o3
            by_cases k0 : k < 0
            · simp [k0, show ¬ 0 ≤ k by omega]
            · by_cases k1 : k > 255
              · simp [k0, k1, show 0 ≤ k by omega, show ¬ k ≤ 255 by omega]
              · simp [k0, k1, show 0 ≤ k by omega, show k ≤ 255 by omega]
          · by_cases o4 : op = 2
            · subst o4
              by_cases k0 : k < 0
              · simp [k0, show ¬ 0 ≤ k by omega]
              · by_cases k1 : k ≥ vars
                · simp [k0, k1, show 0 ≤ k by omega, show ¬ k < vars by omega]
                · simp [k0, k1, show 0 ≤ k by omega, show k < vars by omega]
            · have o5 : op > 2 := by omega
              have o6 : op ≥ 3 := by omega
              by_cases a0 : a < 0
              · simp [o1, o2, o3, o4, o5, o6, beq_f o3, beq_f o4, a0, show ¬ 0 ≤ a by omega]
              · by_cases b0 : b < 0
                · simp [o1, o2, o3, o4, o5, o6, beq_f o3, beq_f o4, a0, b0, show ¬ 0 ≤ b by omega]
                · by_cases a1 : a ≥ t
                  · simp [o1, o2, o3, o4, o5, o6, beq_f o3, beq_f o4, a0, b0, a1, show ¬ a < t by omega]
                  · by_cases b1 : b ≥ t
                    · simp [o1, o2, o3, o4, o5, o6, beq_f o3, beq_f o4, a0, b0, a1, b1, show ¬ b < t by omega]
                    · simp [o1, o2, o3, o4, o5, o6, beq_f o3, beq_f o4, a0, b0, a1, b1, show 0 ≤ a by omega, show 0 ≤ b by omega, show a < t by omega, show b < t by omega]
    · simp [ht, termGo, List.drop_eq_nil_of_le (show l.length ≤ t.toNat by omega)]

theorem term_F {nf : Nat} (hn : 18 ≤ nf) (vars : Int) (l : List Term5) : term_Check_f nf vars l = some (termCode vars l, ()) := by
  simp only [term_Check_f, term_Check_p, termCode]
  by_cases h1 : vars < 0
  · simp [h1]
  · by_cases h2 : vars > 6
    · simp [h1, h2]
    · by_cases h3 : l.length < 1
      · have : ((l.length : Int) == 0) = true := by rw [show l.length = 0 by omega]; rfl
        simp [h1, h2, h3, this]
      · have h4 : ((l.length : Int) == 0) = false := beq_f (by omega)
        by_cases h5 : l.length > 16
        · have : (l.length : Int) > 16 := by omega
          simp [h1, h2, h3, h4, h5, this]
        · have : ¬ (l.length : Int) > 16 := by omega
          rw [term_l0 vars l (by omega) nf 0 (by omega) (by omega) (by omega)]
          simp [h1, h2, h3, h4, h5, this]

theorem terms_F' {nf : Nat} (hn : 18 ≤ nf) (vars : Int) (l : List Term5) : ref_TermsCheck_f nf vars l = some (termCode vars l, ()) := by
  simp only [ref_TermsCheck_f, ref_TermsCheck_p, termCode]
  by_cases h1 : vars < 0
  · simp [h1]
  · by_cases h2 : vars > 6
    · simp [h1, h2]
    · by_cases h3 : l.length < 1
      · have : (l.length : Int) < 1 := by omega
        simp [h1, h2, h3, this]
      · have h4 : ¬ (l.length : Int) < 1 := by omega
        by_cases h5 : l.length > 16
        · have : (l.length : Int) > 16 := by omega
          simp [h1, h2, h3, h4, h5, this]
        · have : ¬ (l.length : Int) > 16 := by omega
          rw [terms_l0 (by omega) vars l (by omega) nf 0 (by omega) (by omega) (by omega)]
          simp [h1, h2, h3, h4, h5, this]

theorem termGo_cons {vars op a b k : Int} {u : Unit} {r : List Term5} {t : Int} (h : termGo vars ((op, a, b, k, u) :: r) t = 0) :
    1 ≤ op ∧ op ≤ 6 ∧ (op = 1 → 0 ≤ k ∧ k ≤ 255) ∧ (op = 2 → 0 ≤ k ∧ k < vars) ∧ (op > 2 → 0 ≤ a ∧ 0 ≤ b ∧ a < t ∧ b < t) ∧ termGo vars r (t + 1) = 0 := by
  simp only [termGo] at h
  split at h
  · omega
  · rename_i h1
    split at h
    · omega
    · rename_i h2
      split at h
      · omega
      · rename_i h3
        exact ⟨by omega, by omega, fun h => by omega, fun h => by omega, fun h => by omega, h⟩

theorem termCode_ok {vars : Int} {l : List Term5} (h : termCode vars l = 0) : 0 ≤ vars ∧ vars ≤ 6 ∧ 1 ≤ l.length ∧ l.length ≤ 16 ∧ termGo vars l 0 = 0 := by
  unfold termCode at h
  split at h
  · omega
  · exact ⟨by omega, by omega, by omega, by omega, h⟩
end Go.Proofs.Ytoglkjmdloppcaa
