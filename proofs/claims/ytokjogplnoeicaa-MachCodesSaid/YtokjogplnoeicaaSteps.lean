/- Steps: what is wrong with one. -/
import Derived.Test.YtokjogplnoeicaaOps
namespace Go.Proofs.Ytokjogplnoeicaa
open Go Go.Ab S

abbrev Step6 := Int × Int × Int × Int × Int × Unit

def within2 (n : Int) (l : List Int) : Bool := l.all fun x => decide (0 ≤ x) && decide (x < n)

theorem within2_F {nf : Nat} (n : Int) (l : List Int) (hl : l.length ≤ maxLen) (hf : l.length < nf) : ref_Inside_f nf n l = some (within2 n l, ()) := by
  have h := loop_all (l := l) (d := 0) (F := fun fu t (_ : Unit) => ref_Inside_l0 nf n l fu t) (fin := fun _ => some (true, ()))
    (step := fun x _ s k => bif decide (x < 0) then some (false, ()) else bif decide (x ≥ n) then some (false, ()) else k s) ?_ ?_ nf () hf
  · show ref_Inside_l0 nf n l nf 0 = _
    rw [show ref_Inside_l0 nf n l nf 0 = _ from h]
    have key : ∀ (l : List Int) (t : Int), goL (fun x _ (s : Unit) k => bif decide (x < 0) then some (false, ()) else bif decide (x ≥ n) then some (false, ()) else k s) (fun _ => some (true, ())) l t () = some (within2 n l, ()) := by
      intro l
      induction l with
      | nil => intro t; rfl
      | cons x r ih =>
        intro t
        simp only [goL, within2, List.all_cons] at ih ⊢
        by_cases h1 : x < 0
        · simp [h1, show ¬ 0 ≤ x by omega]
        · by_cases h2 : n ≤ x
          · simp [h1, h2, show ¬ x < n by omega]
          · simp only [h1, h2, ge_iff_le, decide_false, cond_false, ih, show 0 ≤ x by omega, show x < n by omega, decide_true, Bool.true_and]
    exact key l 0
  · intro fu t s a b
    simp only [ref_Inside_l0, ref_Inside_b0, inb_ok a b, wrap_step a b hl, b, decide_true, cond_true]
  · intro fu t s a
    simp [ref_Inside_l0, ref_Inside_b0, a]

def stepCode (vars regs : Int) : Step6 → Int
  | (op, to, a, b, k, _) => if op < 1 ∨ op > 6 then 6 else if (op = 1 ∧ (k < 0 ∨ k > 255)) ∨ (op = 2 ∧ (k < 0 ∨ k ≥ vars)) then 4 else if (to < 0 ∨ to ≥ regs) ∨ (op > 2 ∧ (a < 0 ∨ a ≥ regs ∨ b < 0 ∨ b ≥ regs)) then 2 else 0

theorem stepCheck_F {nf : Nat} (hn : 3 < nf) (vars regs : Int) (s : Step6) : ref_StepCheck_f nf vars regs s = some (stepCode vars regs s, ()) := by
  obtain ⟨op, to, a, b, k, _⟩ := s
  simp only [ref_StepCheck_f, ref_StepCheck_p, stepCode, value_F', within2_F (nf := nf) vars [k] (by simp [maxLen]) (by simp; omega), within2_F (nf := nf) regs [to] (by simp [maxLen]) (by simp; omega), within2_F (nf := nf) regs [a, b] (by simp [maxLen]) (by simp; omega), Option.bind_some, within2, List.all_cons, List.all_nil, Bool.and_true]
  by_cases o1 : op < 1
  · simp [o1]
  · by_cases o2 : op > 6
    · simp [o1, o2]
    · have nle : ∀ {x y : Int}, ¬ x < y ↔ y ≤ x := by intros; omega
      by_cases o3 : op = 1
      · subst o3
        by_cases k0 : k < 0
        · simp [k0, show ¬ 0 ≤ k by omega]
        · by_cases k1 : k > 255
          · simp [k0, k1, show 0 ≤ k by omega, show ¬ k ≤ 255 by omega]
          · by_cases t0 : to < 0
            · simp [k0, k1, t0, show 0 ≤ k by omega, show k ≤ 255 by omega, show ¬ 0 ≤ to by omega]
            · by_cases t1 : to ≥ regs
              · simp [k0, k1, t0, t1, show 0 ≤ k by omega, show k ≤ 255 by omega, show 0 ≤ to by omega, show ¬ to < regs by omega]
              · simp [k0, k1, t0, t1, show 0 ≤ k by omega, show k ≤ 255 by omega, show 0 ≤ to by omega, show to < regs by omega]
      · by_cases o4 : op = 2
        · subst o4
          by_cases k0 : k < 0
          · simp [k0, show ¬ 0 ≤ k by omega]
          · by_cases k1 : k ≥ vars
            · simp [k0, k1, show 0 ≤ k by omega, show ¬ k < vars by omega]
            · by_cases t0 : to < 0
              · simp [k0, k1, t0, show 0 ≤ k by omega, show k < vars by omega, show ¬ 0 ≤ to by omega]
              · by_cases t1 : to ≥ regs
                · simp [k0, k1, t0, t1, show 0 ≤ k by omega, show k < vars by omega, show 0 ≤ to by omega, show ¬ to < regs by omega]
                · simp [k0, k1, t0, t1, show 0 ≤ k by omega, show k < vars by omega, show 0 ≤ to by omega, show to < regs by omega]
        · have o5 : op > 2 := by omega
          have o6 : 3 ≤ op := by omega
          by_cases t0 : to < 0
          · simp [o1, o2, o3, o4, beq_f o3, beq_f o4, t0, show ¬ 0 ≤ to by omega]
          · by_cases t1 : to ≥ regs
            · simp [o1, o2, o3, o4, beq_f o3, beq_f o4, t0, t1, show 0 ≤ to by omega, show ¬ to < regs by omega]
            · by_cases a0 : a < 0
              · simp [o1, o2, o3, o4, o5, o6, beq_f o3, beq_f o4, t0, t1, show 0 ≤ to by omega, show to < regs by omega, a0, show ¬ 0 ≤ a by omega]
              · by_cases a1 : a ≥ regs
                · simp [o1, o2, o3, o4, o5, o6, beq_f o3, beq_f o4, t0, t1, show 0 ≤ to by omega, show to < regs by omega, a0, a1, show ¬ a < regs by omega]
                · by_cases b0 : b < 0
                  · simp [o1, o2, o3, o4, o5, o6, beq_f o3, beq_f o4, t0, t1, show 0 ≤ to by omega, show to < regs by omega, a0, a1, b0, show ¬ 0 ≤ b by omega]
                  · by_cases b1 : b ≥ regs
                    · simp [o1, o2, o3, o4, o5, o6, beq_f o3, beq_f o4, t0, t1, show 0 ≤ to by omega, show to < regs by omega, a0, a1, b0, b1, show ¬ b < regs by omega]
                    · simp [o1, o2, o3, o4, o5, o6, beq_f o3, beq_f o4, t0, t1, show 0 ≤ to by omega, show to < regs by omega, a0, a1, b0, b1, show 0 ≤ a by omega, show a < regs by omega, show 0 ≤ b by omega, show b < regs by omega]

theorem stepCode_ok {vars regs op to a b k : Int} {u : Unit} (h : stepCode vars regs (op, to, a, b, k, u) = 0) :
    1 ≤ op ∧ op ≤ 6 ∧ (op = 1 → 0 ≤ k ∧ k ≤ 255) ∧ (op = 2 → 0 ≤ k ∧ k < vars) ∧ (0 ≤ to ∧ to < regs) ∧ (op > 2 → 0 ≤ a ∧ a < regs ∧ 0 ≤ b ∧ b < regs) := by
  simp only [stepCode] at h
  split at h
  · omega
  · rename_i h1
    split at h
    · omega
    · rename_i h2
      split at h
      · omega
      · rename_i h3
        exact ⟨by omega, by omega, fun h => by omega, fun h => by omega, by omega, fun h => by omega⟩

/-- what registers have behind a step -/
def stepOne (hv : List Int) (s : Step6) (r : List Int) : List Int := r.set s.2.1.toNat (if s.1 = 1 then s.2.2.2.2.1 else if s.1 = 2 then hv.getD s.2.2.2.2.1.toNat 0 else opV s.1 (r.getD s.2.2.1.toNat 0) (r.getD s.2.2.2.1.toNat 0))

def stepsGo (vars regs : Int) : List Step6 → Int
  | [] => 0
  | s :: r => if stepCode vars regs s = 0 then stepsGo vars regs r else stepCode vars regs s
end Go.Proofs.Ytokjogplnoeicaa
