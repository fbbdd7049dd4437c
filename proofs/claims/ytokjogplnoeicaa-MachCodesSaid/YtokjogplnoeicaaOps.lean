/- Lists of numbers; what variables have. -/
import Derived.Test.YtokjogplnoeicaaVals
import Derived.Test.YtokjogplnoeicaaVal0
namespace Go.Proofs.Ytokjogplnoeicaa
open Go Go.Ab S

theorem ints_F {nf : Nat} (a b : List Int) (hl : a.length ≤ maxLen) (hf : a.length < nf) : ref_Ints_f nf a b = some (decide (a = b), ()) := by
  simp only [ref_Ints_f, ref_Ints_p]
  by_cases hab : a.length = b.length
  · have h0 : ((a.length : Int) != (b.length : Int)) = false := by simp [hab]
    rw [h0]
    have key : ∀ (fu : Nat) (t : Int), 0 ≤ t → t ≤ a.length → a.length < t + fu → ref_Ints_l0 nf a b fu t = some (decide (a.drop t.toNat = b.drop t.toNat), ()) := by
      intro fu
      induction fu with
      | zero => intro t h1 h2 h3; omega
      | succ fu ih =>
        intro t h1 h2 h3
        rw [ref_Ints_l0, ref_Ints_b0]
        by_cases ht : t < a.length
        · rw [inb_ok h1 ht, inb_ok h1 (by omega), wrap_step h1 ht hl, ih (t + 1) (by omega) (by omega) (by omega), drop_step a t 0 h1 ht, drop_step b t 0 h1 (by omega)]
          by_cases he : a.getD t.toNat 0 = b.getD t.toNat 0
          · rw [he]; simp [ht]
          · rw [bne_t he]
            simp only [ht, decide_true, cond_true, List.cons.injEq, he, false_and, decide_false]
        · simp [ht, List.drop_eq_nil_of_le (show a.length ≤ t.toNat by omega), List.drop_eq_nil_of_le (show b.length ≤ t.toNat by omega)]
    rw [cond_false, key nf 0 (by omega) (by omega) (by omega)]
    simp
  · have h0 : ((a.length : Int) != (b.length : Int)) = true := bne_t (by omega)
    rw [h0]
    have : a ≠ b := fun h => hab (by rw [h])
    simp [this]

def vals (l : List Int) : Bool := l.all fun x => decide (0 ≤ x) && decide (x ≤ 255)
theorem vals_mem {l : List Int} (h : vals l = true) : ∀ x ∈ l, isV x := fun x hx => by
  have := List.all_eq_true.1 h x hx
  simpa [isV] using this
/-- what is wrong with what variables have -/
def haveCode (vars : Int) (l : List Int) : Int := if (l.length : Int) ≠ vars then 3 else if vals l = true then 0 else 4

theorem haveCheck_F {nf : Nat} (vars : Int) (l : List Int) (hl : l.length ≤ maxLen) (hf : l.length < nf) : ref_HaveCheck_f nf vars l = some (haveCode vars l, ()) := by
  simp only [ref_HaveCheck_f, ref_HaveCheck_p, haveCode]
  by_cases h : (l.length : Int) = vars
  · have h0 : ((l.length : Int) != vars) = false := by simp [h]
    have h1 := loop_all (l := l) (d := 0) (F := fun fu t (_ : Unit) => ref_HaveCheck_l0 nf l fu t) (fin := fun _ => some (0, ()))
      (step := fun x _ s k => bif !(decide (0 ≤ x) && decide (x ≤ 255)) then some (4, ()) else k s) ?_ ?_ nf () hf
    · rw [h0, cond_false, show ref_HaveCheck_l0 nf l nf 0 = _ from h1]
      have key : ∀ (l : List Int) (t : Int), goL (fun x _ (s : Unit) k => bif !(decide (0 ≤ x) && decide (x ≤ 255)) then some ((4 : Int), ()) else k s) (fun _ => some (0, ())) l t () = some (if vals l = true then 0 else 4, ()) := by
        intro l
        induction l with
        | nil => intro t; rfl
        | cons x r ih =>
          intro t
          simp only [goL, ih, vals, List.all_cons]
          by_cases h2 : 0 ≤ x <;> by_cases h3 : x ≤ 255 <;> simp [h2, h3]
      rw [key]
      simp [h]
    · intro fu t s a b
      simp only [ref_HaveCheck_l0, ref_HaveCheck_b0, inb_ok a b, wrap_step a b hl, b, decide_true, cond_true, value_F', Option.bind_some]
    · intro fu t s a
      simp [ref_HaveCheck_l0, ref_HaveCheck_b0, a]
  · have h0 : ((l.length : Int) != vars) = true := bne_t h
    rw [h0]
    simp [h]

theorem have_F {nf : Nat} (vars : Int) (l : List Int) (hl : l.length ≤ maxLen) (hf : l.length < nf) : term_Have_f nf vars l = some (haveCode vars l, ()) := by
  simp only [term_Have_f, term_Have_p, haveCode]
  by_cases h : (l.length : Int) = vars
  · have h0 : ((l.length : Int) != vars) = false := by simp [h]
    have h1 := loop_all (l := l) (d := 0) (F := fun fu t (_ : Unit) => slices_IndexFunc__term_Have_1_l0 nf l fu t) (fin := fun _ => some (-1, ()))
      (step := fun x t s k => bif (bif decide (x < 0) then true else decide (x > 255)) then some (t, ()) else k s) ?_ ?_ nf () hf
    · have key : ∀ (l : List Int) (t : Int), 0 ≤ t → ∃ r, goL (fun x t (s : Unit) k => bif (bif decide (x < 0) then true else decide (x > 255)) then some (t, ()) else k s) (fun _ => some (-1, ())) l t () = some (r, ()) ∧ decide (r ≥ 0) = !vals l := by
        intro l
        induction l with
        | nil => intro t _; exact ⟨-1, rfl, rfl⟩
        | cons x r ih =>
          intro t ht
          obtain ⟨r', h1, h2⟩ := ih (t + 1) (by omega)
          simp only [goL, vals, List.all_cons] at h2 ⊢
          by_cases h3 : x < 0
          · exact ⟨t, by simp [h3], by simp [ht, show ¬ 0 ≤ x by omega]⟩
          · by_cases h4 : x > 255
            · exact ⟨t, by simp [h3, h4], by simp [ht, show ¬ x ≤ 255 by omega]⟩
            · exact ⟨r', by simp [h3, h4]; simpa using h1, by rw [h2]; simp [show 0 ≤ x by omega, show x ≤ 255 by omega]⟩
      obtain ⟨r, h2, h3⟩ := key l 0 (Int.le_refl _)
      simp only [slices_ContainsFunc__term_Have_1_f, slices_ContainsFunc__term_Have_1_p, slices_IndexFunc__term_Have_1_f, slices_IndexFunc__term_Have_1_p]
      rw [h0, cond_false, show slices_IndexFunc__term_Have_1_l0 nf l nf 0 = _ from h1, h2]
      simp only [Option.bind_some, h3]
      cases vals l <;> simp [h]
    · intro fu t s a b
      simp only [slices_IndexFunc__term_Have_1_l0, slices_IndexFunc__term_Have_1_b0, inb_ok a b, wrap_step a b hl, b, decide_true, cond_true, term_Have_1_f, term_Have_1_p]
      generalize l.getD t.toNat 0 = x
      cases decide (x < 0) <;> rfl
    · intro fu t s a
      simp [slices_IndexFunc__term_Have_1_l0, slices_IndexFunc__term_Have_1_b0, a]
  · have h0 : ((l.length : Int) != vars) = true := bne_t h
    rw [h0]
    simp [h]

theorem haveCode_ok {vars : Int} {l : List Int} (h : haveCode vars l = 0) : (l.length : Int) = vars ∧ ∀ x ∈ l, isV x := by
  unfold haveCode at h
  split at h
  · omega
  · rename_i h1
    split at h
    · rename_i h2
      exact ⟨by omega, vals_mem h2⟩
    · omega
end Go.Proofs.Ytokjogplnoeicaa
