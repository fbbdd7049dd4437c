/- Ways: what may be, and to which nodes one comes. -/
import Derived.Test.YtoglkjmdloppcaaFn1
import Derived.Test.YtoglkjmdloppcaaLib
namespace Go.Proofs.Ytoglkjmdloppcaa
open Go Go.Ab S

def inside (n : Int) (l : List Int) : Bool := l.all fun x => decide (0 ≤ x) && decide (x < n)

theorem inside_F {nf : Nat} (n : Int) (l : List Int) (hl : l.length ≤ maxLen) (hf : l.length < nf) : ref_Inside_f nf n l = some (inside n l, ()) := by
  have h := loop_all (l := l) (d := 0) (F := fun fu t (_ : Unit) => ref_Inside_l0 nf n l fu t) (fin := fun _ => some (true, ()))
    (step := fun x _ s k => bif decide (x < 0) then some (false, ()) else bif decide (x ≥ n) then some (false, ()) else k s) ?_ ?_ nf () hf
  · show ref_Inside_l0 nf n l nf 0 = _
    rw [show ref_Inside_l0 nf n l nf 0 = _ from h]
    have key : ∀ (l : List Int) (t : Int), goL (fun x _ (s : Unit) k => bif decide (x < 0) then some (false, ()) else bif decide (x ≥ n) then some (false, ()) else k s) (fun _ => some (true, ())) l t () = some (inside n l, ()) := by
      intro l
      induction l with
      | nil => intro t; rfl
      | cons x r ih =>
        intro t
        simp only [goL, inside, List.all_cons] at ih ⊢
        by_cases h1 : x < 0
        · simp [h1, show ¬ 0 ≤ x by omega]
        · by_cases h2 : n ≤ x
          · simp [h1, h2, show ¬ x < n by omega]
          · simp only [h1, h2, ge_iff_le, decide_false, cond_false, ih, show 0 ≤ x by omega, show x < n by omega, decide_true, Bool.true_and]
    exact key l 0
  · intro fu t s a b
    simp only [ref_Inside_l0, ref_Inside_b0, inb_ok a b, wrap_step a b hl, b, decide_true, cond_true]
  · intro fu t s a
    simp [ref_Inside_l0, ref_Inside_b0, a]

theorem contains_F {nf : Nat} (next : List (List Int)) (l : List Int) (hl : l.length ≤ maxLen) (hf : l.length < nf) : slices_ContainsFunc__way_Check_1_f nf l (next, ()) = some (!inside next.length l, ()) := by
  have h := loop_all (l := l) (d := 0) (F := fun fu t (_ : Unit) => slices_IndexFunc__way_Check_1_l0 nf l (next, ()) fu t) (fin := fun _ => some (-1, ()))
    (step := fun x t s k => bif (bif decide (x < 0) then true else decide (x ≥ (next.length : Int))) then some (t, ()) else k s) ?_ ?_ nf () hf
  · have key : ∀ (l : List Int) (t : Int), 0 ≤ t → ∃ r, goL (fun x t (s : Unit) k => bif (bif decide (x < 0) then true else decide (x ≥ (next.length : Int))) then some (t, ()) else k s) (fun _ => some (-1, ())) l t () = some (r, ()) ∧ decide (r ≥ 0) = !inside next.length l := by
      intro l
      induction l with
      | nil => intro t _; exact ⟨-1, rfl, rfl⟩
      | cons x r ih =>
        intro t ht
        obtain ⟨r', h1, h2⟩ := ih (t + 1) (by omega)
        simp only [goL, inside, List.all_cons] at h2 ⊢
        by_cases h3 : x < 0
        · exact ⟨t, by simp [h3], by simp [ht, show ¬ 0 ≤ x by omega]⟩
        · by_cases h4 : (next.length : Int) ≤ x
          · exact ⟨t, by simp [h3, h4], by simp [ht, show ¬ x < (next.length : Int) by omega]⟩
          · exact ⟨r', by simp [h3, h4]; exact h1, by rw [h2]; simp [show 0 ≤ x by omega, show x < (next.length : Int) by omega]⟩
    obtain ⟨r, h1, h2⟩ := key l 0 (Int.le_refl _)
    simp only [slices_ContainsFunc__way_Check_1_f, slices_ContainsFunc__way_Check_1_p, slices_IndexFunc__way_Check_1_f, slices_IndexFunc__way_Check_1_p]
    rw [show slices_IndexFunc__way_Check_1_l0 nf l (next, ()) nf 0 = _ from h, h1]
    simp only [Option.bind_some, h2]
  · intro fu t s a b
    simp only [slices_IndexFunc__way_Check_1_l0, slices_IndexFunc__way_Check_1_b0, inb_ok a b, wrap_step a b hl, b, decide_true, cond_true, way_Check_1_f, way_Check_1_p]
    generalize l.getD t.toNat 0 = x
    cases decide (x < 0) <;> rfl
  · intro fu t s a
    simp [slices_IndexFunc__way_Check_1_l0, slices_IndexFunc__way_Check_1_b0, a]

def codeGo (n : Int) : List (List Int) → Int
  | [] => 0
  | l :: r => bif decide ((l.length : Int) > 3) then 1 else bif inside n l then codeGo n r else 2
/-- what is wrong with a way -/
def wayCode (next : List (List Int)) : Int := bif decide ((next.length : Int) < 1) then 1 else bif decide ((next.length : Int) > 8) then 1 else codeGo next.length next

theorem goL_code (n : Int) {σ : Type} {step : List Int → Int → σ → (σ → Option (Int × Unit)) → Option (Int × Unit)} {s : σ}
    (h : ∀ l t k, step l t s k = bif decide ((l.length : Int) > 3) then some (1, ()) else bif inside n l then k s else some (2, ())) : ∀ (l : List (List Int)) (t : Int), goL step (fun _ => some (0, ())) l t s = some (codeGo n l, ())
  | [], _ => rfl
  | x :: r, t => by
    simp only [goL, h, goL_code n h r, codeGo]
    cases decide ((x.length : Int) > 3)
    · cases inside n x <;> rfl
    · rfl

theorem way_Check_F {nf : Nat} (hn : 9 ≤ nf) (next : List (List Int)) : way_Check_f nf next = some (wayCode next, ()) := by
  simp only [way_Check_f, way_Check_p, wayCode]
  by_cases h1 : (next.length : Int) < 1
  · simp [h1]
  · by_cases h2 : (next.length : Int) > 8
    · simp [h1, h2]
    · simp only [h1, h2, decide_false, cond_false]
      have hm : next.length ≤ maxLen := by simp [maxLen]; omega
      refine (loop_all (l := next) (d := []) (F := fun fu t (s : List (List Int)) => way_Check_l0 nf next fu s t) (fin := fun _ => some (0, ()))
        (step := fun x _ s k => bif decide ((x.length : Int) > 3) then some (1, ()) else Option.bind (slices_ContainsFunc__way_Check_1_f nf x (s, ())) fun r => bif r.fst then some (2, ()) else k s) ?_ ?_ nf next (by omega)).trans ?_
      · intro fu t s a b
        simp only [way_Check_l0, way_Check_b0, inb_ok a b, wrap_step a b hm, b, decide_true, cond_true]
      · intro fu t s a
        simp [way_Check_l0, way_Check_b0, a]
      · refine goL_code _ (fun l t k => ?_) _ _
        by_cases h3 : (l.length : Int) > 3
        · simp [h3]
        · simp only [h3, decide_false, cond_false]
          rw [contains_F next l (by simp [maxLen]; omega) (by omega)]
          simp only [Option.bind_some]
          cases inside next.length l <;> rfl

theorem ref_WayCheck_F {nf : Nat} (hn : 9 ≤ nf) (next : List (List Int)) : ref_WayCheck_f nf next = some (wayCode next, ()) := by
  simp only [ref_WayCheck_f, ref_WayCheck_p, wayCode]
  by_cases h1 : (next.length : Int) < 1
  · simp [h1]
  · by_cases h2 : (next.length : Int) > 8
    · simp [h1, h2]
    · simp only [h1, h2, decide_false, cond_false]
      have hm : next.length ≤ maxLen := by simp [maxLen]; omega
      refine (loop_all (l := next) (d := []) (F := fun fu t (s : Unit) => ref_WayCheck_l0 nf next fu t) (fin := fun _ => some (0, ()))
        (step := fun x _ s k => bif decide ((x.length : Int) > 3) then some (1, ()) else Option.bind (ref_Inside_f nf next.length x) fun r => bif !r.fst then some (2, ()) else k s) ?_ ?_ nf () (by omega)).trans ?_
      · intro fu t s a b
        simp only [ref_WayCheck_l0, ref_WayCheck_b0, inb_ok a b, wrap_step a b hm, b, decide_true, cond_true]
      · intro fu t s a
        simp [ref_WayCheck_l0, ref_WayCheck_b0, a]
      · refine goL_code _ (fun l t k => ?_) _ _
        by_cases h3 : (l.length : Int) > 3
        · simp [h3]
        · simp only [h3, decide_false, cond_false]
          rw [inside_F _ l (by simp [maxLen]; omega) (by omega)]
          simp only [Option.bind_some]
          cases inside next.length l <;> rfl

/-- a way that may be -/
structure WayOK (next : List (List Int)) : Prop where
  pos : 1 ≤ next.length
  few : next.length ≤ 8
  thin : ∀ l ∈ next, l.length ≤ 3
  good : ∀ l ∈ next, ∀ j ∈ l, 0 ≤ j ∧ j < next.length

theorem codeGo_ok {n : Int} : ∀ (l : List (List Int)), codeGo n l = 0 → ∀ x ∈ l, x.length ≤ 3 ∧ ∀ j ∈ x, 0 ≤ j ∧ j < n
  | [], _, x, hx => by cases hx
  | y :: r, h, x, hx => by
    simp only [codeGo] at h
    by_cases h1 : (y.length : Int) > 3
    · simp [h1] at h
    · cases h2 : inside n y with
      | false => simp [h1, h2] at h
      | true =>
        simp only [h1, h2, decide_false, cond_false, cond_true] at h
        rcases List.mem_cons.1 hx with rfl | hx
        · refine ⟨by omega, fun j hj => ?_⟩
          have := List.all_eq_true.1 h2 j hj
          simpa using this
        · exact codeGo_ok r h x hx

theorem wayCode_ok {next : List (List Int)} (h : wayCode next = 0) : WayOK next := by
  unfold wayCode at h
  by_cases h1 : (next.length : Int) < 1
  · simp [h1] at h
  · by_cases h2 : (next.length : Int) > 8
    · simp [h1, h2] at h
    · simp only [h1, h2, decide_false, cond_false] at h
      exact ⟨by omega, by omega, fun l hl => (codeGo_ok next h l hl).1, fun l hl => (codeGo_ok next h l hl).2⟩
end Go.Proofs.Ytoglkjmdloppcaa
