/- What registers have behind moves, one by one. -/
import Derived.Test.YtmndifhjmbiodaaSwapDone
namespace Go.Proofs.Ytmndifhjmbiodaa
open Go Go.Ab S

/-- what a register has behind moves -/
def vals : List Mv → (Int → Int) → Int → Int
  | [], v => v
  | m :: l, v => vals l fun r => if r = m.1 then v m.2.1 else v r
theorem vals_app (m : Mv) (r : Int) : ∀ (l : List Mv) (v : Int → Int), vals (l ++ [m]) v r = if r = m.1 then vals l v m.2.1 else vals l v r
  | [], v => rfl
  | p :: l, v => by
    simp only [List.cons_append, vals]
    exact vals_app m r l _

/-- what the registers have while they are freed -/
def Vl (n : Nat) (f : Int → Int) (F : List Int) (out : List Mv) : Prop :=
  (∀ m ∈ out, 0 ≤ m.1 ∧ m.1 ≤ n ∧ 0 ≤ m.2.1 ∧ m.2.1 ≤ n) ∧ (∀ c : Nat, c < n → F.getD c 0 ≠ c → vals out id (F.getD c 0) = f c) ∧ ∀ c : Nat, c < n → F.getD c 0 = c → vals out id c = f c

theorem vl_tells (n : Nat) (f : Int → Int) : Tells n f (Vl n f) := by
  intro F U F' out i h hi hm hno lF' e hv
  obtain ⟨v1, v2, v3⟩ := hv
  have hr := h.rng i hi
  have ei := v2 i hi hm
  refine ⟨fun m hmm => ?_, fun c hc hne => ?_, fun c hc he => ?_⟩
  · rcases List.mem_append.1 hmm with h1 | h1
    · exact v1 m h1
    · rw [List.mem_singleton] at h1
      subst h1
      exact ⟨by omega, by simp; omega, hr.1, by have := hr.2; show F.getD i 0 ≤ n; omega⟩
  · have hci : c ≠ i := fun e2 => by subst e2; rw [e c hc, if_pos rfl] at hne; exact hne rfl
    have ec := e c hc
    rw [if_neg hci] at ec
    rw [vals_app]
    by_cases hcond : F.getD c 0 = F.getD i 0 ∧ (c : Int) ≠ F.getD i 0
    · rw [if_pos hcond] at ec
      rw [ec, if_pos rfl]
      show vals out id (F.getD i 0) = f c
      rw [← hcond.1]
      exact v2 c hc (fun h2 => hcond.2 (by rw [← hcond.1]; exact h2.symm))
    · rw [if_neg hcond] at ec
      rw [ec] at hne ⊢
      rw [if_neg (fun h2 => hno c hc hci h2)]
      exact v2 c hc hne
  · rw [vals_app]
    by_cases hci : c = i
    · subst hci
      rw [if_pos rfl]; exact ei
    · rw [if_neg (show ¬ (c : Int) = i by omega)]
      have ec := e c hc
      rw [if_neg hci] at ec
      by_cases hcond : F.getD c 0 = F.getD i 0 ∧ (c : Int) ≠ F.getD i 0
      · rw [if_pos hcond, he] at ec; omega
      · rw [if_neg hcond] at ec
        exact v3 c hc (by rw [← ec]; exact he)

/-- what the registers have while the circles are moved -/
structure OrdC (n : Nat) (f : Int → Int) (t : Int) (out : List Mv) : Prop where
  ins : ∀ m ∈ out, 0 ≤ m.1 ∧ m.1 ≤ n ∧ 0 ≤ m.2.1 ∧ m.2.1 ≤ n
  yes : ∀ c : Nat, c < n → Above n f t c → vals out id c = c
  no : ∀ c : Nat, c < n → ¬ Above n f t c → vals out id c = f c

theorem ord_start {n : Nat} {f : Int → Int} {F : List Int} {out : List Mv} (h : RestC n f 0 F) (hv : Vl n f F out) : OrdC n f 0 out := by
  obtain ⟨v1, v2, v3⟩ := hv
  refine ⟨v1, fun c hc ha => ?_, fun c hc ha => v3 c hc (h.no c hc ha)⟩
  obtain ⟨p, hp, hb⟩ := ha.1.back
  obtain ⟨q, rfl⟩ : ∃ q, p = q + 1 := ⟨p - 1, by omega⟩
  rw [it_succ] at hb
  have hi := ha.1.inn q
  have hq := ha.shifts q
  have e : (((it f q c).toNat : Nat) : Int) = it f q c := by omega
  have h1 := h.yes (it f q c).toNat (by omega) (by rw [e]; exact hq)
  rw [e, hb] at h1
  have hmv := hq.1.move 0
  have e0 : it f 0 (it f q c) = it f q c := rfl
  rw [e0, hb] at hmv
  have := v2 (it f q c).toNat (by omega) (by rw [h1]; omega)
  rw [h1, e, hb] at this
  exact this

theorem left_set {G : List Int} {i : Nat} (hi : i < G.length) (hm : G.getD i 0 ≠ i) : left G = left (G.set i (i : Int)) + 1 := by
  unfold left
  rw [List.length_set]
  refine cnt_flip (i := i) (decide_eq_true hm) (by rw [getD_upd hi, if_pos rfl]; simp) (fun j hj hji => ?_) hi
  rw [getD_upd hi, if_neg hji]

theorem left_zero {n : Nat} {f : Int → Int} {F : List Int} (h : RestC n f n F) : left F = 0 := by
  unfold left
  rw [cnt_congr (q := fun _ => false), cnt_zero]
  intro j hj
  rw [decide_eq_false_iff_not]
  have hl := h.len
  exact fun hne => hne (h.no j (by omega) fun ha => by
    have := ha.2 0
    have e : it f 0 (j : Int) = j := rfl
    omega)
end Go.Proofs.Ytmndifhjmbiodaa
