/- Code for a stack: what is wrong with it. -/
import Derived.Test.YtpnganfbonlphaaFn1
import Derived.Test.YtpnganfbonlphaaLib
namespace Go.Proofs.Ytpnganfbonlphaa
open Go Go.Ab S

def inside (n : Int) (l : List Int) : Bool := l.all fun x => decide (0 ≤ x) && decide (x < n)

theorem inside_F {nf : Nat} (n : Int) (l : List Int) (hl : l.length ≤ maxLen) (hf : l.length < nf) : ref_Inside_f nf n l = some (inside n l, ()) := by
  have h := loop_all (l := l) (d := 0) (F := fun fu t (_ : Unit) => ref_Inside_l0 nf n l fu t) (fin := fun _ => some (true, ()))
    (step := fun x _ s k => bif decide (x < 0) then some (false, ()) else bif decide (x ≥ n) then some (false, ()) else k s) ?_ ?_ nf () hf
  · show ref_Inside_l0 nf n l nf 0 = _
    rw [show ref_Inside_l0 nf n l nf 0 = _ from h]
    have key : ∀ (l : List Int) (t : Int), goL (fun x _ (s : Unit) k => bif decide (x < 0) then some (false, ()) else bif decide (x ≥ n) then some (false, ()) else k s) (fun _ => some (true, ())) l t () = some (inside n l, ()) := by
      intro l
      induction l with
      | nil => intro t; rfl
      | cons x r ih =>
        intro t
        simp only [goL, inside, List.all_cons] at ih ⊢
        by_cases h1 : x < 0
        · simp [h1, show ¬ 0 ≤ x by omega]
        · by_cases h2 : n ≤ x
          · simp [h1, h2, show ¬ x < n by omega]
          · simp only [h1, h2, ge_iff_le, decide_false, cond_false, ih, show 0 ≤ x by omega, show x < n by omega, decide_true, Bool.true_and]
    exact key l 0
  · intro fu t s a b
    simp only [ref_Inside_l0, ref_Inside_b0, inb_ok a b, wrap_step a b hl, b, decide_true, cond_true]
  · intro fu t s a
    simp [ref_Inside_l0, ref_Inside_b0, a]

theorem value_F (nf : Nat) (x : Int) : ref_Value_f nf x = some (decide (0 ≤ x) && decide (x ≤ 255), ()) := by
  simp only [ref_Value_f, ref_Value_p]
  by_cases h : 0 ≤ x <;> simp [h]

abbrev SOp := Int × Int × Unit

/-- what is wrong with code for a stack -/
def wrongGo (vars : Int) : List SOp → Int → Int
  | [], _ => 0
  | (op, v, _) :: r, deep => if op < 1 ∨ op > 6 then 6 else if op ≤ 2 then (if vars ≥ 0 ∧ (v < 0 ∨ (op = 1 ∧ v > 255) ∨ (op = 2 ∧ v ≥ vars)) then 4 else wrongGo vars r (deep + 1)) else if deep < 2 then 5 else wrongGo vars r (deep - 1)
def wrong (vars : Int) (code : List SOp) : Int := if vars > 6 then 1 else if code.length > 40 then 1 else wrongGo vars code 0

theorem wrap_in {n : Int} (h0 : -1000000 ≤ n) (h1 : n ≤ 1000000) : IntKind.i64.wrap n = n := Go.IntWalk.i64_in _ (by omega)

theorem wrong_l0 {nf : Nat} (vars : Int) (code : List SOp) (hl : code.length ≤ 40) : ∀ (fu : Nat) (deep t : Int), 0 ≤ deep → deep ≤ t → t ≤ code.length → code.length < t + fu → stack_wrong_l0 nf vars code fu deep t = some (wrongGo vars (code.drop t.toNat) deep, ())
  | 0, _, _, _, _, _, h => by omega
  | fu + 1, deep, t, h0, h1, h2, h3 => by
    rw [stack_wrong_l0, stack_wrong_b0]
    by_cases ht : t < code.length
    · rw [inb_ok (by omega) ht, wrap_in (n := deep + 1) (by omega) (by omega), wrap_in (n := deep - 1) (by omega) (by omega), wrap_in (n := t + 1) (by omega) (by omega)]
      rw [wrong_l0 vars code hl fu (deep + 1) (t + 1) (by omega) (by omega) (by omega) (by omega)]
      rw [drop_step code t (0, 0, ()) (by omega) ht]
      generalize code.getD t.toNat (0, 0, ()) = x
      obtain ⟨op, v, _⟩ := x
      simp only [ht, decide_true, cond_true, wrongGo]
      by_cases o1 : op < 1
      · simp [o1]
      · by_cases o2 : op > 6
        · simp [o1, o2]
        · by_cases o3 : op ≤ 2
          · by_cases a0 : vars ≥ 0
            · by_cases a1 : v < 0
              · simp [o1, o2, o3, a0, a1]
              · by_cases a2 : op = 1
                · by_cases a3 : v > 255 <;> simp [a0, a1, a2, a3]
                · by_cases a4 : op = 2
                  · by_cases a5 : v ≥ vars
                    · simp [a0, a1, a4, a5]
                    · simp [a0, a1, a4, a5]
                  · omega
            · simp [o1, o2, o3, a0]
          · by_cases a1 : deep < 2
            · simp [o1, o2, o3, a1]
            · rw [wrong_l0 vars code hl fu (deep - 1) (t + 1) (by omega) (by omega) (by omega) (by omega)]
              simp [o1, o2, o3, a1]
    · simp [ht, wrongGo, List.drop_eq_nil_of_le (show code.length ≤ t.toNat by omega)]

theorem check_l0 {nf : Nat} (hn : 2 ≤ nf) (vars : Int) (code : List SOp) (hl : code.length ≤ 40) : ∀ (fu : Nat) (deep t : Int), 0 ≤ deep → deep ≤ t → t ≤ code.length → code.length < t + fu → ref_StackCheck_l0 nf vars code fu deep t = some (wrongGo vars (code.drop t.toNat) deep, ())
  | 0, _, _, _, _, _, h => by omega
  | fu + 1, deep, t, h0, h1, h2, h3 => by
    rw [ref_StackCheck_l0, ref_StackCheck_b0]
    by_cases ht : t < code.length
    · rw [inb_ok (by omega) ht, wrap_in (n := deep + 1) (by omega) (by omega), wrap_in (n := deep + 1 - 2) (by omega) (by omega), wrap_in (n := t + 1) (by omega) (by omega)]
      rw [check_l0 hn vars code hl fu (deep + 1) (t + 1) (by omega) (by omega) (by omega) (by omega)]
      rw [drop_step code t (0, 0, ()) (by omega) ht]
      generalize code.getD t.toNat (0, 0, ()) = x
      obtain ⟨op, v, _⟩ := x
      simp only [ht, decide_true, cond_true, wrongGo, value_F, inside_F (nf := nf) vars [v] (by simp [maxLen]) (by simp; omega), inside, List.all_cons, List.all_nil, Bool.and_true, Option.bind_some]
      by_cases o1 : op < 1
      · simp [o1]
      · by_cases o2 : op > 6
        · simp [o1, o2]
        · by_cases o3 : op ≤ 2
          · have o4 : ¬ 3 ≤ op := by omega
            by_cases a0 : vars ≥ 0
            · by_cases a2 : op = 1
              · by_cases a1 : v < 0
                · simp [a0, a1, a2, show ¬ 0 ≤ v by omega]
                · by_cases a3 : v > 255
                  · simp [a0, a1, a2, a3, show 0 ≤ v by omega, show ¬ v ≤ 255 by omega]
                  · simp [a0, a1, a2, a3, show 0 ≤ v by omega, show v ≤ 255 by omega]
              · have a4 : op = 2 := by omega
                by_cases a1 : v < 0
                · simp [a0, a1, a4, show ¬ 0 ≤ v by omega]
                · by_cases a5 : v ≥ vars
                  · simp [a0, a1, a4, a5, show 0 ≤ v by omega, show ¬ v < vars by omega]
                  · simp [a0, a1, a4, a5, show 0 ≤ v by omega, show v < vars by omega]
            · simp [o1, o2, o3, o4, a0]
          · have o4 : 3 ≤ op := by omega
            have o5 := beq_f (show ¬ op = 1 by omega)
            have o6 := beq_f (show ¬ op = 2 by omega)
            by_cases a1 : deep < 2
            · simp [o1, o2, o3, o4, o5, o6, a1]
            · rw [check_l0 hn vars code hl fu (deep + 1 - 2) (t + 1) (by omega) (by omega) (by omega) (by omega)]
              have e : deep + 1 - 2 = deep - 1 := by omega
              rw [e]
              simp [o1, o2, o3, o4, o5, o6, a1]
    · simp [ht, wrongGo, List.drop_eq_nil_of_le (show code.length ≤ t.toNat by omega)]

theorem wrong_F {nf : Nat} (hn : 42 ≤ nf) (vars : Int) (code : List SOp) : stack_wrong_f nf vars code = some (wrong vars code, ()) := by
  simp only [stack_wrong_f, stack_wrong_p, wrong]
  by_cases h1 : vars > 6
  · simp [h1]
  · by_cases h2 : code.length > 40
    · have : (code.length : Int) > 40 := by omega
      simp [h1, h2, this]
    · have : ¬ (code.length : Int) > 40 := by omega
      rw [wrong_l0 vars code (by omega) nf 0 0 (by omega) (by omega) (by omega) (by omega)]
      simp [h1, h2, this]

theorem check_F {nf : Nat} (hn : 42 ≤ nf) (vars : Int) (code : List SOp) : ref_StackCheck_f nf vars code = some (wrong vars code, ()) := by
  simp only [ref_StackCheck_f, ref_StackCheck_p, wrong]
  by_cases h1 : vars > 6
  · simp [h1]
  · by_cases h2 : code.length > 40
    · have : (code.length : Int) > 40 := by omega
      simp [h1, h2, this]
    · have : ¬ (code.length : Int) > 40 := by omega
      rw [check_l0 (by omega) vars code (by omega) nf 0 0 (by omega) (by omega) (by omega) (by omega)]
      simp [h1, h2, this]
end Go.Proofs.Ytpnganfbonlphaa
