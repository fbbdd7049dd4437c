/- What is wrong with a program and a beginning. -/
import Derived.Test.YtokjogplnoeicaaKnownRef
namespace Go.Proofs.Ytokjogplnoeicaa
open Go Go.Ab S

variable {nf : Nat} {p : List Blk}

def isKb (x : Int) : Bool := decide (-1 ≤ x) && decide (x ≤ 255)
/-- what is wrong with a beginning -/
def startC (vars : Int) (l : List Int) : Int := if (l.length : Int) ≠ vars then 3 else if chk (fun t => isKb (l.getD t.toNat 0)) l.length 0 = true then 0 else 4

theorem kcontains_F (l : List Int) (hl : l.length ≤ maxLen) (hf : l.length < nf) : slices_ContainsFunc__known_wrong_1_f nf l () = some (!chk (fun t => isKb (l.getD t.toNat 0)) l.length 0, ()) := by
  have key := loop_first (n := (l.length : Int)) (F := fun fu t => slices_IndexFunc__known_wrong_1_l0 nf l fu t) (hit := fun i => some (i, ())) (miss := some (-1, ())) (fun t => !isKb (l.getD t.toNat 0)) (fun fu t h0 ht => by
    have h1 : known_wrong_1_f nf (l.getD t.toNat 0) = some (!isKb (l.getD t.toNat 0), ()) := by
      generalize l.getD t.toNat 0 = x
      simp only [known_wrong_1_f, known_wrong_1_p, isKb]
      by_cases c1 : x < -1
      · simp [c1, show ¬ (-1 ≤ x) by omega]
      · by_cases c2 : x > 255
        · simp [c1, c2, show ¬ (x ≤ 255) by omega]
        · simp [c1, c2, show -1 ≤ x by omega, show x ≤ 255 by omega]
    rw [slices_IndexFunc__known_wrong_1_l0, slices_IndexFunc__known_wrong_1_b0, inb_ok h0 ht, wrap_step h0 ht hl, h1]
    simp only [ht, decide_true, cond_true, Option.bind_some]) (fun fu => by
    rw [slices_IndexFunc__known_wrong_1_l0, slices_IndexFunc__known_wrong_1_b0]
    simp only [Int.lt_irrefl, decide_false, cond_false]) nf 0 (by omega) (by omega) (by omega)
  simp only [slices_ContainsFunc__known_wrong_1_f, slices_ContainsFunc__known_wrong_1_p, slices_IndexFunc__known_wrong_1_f, slices_IndexFunc__known_wrong_1_p]
  rw [key, show ((l.length : Int) - 0).toNat = l.length by omega]
  cases hq : findFrom (fun t => !isKb (l.getD t.toNat 0)) l.length 0 with
  | none =>
    have := findFrom_none hq
    have hc : chk (fun t => isKb (l.getD t.toNat 0)) l.length 0 = true := chk_iff.2 fun i a b => by simpa using this i a b
    rw [hc]; rfl
  | some i =>
    obtain ⟨a, b, c⟩ := findFrom_some hq
    have hc : chk (fun t => isKb (l.getD t.toNat 0)) l.length 0 = false := by
      cases hq2 : chk (fun t => isKb (l.getD t.toNat 0)) l.length 0 with
      | false => rfl
      | true => have := chk_iff.1 hq2 i a b; rw [this] at c; cases c
    rw [hc]
    simp [a]

theorem startCheck_F (vars : Int) (l : List Int) (hl : l.length ≤ maxLen) (hf : l.length < nf) : ref_StartCheck_f nf vars l = some (startC vars l, ()) := by
  have key := loop_chk (n := (l.length : Int)) (F := fun fu t => ref_StartCheck_l0 nf l fu t) (yes := some (0, ())) (no := some (4, ())) (fun t => isKb (l.getD t.toNat 0)) (fun fu t h0 ht => by
    rw [ref_StartCheck_l0, ref_StartCheck_b0, inb_ok h0 ht, wrap_step h0 ht hl, value_F']
    simp only [ht, decide_true, cond_true, Option.bind_some]
    generalize l.getD t.toNat 0 = x
    unfold isKb
    by_cases c0 : x = -1
    · simp [c0]
    · rw [bne_t c0, cond_true]
      by_cases c1 : 0 ≤ x
      · simp [c1, show -1 ≤ x by omega]
      · simp [c1, show ¬ (-1 ≤ x) by omega]) (fun fu => by
    rw [ref_StartCheck_l0, ref_StartCheck_b0]
    simp only [Int.lt_irrefl, decide_false, cond_false]) nf 0 (by omega) (by omega) (by omega)
  simp only [ref_StartCheck_f, ref_StartCheck_p, startC]
  by_cases c : (l.length : Int) = vars
  · rw [if_neg (fun h => h c), c, bne_self_eq_false, cond_false, key, show ((l.length : Int) - 0).toNat = l.length by omega]
    cases chk (fun t => isKb (l.getD t.toNat 0)) l.length 0 <;> rfl
  · rw [if_pos c, bne_t c, cond_true]

theorem wrong_F {vars : Int} (hp : Fits nf p) (l : List Int) (hl : l.length ≤ maxLen) (hf : l.length < nf) : known_wrong_f nf vars p l = some (if progCode vars p = 0 then startC vars l else progCode vars p, ()) := by
  simp only [known_wrong_f, known_wrong_p, block_Check_F hp, Option.bind_some]
  by_cases c1 : progCode vars p = 0
  · rw [if_pos c1, c1, bne_self_eq_false, cond_false, kcontains_F l hl hf]
    simp only [startC, Option.bind_some]
    by_cases c : (l.length : Int) = vars
    · rw [if_neg (fun h => h c), c, bne_self_eq_false, cond_false]
      cases chk (fun t => isKb (l.getD t.toNat 0)) l.length 0 <;> rfl
    · rw [if_pos c, bne_t c, cond_true]
  · rw [if_neg c1, bne_t c1, cond_true]

theorem startC_ok {vars : Int} {l : List Int} (h : startC vars l = 0) : Row vars l := by
  unfold startC at h
  split at h
  · cases h
  · rename_i h1
    split at h
    · rename_i h2
      refine ⟨by omega, fun x hx => ?_⟩
      obtain ⟨i, hi, rfl⟩ := List.mem_iff_getElem.1 hx
      have := chk_iff.1 h2 i (by omega) (by omega)
      rw [Int.toNat_natCast, show l.getD i 0 = l[i] by simp [List.getD, hi]] at this
      unfold isKb at this
      rw [Bool.and_eq_true, decide_eq_true_eq, decide_eq_true_eq] at this
      exact this
    · cases h

end Go.Proofs.Ytokjogplnoeicaa
