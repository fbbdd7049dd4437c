/- What is known of variables ahead of each block. -/
import Derived.Test.YtokjogplnoeicaaKnownRef
import Derived.Test.YtokjogplnoeicaaAbLaw
namespace Go.Proofs.Ytokjogplnoeicaa
open Go Go.Ab S

variable {nf : Nat} {p : List Blk}

def isKb (x : Int) : Bool := decide (-1 ≤ x) && decide (x ≤ 255)
/-- what is wrong with a beginning -/
def startC (vars : Int) (l : List Int) : Int := if (l.length : Int) ≠ vars then 3 else if chk (fun t => isKb (l.getD t.toNat 0)) l.length 0 = true then 0 else 4

theorem kcontains_F (l : List Int) (hl : l.length ≤ maxLen) (hf : l.length < nf) : slices_ContainsFunc__known_wrong_1_f nf l () = some (!chk (fun t => isKb (l.getD t.toNat 0)) l.length 0, ()) := by
  have key := loop_first (n := (l.length : Int)) (F := fun fu t => slices_IndexFunc__known_wrong_1_l0 nf l fu t) (hit := fun i => some (i, ())) (miss := some (-1, ())) (fun t => !isKb (l.getD t.toNat 0)) (fun fu t h0 ht => by
    have h1 : known_wrong_1_f nf (l.getD t.toNat 0) = some (!isKb (l.getD t.toNat 0), ()) := by
      generalize l.getD t.toNat 0 = x
      simp only [known_wrong_1_f, known_wrong_1_p, isKb]
      by_cases c1 : x < -1
      · simp [c1, show ¬ (-1 ≤ x) by omega]
      · by_cases c2 : x > 255
        · simp [c1, c2, show ¬ (x ≤ 255) by omega]
        · simp [c1, c2, show -1 ≤ x by omega, show x ≤ 255 by omega]
    rw [slices_IndexFunc__known_wrong_1_l0, slices_IndexFunc__known_wrong_1_b0, inb_ok h0 ht, wrap_step h0 ht hl, h1]
    simp only [ht, decide_true, cond_true, Option.bind_some]) (fun fu => by
    rw [slices_IndexFunc__known_wrong_1_l0, slices_IndexFunc__known_wrong_1_b0]
    simp only [Int.lt_irrefl, decide_false, cond_false]) nf 0 (by omega) (by omega) (by omega)
  simp only [slices_ContainsFunc__known_wrong_1_f, slices_ContainsFunc__known_wrong_1_p, slices_IndexFunc__known_wrong_1_f, slices_IndexFunc__known_wrong_1_p]
  rw [key, show ((l.length : Int) - 0).toNat = l.length by omega]
  cases hq : findFrom (fun t => !isKb (l.getD t.toNat 0)) l.length 0 with
  | none =>
    have := findFrom_none hq
    have hc : chk (fun t => isKb (l.getD t.toNat 0)) l.length 0 = true := chk_iff.2 fun i a b => by simpa using this i a b
    rw [hc]; rfl
  | some i =>
    obtain ⟨a, b, c⟩ := findFrom_some hq
    have hc : chk (fun t => isKb (l.getD t.toNat 0)) l.length 0 = false := by
      cases hq2 : chk (fun t => isKb (l.getD t.toNat 0)) l.length 0 with
      | false => rfl
      | true => have := chk_iff.1 hq2 i a b; rw [this] at c; cases c
    rw [hc]
    simp [a]

theorem startCheck_F (vars : Int) (l : List Int) (hl : l.length ≤ maxLen) (hf : l.length < nf) : ref_StartCheck_f nf vars l = some (startC vars l, ()) := by
  have key := loop_chk (n := (l.length : Int)) (F := fun fu t => ref_StartCheck_l0 nf l fu t) (yes := some (0, ())) (no := some (4, ())) (fun t => isKb (l.getD t.toNat 0)) (fun fu t h0 ht => by
    rw [ref_StartCheck_l0, ref_StartCheck_b0, inb_ok h0 ht, wrap_step h0 ht hl, value_F']
    simp only [ht, decide_true, cond_true, Option.bind_some]
    generalize l.getD t.toNat 0 = x
    unfold isKb
    by_cases c0 : x = -1
    · simp [c0]
    · rw [bne_t c0, cond_true]
      by_cases c1 : 0 ≤ x
      · simp [c1, show -1 ≤ x by omega]
      · simp [c1, show ¬ (-1 ≤ x) by omega]) (fun fu => by
    rw [ref_StartCheck_l0, ref_StartCheck_b0]
    simp only [Int.lt_irrefl, decide_false, cond_false]) nf 0 (by omega) (by omega) (by omega)
  simp only [ref_StartCheck_f, ref_StartCheck_p, startC]
  by_cases c : (l.length : Int) = vars
  · rw [if_neg (fun h => h c), c, bne_self_eq_false, cond_false, key, show ((l.length : Int) - 0).toNat = l.length by omega]
    cases chk (fun t => isKb (l.getD t.toNat 0)) l.length 0 <;> rfl
  · rw [if_pos c, bne_t c, cond_true]

theorem wrong_F {vars : Int} (hp : Fits nf p) (l : List Int) (hl : l.length ≤ maxLen) (hf : l.length < nf) : known_wrong_f nf vars p l = some (if progCode vars p = 0 then startC vars l else progCode vars p, ()) := by
  simp only [known_wrong_f, known_wrong_p, block_Check_F hp, Option.bind_some]
  by_cases c1 : progCode vars p = 0
  · rw [if_pos c1, c1, bne_self_eq_false, cond_false, kcontains_F l hl hf]
    simp only [startC, Option.bind_some]
    by_cases c : (l.length : Int) = vars
    · rw [if_neg (fun h => h c), c, bne_self_eq_false, cond_false]
      cases chk (fun t => isKb (l.getD t.toNat 0)) l.length 0 <;> rfl
    · rw [if_pos c, bne_t c, cond_true]
  · rw [if_neg c1, bne_t c1, cond_true]

theorem startC_ok {vars : Int} {l : List Int} (h : startC vars l = 0) : Row vars l := by
  unfold startC at h
  split at h
  · cases h
  · rename_i h1
    split at h
    · rename_i h2
      refine ⟨by omega, fun x hx => ?_⟩
      obtain ⟨i, hi, rfl⟩ := List.mem_iff_getElem.1 hx
      have := chk_iff.1 h2 i (by omega) (by omega)
      rw [Int.toNat_natCast, show l.getD i 0 = l[i] by simp [List.getD, hi]] at this
      unfold isKb at this
      rw [Bool.and_eq_true, decide_eq_true_eq, decide_eq_true_eq] at this
      exact this
    · cases h

theorem knownTells_aux {vars : Int} {have' : List Int} (hp : p.length ≤ maxLen) (hs : ∀ b ∈ p, b.1.length ≤ maxLen) (hh : have'.length ≤ maxLen) (hn : fuelOf p + have'.length + 300 ≤ nf) : law_KnownTells_f nf vars p have' = some (true, ()) := by
  have hfu := (fuelOf_ok p).1
  have hf := fits_of (nf := nf) (by omega) hp hs
  have hfit : ∀ b ∈ p, b.1.length ≤ maxLen ∧ b.1.length < nf := fun b hb => ⟨hs b hb, by have := (fuelOf_ok p).2 b hb; omega⟩
  simp only [law_KnownTells_f, law_KnownTells_p, known_In_f, known_In_p, law_startCode_f, law_startCode_p]
  rw [wrong_F hf have' hh (by omega), ref_ProgCheck_F (by omega) hf, startCheck_F vars have' hh (by omega)]
  simp only [Option.bind_some]
  by_cases h1 : progCode vars p = 0
  · rw [if_pos h1, h1, beq_self_eq_true, cond_true]
    by_cases h2 : startC vars have' = 0
    · obtain ⟨b1, b2, b3, b4, b5⟩ := progCode_ok h1
      have hrow := startC_ok h2
      have hm : Made vars p nf := ⟨b1, b2, b3, b4, blocksGo_ok b5, hfit⟩
      obtain ⟨R, r1, r2⟩ := solve_F hm (by omega) hrow
      obtain ⟨R', s1, s2⟩ := known_F hm (by omega) hrow
      have he := least_one r1 s1
      subst he
      rw [h2]
      simp only [bne_self_eq_false, cond_false, r2, s2, Option.bind_some, beq_self_eq_true, cond_true]
      rw [lists_F b2 b4 (by omega) r1.1 r1.1]
      simp
    · simp only [bne_t h2, cond_true, Option.bind_some, beq_self_eq_true]
      rfl
  · rw [if_neg h1]
    simp only [bne_t h1, beq_f h1, cond_true, cond_false, Option.bind_some, beq_self_eq_true]
    rfl

theorem knownTells_law (x : denPs (lawPs [.int .i64, .sl (.pair (.sl (.pair (.int .i64) (.pair (.int .i64) (.pair (.int .i64) (.pair (.int .i64) (.pair (.int .i64) (.unit))))))) (.pair (.int .i64) (.pair (.int .i64) (.pair (.int .i64) (.unit))))), .sl (.int .i64)])) (h : wfPs [.int .i64, .sl (.pair (.sl (.pair (.int .i64) (.pair (.int .i64) (.pair (.int .i64) (.pair (.int .i64) (.pair (.int .i64) (.unit))))))) (.pair (.int .i64) (.pair (.int .i64) (.pair (.int .i64) (.unit))))), .sl (.int .i64)] x) : ∃ n, law_KnownTells_F n x = some (true, ()) := by
  obtain ⟨vars, p, have', _⟩ := x
  obtain ⟨_, ⟨h1, h2⟩, ⟨h3, _⟩, _⟩ := h
  refine ⟨_, knownTells_aux h1 (fun b hb => ?_) h3 (Nat.le_refl _)⟩
  obtain ⟨i, hi, rfl⟩ := List.mem_iff_getElem.1 hb
  have := h2 i hi
  have e : List.getD p i (dflt _) = p[i] := by simp [List.getD, hi]
  rw [e] at this
  exact this.1.1
end Go.Proofs.Ytokjogplnoeicaa
