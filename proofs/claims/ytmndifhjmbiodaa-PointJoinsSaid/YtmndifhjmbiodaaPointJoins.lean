/- Steps of pointers: what may be the same, and what may point to what. -/
import Derived.Test.YtmndifhjmbiodaaJoinLoop
import Derived.Test.YtmndifhjmbiodaaJoinRef
import Derived.Test.YtmndifhjmbiodaaAbLaw
namespace Go.Proofs.Ytmndifhjmbiodaa
open Go Go.Ab S

theorem out_eq {n : Nat} (h8 : n ≤ 8) {P : Int → Int → Prop} {o o' : List Int} (h1 : OutJ n P o) (h2 : OutR n P o') : o = o' := by
  refine List.ext_getElem (by rw [h1.1, h2.1]) fun i a b => ?_
  obtain ⟨w1, b1⟩ := h1.2 i (by rw [← h1.1]; exact a)
  obtain ⟨w2, b2⟩ := h2.2 i (by rw [← h1.1]; exact a)
  have e1 : o.getD i 0 = o[i] := by simp [List.getD, a]
  have e2 : o'.getD i 0 = o'[i] := by simp [List.getD, b]
  rw [← e1, ← e2]
  refine bt_ext w1 w2 fun j _ => ?_
  rw [Bool.eq_iff_iff, b1, b2]

theorem stmCode_ok {vars : Int} {l : List Stm} (h : stmCode vars l = 0) : (1 ≤ vars ∧ vars ≤ 8) ∧ l.length ≤ 12 ∧ GoodJ vars l := by
  unfold stmCode at h
  split at h
  · cases h
  · exact ⟨by omega, by omega, stmGo_good h⟩

theorem pointJoins_main (vars : Int) (l : List Stm) : law_PointJoins_f 400 vars l = some (true, ()) := by
  obtain ⟨c1, c2⟩ := check_F (nf := 400) (by omega) vars l
  simp only [law_PointJoins_f, law_PointJoins_p, c2]
  by_cases hc : stmCode vars l = 0
  · obtain ⟨⟨v1, v2⟩, hl, hg⟩ := stmCode_ok hc
    obtain ⟨o, o1, o2⟩ := joined_F (n := vars.toNat) (vars := vars) (l := l) (by omega) (by omega) (by omega) hg hl hc
    obtain ⟨o', r1, r2⟩ := rjoined_F (nf := 400) (n := vars.toNat) (vars := vars) (l := l) (by omega) (by omega) (by omega) hg hl
    have he := out_eq (by omega) o1 r1
    subst he
    have hlen := o1.1
    rw [o2, r2]
    simp only [Option.bind_some, hc, bne_self_eq_false, cond_false, beq_self_eq_true, cond_true]
    rw [words_F o (by simp [maxLen]; omega) (by omega)]
    rfl
  · simp only [point_Joined_f, point_Joined_p, c1, Option.bind_some, bne_t hc, cond_true, beq_self_eq_true]
    rfl

theorem pointJoins_law (x : denPs (lawPs [.int .i64, .sl (.pair (.int .i64) (.pair (.int .i64) (.pair (.int .i64) .unit)))])) (_ : wfPs [.int .i64, .sl (.pair (.int .i64) (.pair (.int .i64) (.pair (.int .i64) .unit)))] x) : ∃ n, law_PointJoins_F n x = some (true, ()) := by
  obtain ⟨vars, l, _⟩ := x
  exact ⟨400, pointJoins_main vars l⟩
end Go.Proofs.Ytmndifhjmbiodaa
