/- weak.Holds tells whether terms behind steps are true where others ahead of them are. -/
import Derived.Test.YtpnganfbonlphaaValue
import Derived.Test.YtpnganfbonlphaaDo
import Derived.Test.YtpnganfbonlphaaAbLaw
namespace Go.Proofs.Ytpnganfbonlphaa
open Go Go.Ab S

variable {nf : Nat}

theorem haveCode_of {n : Int} {v : List Int} (h : Vars n v) : haveCode n v = 0 := by
  have : vals v = true := List.all_eq_true.2 fun x hx => by
    have := h.ok x hx
    simp only [isV] at this
    simp [this.1, this.2]
  simp [haveCode, h.len, this]

theorem weakHolds_main (vars : Int) (pre : List Term5) (code : List Step6) (post : List Term5) (hv : List Int) (hc : code.length ≤ maxLen) (hh : hv.length ≤ maxLen) (hn : fuelOf [(code, -1, -1, 0, ())] + hv.length + 300 ≤ nf) : law_WeakHolds_f nf vars pre code post hv = some (true, ()) := by
  have hfit : Fits nf [(code, -1, -1, 0, ())] := fits_of (by omega) (by simp [maxLen]) (by intro b hb; simp only [List.mem_singleton] at hb; subst hb; exact hc)
  have hcf : code.length < nf := by have := (fuelOf_ok [(code, -1, -1, 0, ())]).2 (code, -1, -1, 0, ()) (by simp); simp only at this; omega
  simp only [law_WeakHolds_f, law_WeakHolds_p, weak_Holds_f, weak_Holds_p, weak_wrong_f, weak_wrong_p, law_codeCode_f, law_codeCode_p, block_Check_F hfit, ref_ProgCheck_F (show 3 < nf by omega) hfit, term_F (show 18 ≤ nf by omega), terms_F' (show 18 ≤ nf by omega), haveCheck_F vars hv hh (show hv.length < nf by omega), Option.bind_some]
  by_cases h1 : progCode vars [(code, -1, -1, 0, ())] = 0
  · simp only [h1, show ((0 : Int) != 0) = false from rfl, cond_false, beq_self_eq_true, cond_true]
    by_cases h2 : termCode vars pre = 0
    · simp only [h2, show ((0 : Int) != 0) = false from rfl, cond_false, beq_self_eq_true, cond_true]
      by_cases h3 : termCode vars post = 0
      · simp only [h3, show ((0 : Int) != 0) = false from rfl, cond_false, beq_self_eq_true, cond_true]
        by_cases h4 : haveCode vars hv = 0
        · obtain ⟨v1, v2⟩ := value_F (nf := nf) h2 h4 hh (by omega)
          obtain ⟨p1, p2, p3, p4, p5⟩ := progCode_ok h1
          obtain ⟨c1, _⟩ := blockCode_ok (blocksGo_ok p5 _ (List.mem_singleton.2 rfl))
          have hV : Vars vars hv := by
            obtain ⟨a, b⟩ := haveCode_ok h4
            exact ⟨a, b⟩
          obtain ⟨d1, d2, d3⟩ := doing_F (nf := nf) p1 p2 (stepsGo_all c1) hc hcf hV
          have hl2 : ((code.foldl stpDo hv).length : Int) = vars := d3.len
          change Vars vars (code.foldl stpDo hv) at d3
          have hl1 := hV.len
          obtain ⟨w1, w2⟩ := value_F (nf := nf) h3 (haveCode_of d3) (Nat.le_trans (show (code.foldl stpDo hv).length ≤ 6 by omega) (by decide)) (by omega)
          have hclone : slices_Clone_f nf hv = some (hv, ()) := by
            have he : hv.isEmpty = false := by
              cases hv with
              | nil => simp at hl1; omega
              | cons x r => rfl
            have hb : Nat.ble ((List.length ([] : List Unit)) + hv.length) lim = true := ble_ok (by simp; omega)
            simp only [slices_Clone_f, slices_Clone_p, he, cond_false, bimp, Bool.true_and, hb, cond_true, List.nil_append]
          simp only [v1, v2, h4, hclone, d1, d2, w1, w2, Option.bind_some, show ((0 : Int) != 0) = false from rfl, cond_false]
          by_cases h5 : valOf pre hv = 0
          · simp [h5]
          · simp [beq_f h5]
        · simp only [value_bad (nf := nf) h2 h4 hh (by omega), Option.bind_some, bne_t h4, cond_true]
          simp
      · simp [beq_f h3, bne_t h3]
    · simp [beq_f h2, bne_t h2]
  · simp [beq_f h1, bne_t h1]

theorem weakHolds_law (x : denPs (lawPs [.int .i64, .sl (.pair (.int .i64) (.pair (.int .i64) (.pair (.int .i64) (.pair (.int .i64) (.unit))))), .sl (.pair (.int .i64) (.pair (.int .i64) (.pair (.int .i64) (.pair (.int .i64) (.pair (.int .i64) (.unit)))))), .sl (.pair (.int .i64) (.pair (.int .i64) (.pair (.int .i64) (.pair (.int .i64) (.unit))))), .sl (.int .i64)])) (h : wfPs [.int .i64, .sl (.pair (.int .i64) (.pair (.int .i64) (.pair (.int .i64) (.pair (.int .i64) (.unit))))), .sl (.pair (.int .i64) (.pair (.int .i64) (.pair (.int .i64) (.pair (.int .i64) (.pair (.int .i64) (.unit)))))), .sl (.pair (.int .i64) (.pair (.int .i64) (.pair (.int .i64) (.pair (.int .i64) (.unit))))), .sl (.int .i64)] x) : ∃ n, law_WeakHolds_F n x = some (true, ()) := by
  obtain ⟨vars, pre, code, post, hv, _⟩ := x
  obtain ⟨_, _, ⟨h1, _⟩, _, ⟨h2, _⟩, _⟩ := h
  exact ⟨_, weakHolds_main vars pre code post hv h1 h2 (Nat.le_refl _)⟩
end Go.Proofs.Ytpnganfbonlphaa
