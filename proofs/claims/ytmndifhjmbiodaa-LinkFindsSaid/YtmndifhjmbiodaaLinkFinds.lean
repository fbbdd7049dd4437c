/- link.Find and the document's answer agree. -/
import Derived.Test.YtmndifhjmbiodaaLinkRef
namespace Go.Proofs.Ytmndifhjmbiodaa
open Go Go.Ab S
variable {nf : Nat}

theorem find_F (L : List Ob) (n : Int) (hn : 300 ≤ nf) : link_Find_f nf L n = some (if objCode L = 0 then (match loc L 0 0 n with | some y => (y.2, 0, ()) | none => (0, 5, ())) else (0, objCode L, ())) := by
  unfold link_Find_f link_Find_p
  obtain ⟨h1, h2⟩ := build_F L hn
  by_cases hc : objCode L = 0
  · obtain ⟨t, e1, e2, e3⟩ := h1 hc
    rw [e3, if_pos hc]
    simp only [Option.bind_some, bne_self_eq_false, cond_false]
    rw [(e2 n).2]
    cases loc L 0 0 n with
    | none => rfl
    | some y => rfl
  · rw [h2 hc, if_neg hc]
    simp only [Option.bind_some, bne_t hc, cond_true]

theorem linkFinds_main (L : List Ob) (n : Int) : law_LinkFinds_f 300 L n = some (true, ()) := by
  unfold law_LinkFinds_f law_LinkFinds_p
  rw [find_F L n (Nat.le_refl _), check_F L (Nat.le_refl _)]
  simp only [Option.bind_some]
  by_cases hc : objCode L = 0
  · have hG := good_of hc
    have ha := adr_neg hG n
    rw [address_F hG n (Nat.le_refl _)]
    simp only [hc, if_true, beq_self_eq_true, cond_true, Option.bind_some, bne_self_eq_false, cond_false]
    cases hl : loc L 0 0 n with
    | none => rw [hl] at ha; simp [ha.2 rfl]
    | some y =>
      rw [hl] at ha
      have h1 : adr L n = y.2 := by unfold adr; rw [hl]
      have h2 : ¬ y.2 < 0 := fun h => by rw [← h1] at h; cases ha.1 h
      simp [h1, h2]
  · simp [hc, beq_f hc, bne_t hc]

theorem linkFinds_law (x : denPs (lawPs [.sl (.pair (.sl (.int .u8)) (.pair (.sl (.pair (.int .i64) (.pair (.int .i64) .unit))) (.pair (.sl (.pair (.int .i64) (.pair (.int .i64) .unit))) .unit))), .int .i64])) (_ : wfPs [.sl (.pair (.sl (.int .u8)) (.pair (.sl (.pair (.int .i64) (.pair (.int .i64) .unit))) (.pair (.sl (.pair (.int .i64) (.pair (.int .i64) .unit))) .unit))), .int .i64] x) : ∃ n, law_LinkFinds_F n x = some (true, ()) := by
  obtain ⟨L, n, _⟩ := x
  exact ⟨300, linkFinds_main L n⟩
end Go.Proofs.Ytmndifhjmbiodaa
