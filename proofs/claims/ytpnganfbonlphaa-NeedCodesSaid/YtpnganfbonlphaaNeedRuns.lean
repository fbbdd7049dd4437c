/- need.Run tells what registers have behind code. -/
import Derived.Test.YtpnganfbonlphaaSteps
import Derived.Test.YtpnganfbonlphaaAbLaw
namespace Go.Proofs.Ytpnganfbonlphaa
open Go Go.Ab S

theorem reg_F (nf : Nat) (i c : Int) : need_Check_1_f nf i c = some (decide (0 ≤ i) && decide (i < c), ()) := by
  simp only [need_Check_1_f, need_Check_1_p]
  by_cases h : 0 ≤ i <;> simp [h]

theorem ncheck_l0 {nf : Nat} (vars regs : Int) (l : List Step6) (hl : l.length ≤ 40) : ∀ (fu : Nat) (t : Int), 0 ≤ t → t ≤ l.length → l.length < t + fu → need_Check_l0 nf vars l fu regs t = some (stepsGo vars regs (l.drop t.toNat), ())
  | 0, _, _, _, h => by omega
  | fu + 1, t, h0, h1, h2 => by
    rw [need_Check_l0, need_Check_b0]
    by_cases ht : t < l.length
    · rw [inb_ok h0 ht, wrap_step h0 ht (Nat.le_trans hl (by decide)), ncheck_l0 vars regs l hl fu (t + 1) (by omega) (by omega) (by omega), drop_step l t (0, 0, 0, 0, 0, ()) h0 ht]
      generalize l.getD t.toNat (0, 0, 0, 0, 0, ()) = x
      obtain ⟨op, to, a, b, k, _⟩ := x
      simp only [ht, decide_true, cond_true, stepsGo, stepCode, reg_F, Option.bind_some]
      by_cases o1 : op < 1
      · simp [o1]
      · by_cases o2 : op > 6
        · simp [o1, o2]
        · by_cases o3 : op = 1
          · subst o3
            by_cases k0 : k < 0
            · simp [k0]
            · by_cases k1 : k > 255
              · simp [k0, k1]
              · by_cases t0 : to < 0
                · simp [k0, k1, t0, show ¬ 0 ≤ to by omega]
                · by_cases t1 : to ≥ regs
                  · simp [k0, k1, t0, t1, show 0 ≤ to by omega, show ¬ to < regs by omega]
                  · simp [k0, k1, t0, t1, show 0 ≤ to by omega, show to < regs by omega]
          · by_cases o4 : op = 2
            · subst o4
              by_cases k0 : k < 0
              · simp [k0]
              · by_cases k1 : k ≥ vars
                · simp [k0, k1]
                · by_cases t0 : to < 0
                  · simp [k0, k1, t0, show ¬ 0 ≤ to by omega]
                  · by_cases t1 : to ≥ regs
                    · simp [k0, k1, t0, t1, show 0 ≤ to by omega, show ¬ to < regs by omega]
                    · simp [k0, k1, t0, t1, show 0 ≤ to by omega, show to < regs by omega]
            · have o5 : op > 2 := by omega
              by_cases t0 : to < 0
              · simp [o1, o2, o3, o4, beq_f o3, beq_f o4, t0, show ¬ 0 ≤ to by omega]
              · by_cases t1 : to ≥ regs
                · simp [o1, o2, o3, o4, beq_f o3, beq_f o4, t0, t1, show 0 ≤ to by omega, show ¬ to < regs by omega]
                · by_cases a0 : a < 0
                  · simp [o1, o2, o3, o4, o5, beq_f o3, beq_f o4, t0, t1, show 0 ≤ to by omega, show to < regs by omega, a0, show ¬ 0 ≤ a by omega]
                  · by_cases a1 : a ≥ regs
                    · simp [o1, o2, o3, o4, o5, beq_f o3, beq_f o4, t0, t1, show 0 ≤ to by omega, show to < regs by omega, a0, a1, show 0 ≤ a by omega, show ¬ a < regs by omega]
                    · by_cases b0 : b < 0
                      · simp [o1, o2, o3, o4, o5, beq_f o3, beq_f o4, t0, t1, show 0 ≤ to by omega, show to < regs by omega, a0, a1, b0, show 0 ≤ a by omega, show a < regs by omega, show ¬ 0 ≤ b by omega]
                      · by_cases b1 : b ≥ regs
                        · simp [o1, o2, o3, o4, o5, beq_f o3, beq_f o4, t0, t1, show 0 ≤ to by omega, show to < regs by omega, a0, a1, b0, b1, show 0 ≤ a by omega, show a < regs by omega, show 0 ≤ b by omega, show ¬ b < regs by omega]
                        · simp [o1, o2, o3, o4, o5, beq_f o3, beq_f o4, t0, t1, show 0 ≤ to by omega, show to < regs by omega, a0, a1, b0, b1, show 0 ≤ a by omega, show a < regs by omega, show 0 ≤ b by omega, show b < regs by omega]
    · simp [ht, stepsGo, List.drop_eq_nil_of_le (show l.length ≤ t.toNat by omega)]

theorem rcheck_l0 {nf : Nat} (hn : 3 < nf) (vars regs : Int) (l : List Step6) (hl : l.length ≤ 40) : ∀ (fu : Nat) (t : Int), 0 ≤ t → t ≤ l.length → l.length < t + fu → ref_StepsCheck_l0 nf vars l regs fu t = some (stepsGo vars regs (l.drop t.toNat), ())
  | 0, _, _, _, h => by omega
  | fu + 1, t, h0, h1, h2 => by
    rw [ref_StepsCheck_l0, ref_StepsCheck_b0]
    by_cases ht : t < l.length
    · rw [inb_ok h0 ht, wrap_step h0 ht (Nat.le_trans hl (by decide)), rcheck_l0 hn vars regs l hl fu (t + 1) (by omega) (by omega) (by omega), drop_step l t (0, 0, 0, 0, 0, ()) h0 ht]
      generalize l.getD t.toNat (0, 0, 0, 0, 0, ()) = x
      simp only [ht, decide_true, cond_true, stepsGo, stepCheck_F hn, Option.bind_some]
      by_cases h : stepCode vars regs x = 0
      · simp [h]
      · simp [h, bne_t h]
    · simp [ht, stepsGo, List.drop_eq_nil_of_le (show l.length ≤ t.toNat by omega)]

def codeCode (vars regs : Int) (l : List Step6) : Int := if vars < 0 ∨ vars > 6 ∨ l.length > 40 ∨ regs < 1 ∨ regs > 8 then 1 else stepsGo vars regs l

theorem ncheck_F {nf : Nat} (hn : 42 ≤ nf) (vars regs : Int) (l : List Step6) : need_Check_f nf vars l regs = some (codeCode vars regs l, ()) ∧ ref_StepsCheck_f nf vars l regs = some (codeCode vars regs l, ()) := by
  simp only [need_Check_f, need_Check_p, ref_StepsCheck_f, ref_StepsCheck_p, codeCode]
  by_cases h1 : vars < 0
  · simp [h1]
  · by_cases h2 : vars > 6
    · simp [h1, h2]
    · by_cases h5 : l.length > 40
      · have : (l.length : Int) > 40 := by omega
        simp [h1, h2, h5, this]
      · have : ¬ (l.length : Int) > 40 := by omega
        by_cases r1 : regs < 1
        · simp [h1, h2, h5, this, r1]
        · by_cases r2 : regs > 8
          · simp [h1, h2, h5, this, r1, r2]
          · rw [ncheck_l0 vars regs l (by omega) nf 0 (by omega) (by omega) (by omega), rcheck_l0 (by omega) vars regs l (by omega) nf 0 (by omega) (by omega) (by omega)]
            simp [h1, h2, h5, this, r1, r2]

def runSteps (hv : List Int) : List Step6 → List Int → List Int
  | [], r => r
  | s :: l, r => runSteps hv l (stepOne hv s r)
theorem runSteps_len (hv : List Int) : ∀ (l : List Step6) (r : List Int), (runSteps hv l r).length = r.length
  | [], _ => rfl
  | s :: l, r => by rw [runSteps, runSteps_len hv l]; simp [stepOne]

theorem stepsGo_cons {vars regs : Int} {s : Step6} {l : List Step6} (h : stepsGo vars regs (s :: l) = 0) : stepCode vars regs s = 0 ∧ stepsGo vars regs l = 0 := by
  simp only [stepsGo] at h
  split at h
  · rename_i h1; exact ⟨h1, h⟩
  · rename_i h1; exact absurd h h1

theorem nrun_l0 {nf : Nat} {vars regs : Int} {hv : List Int} (hhv : (hv.length : Int) = vars) (hval : ∀ x ∈ hv, isV x) (l : List Step6) (hl : l.length ≤ 40) : ∀ (fu : Nat) (r : List Int) (t : Int), (∀ x ∈ r, isV x) → (r.length : Int) = regs → 0 ≤ t → t ≤ l.length → l.length < t + fu → stepsGo vars regs (l.drop t.toNat) = 0 →
    need_Run_l0 nf l hv fu r t = some (runSteps hv (l.drop t.toNat) r, 0, ()) ∧ ref_Steps_l0 nf l hv fu r t = some (runSteps hv (l.drop t.toNat) r, ())
  | 0, _, _, _, _, _, _, h, _ => by omega
  | fu + 1, r, t, hs, h1, h0, h2, h3, h4 => by
    rw [need_Run_l0, need_Run_b0, ref_Steps_l0, ref_Steps_b0]
    by_cases ht : t < l.length
    · rw [inb_ok h0 ht, wrap_step (n := l.length) (by omega) ht (Nat.le_trans hl (by decide))]
      rw [drop_step l t (0, 0, 0, 0, 0, ()) (by omega) ht] at h4 ⊢
      have ih := fun (i : Nat) (x : Int) hx h4' => nrun_l0 (nf := nf) (vars := vars) (regs := regs) hhv hval l hl fu (r.set i x) (t + 1) (fun y hy => by
        rcases List.mem_or_eq_of_mem_set hy with hy | hy
        · exact hs y hy
        · rw [hy]; exact hx) (by simpa using h1) (by omega) (by omega) (by omega) h4'
      generalize l.getD t.toNat (0, 0, 0, 0, 0, ()) = x at h4 ⊢
      obtain ⟨op, to, a, b, k, _⟩ := x
      obtain ⟨g0, g6⟩ := stepsGo_cons h4
      obtain ⟨g1, g2, g3, g4, g5, g7⟩ := stepCode_ok g0
      simp only [ht, decide_true, cond_true, runSteps, stepOne, inb_ok g5.1 (show to < (r.length : Int) by omega)]
      by_cases o1 : op = 1
      · subst o1
        obtain ⟨i1, i2⟩ := ih to.toNat k (g3 rfl) g6
        simp [i1, i2]
      · by_cases o2 : op = 2
        · subst o2
          obtain ⟨k0, k1⟩ := g4 rfl
          obtain ⟨i1, i2⟩ := ih to.toNat (hv.getD k.toNat 0) (hval _ (getD_mem k0 (by omega))) g6
          rw [inb_ok k0 (by omega)]
          simp only [List.getD_eq_getElem?_getD] at i1 i2
          simp [i1, i2]
        · obtain ⟨a0, a1, b0, b1⟩ := g7 (by omega)
          have va := hs _ (getD_mem (l := r) (t := a) (d := 0) a0 (by omega))
          have vb := hs _ (getD_mem (l := r) (t := b) (d := 0) b0 (by omega))
          obtain ⟨i1, i2⟩ := ih to.toNat (opV op (r.getD a.toNat 0) (r.getD b.toNat 0)) (opV_isV _ _ _) g6
          simp only [beq_f o1, beq_f o2, cond_false, inb_ok a0 (show a < (r.length : Int) by omega), inb_ok b0 (show b < (r.length : Int) by omega), cond_true, do_F va vb, op_F (show 3 ≤ op by omega) g2 va vb, Option.bind_some, show op ≥ 3 by omega, decide_true, i1, i2, o1, o2, if_false, and_self]
    · have h5 : l.drop t.toNat = [] := List.drop_eq_nil_of_le (by omega)
      simp [ht, h5, runSteps]

theorem needRuns_aux (vars : Int) (l : List Step6) (regs : Int) (hv : List Int) (hl : hv.length ≤ maxLen) : law_NeedRuns_f (hv.length + 100) vars l regs hv = some (true, ()) := by
  simp only [law_NeedRuns_f, law_NeedRuns_p, need_Run_f, need_Run_p, law_runCode_f, law_runCode_p, ref_Steps_f, ref_Steps_p]
  obtain ⟨c1, c2⟩ := ncheck_F (nf := hv.length + 100) (by omega) vars regs l
  rw [c1, c2]
  simp only [Option.bind_some]
  by_cases h1 : codeCode vars regs l = 0
  · have h1' := h1
    unfold codeCode at h1'
    split at h1'
    · omega
    · rename_i h5
      rw [h1, have_F vars hv hl (by omega), haveCheck_F vars hv hl (by omega)]
      simp only [show ((0 : Int) != 0) = false from rfl, show ((0 : Int) == 0) = true from rfl, cond_false, cond_true, Option.bind_some]
      by_cases h2 : haveCode vars hv = 0
      · obtain ⟨h3, h4⟩ := haveCode_ok h2
        obtain ⟨i1, i2⟩ := nrun_l0 (nf := hv.length + 100) (regs := regs) h3 h4 l (by omega) (hv.length + 100) (List.replicate regs.toNat 0) 0 (fun x hx => by
          rw [List.eq_of_mem_replicate hx]; exact ⟨by omega, by omega⟩) (by rw [List.length_replicate]; omega) (by omega) (by omega) (by omega) (by simpa using h1')
        have i3 : (runSteps hv l (List.replicate regs.toNat 0)).length = regs.toNat := by rw [runSteps_len]; exact List.length_replicate
        simp only [Int.toNat_zero, List.drop_zero] at i1 i2
        have c : (decide (0 ≤ regs) && decide (regs ≤ regs) && decide (regs ≤ ((lim : Nat) : Int))) = true := by
          rw [decide_eq_true (show (0 : Int) ≤ regs by omega), decide_eq_true (Int.le_refl _), decide_eq_true (show regs ≤ ((lim : Nat) : Int) by show regs ≤ ((4294967296 : Nat) : Int); omega)]; rfl
        rw [h2, c]
        simp only [show ((0 : Int) != 0) = false from rfl, show ((0 : Int) == 0) = true from rfl, cond_false, cond_true, Option.bind_some, i1, i2]
        have h8 : regs.toNat ≤ 8 := by omega
        rw [ints_F _ _ (by rw [i3]; exact Nat.le_trans h8 (by decide)) (by rw [i3]; omega)]
        simp
      · simp [bne_t h2]
  · simp [bne_t h1, beq_f h1]

theorem needRuns_law (x : denPs (lawPs [.int .i64, .sl (.pair (.int .i64) (.pair (.int .i64) (.pair (.int .i64) (.pair (.int .i64) (.pair (.int .i64) .unit))))), .int .i64, .sl (.int .i64)])) (h : wfPs [.int .i64, .sl (.pair (.int .i64) (.pair (.int .i64) (.pair (.int .i64) (.pair (.int .i64) (.pair (.int .i64) .unit))))), .int .i64, .sl (.int .i64)] x) : ∃ n, law_NeedRuns_F n x = some (true, ()) := by
  obtain ⟨vars, l, regs, hv, _⟩ := x
  obtain ⟨_, _, _, ⟨hl, _⟩, _⟩ := h
  exact ⟨_, needRuns_aux vars l regs hv hl⟩
end Go.Proofs.Ytpnganfbonlphaa
