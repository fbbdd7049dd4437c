/- stack.Run tells the stack behind code. -/
import Derived.Test.YtpnganfbonlphaaStack
import Derived.Test.YtpnganfbonlphaaStackLib
import Derived.Test.YtpnganfbonlphaaAbLaw
namespace Go.Proofs.Ytpnganfbonlphaa
open Go Go.Ab S

def runGo (hv : List Int) : List SOp → List Int → List Int
  | [], s => s
  | (op, v, _) :: r, s => if op = 1 then runGo hv r (s ++ [v]) else if op = 2 then runGo hv r (s ++ [hv.getD v.toNat 0]) else runGo hv r (s.take (s.length - 2) ++ [opV op (s.getD (s.length - 2) 0) (s.getD (s.length - 1) 0)])

theorem runGo_len (hv : List Int) (vars : Int) : ∀ (code : List SOp) (s : List Int), wrongGo vars code s.length = 0 → (runGo hv code s).length ≤ s.length + code.length
  | [], s, _ => by simp [runGo]
  | (op, v, _) :: r, s, h => by
    obtain ⟨h1, h2, h3, h4⟩ := wrongGo_cons h
    simp only [runGo]
    split
    · have := runGo_len hv vars r (s ++ [v]) (by simpa using (h3 (by omega)).2)
      simp at this ⊢; omega
    · split
      · have := runGo_len hv vars r (s ++ [hv.getD v.toNat 0]) (by simpa using (h3 (by omega)).2)
        simp at this ⊢; omega
      · obtain ⟨h5, h6⟩ := h4 (by omega)
        have := runGo_len hv vars r (s.take (s.length - 2) ++ [opV op (s.getD (s.length - 2) 0) (s.getD (s.length - 1) 0)]) (by
          rw [← h6]; congr 1; simp; omega)
        simp at this ⊢; omega

theorem run_l0 {nf : Nat} {vars : Int} (hv0 : 0 ≤ vars) {hv : List Int} (hhv : (hv.length : Int) = vars) (hval : ∀ x ∈ hv, isV x) (code : List SOp) (hl : code.length ≤ 40) : ∀ (fu : Nat) (s : List Int) (t : Int), (∀ x ∈ s, isV x) → (s.length : Int) ≤ t → t ≤ code.length → code.length < t + fu → wrongGo vars (code.drop t.toNat) s.length = 0 →
    stack_Run_l0 nf code hv fu s t = some (runGo hv (code.drop t.toNat) s, 0, ()) ∧ ref_Stack_l0 nf code hv fu s t = some (runGo hv (code.drop t.toNat) s, ())
  | 0, _, _, _, _, _, h, _ => by omega
  | fu + 1, s, t, hs, h1, h2, h3, h4 => by
    rw [stack_Run_l0, stack_Run_b0, ref_Stack_l0, ref_Stack_b0]
    by_cases ht : t < code.length
    · rw [inb_ok (by omega) ht, wrap_in (n := t + 1) (by omega) (by omega)]
      rw [drop_step code t (0, 0, ()) (by omega) ht] at h4 ⊢
      have ih := fun s' hs' h1' h4' => run_l0 (nf := nf) hv0 hhv hval code hl fu s' (t + 1) hs' h1' (by omega) (by omega) h4'
      generalize code.getD t.toNat (0, 0, ()) = x at h4 ⊢
      obtain ⟨op, v, _⟩ := x
      obtain ⟨g1, g2, g3, g4⟩ := wrongGo_cons h4
      have hb : ∀ n : Nat, n ≤ 41 → Nat.ble n lim = true := fun n hn => by rw [Nat.ble_eq]; exact Nat.le_trans hn (by decide)
      simp only [ht, decide_true, cond_true, runGo]
      by_cases o1 : op = 1
      · subst o1
        obtain ⟨g5, g6⟩ := g3 (by omega)
        obtain ⟨i1, i2⟩ := ih (s ++ [v]) (fun x hx => by
          rcases List.mem_append.1 hx with hx | hx
          · exact hs x hx
          · simp only [List.mem_singleton] at hx; subst hx
            exact ⟨(g5 hv0).1, (g5 hv0).2.1 rfl⟩) (by simp; omega) (by simpa using g6)
        simp [bimp, hb (s.length + 1) (by omega), hb s.length (by omega), i1, i2]
      · by_cases o2 : op = 2
        · subst o2
          obtain ⟨g5, g6⟩ := g3 (by omega)
          have g7 := (g5 hv0).2.2 rfl
          have g8 := (g5 hv0).1
          obtain ⟨i1, i2⟩ := ih (s ++ [hv.getD v.toNat 0]) (fun x hx => by
            rcases List.mem_append.1 hx with hx | hx
            · exact hs x hx
            · simp only [List.mem_singleton] at hx; subst hx
              exact hval _ (getD_mem g8 (by omega))) (by simp; omega) (by simpa using g6)
          rw [inb_ok g8 (by omega)]
          simp only [List.getD_eq_getElem?_getD] at i1 i2
          simp [bimp, hb (s.length + 1) (by omega), hb s.length (by omega), i1, i2]
        · obtain ⟨g5, g6⟩ := g4 (by omega)
          have e1 : ((s.length : Int) - 2).toNat = s.length - 2 := by omega
          have e2 : ((s.length : Int) - 2 + 1).toNat = s.length - 1 := by omega
          have e3 : ((s.length : Int) - 1).toNat = s.length - 1 := by omega
          have va := hs (s.getD (s.length - 2) 0) (by have := getD_mem (l := s) (t := (s.length : Int) - 2) (d := 0) (by omega) (by omega); rwa [e1] at this)
          have vb := hs (s.getD (s.length - 1) 0) (by have := getD_mem (l := s) (t := (s.length : Int) - 1) (d := 0) (by omega) (by omega); rwa [e3] at this)
          obtain ⟨i1, i2⟩ := ih (s.take (s.length - 2) ++ [opV op (s.getD (s.length - 2) 0) (s.getD (s.length - 1) 0)]) (fun x hx => by
            rcases List.mem_append.1 hx with hx | hx
            · exact hs x (List.mem_of_mem_take hx)
            · simp only [List.mem_singleton] at hx; subst hx
              exact opV_isV _ _ _) (by simp; omega) (by rw [← g6]; congr 1; simp; omega)
          have c1 : decide (0 ≤ (↑0 : Int)) = true := rfl
          have c2 : decide ((0 : Int) ≤ (s.length : Int) - 2) = true := decide_eq_true (by omega)
          have c3 : decide ((s.length : Int) - 2 ≤ (s.length : Int)) = true := decide_eq_true (by omega)
          have c4 : decide ((0 : Int) ≤ (s.length : Int) - 2 + 1) = true := decide_eq_true (by omega)
          have e4 : ((s.length : Int) - 2 + 1 - 0).toNat = s.length - 2 + 1 := by omega
          have e7 : ((s.length : Int) - 2 + 1).toNat = s.length - 2 + 1 := by omega
          have e5 : ((s.length : Int) - 2 - 0).toNat = s.length - 2 := by omega
          simp only [beq_f o1, beq_f o2, cond_false, wrap_in (n := (s.length : Int) - 2) (by omega) (by omega), wrap_in (n := (s.length : Int) - 2 + 1) (by omega) (by omega), wrap_in (n := (s.length : Int) - 1) (by omega) (by omega),
            inb_ok (t := (s.length : Int) - 2) (n := s.length) (by omega) (by omega), inb_ok (t := (s.length : Int) - 2 + 1) (n := s.length) (by omega) (by omega), inb_ok (t := (s.length : Int) - 1) (n := s.length) (by omega) (by omega), cond_true,
            e1, e2, e3, do_F va vb, op_F (show 3 ≤ op by omega) (show op ≤ 6 by omega) va vb, Option.bind_some, show op ≥ 3 by omega, decide_true, c2, c3, c4]
          generalize opV op (s.getD (s.length - 2) 0) (s.getD (s.length - 1) 0) = r at i1 i2 ⊢
          have e6 : (s.set (s.length - 2) r).take (s.length - 2 + 1) = s.take (s.length - 2) ++ [r] := take_set s r (by omega)
          simp only [List.length_set, List.drop_zero, e1, e7, e6, Int.sub_zero, show decide ((s.length : Int) - 2 + 1 ≤ (s.length : Int)) = true from decide_eq_true (by omega), show decide ((0 : Int) ≤ 0) = true from rfl, Bool.and_true, cond_true]
          constructor
          · rw [i1]; simp [o1, o2]
          · simp [bimp, hb (s.length - 2) (by omega), hb (s.length - 2 + 1) (by omega), i2, o1, o2]
    · have : code.drop t.toNat = [] := List.drop_eq_nil_of_le (by omega)
      simp [ht, this, runGo]

theorem stackRuns_law (x : denPs (lawPs [.int .i64, .sl (.pair (.int .i64) (.pair (.int .i64) .unit)), .sl (.int .i64)])) (h : wfPs [.int .i64, .sl (.pair (.int .i64) (.pair (.int .i64) .unit)), .sl (.int .i64)] x) : ∃ n, law_StackRuns_F n x = some (true, ()) := by
  obtain ⟨vars, code, hv, _⟩ := x
  obtain ⟨_, _, ⟨hl, _⟩, _⟩ := h
  refine ⟨hv.length + 100, ?_⟩
  simp only [law_StackRuns_F, law_StackRuns_f, law_StackRuns_p, stack_Run_f, stack_Run_p, law_stackCode_f, law_stackCode_p, ref_Stack_f, ref_Stack_p]
  by_cases h0 : vars < 0
  · simp [h0]
  · rw [wrong_F (by omega), check_F (by omega)]
    simp only [h0, decide_false, cond_false, Option.bind_some]
    by_cases h1 : wrong vars code = 0
    · have hc := (wrong_len' h1).1
      have hg := wrong_go h1
      rw [h1, have_F vars hv hl (by omega), haveCheck_F vars hv hl (by omega)]
      simp only [show ((0 : Int) != 0) = false from rfl, show ((0 : Int) == 0) = true from rfl, cond_false, cond_true, Option.bind_some]
      by_cases h2 : haveCode vars hv = 0
      · obtain ⟨h3, h4⟩ := haveCode_ok h2
        obtain ⟨i1, i2⟩ := run_l0 (nf := hv.length + 100) (by omega) h3 h4 code hc (hv.length + 100) [] 0 (fun x hx => by cases hx) (by simp) (by omega) (by omega) (by simpa using hg)
        have i3 := runGo_len hv vars code [] (by simpa using hg)
        simp only [List.length_nil] at i3
        simp only [Int.toNat_zero, List.drop_zero] at i1 i2
        rw [h2, i1, i2]
        simp only [show ((0 : Int) != 0) = false from rfl, show ((0 : Int) == 0) = true from rfl, cond_false, cond_true, Option.bind_some]
        rw [ints_F _ _ (Nat.le_trans i3 (Nat.le_trans (show _ ≤ 40 by simpa using hc) (by decide))) (by omega)]
        simp
      · simp [bne_t h2]
    · simp [bne_t h1, beq_f h1]
end Go.Proofs.Ytpnganfbonlphaa
