/- stack.Back tells the terms that code is of. -/
import Derived.Test.YtpnganfbonlphaaStackLib
import Derived.Test.YtpnganfbonlphaaAbLaw
namespace Go.Proofs.Ytpnganfbonlphaa
open Go Go.Ab S

abbrev Tm := Int × Int × Int × Int × Unit

def backGo : List SOp → Int → List Tm → List Int → List Tm × List Int
  | [], _, l, s => (l, s)
  | (op, v, _) :: r, t, l, s => if op > 2 then backGo r (t + 1) (l ++ [(op, s.getD (s.length - 2) 0, s.getD (s.length - 1) 0, 0, ())]) (s.take (s.length - 2) ++ [t])
    else backGo r (t + 1) (l ++ [(op, 0, 0, v, ())]) (s ++ [t])

theorem backGo_len : ∀ (code : List SOp) (t : Int) (l : List Tm) (s : List Int), (backGo code t l s).1.length = l.length + code.length
  | [], _, _, _ => rfl
  | (op, v, _) :: r, t, l, s => by
    simp only [backGo]
    split
    · rw [backGo_len r]; simp; omega
    · rw [backGo_len r]; simp; omega

theorem back_l0 {nf : Nat} {vars : Int} (code : List SOp) (hl : code.length ≤ 40) : ∀ (fu : Nat) (l : List Tm) (s : List Int) (t : Int), (s.length : Int) ≤ t → (l.length : Int) ≤ t → t ≤ code.length → code.length < t + fu → wrongGo vars (code.drop t.toNat) s.length = 0 →
    stack_Back_l0 nf code fu l s t = some (if (backGo (code.drop t.toNat) t l s).2.length = 1 then ((backGo (code.drop t.toNat) t l s).1, 0, ()) else ([], 3, ())) ∧
      ref_Backs_l0 nf code fu l s t = some ((backGo (code.drop t.toNat) t l s).1, decide ((backGo (code.drop t.toNat) t l s).2.length = 1), ())
  | 0, _, _, _, _, _, _, h, _ => by omega
  | fu + 1, l, s, t, h1, h0, h2, h3, h4 => by
    rw [stack_Back_l0, stack_Back_b0, ref_Backs_l0, ref_Backs_b0]
    by_cases ht : t < code.length
    · rw [inb_ok (by omega) ht, wrap_in (n := t + 1) (by omega) (by omega)]
      rw [drop_step code t (0, 0, ()) (by omega) ht] at h4 ⊢
      have ih := fun l' s' h1' h0' h4' => back_l0 (nf := nf) (vars := vars) code hl fu l' s' (t + 1) h1' h0' (by omega) (by omega) h4'
      generalize code.getD t.toNat (0, 0, ()) = x at h4 ⊢
      obtain ⟨op, v, _⟩ := x
      obtain ⟨g1, g2, g3, g4⟩ := wrongGo_cons h4
      have hb : ∀ n : Nat, n ≤ 41 → Nat.ble n lim = true := fun n hn => by rw [Nat.ble_eq]; exact Nat.le_trans hn (by decide)
      simp only [ht, decide_true, cond_true, backGo]
      by_cases o1 : op > 2
      · obtain ⟨g5, g6⟩ := g4 (by omega)
        have e1 : ((s.length : Int) - 2).toNat = s.length - 2 := by omega
        have e2 : ((s.length : Int) - 2 + 1).toNat = s.length - 1 := by omega
        have e3 : ((s.length : Int) - 1).toNat = s.length - 1 := by omega
        obtain ⟨i1, i2⟩ := ih (l ++ [(op, s.getD (s.length - 2) 0, s.getD (s.length - 1) 0, 0, ())]) (s.take (s.length - 2) ++ [t]) (by simp; omega) (by simp; omega) (by rw [← g6]; congr 1; simp; omega)
        have c2 : decide ((0 : Int) ≤ (s.length : Int) - 2) = true := decide_eq_true (by omega)
        have c3 : decide ((s.length : Int) - 2 ≤ (s.length : Int)) = true := decide_eq_true (by omega)
        simp only [o1, show op ≥ 3 by omega, decide_true, cond_true, wrap_in (n := (s.length : Int) - 2) (by omega) (by omega), wrap_in (n := (s.length : Int) - 2 + 1) (by omega) (by omega), wrap_in (n := (s.length : Int) - 1) (by omega) (by omega),
          inb_ok (t := (s.length : Int) - 2) (n := s.length) (by omega) (by omega), inb_ok (t := (s.length : Int) - 2 + 1) (n := s.length) (by omega) (by omega), inb_ok (t := (s.length : Int) - 1) (n := s.length) (by omega) (by omega),
          e1, e2, e3, c2, c3, List.drop_zero, Int.sub_zero, show decide ((0 : Int) ≤ 0) = true from rfl, Bool.and_true]
        generalize s.getD (s.length - 2) 0 = p at i1 i2 ⊢
        generalize s.getD (s.length - 1) 0 = q at i1 i2 ⊢
        constructor
        · simp [bimp, hb (l.length + 1) (by omega), hb (s.length - 2 + 1) (by omega), i1]
        · simp [bimp, hb (l.length + 1) (by omega), hb (s.length - 2 + 1) (by omega), hb (s.length - 2) (by omega), i2]
      · obtain ⟨g5, g6⟩ := g3 (by omega)
        obtain ⟨i1, i2⟩ := ih (l ++ [(op, 0, 0, v, ())]) (s ++ [t]) (by simp; omega) (by simp; omega) (by simpa using g6)
        simp only [o1, show ¬ op ≥ 3 by omega, decide_false, cond_false]
        constructor
        · simp [bimp, hb (l.length + 1) (by omega), hb (s.length + 1) (by omega), i1]
        · simp [bimp, hb (l.length + 1) (by omega), hb (s.length + 1) (by omega), hb s.length (by omega), i2]
    · have : code.drop t.toNat = [] := List.drop_eq_nil_of_le (by omega)
      have h9 : decide (t < (code.length : Int)) = false := decide_eq_false ht
      rw [h9, this]
      simp only [cond_false, backGo]
      by_cases h8 : s.length = 1
      · simp [h8]
      · have : ((s.length : Int) != 1) = true := bne_t (by omega)
        have h7 : ((s.length : Int) == 1) = false := beq_f (by omega)
        simp [h8, this, h7]

theorem terms_F {nf : Nat} (a : List Tm) (hl : a.length ≤ maxLen) (hf : a.length < nf) : ref_Terms_f nf a a = some (true, ()) := by
  have h := loop_all (l := a) (d := (0, 0, 0, 0, ())) (F := fun fu t (_ : Unit) => ref_Terms_l0 nf a a fu t) (fin := fun _ => some (true, ()))
    (step := fun _ _ s k => k s) ?_ ?_ nf () hf
  · simp only [ref_Terms_f, ref_Terms_p]
    simp only [bne_self_eq_false, cond_false]
    rw [show ref_Terms_l0 nf a a nf 0 = _ from h]
    exact goL_fold (f := fun _ _ => ()) (fun _ => True) a 0 () trivial fun x _ t s k _ => ⟨rfl, trivial⟩
  · intro fu t s a' b
    rw [ref_Terms_l0, ref_Terms_b0, inb_ok a' b, wrap_step a' b hl]
    simp [b]
  · intro fu t s h
    simp [ref_Terms_l0, ref_Terms_b0, h]

theorem stackBacks_law (x : denPs (lawPs [.int .i64, .sl (.pair (.int .i64) (.pair (.int .i64) .unit))])) (_ : wfPs [.int .i64, .sl (.pair (.int .i64) (.pair (.int .i64) .unit))] x) : ∃ n, law_StackBacks_F n x = some (true, ()) := by
  obtain ⟨vars, code, _⟩ := x
  refine ⟨100, ?_⟩
  simp only [law_StackBacks_F, law_StackBacks_f, law_StackBacks_p, stack_Back_f, stack_Back_p, law_stackCode_f, law_stackCode_p, ref_Backs_f, ref_Backs_p]
  by_cases h0 : vars < 0
  · simp [h0]
  · rw [wrong_F (by omega), check_F (by omega)]
    simp only [h0, decide_false, cond_false, Option.bind_some]
    by_cases h1 : wrong vars code = 0
    · obtain ⟨hc, hg, _⟩ := wrong_len' h1
      rw [h1]
      simp only [show ((0 : Int) != 0) = false from rfl, show ((0 : Int) == 0) = true from rfl, cond_false, cond_true]
      by_cases h2 : code.length = 0
      · have h3 : ((List.length code : Int) == 0) = true := by simp [h2]
        have h4 : (List.length code : Int) < 1 := by omega
        simp [h3, h4]
      · have h3 : ((List.length code : Int) == 0) = false := beq_f (by omega)
        have h4 : ¬ (List.length code : Int) < 1 := by omega
        by_cases h5 : (List.length code : Int) > 16
        · simp [h3, h4, h5]
        · obtain ⟨i1, i2⟩ := back_l0 (nf := 100) (vars := vars) code hc 100 [] [] 0 (by simp) (by simp) (by omega) (by omega) (by simpa using hg)
          have i3 := backGo_len code 0 [] []
          simp only [Int.toNat_zero, List.drop_zero, List.length_nil, Nat.zero_add] at i1 i2 i3
          simp only [h3, h4, h5, decide_false, cond_false, i1, i2, Option.bind_some]
          by_cases h6 : (backGo code 0 [] []).2.length = 1
          · simp only [h6, if_true, decide_true, Bool.not_true, cond_false, show ((0 : Int) == 0) = true from rfl, cond_true]
            rw [terms_F _ (by rw [i3]; exact Nat.le_trans hc (by decide)) (by rw [i3]; omega)]
            rfl
          · simp [h6]
    · simp [bne_t h1, beq_f h1]
end Go.Proofs.Ytpnganfbonlphaa
