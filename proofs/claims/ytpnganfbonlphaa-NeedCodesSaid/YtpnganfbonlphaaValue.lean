/- What terms stand for. -/
import Derived.Test.YtpnganfbonlphaaTerms
namespace Go.Proofs.Ytpnganfbonlphaa
open Go Go.Ab S

def valOne (hv : List Int) (x : Term5) (v : List Int) : Int := if x.1 = 1 then x.2.2.2.1 else if x.1 = 2 then hv.getD x.2.2.2.1.toNat 0 else opV x.1 (v.getD x.2.1.toNat 0) (v.getD x.2.2.1.toNat 0)
def valGo (hv : List Int) : List Term5 → List Int → List Int
  | [], v => v
  | x :: r, v => valGo hv r (v ++ [valOne hv x v])
theorem valGo_len (hv : List Int) : ∀ (l : List Term5) (v : List Int), (valGo hv l v).length = v.length + l.length
  | [], _ => rfl
  | x :: r, v => by rw [valGo, valGo_len hv r]; simp; omega

theorem set_next (v : List Int) (m : Nat) (x : Int) : (v ++ List.replicate (m + 1) 0).set v.length x = (v ++ [x]) ++ List.replicate m 0 := by
  rw [List.set_append_right _ _ (Nat.le_refl _)]
  simp [List.replicate_succ]

theorem value_l0 {nf : Nat} {vars : Int} {hv : List Int} (hhv : (hv.length : Int) = vars) (hval : ∀ x ∈ hv, isV x) (l : List Term5) (hl1 : 1 ≤ l.length) (hl : l.length ≤ 60) : ∀ (fu : Nat) (v : List Int) (t : Int), (∀ x ∈ v, isV x) → (v.length : Int) = t → t ≤ l.length → l.length < t + fu → termGo vars (l.drop t.toNat) t = 0 →
    term_Value_l0 nf l hv fu v t = some ((valGo hv (l.drop t.toNat) v).getD (l.length - 1) 0, 0, ()) ∧ ref_Term_l0 nf l hv fu (v ++ List.replicate (l.length - t.toNat) 0) t = some ((valGo hv (l.drop t.toNat) v).getD (l.length - 1) 0, ())
  | 0, _, _, _, _, _, h, _ => by omega
  | fu + 1, v, t, hs, h1, h2, h3, h4 => by
    rw [term_Value_l0, term_Value_b0, ref_Term_l0, ref_Term_b0]
    by_cases ht : t < l.length
    · rw [inb_ok (by omega) ht, wrap_step (n := l.length) (by omega) ht (Nat.le_trans hl (by decide))]
      rw [drop_step l t (0, 0, 0, 0, ()) (by omega) ht] at h4 ⊢
      have ih := fun x hx h4' => value_l0 (nf := nf) (vars := vars) hhv hval l hl1 hl fu (v ++ [x]) (t + 1) (fun y hy => by
        rcases List.mem_append.1 hy with hy | hy
        · exact hs y hy
        · simp only [List.mem_singleton] at hy; subst hy; exact hx) (by simp; omega) (by omega) (by omega) h4'
      generalize l.getD t.toNat (0, 0, 0, 0, ()) = x at h4 ⊢
      obtain ⟨op, a, b, k, _⟩ := x
      obtain ⟨g1, g2, g3, g4, g5, g6⟩ := termGo_cons h4
      have hb : ∀ n : Nat, n ≤ 61 → Nat.ble n lim = true := fun n hn => by rw [Nat.ble_eq]; exact Nat.le_trans hn (by decide)
      obtain ⟨m, hm⟩ : ∃ m, l.length - t.toNat = m + 1 := ⟨l.length - t.toNat - 1, by omega⟩
      have hm' : l.length - (t + 1).toNat = m := by omega
      have htn : t.toNat = v.length := by omega
      have hlen : (v ++ List.replicate (m + 1) (0 : Int)).length = l.length := by simp; omega
      rw [hm]
      simp only [hm'] at ih
      simp only [ht, decide_true, cond_true, valGo, valOne, hlen, inb_ok (show 0 ≤ t by omega) ht, htn, set_next]
      by_cases o1 : op = 1
      · subst o1
        obtain ⟨i1, i2⟩ := ih k (g3 rfl) g6
        have o2 : ((1 : Int) == 2) = false := rfl
        rw [i2]
        simp [bimp, hb (v.length + 1) (by omega), i1]
      · by_cases o2 : op = 2
        · subst o2
          obtain ⟨k0, k1⟩ := g4 rfl
          obtain ⟨i1, i2⟩ := ih (hv.getD k.toNat 0) (hval _ (getD_mem k0 (by omega))) g6
          rw [inb_ok k0 (by omega), i2]
          simp only [List.getD_eq_getElem?_getD] at i1
          simp [bimp, hb (v.length + 1) (by omega), i1]
        · obtain ⟨a0, b0, a1, b1⟩ := g5 (by omega)
          have va := hs _ (getD_mem (l := v) (t := a) (d := 0) a0 (by omega))
          have vb := hs _ (getD_mem (l := v) (t := b) (d := 0) b0 (by omega))
          obtain ⟨i1, i2⟩ := ih (opV op (v.getD a.toNat 0) (v.getD b.toNat 0)) (opV_isV _ _ _) g6
          have ea : (v ++ List.replicate (m + 1) (0 : Int)).getD a.toNat 0 = v.getD a.toNat 0 := by
            simp only [List.getD_eq_getElem?_getD]
            rw [List.getElem?_append_left (by omega)]
          have eb : (v ++ List.replicate (m + 1) (0 : Int)).getD b.toNat 0 = v.getD b.toNat 0 := by
            simp only [List.getD_eq_getElem?_getD]
            rw [List.getElem?_append_left (by omega)]
          simp only [beq_f o1, beq_f o2, cond_false, ea, eb, inb_ok a0 (show a < (v.length : Int) by omega), inb_ok b0 (show b < (v.length : Int) by omega), inb_ok a0 (show a < (l.length : Int) by omega), inb_ok b0 (show b < (l.length : Int) by omega), cond_true, do_F va vb, op_F (show 3 ≤ op by omega) g2 va vb, Option.bind_some, show op > 2 by omega, decide_true, i2]
          generalize opV op (v.getD a.toNat 0) (v.getD b.toNat 0) = r at i1 ⊢
          simp [bimp, hb (v.length + 1) (by omega), i1, o1, o2]
    · have h5 : l.drop t.toNat = [] := List.drop_eq_nil_of_le (by omega)
      have h6 : l.length - t.toNat = 0 := by omega
      have h7 : (v.length : Int) = l.length := by omega
      have h8 : v.length = l.length := by omega
      have h9 : ((l.length : Int) - 1).toNat = l.length - 1 := by omega
      have h10 : decide (t < (l.length : Int)) = false := decide_eq_false ht
      rw [h10, h5, h6]
      simp only [cond_false, valGo, List.replicate_zero, List.append_nil, h8, Go.IntWalk.i64_in ((l.length : Int) - 1) (by omega), h9, inb_ok (t := (l.length : Int) - 1) (n := l.length) (by omega) (by omega), cond_true, and_self]


/-- what the last term stands for -/
def valOf (l : List Term5) (hv : List Int) : Int := (valGo hv l []).getD (l.length - 1) 0
theorem refTerm_F {nf : Nat} {vars : Int} {l : List Term5} {hv : List Int} (g3 : 1 ≤ l.length) (g4 : l.length ≤ 60) (g5 : termGo vars l 0 = 0) (h3 : (hv.length : Int) = vars) (h4 : ∀ x ∈ hv, isV x) (hf : 100 ≤ nf) : ref_Term_f nf l hv = some (valOf l hv, ()) := by
  obtain ⟨i1, i2⟩ := value_l0 (nf := nf) h3 h4 l g3 g4 nf [] 0 (fun x hx => by cases hx) rfl (by omega) (by omega) (by simpa using g5)
  simp only [Int.toNat_zero, List.drop_zero, List.nil_append, Nat.sub_zero] at i2
  have c : (decide (0 ≤ (List.length l : Int)) && decide ((List.length l : Int) ≤ (List.length l : Int)) && decide ((List.length l : Int) ≤ ((lim : Nat) : Int))) = true := by
    rw [decide_eq_true (show (0 : Int) ≤ (List.length l : Int) by omega), decide_eq_true (Int.le_refl _), decide_eq_true (show (List.length l : Int) ≤ ((lim : Nat) : Int) by simp [lim]; omega)]; rfl
  simp only [ref_Term_f, ref_Term_p]
  rw [c]
  simp only [cond_true, Int.toNat_natCast, i2]
  rfl
theorem value_F {nf : Nat} {vars : Int} {l : List Term5} {hv : List Int} (h1 : termCode vars l = 0) (h2 : haveCode vars hv = 0) (hl : hv.length ≤ maxLen) (hf : hv.length + 100 ≤ nf) :
    term_Value_f nf vars l hv = some (valOf l hv, 0, ()) ∧ ref_Term_f nf l hv = some (valOf l hv, ()) := by
  obtain ⟨g1, g2, g3, g4, g5⟩ := termCode_ok h1
  obtain ⟨h3, h4⟩ := haveCode_ok h2
  obtain ⟨i1, i2⟩ := value_l0 (nf := nf) h3 h4 l g3 (by omega) nf [] 0 (fun x hx => by cases hx) rfl (by omega) (by omega) (by simpa using g5)
  simp only [Int.toNat_zero, List.drop_zero, List.nil_append, Nat.sub_zero] at i1 i2
  have c : (decide (0 ≤ (List.length l : Int)) && decide ((List.length l : Int) ≤ (List.length l : Int)) && decide ((List.length l : Int) ≤ ((lim : Nat) : Int))) = true := by
    rw [decide_eq_true (show (0 : Int) ≤ (List.length l : Int) by omega), decide_eq_true (Int.le_refl _), decide_eq_true (show (List.length l : Int) ≤ ((lim : Nat) : Int) by simp [lim]; omega)]; rfl
  constructor
  · simp only [term_Value_f, term_Value_p]
    rw [term_F (by omega)]
    simp only [Option.bind_some]
    rw [h1, have_F vars hv hl (by omega)]
    simp only [show ((0 : Int) != 0) = false from rfl, cond_false, Option.bind_some]
    rw [h2, i1]
    rfl
  · simp only [ref_Term_f, ref_Term_p]
    rw [c]
    simp only [cond_true, Int.toNat_natCast, i2]
    rfl
theorem value_bad {nf : Nat} {vars : Int} {l : List Term5} {hv : List Int} (h1 : termCode vars l = 0) (h2 : haveCode vars hv ≠ 0) (hl : hv.length ≤ maxLen) (hf : hv.length + 100 ≤ nf) :
    term_Value_f nf vars l hv = some (0, haveCode vars hv, ()) := by
  simp only [term_Value_f, term_Value_p]
  rw [term_F (by omega)]
  simp only [Option.bind_some]
  rw [h1, have_F vars hv hl (by omega)]
  simp only [show ((0 : Int) != 0) = false from rfl, cond_false, Option.bind_some, bne_t h2, cond_true]
end Go.Proofs.Ytpnganfbonlphaa
