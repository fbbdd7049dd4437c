/- stack.Code tells a tree's code for a stack. -/
import Derived.Test.YtoglkjmdloppcaaFnS
import Derived.Test.YtoglkjmdloppcaaTrees
import Derived.Test.YtoglkjmdloppcaaAbLaw
namespace Go.Proofs.Ytoglkjmdloppcaa
open Go Go.Ab S

variable {nf : Nat} {l : List Term5}

/-- a term's code -/
def laidOf (l : List Term5) : Nat → Int → List SOp
  | 0, _ => []
  | f + 1, i => if (l.getD i.toNat T0).1 > 2 then laidOf l f (l.getD i.toNat T0).2.1 ++ laidOf l f (l.getD i.toNat T0).2.2.1 ++ [((l.getD i.toNat T0).1, 0, ())] else [((l.getD i.toNat T0).1, (l.getD i.toNat T0).2.2.2.1, ())]

theorem laid_len (hT : TermsOK l) : ∀ (f : Nat) (i : Int), 0 ≤ i → i < l.length → i < f → (laidOf l f i).length + 1 ≤ 2 ^ (i.toNat + 1)
  | 0, i, h0, _, hf => by omega
  | f + 1, i, h0, h1, hf => by
    have h2 : 2 ≤ 2 ^ (i.toNat + 1) := by rw [Nat.pow_succ]; have := Nat.one_le_two_pow (n := i.toNat); omega
    unfold laidOf
    split
    · rename_i h
      obtain ⟨a0, a1, b0, b1⟩ := hT.back i h0 h1 h
      have ha := laid_len hT f _ a0 (by omega) (by omega)
      have hb := laid_len hT f _ b0 (by omega) (by omega)
      have pa : 2 ^ ((l.getD i.toNat T0).2.1.toNat + 1) ≤ 2 ^ i.toNat := Nat.pow_le_pow_right (by decide) (by omega)
      have pb : 2 ^ ((l.getD i.toNat T0).2.2.1.toNat + 1) ≤ 2 ^ i.toNat := Nat.pow_le_pow_right (by decide) (by omega)
      simp only [List.length_append, List.length_cons, List.length_nil]
      rw [Nat.pow_succ]
      omega
    · simpa using h2

theorem ble_big {n : Nat} (h : n ≤ 4294967296) : Nat.ble n lim = true := by
  rw [Nat.ble_eq]; exact h

theorem put_laid (hT : TermsOK l) : ∀ (f : Nat) (i : Int) (L : List SOp), 0 ≤ i → i < l.length → i < f → L.length + 2 ^ (i.toNat + 1) ≤ 1048576 → put_F f [i] (L, ()) (l, ()) = some (L ++ laidOf l f i, ())
  | 0, i, L, h0, _, hf, _ => by omega
  | f + 1, i, L, h0, h1, hf, hL => by
    have h2 : 2 ≤ 2 ^ (i.toNat + 1) := by rw [Nat.pow_succ]; have := Nat.one_le_two_pow (n := i.toNat); omega
    have hput : ∀ (M : List SOp) (x : SOp), M.length + 1 ≤ 1048577 → put_a M x = some (M ++ [x], ()) := fun M x hM => by
      unfold put_a
      rw [ble_big (by simp only [List.length_cons, List.length_nil]; omega)]
      rfl
    show put_f (put_F f) l i L = _
    unfold put_f laidOf
    rw [inb_ok h0 h1]
    simp only [cond_true]
    by_cases h : (l.getD i.toNat T0).1 > 2
    · obtain ⟨a0, a1, b0, b1⟩ := hT.back i h0 h1 h
      have pa : 2 ^ ((l.getD i.toNat T0).2.1.toNat + 1) ≤ 2 ^ i.toNat := Nat.pow_le_pow_right (by decide) (by omega)
      have pb : 2 ^ ((l.getD i.toNat T0).2.2.1.toNat + 1) ≤ 2 ^ i.toNat := Nat.pow_le_pow_right (by decide) (by omega)
      have e2 : 2 ^ (i.toNat + 1) = 2 ^ i.toNat + 2 ^ i.toNat := by rw [Nat.pow_succ]; omega
      have la := laid_len hT f _ a0 (by omega) (by omega)
      have lb := laid_len hT f _ b0 (by omega) (by omega)
      have ha := put_laid hT f (l.getD i.toNat T0).2.1 L a0 (by omega) (by omega) (by omega)
      have hb := put_laid hT f (l.getD i.toNat T0).2.2.1 (L ++ laidOf l f (l.getD i.toNat T0).2.1) b0 (by omega) (by omega) (by rw [List.length_append]; omega)
      rw [if_pos h]
      have h' : (decide ((l.getD i.toNat (0, 0, 0, 0, ())).1 > 2)) = true := decide_eq_true h
      rw [h', cond_true, show put_F f [(l.getD i.toNat (0, 0, 0, 0, ())).2.1] (L, ()) (l, ()) = _ from ha, Option.bind_some, show put_F f [(l.getD i.toNat (0, 0, 0, 0, ())).2.2.1] (L ++ laidOf l f (l.getD i.toNat T0).2.1, ()) (l, ()) = _ from hb, Option.bind_some, hput _ _ (by simp only [List.length_append]; omega)]
      simp [List.append_assoc]
    · rw [if_neg h]
      have h' : (decide ((l.getD i.toNat (0, 0, 0, 0, ())).1 > 2)) = false := decide_eq_false h
      rw [h', cond_false, hput _ _ (by omega)]

theorem ref_laid (hT : TermsOK l) : ∀ (f : Nat) (i : Int), 0 ≤ i → i < l.length → i < f → ref_Laid_F f (l, i, ()) = some (laidOf l f i, ())
  | 0, i, h0, _, hf => by omega
  | f + 1, i, h0, h1, hf => by
    show ref_Laid_f f (ref_Laid_F f) l i = _
    unfold ref_Laid_f ref_Laid_p laidOf
    rw [inb_ok h0 h1]
    simp only [cond_true]
    by_cases h : (l.getD i.toNat T0).1 > 2
    · obtain ⟨a0, a1, b0, b1⟩ := hT.back i h0 h1 h
      have la := laid_len hT f _ a0 (by omega) (by omega)
      have lb := laid_len hT f _ b0 (by omega) (by omega)
      have pa : 2 ^ ((l.getD i.toNat T0).2.1.toNat + 1) ≤ 2 ^ 16 := Nat.pow_le_pow_right (by decide) (by have := hT.few; omega)
      have pb : 2 ^ ((l.getD i.toNat T0).2.2.1.toNat + 1) ≤ 2 ^ 16 := Nat.pow_le_pow_right (by decide) (by have := hT.few; omega)
      have ha : ref_Laid_F f (l, (l.getD i.toNat (0, 0, 0, 0, ())).2.1, ()) = _ := ref_laid hT f (l.getD i.toNat T0).2.1 a0 (by omega) (by omega)
      have hb : ref_Laid_F f (l, (l.getD i.toNat (0, 0, 0, 0, ())).2.2.1, ()) = _ := ref_laid hT f (l.getD i.toNat T0).2.2.1 b0 (by omega) (by omega)
      have h' : (decide ((l.getD i.toNat (0, 0, 0, 0, ())).1 < 3)) = false := decide_eq_false (by show ¬ (l.getD i.toNat T0).1 < 3; omega)
      have c1 : Nat.ble ((laidOf l f (l.getD i.toNat T0).2.1).length + (laidOf l f (l.getD i.toNat T0).2.2.1).length) lim = true := ble_big (by omega)
      have c2 : Nat.ble ((laidOf l f (l.getD i.toNat T0).2.1 ++ laidOf l f (l.getD i.toNat T0).2.2.1).length + [((l.getD i.toNat T0).1, (0 : Int), ())].length) lim = true := ble_big (by simp only [List.length_append, List.length_cons, List.length_nil]; omega)
      rw [if_pos h, h', cond_false, ha, hb]
      simp only [both_self, Option.bind_some, bimp, Bool.true_and, c1, cond_true]
      exact congrArg (fun b => bif b then _ else none) c2
    · rw [if_neg h]
      have h' : (decide ((l.getD i.toNat (0, 0, 0, 0, ())).1 < 3)) = true := decide_eq_true (by show (l.getD i.toNat T0).1 < 3; omega)
      rw [h', cond_true]

theorem sops_self (a : List SOp) (hf : a.length + 2 ≤ nf) (hl : a.length ≤ 1048576) : ref_SOps_f nf a a = some (true, ()) := by
  have key := loop_chk (n := (a.length : Int)) (F := fun fu t => ref_SOps_l0 nf a a fu t) (yes := some (true, ())) (no := some (false, ())) (fun _ => true) (fun fu t h0 h1 => by
    show ref_SOps_l0 nf a a (fu + 1) t = _
    rw [ref_SOps_l0, ref_SOps_b0, inb_ok h0 h1, show IntKind.i64.wrap (t + 1) = t + 1 from Go.IntWalk.i64_in _ ⟨by omega, by omega⟩]
    simp only [h1, decide_true, cond_true, beq_self_eq_true, Bool.and_self, Bool.not_true, cond_false]) (fun fu => by
    show ref_SOps_l0 nf a a (fu + 1) _ = _
    rw [ref_SOps_l0, ref_SOps_b0]
    simp only [Int.lt_irrefl, decide_false, cond_false]) nf 0 (Int.le_refl _) (by omega) (by omega)
  have hc : ∀ (n : Nat) (t : Int), chk (fun _ => true) n t = true := by
    intro n
    induction n with
    | zero => intro t; rfl
    | succ n ih => intro t; simp [chk, ih]
  have key : ref_SOps_l0 nf a a nf 0 = _ := key
  simp only [ref_SOps_f, ref_SOps_p, bne_self_eq_false, cond_false]
  rw [key, hc]; rfl

theorem stackCodes_main (hn : 2097152 ≤ nf) (vars : Int) (l : List Term5) : law_StackCodes_f nf vars l = some (true, ()) := by
  simp only [law_StackCodes_f, law_StackCodes_p, stack_Code_f, need_Need_f, need_Need_p, need_wrong_f, need_wrong_p, law_treeCode_f, law_treeCode_p, term_F (show 18 ≤ nf by omega), terms_F' (show 18 ≤ nf by omega), Option.bind_some]
  by_cases h : termCode vars l = 0
  · have hT := termsOK h
    have hp := hT.pos
    have hf := hT.few
    obtain ⟨out, h1, h2⟩ := needs_F (nf := nf) hT (by omega)
    simp only [h, tree_F hT (show 20 ≤ nf by omega), ref_Tree_F hT (show 20 ≤ nf by omega), show ((0 : Int) != 0) = false from rfl, show ((0 : Int) == 0) = true from rfl, cond_false, cond_true, Option.bind_some]
    cases treeB l with
    | false => rfl
    | true =>
      have hlast : ((l.length : Int) - 1).toNat + 1 ≤ 16 := by omega
      have hlen := laid_len hT nf ((l.length : Int) - 1) (by omega) (by omega) (by omega)
      have hpow : 2 ^ (((l.length : Int) - 1).toNat + 1) ≤ 2 ^ 16 := Nat.pow_le_pow_right (by decide) hlast
      have hput := put_laid hT nf ((l.length : Int) - 1) [] (by omega) (by omega) (by omega) (by simp only [List.length_nil]; omega)
      have href := ref_laid hT nf ((l.length : Int) - 1) (by omega) (by omega) (by omega)
      rw [List.nil_append] at hput
      simp only [Bool.not_true, cond_false, Option.bind_some, show ((0 : Int) != 0) = false from rfl, h2, wrap_last hT, inb_ok (n := out.length) (show 0 ≤ (l.length : Int) - 1 by omega) (by rw [h1.len]; omega), cond_true,
        show ((0 : Int) == 0) = true from rfl, hput, href, sops_self (nf := nf) _ (by omega : (laidOf l nf ((l.length : Int) - 1)).length + 2 ≤ nf) (by omega)]
  · simp [bne_t h, beq_f h]

theorem stackCodes_law (x : denPs (lawPs [.int .i64, .sl (.pair (.int .i64) (.pair (.int .i64) (.pair (.int .i64) (.pair (.int .i64) .unit))))])) (_ : wfPs [.int .i64, .sl (.pair (.int .i64) (.pair (.int .i64) (.pair (.int .i64) (.pair (.int .i64) .unit))))] x) : ∃ n, law_StackCodes_F n x = some (true, ()) := by
  obtain ⟨vars, l, _⟩ := x
  exact ⟨2097152, stackCodes_main (Nat.le_refl _) vars l⟩
end Go.Proofs.Ytoglkjmdloppcaa
