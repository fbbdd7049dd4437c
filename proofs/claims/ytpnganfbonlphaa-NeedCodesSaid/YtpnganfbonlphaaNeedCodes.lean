/- need.Code gives register code for a tree (Sethi and Ullman). -/
import Derived.Test.YtpnganfbonlphaaTree
import Derived.Test.YtpnganfbonlphaaNeedRuns
import Derived.Test.YtpnganfbonlphaaTok
namespace Go.Proofs.Ytpnganfbonlphaa
open Go Go.Ab S

/-- how many terms a term stands for -/
def size (l : List Term5) (i : Nat) : Nat :=
  if h : (l.getD i T0).1 > 2 ∧ (l.getD i T0).2.1.toNat < i ∧ (l.getD i T0).2.2.1.toNat < i then 1 + size l (l.getD i T0).2.1.toNat + size l (l.getD i T0).2.2.1.toNat else 1
termination_by i
decreasing_by
  · exact h.2.1
  · exact h.2.2

def kidS (l : List Term5) (t : Term5) : Nat := if t.1 > 2 then size l t.2.1.toNat + size l t.2.2.1.toNat else 0
theorem size_eq {l : List Term5} (h : TermsOK l) {i : Nat} (hi : i < l.length) : size l i = 1 + kidS l (l.getD i T0) := by
  rw [size]
  unfold kidS
  by_cases ho : (l.getD i T0).1 > 2
  · have hb := h.back i (by omega) (by omega) (by simpa using ho)
    rw [Int.toNat_natCast] at hb
    rw [dif_pos ⟨ho, by omega, by omega⟩, if_pos ho]; omega
  · rw [dif_neg (fun hc => ho hc.1), if_neg ho]

def sumTo (f : Nat → Int) : Nat → Int
  | 0 => 0
  | n + 1 => sumTo f n + f n
theorem sumTo_congr {f g : Nat → Int} : ∀ {n}, (∀ k, k < n → f k = g k) → sumTo f n = sumTo g n
  | 0, _ => rfl
  | n + 1, h => by simp only [sumTo]; rw [sumTo_congr fun k hk => h k (by omega), h n (by omega)]
theorem sumTo_add {f g : Nat → Int} : ∀ n, sumTo (fun k => f k + g k) n = sumTo f n + sumTo g n
  | 0 => rfl
  | n + 1 => by simp only [sumTo]; rw [sumTo_add n]; omega
theorem sumTo_one {g : Nat → Int} {a : Nat} : ∀ n, sumTo (fun k => if (a : Int) = (k : Int) then g k else 0) n = if a < n then g a else 0
  | 0 => by simp [sumTo]
  | n + 1 => by
    simp only [sumTo]
    rw [sumTo_one n]
    by_cases h1 : a < n
    · rw [if_pos h1, if_neg (by omega), if_pos (by omega)]; omega
    · by_cases h2 : a = n
      · subst h2; simp
      · rw [if_neg h1, if_neg (by omega), if_neg (by omega)]; rfl
theorem sumTo_zero {f : Nat → Int} : ∀ n, (∀ k, k < n → f k = 0) → sumTo f n = 0
  | 0, _ => rfl
  | n + 1, h => by simp only [sumTo]; rw [sumTo_zero n fun k hk => h k (by omega), h n (by omega)]; rfl

theorem kid_sum {l : List Term5} (h : TermsOK l) {t : Nat} (ht : t < l.length) : sumTo (fun j => use1 j (l.getD t T0) * (size l j : Int)) l.length = (kidS l (l.getD t T0) : Nat) := by
  have hb := h.back t (by omega) (by omega)
  rw [Int.toNat_natCast] at hb
  unfold kidS
  by_cases ho : (l.getD t T0).1 > 2
  · obtain ⟨a0, a1, b0, b1⟩ := hb ho
    have e : ∀ k : Nat, k < l.length → use1 k (l.getD t T0) * (size l k : Int) = (if (((l.getD t T0).2.1.toNat : Nat) : Int) = (k : Int) then (size l k : Int) else 0) + (if (((l.getD t T0).2.2.1.toNat : Nat) : Int) = (k : Int) then (size l k : Int) else 0) := fun k _ => by
      unfold use1
      rw [if_pos ho, Int.add_mul, show (((l.getD t T0).2.1.toNat : Nat) : Int) = (l.getD t T0).2.1 by omega, show (((l.getD t T0).2.2.1.toNat : Nat) : Int) = (l.getD t T0).2.2.1 by omega]
      congr 1
      · split <;> simp
      · split <;> simp
    rw [sumTo_congr e, sumTo_add, sumTo_one, sumTo_one, if_pos (by omega), if_pos (by omega), if_pos ho]
    omega
  · rw [if_neg ho]
    refine sumTo_zero _ fun k _ => ?_
    unfold use1
    rw [if_neg ho]; simp

theorem uses_sum {l : List Term5} (h : TermsOK l) : ∀ k : Nat, k ≤ l.length → sumTo (fun i => (kidS l (l.getD i T0) : Nat)) k = sumTo (fun j => uses (l.take k) j * (size l j : Int)) l.length
  | 0, _ => by
    exact (sumTo_zero _ fun j _ => by simp [uses]).symm
  | k + 1, hk => by
    simp only [sumTo]
    rw [uses_sum h k (by omega), ← kid_sum h (show k < l.length by omega), ← sumTo_add]
    refine sumTo_congr fun j _ => ?_
    have := uses_take (l := l) (i := (j : Int)) (t := (k : Int)) (by omega) (by omega)
    rw [show ((k : Int) + 1).toNat = k + 1 by omega, Int.toNat_natCast] at this
    rw [this, Int.add_mul]

/-- a tree has as many terms as there are -/
theorem size_root {l : List Term5} (h : TermsOK l) (ht : treeB l = true) : size l (l.length - 1) = l.length := by
  have hp := h.pos
  have hu : ∀ j : Nat, j < l.length - 1 → uses l j = 1 := fun j hj => by
    have := (chk_iff.1 ht) j (by omega) (by omega)
    exact (of_decide_eq_true this) (by omega)
  have hl : uses l ((l.length - 1 : Nat) : Int) = 0 := uses_last h (by omega)
  have h1 := uses_sum h l.length (Nat.le_refl _)
  rw [List.take_length] at h1
  have h2 : sumTo (fun i => (size l i : Int)) l.length = l.length + sumTo (fun i => (kidS l (l.getD i T0) : Nat)) l.length := by
    have : ∀ n : Nat, n ≤ l.length → sumTo (fun i => (size l i : Int)) n = n + sumTo (fun i => (kidS l (l.getD i T0) : Nat)) n := by
      intro n
      induction n with
      | zero => intro _; rfl
      | succ n ih =>
        intro hn
        simp only [sumTo]
        rw [ih (by omega), size_eq h (by omega)]
        omega
    exact this _ (Nat.le_refl _)
  have h3 : sumTo (fun j => uses l j * (size l j : Int)) l.length = sumTo (fun i => (size l i : Int)) (l.length - 1) := by
    rw [show l.length = l.length - 1 + 1 by omega]
    simp only [sumTo]
    rw [show l.length - 1 + 1 - 1 = l.length - 1 by omega, hl, sumTo_congr (g := fun i => (size l i : Int)) fun k hk => by rw [hu k hk]; simp]
    omega
  have h4 : sumTo (fun i => (size l i : Int)) l.length = sumTo (fun i => (size l i : Int)) (l.length - 1) + (size l (l.length - 1) : Int) := by
    rw [show l.length = l.length - 1 + 1 by omega]
    simp only [sumTo]
    rw [show l.length - 1 + 1 - 1 = l.length - 1 by omega]
  omega

/-- the code for a term -/
def emit (l : List Term5) (out : List Int) : Nat → Int → Int → List Step6
  | 0, _, _ => []
  | fu + 1, i, to =>
    if (l.getD i.toNat T0).1 ≤ 2 then [((l.getD i.toNat T0).1, to, 0, 0, (l.getD i.toNat T0).2.2.2.1, ())]
    else if out.getD (l.getD i.toNat T0).2.1.toNat 0 ≥ out.getD (l.getD i.toNat T0).2.2.1.toNat 0 then
      emit l out fu (l.getD i.toNat T0).2.1 to ++ emit l out fu (l.getD i.toNat T0).2.2.1 (to + 1) ++ [((l.getD i.toNat T0).1, to, to, to + 1, 0, ())]
    else emit l out fu (l.getD i.toNat T0).2.2.1 to ++ emit l out fu (l.getD i.toNat T0).2.1 (to + 1) ++ [((l.getD i.toNat T0).1, to, to + 1, to, 0, ())]

theorem put_ok {l : List Term5} (h : TermsOK l) {out : List Int} (ho : out.length = l.length) : ∀ (fu : Nat) (i to : Int) (code : List Step6), 0 ≤ i → i < l.length → i < fu → 0 ≤ to → to + i < 1000 → code.length + size l i.toNat ≤ 100000 →
    need_coder_put_F fu ((l, out, code, ()), i, to, ()) = some (some (l, out, code ++ emit l out fu i to, ()), ()) ∧ (emit l out fu i to).length = size l i.toNat
  | 0, i, to, code, _, _, h3, _, _, _ => by omega
  | fu + 1, i, to, code, h1, h2, h3, h4, h5, h6 => by
    have hb := h.back i h1 h2
    have hs := size_eq h (show i.toNat < l.length by omega)
    show need_coder_put_f fu (need_coder_put_F fu) (l, out, code, ()) i to = _ ∧ _
    simp only [need_coder_put_f, need_coder_put_p, inb_ok h1 h2, cond_true, emit]
    unfold kidS at hs
    have fit : ∀ (c : List Step6) {α β : Type} (y : α) (z : β), c.length ≤ 200000 → (!(List.isEmpty [y]) && Nat.ble (c.length + [z].length) lim) = true := fun c _ _ y z hc => by rw [ble_ok (by rw [List.length_singleton]; omega)]; rfl
    by_cases o : (l.getD i.toNat T0).1 ≤ 2
    · rw [if_neg (by omega)] at hs
      simp only [o, decide_true, cond_true, if_true, fit code _ _ (show code.length ≤ 200000 by omega)]
      exact ⟨trivial, by rw [List.length_singleton]; omega⟩
    · obtain ⟨a0, a1, b0, b1⟩ := hb (by omega)
      rw [if_pos (by omega)] at hs
      have hw : IntKind.i64.wrap (to + 1) = to + 1 := Go.IntWalk.i64_in _ (by omega)
      simp only [o, decide_false, cond_false, if_false, inb_ok (n := out.length) a0 (by omega), inb_ok (n := out.length) b0 (by omega), cond_true, hw]
      by_cases hc : out.getD (l.getD i.toNat T0).2.1.toNat 0 ≥ out.getD (l.getD i.toNat T0).2.2.1.toNat 0
      · obtain ⟨e1, e2⟩ := put_ok h ho fu (l.getD i.toNat T0).2.1 to code a0 (by omega) (by omega) h4 (by omega) (by omega)
        obtain ⟨f1, f2⟩ := put_ok h ho fu (l.getD i.toNat T0).2.2.1 (to + 1) (code ++ emit l out fu (l.getD i.toNat T0).2.1 to) b0 (by omega) (by omega) (by omega) (by omega) (by rw [List.length_append]; omega)
        simp only [hc, decide_true, cond_true, if_true]
        rw [e1]
        simp only [Option.bind_some]
        rw [f1]
        simp only [Option.bind_some, fit (code ++ emit l out fu (l.getD i.toNat T0).2.1 to ++ emit l out fu (l.getD i.toNat T0).2.2.1 (to + 1)) _ _ (by simp only [List.length_append]; omega), cond_true]
        refine ⟨by simp only [List.append_assoc], by simp only [List.length_append, List.length_singleton]; omega⟩
      · obtain ⟨e1, e2⟩ := put_ok h ho fu (l.getD i.toNat T0).2.2.1 to code b0 (by omega) (by omega) h4 (by omega) (by omega)
        obtain ⟨f1, f2⟩ := put_ok h ho fu (l.getD i.toNat T0).2.1 (to + 1) (code ++ emit l out fu (l.getD i.toNat T0).2.2.1 to) a0 (by omega) (by omega) (by omega) (by omega) (by rw [List.length_append]; omega)
        simp only [hc, decide_false, cond_false, if_false]
        rw [e1]
        simp only [Option.bind_some]
        rw [f1]
        simp only [Option.bind_some, fit (code ++ emit l out fu (l.getD i.toNat T0).2.2.1 to ++ emit l out fu (l.getD i.toNat T0).2.1 (to + 1)) _ _ (by simp only [List.length_append]; omega), cond_true]
        refine ⟨by simp only [List.append_assoc], by simp only [List.length_append, List.length_singleton]; omega⟩

theorem needs_pos {l : List Term5} (h : TermsOK l) {out : List Int} (ho : NeedsOK l out) : ∀ (n : Nat) (i : Int), 0 ≤ i → i < n → i < l.length → 1 ≤ out.getD i.toNat 0
  | 0, i, _, _, _ => by omega
  | n + 1, i, h0, h1, h2 => by
    rw [ho.eq i h0 h2]
    unfold needOf
    split
    · rename_i hop
      obtain ⟨a0, a1, b0, b1⟩ := h.back i h0 h2 hop
      have ha := needs_pos h ho n _ a0 (by omega) (by omega)
      have hb := needs_pos h ho n _ b0 (by omega) (by omega)
      split
      · omega
      · split <;> omega
    · omega

theorem runSteps_app (hv : List Int) : ∀ (a b : List Step6) (r : List Int), runSteps hv (a ++ b) r = runSteps hv b (runSteps hv a r)
  | [], _, _ => rfl
  | s :: a, b, r => by rw [List.cons_append, runSteps, runSteps, runSteps_app hv a b]

/-- what the code does -/
theorem emit_run {vars regs : Int} {l : List Term5} (h : TermsOK l) (htok : ∀ i, i < l.length → TOK vars i (l.getD i T0)) {out : List Int} (ho : NeedsOK l out) (hv : List Int) :
    ∀ (fu : Nat) (i to : Int), 0 ≤ i → i < l.length → i < fu → 0 ≤ to → to + out.getD i.toNat 0 ≤ regs →
      (∀ s ∈ emit l out fu i to, stepCode vars regs s = 0) ∧ ∀ r : List Int, (r.length : Int) = regs → (runSteps hv (emit l out fu i to) r).getD to.toNat 0 = vat hv l i ∧ ∀ x : Nat, (x : Int) < to → (runSteps hv (emit l out fu i to) r).getD x 0 = r.getD x 0
  | 0, i, to, _, _, h3, _, _ => by omega
  | fu + 1, i, to, h1, h2, h3, h4, h5 => by
    have hb := h.back i h1 h2
    have hk := htok i.toNat (by omega)
    have hv1 : vat hv l i = valOne hv (l.getD i.toNat T0) (valGo hv l []) := vat_one htok h1 h2
    have hpos := needs_pos h ho (l.length) i h1 (by omega) h2
    have hne := ho.eq i h1 h2
    have lo := hk.lo
    have hi := hk.hi
    simp only [emit]
    by_cases o : (l.getD i.toNat T0).1 ≤ 2
    · rw [if_pos o]
      constructor
      · intro s hs
        simp only [List.mem_singleton] at hs
        subst hs
        have k1 := hk.one
        have k2 := hk.two
        unfold isV at k1
        simp only [stepCode]
        rw [if_neg (by omega), if_neg (by omega), if_neg (by omega)]
      · intro r hr
        refine ⟨?_, fun x hx => ?_⟩
        · simp only [runSteps, stepOne]
          rw [getD_upd (by omega), if_pos rfl, hv1]
          unfold valOne
          split
          · rfl
          · rw [if_pos (by omega), if_pos (by omega)]
        · simp only [runSteps, stepOne]
          rw [getD_upd (by omega), if_neg (by omega)]
    · obtain ⟨a0, a1, b0, b1⟩ := hb (by omega)
      rw [if_neg o]
      unfold needOf at hne
      rw [if_pos (by omega)] at hne
      have pa := needs_pos h ho l.length (l.getD i.toNat T0).2.1 a0 (by omega) (by omega)
      have pb := needs_pos h ho l.length (l.getD i.toNat T0).2.2.1 b0 (by omega) (by omega)
      have hval : valOne hv (l.getD i.toNat T0) (valGo hv l []) = opV (l.getD i.toNat T0).1 (vat hv l (l.getD i.toNat T0).2.1) (vat hv l (l.getD i.toNat T0).2.2.1) := by
        unfold valOne vat; rw [if_neg (by omega), if_neg (by omega)]
      by_cases hc : out.getD (l.getD i.toNat T0).2.1.toNat 0 ≥ out.getD (l.getD i.toNat T0).2.2.1.toNat 0
      · rw [if_pos hc]
        have hn : out.getD i.toNat 0 ≥ out.getD (l.getD i.toNat T0).2.1.toNat 0 ∧ out.getD i.toNat 0 ≥ out.getD (l.getD i.toNat T0).2.2.1.toNat 0 + 1 := by
          rw [hne]; split
          · omega
          · rw [if_neg (by omega)]; omega
        obtain ⟨c1, d1⟩ := emit_run (vars := vars) (regs := regs) h htok ho hv fu (l.getD i.toNat T0).2.1 to a0 (by omega) (by omega) h4 (by omega)
        obtain ⟨c2, d2⟩ := emit_run (vars := vars) (regs := regs) h htok ho hv fu (l.getD i.toNat T0).2.2.1 (to + 1) b0 (by omega) (by omega) (by omega) (by omega)
        constructor
        · intro s hs
          rcases List.mem_append.1 hs with hs | hs
          · rcases List.mem_append.1 hs with hs | hs
            · exact c1 s hs
            · exact c2 s hs
          · simp only [List.mem_singleton] at hs
            subst hs
            simp only [stepCode]
            rw [if_neg (by omega), if_neg (by omega), if_neg (by omega)]
        · intro r hr
          rw [runSteps_app, runSteps_app]
          obtain ⟨v1, k1⟩ := d1 r hr
          have l1 := runSteps_len hv (emit l out fu (l.getD i.toNat T0).2.1 to) r
          obtain ⟨v2, k2⟩ := d2 (runSteps hv (emit l out fu (l.getD i.toNat T0).2.1 to) r) (by omega)
          have l2 := runSteps_len hv (emit l out fu (l.getD i.toNat T0).2.2.1 (to + 1)) (runSteps hv (emit l out fu (l.getD i.toNat T0).2.1 to) r)
          refine ⟨?_, fun x hx => ?_⟩
          · simp only [runSteps, stepOne]
            rw [getD_upd (by omega), if_pos rfl, hv1, hval, if_neg (by omega), if_neg (by omega), v2, k2 to.toNat (by omega), v1]
          · simp only [runSteps, stepOne]
            rw [getD_upd (by omega), if_neg (by omega), k2 x (by omega), k1 x hx]
      · rw [if_neg hc]
        have hn : out.getD i.toNat 0 ≥ out.getD (l.getD i.toNat T0).2.2.1.toNat 0 ∧ out.getD i.toNat 0 ≥ out.getD (l.getD i.toNat T0).2.1.toNat 0 + 1 := by
          rw [hne]; split
          · omega
          · rw [if_pos (by omega)]; omega
        obtain ⟨c1, d1⟩ := emit_run (vars := vars) (regs := regs) h htok ho hv fu (l.getD i.toNat T0).2.2.1 to b0 (by omega) (by omega) h4 (by omega)
        obtain ⟨c2, d2⟩ := emit_run (vars := vars) (regs := regs) h htok ho hv fu (l.getD i.toNat T0).2.1 (to + 1) a0 (by omega) (by omega) (by omega) (by omega)
        constructor
        · intro s hs
          rcases List.mem_append.1 hs with hs | hs
          · rcases List.mem_append.1 hs with hs | hs
            · exact c1 s hs
            · exact c2 s hs
          · simp only [List.mem_singleton] at hs
            subst hs
            simp only [stepCode]
            rw [if_neg (by omega), if_neg (by omega), if_neg (by omega)]
        · intro r hr
          rw [runSteps_app, runSteps_app]
          obtain ⟨v1, k1⟩ := d1 r hr
          have l1 := runSteps_len hv (emit l out fu (l.getD i.toNat T0).2.2.1 to) r
          obtain ⟨v2, k2⟩ := d2 (runSteps hv (emit l out fu (l.getD i.toNat T0).2.2.1 to) r) (by omega)
          have l2 := runSteps_len hv (emit l out fu (l.getD i.toNat T0).2.1 (to + 1)) (runSteps hv (emit l out fu (l.getD i.toNat T0).2.2.1 to) r)
          refine ⟨?_, fun x hx => ?_⟩
          · simp only [runSteps, stepOne]
            rw [getD_upd (by omega), if_pos rfl, hv1, hval, if_neg (by omega), if_neg (by omega), v2, k2 to.toNat (by omega), v1]
          · simp only [runSteps, stepOne]
            rw [getD_upd (by omega), if_neg (by omega), k2 x (by omega), k1 x hx]

theorem stepsGo_of {vars regs : Int} : ∀ {l : List Step6}, (∀ s ∈ l, stepCode vars regs s = 0) → stepsGo vars regs l = 0
  | [], _ => rfl
  | s :: l, h => by
    simp only [stepsGo]
    rw [if_pos (h s (by simp))]
    exact stepsGo_of fun s hs => h s (by simp [hs])

theorem needCodes_main (vars : Int) (l : List Term5) (regs : Int) (hv : List Int) (hh : hv.length ≤ maxLen) : law_NeedCodes_f (hv.length + 100) vars l regs hv = some (true, ()) := by
  simp only [law_NeedCodes_f, law_NeedCodes_p, need_Code_f, need_Code_p, need_wrong_f, need_wrong_p, law_treeCode_f, law_treeCode_p, term_F (nf := hv.length + 100) (by omega) vars l, terms_F' (nf := hv.length + 100) (by omega) vars l, Option.bind_some]
  by_cases r1 : regs < 1
  · by_cases h : termCode vars l = 0
    · have hT := termsOK h
      simp only [h, ref_Tree_F (nf := hv.length + 100) hT (by omega)]
      cases treeB l <;> simp [r1]
    · simp [r1, beq_f h]
  · by_cases r8 : regs > 8
    · by_cases h : termCode vars l = 0
      · have hT := termsOK h
        simp only [h, ref_Tree_F (nf := hv.length + 100) hT (by omega)]
        cases treeB l <;> simp [r1, r8]
      · simp [r1, r8, beq_f h]
    · by_cases h : termCode vars l = 0
      · have hT := termsOK h
        have hp := hT.pos
        have hf := hT.few
        obtain ⟨hv0, hv6, _, _, hg⟩ := termCode_ok h
        obtain ⟨out, h1, h2⟩ := needs_F (nf := hv.length + 100) hT (by omega)
        simp only [r1, r8, decide_false, cond_false, h, tree_F (nf := hv.length + 100) hT (by omega), ref_Tree_F (nf := hv.length + 100) hT (by omega), bne_self_eq_false, beq_self_eq_true, cond_true, Option.bind_some]
        cases htr : treeB l with
        | false => simp
        | true =>
          have e1 : ((l.length : Int) - 1).toNat = l.length - 1 := by omega
          simp only [Bool.not_true, cond_false, bne_self_eq_false, beq_self_eq_true, cond_true, Option.bind_some, h2, wrap_last hT, inb_ok (n := out.length) (show 0 ≤ (l.length : Int) - 1 by omega) (by rw [h1.len]; omega),
            ref_Need_ok hT h1 (hv.length + 100) ((l.length : Int) - 1) (by omega) (by omega) (by omega)]
          by_cases hr : out.getD ((l.length : Int) - 1).toNat 0 > regs
          · simp only [hr, decide_true, cond_true, Option.bind_some]; rfl
          · have hsz := size_root hT htr
            obtain ⟨p1, p2⟩ := put_ok hT (out := out) h1.len (hv.length + 100) ((l.length : Int) - 1) 0 [] (by omega) (by omega) (by omega) (by omega) (by omega) (by rw [e1, hsz]; simp; omega)
            rw [e1, hsz] at p2
            simp only [hr, decide_false, cond_false]
            rw [p1]
            simp only [Option.bind_some, List.nil_append, bne_self_eq_false, cond_false]
            have htk := tok_of l 0 (by simpa using hg)
            obtain ⟨q1, q2⟩ := emit_run (vars := vars) (regs := regs) hT (by simpa using htk) h1 hv (hv.length + 100) ((l.length : Int) - 1) 0 (by omega) (by omega) (by omega) (by omega) (by omega)
            generalize emit l out (hv.length + 100) ((l.length : Int) - 1) 0 = code at p2 q1 q2
            have hgo := stepsGo_of q1
            have hcc : codeCode vars regs code = 0 := by unfold codeCode; rw [if_neg (by omega)]; exact hgo
            simp only [p2, bne_self_eq_false, cond_false, (ncheck_F (nf := hv.length + 100) (by omega) vars regs code).2, hcc, Option.bind_some, haveCheck_F (nf := hv.length + 100) vars hv hh (by omega)]
            by_cases hq : haveCode vars hv = 0
            · obtain ⟨g1, g2⟩ := haveCode_ok hq
              have hz : ∀ x ∈ List.replicate regs.toNat (0 : Int), isV x := fun x hx => by rw [(List.mem_replicate.1 hx).2]; exact ⟨by omega, by omega⟩
              obtain ⟨_, n2⟩ := nrun_l0 (nf := hv.length + 100) (vars := vars) (regs := regs) g1 g2 code (by omega) (hv.length + 100) (List.replicate regs.toNat 0) 0 hz (by simp; omega) (by omega) (by omega) (by omega) (by simpa using hgo)
              rw [Int.toNat_zero, List.drop_zero] at n2
              have hlim : regs ≤ (lim : Int) := by have : lim = 4294967296 := rfl; omega
              obtain ⟨w1, _⟩ := q2 (List.replicate regs.toNat 0) (by simp; omega)
              have hln := runSteps_len hv code (List.replicate regs.toNat 0)
              rw [List.length_replicate] at hln
              simp only [hq, bne_self_eq_false, cond_false, ref_Steps_f, ref_Steps_p, show (0 : Int) ≤ regs by omega, Int.le_refl, hlim, decide_true, Bool.and_self, cond_true, n2, Option.bind_some, (value_F (nf := hv.length + 100) h hq hh (by omega)).2]
              rw [inb_ok (t := 0) (n := (runSteps hv code (List.replicate regs.toNat 0)).length) (by omega) (by omega)]
              have hvo : valOf l hv = vat hv l ((l.length : Int) - 1) := by unfold valOf vat; rw [e1]
              rw [Int.toNat_zero] at w1
              simp only [cond_true, hvo, w1, beq_self_eq_true]
            · simp [bne_t hq]
      · simp [r1, r8, beq_f h, bne_t h]

theorem needCodes_law (x : denPs (lawPs [.int .i64, .sl (.pair (.int .i64) (.pair (.int .i64) (.pair (.int .i64) (.pair (.int .i64) .unit)))), .int .i64, .sl (.int .i64)])) (h : wfPs [.int .i64, .sl (.pair (.int .i64) (.pair (.int .i64) (.pair (.int .i64) (.pair (.int .i64) .unit)))), .int .i64, .sl (.int .i64)] x) : ∃ n, law_NeedCodes_F n x = some (true, ()) := by
  obtain ⟨vars, l, regs, hv, _⟩ := x
  obtain ⟨_, _, _, ⟨hh, _⟩, _⟩ := h
  exact ⟨_, needCodes_main vars l regs hv hh⟩
end Go.Proofs.Ytpnganfbonlphaa
