/- Terms that make a tree, and what they need. -/
import Derived.Test.YtoglkjmdloppcaaTerms0
namespace Go.Proofs.Ytoglkjmdloppcaa
open Go Go.Ab S

variable {nf : Nat} {l : List Term5}

/-- terms look back only -/
structure TermsOK (l : List Term5) : Prop where
  pos : 1 ≤ l.length
  few : l.length ≤ 16
  back : ∀ i : Int, 0 ≤ i → i < l.length → (l.getD i.toNat T0).1 > 2 → 0 ≤ (l.getD i.toNat T0).2.1 ∧ (l.getD i.toNat T0).2.1 < i ∧ 0 ≤ (l.getD i.toNat T0).2.2.1 ∧ (l.getD i.toNat T0).2.2.1 < i
  op : ∀ i : Int, 0 ≤ i → i < l.length → 1 ≤ (l.getD i.toNat T0).1 ∧ (l.getD i.toNat T0).1 ≤ 6

theorem termGo_at {vars : Int} : ∀ {l : List Term5} {s : Int}, termGo vars l s = 0 → ∀ k : Nat, k < l.length →
    ((l.getD k T0).1 > 2 → 0 ≤ (l.getD k T0).2.1 ∧ (l.getD k T0).2.1 < s + k ∧ 0 ≤ (l.getD k T0).2.2.1 ∧ (l.getD k T0).2.2.1 < s + k) ∧ 1 ≤ (l.getD k T0).1 ∧ (l.getD k T0).1 ≤ 6
  | [], _, _, k, hk => by simp at hk
  | (op, a, b, v, u) :: r, s, h, k, hk => by
    obtain ⟨h1, h2, _, _, h3, h4⟩ := termGo_cons h
    cases k with
    | zero =>
      simp only [List.getD_cons_zero]
      exact ⟨fun ho => by obtain ⟨g1, g2, g3, g4⟩ := h3 ho; exact ⟨g1, by simpa using g3, g2, by simpa using g4⟩, h1, h2⟩
    | succ k =>
      simp only [List.getD_cons_succ]
      obtain ⟨g1, g2⟩ := termGo_at h4 k (by simpa using hk)
      exact ⟨fun ho => by obtain ⟨e1, e2, e3, e4⟩ := g1 ho; exact ⟨e1, by omega, e3, by omega⟩, g2⟩
theorem termsOK {vars : Int} (h : termCode vars l = 0) : TermsOK l := by
  obtain ⟨_, _, h1, h2, h3⟩ := termCode_ok h
  refine ⟨h1, h2, fun i a b ho => ?_, fun i a b => (termGo_at h3 i.toNat (by omega)).2⟩
  have := (termGo_at h3 i.toNat (by omega)).1 ho
  exact ⟨this.1, by omega, this.2.2.1, by omega⟩

/-- how often term i is used -/
def use1 (i : Int) (t : Term5) : Int := if t.1 > 2 then (if t.2.1 = i then 1 else 0) + (if t.2.2.1 = i then 1 else 0) else 0
def uses (l : List Term5) (i : Int) : Int := (l.map (use1 i)).sum
theorem uses_take {i t : Int} (h0 : 0 ≤ t) (h1 : t < l.length) : uses (l.take (t + 1).toNat) i = uses (l.take t.toNat) i + use1 i (l.getD t.toNat T0) := by
  rw [show (t + 1).toNat = t.toNat + 1 by omega, List.take_succ_eq_append_getElem (by omega)]
  simp only [uses, List.map_append, List.sum_append, List.map_cons, List.map_nil, List.sum_cons, List.sum_nil]
  rw [getD_nat l t T0 h0 h1]
  omega
theorem use1_le (i : Int) (t : Term5) : 0 ≤ use1 i t ∧ use1 i t ≤ 2 := by
  unfold use1
  split <;> (try split) <;> (try split) <;> omega
theorem uses_le (i : Int) : ∀ l : List Term5, 0 ≤ uses l i ∧ uses l i ≤ 2 * l.length
  | [] => by simp [uses]
  | t :: l => by
    have h1 := uses_le i l
    have h2 := use1_le i t
    simp only [uses, List.map_cons, List.sum_cons, List.length_cons] at h1 ⊢
    omega
theorem uses_last (h : TermsOK l) {i : Int} (hi : i = l.length - 1) : uses l i = 0 := by
  have key : ∀ k : Nat, k ≤ l.length → uses (l.take k) i = 0 := by
    intro k
    induction k with
    | zero => intro _; simp [uses]
    | succ k ih =>
      intro hk
      have := uses_take (l := l) (i := i) (t := k) (by omega) (by omega)
      rw [show ((k : Int) + 1).toNat = k + 1 by omega, show ((k : Int)).toNat = k by omega, ih (by omega)] at this
      rw [this]
      unfold use1
      split
      · rename_i ho
        have hb := h.back k (by omega) (by omega) (by simpa using ho)
        rw [show ((k : Int)).toNat = k by omega] at hb
        rw [if_neg (by omega), if_neg (by omega)]; rfl
      · rfl
  have := key l.length (Nat.le_refl _)
  rwa [List.take_length] at this

theorem wrap_up {x : Int} (h0 : 0 ≤ x) (h1 : x < 1000) : IntKind.i64.wrap (x + 1) = x + 1 := wrap_step (n := 1000) h0 h1 (by decide)
theorem wrap_last (h : TermsOK l) : IntKind.i64.wrap ((l.length : Int) - 1) = (l.length : Int) - 1 := by
  have h1 := h.pos
  have h2 := h.few
  rw [show (l.length : Int) - 1 = ((l.length : Int) - 2) + 1 by omega]
  by_cases h3 : l.length = 1
  · rw [h3]; decide
  · exact wrap_up (by omega) (by omega)

/-- is each one but the last used once? -/
def treeB (l : List Term5) : Bool := chk (fun i => decide (i < (l.length : Int) - 1 → uses l i = 1)) l.length 0

theorem tree_l0 (h : TermsOK l) (hn : 20 ≤ nf) : ∃ q : List Int, q.length = l.length ∧ (∀ i : Int, 0 ≤ i → i < l.length → q.getD i.toNat 0 = uses l i) ∧ need_tree_l0 nf l nf (List.replicate l.length 0) 0 = need_tree_l2 nf l q nf q 0 := by
  have h8 := h.few
  have hm : l.length ≤ maxLen := Nat.le_trans h8 (by decide)
  have key := loop_inv (n := l.length) (F := fun fu t (q : List Int) => need_tree_l0 nf l fu q t)
    (fun t q => q.length = l.length ∧ ∀ i : Int, 0 ≤ i → i < l.length → q.getD i.toNat 0 = uses (l.take t.toNat) i) ?_ nf 0 (List.replicate l.length 0) (Int.le_refl _) (by omega) (by omega)
    ⟨by simp, fun i a b => by rw [List.getD_eq_getElem?_getD, List.getElem?_replicate]; split <;> rfl⟩
  · obtain ⟨fu', q, ⟨h1, h2⟩, h5⟩ := key
    rw [Int.toNat_natCast, List.take_length] at h2
    refine ⟨q, h1, h2, ?_⟩
    rw [h5, need_tree_l0, need_tree_b0]
    simp only [Int.lt_irrefl, decide_false, cond_false]
  · rintro fu t q ht0 ht1 ⟨h1, h2⟩
    have hb := h.back t ht0 ht1
    have hu := fun i => uses_take (l := l) (i := i) ht0 ht1
    have hle : ∀ i, 0 ≤ uses (l.take t.toNat) i ∧ uses (l.take t.toNat) i < 900 := fun i => by
      have := uses_le i (l.take t.toNat)
      have := List.length_take_le t.toNat l
      omega
    have e : ∀ fu, need_tree_l0 nf l (fu + 1) q t = need_tree_b0 nf (fun _ p1 v0 v1 => need_tree_l2 nf l p1 nf v0 v1) l (need_tree_l0 nf l fu) q t := fun _ => rfl
    unfold need_tree_b0 at e
    rw [wrap_step ht0 ht1 hm] at e
    simp only [ht1, inb_ok ht0 ht1, decide_true, cond_true] at e
    generalize l.getD t.toNat (0, 0, 0, 0, ()) = x at hb hu e
    obtain ⟨op, a, b, k, u⟩ := x
    simp only [use1] at hu
    simp only at hb e
    by_cases ho : op > 2
    · obtain ⟨a0, a1, b0, b1⟩ := hb ho
      have ea := h2 a a0 (by omega)
      have eb := h2 b b0 (by omega)
      have w1 : IntKind.i64.wrap (q.getD a.toNat 0 + 1) = uses (l.take t.toNat) a + 1 := by rw [ea]; exact wrap_up (hle a).1 (by have := (hle a).2; omega)
      have hg : ∀ y : Nat, (q.set a.toNat (uses (l.take t.toNat) a + 1)).getD y 0 = if y = a.toNat then uses (l.take t.toNat) a + 1 else q.getD y 0 := fun y => getD_upd (by omega) y
      have hb' : 0 ≤ (q.set a.toNat (uses (l.take t.toNat) a + 1)).getD b.toNat 0 ∧ (q.set a.toNat (uses (l.take t.toNat) a + 1)).getD b.toNat 0 < 1000 := by
        rw [hg]; split
        · have := hle a; omega
        · rw [eb]; have := hle b; omega
      refine ⟨(q.set a.toNat (uses (l.take t.toNat) a + 1)).set b.toNat ((q.set a.toNat (uses (l.take t.toNat) a + 1)).getD b.toNat 0 + 1), ?_, by simp [h1], fun i i0 i1 => ?_⟩
      · rw [e, w1, wrap_up hb'.1 hb'.2, inb_ok (t := a) (n := q.length) a0 (by omega), inb_ok (t := b) b0 (by simp; omega)]
        simp only [ho, decide_true, cond_true]
      · have g1 : (q.set a.toNat (uses (l.take t.toNat) a + 1)).getD i.toNat 0 = uses (l.take t.toNat) i + (if a = i then 1 else 0) := by
          rw [hg]
          by_cases hia : a = i
          · subst hia; rw [if_pos rfl, if_pos rfl]
          · rw [if_neg (show ¬ i.toNat = a.toNat by omega), if_neg hia, h2 i i0 i1]; omega
        rw [getD_upd (by simp; omega), hu i, if_pos ho]
        by_cases hib : b = i
        · subst hib; rw [if_pos rfl, if_pos rfl, g1]; omega
        · rw [if_neg (show ¬ i.toNat = b.toNat by omega), if_neg hib, g1]; omega
    · refine ⟨q, ?_, h1, fun i i0 i1 => ?_⟩
      · rw [e]
        simp only [ho, decide_false, cond_false]
      · rw [hu i, if_neg ho, h2 i i0 i1]; omega

theorem tree_F (h : TermsOK l) (hn : 20 ≤ nf) : need_tree_f nf l = some (treeB l, ()) := by
  have h8 := h.few
  have hm : l.length ≤ maxLen := Nat.le_trans h8 (by decide)
  have c : (decide (0 ≤ (List.length l : Int)) && decide ((List.length l : Int) ≤ (List.length l : Int)) && decide ((List.length l : Int) ≤ ((lim : Nat) : Int))) = true := by
    rw [decide_eq_true (show (0 : Int) ≤ (List.length l : Int) by omega), decide_eq_true (Int.le_refl _), decide_eq_true (show (List.length l : Int) ≤ ((lim : Nat) : Int) by show (List.length l : Int) ≤ ((4294967296 : Nat) : Int); omega)]; rfl
  obtain ⟨q, h1, h2, h3⟩ := tree_l0 h hn
  simp only [need_tree_f, need_tree_p]
  rw [c, cond_true, Int.toNat_natCast, h3]
  have key := loop_chk (n := l.length) (F := fun fu t => need_tree_l2 nf l q fu q t) (yes := some (true, ())) (no := some (false, ()))
    (fun i => decide (i < (l.length : Int) - 1 → uses l i = 1)) (fun fu t ht0 ht1 => by
      rw [need_tree_l2, need_tree_b2, inb_ok (t := t) (n := q.length) ht0 (by omega), wrap_last h, h2 t ht0 ht1, h1, wrap_step ht0 ht1 hm]
      simp only [ht1, decide_true, cond_true]
      by_cases hl : t < (l.length : Int) - 1
      · by_cases hu : uses l t = 1
        · simp [hl, hu]
        · rw [bne_t hu]; simp [hl, hu]
      · have := uses_last h (show t = (l.length : Int) - 1 by omega)
        simp [hl, this]) (fun fu => by rw [need_tree_l2, need_tree_b2, h1]; simp) nf 0 (Int.le_refl _) (by omega) (by omega)
  rw [show ((l.length : Int) - 0).toNat = l.length by omega] at key
  refine key.trans ?_
  unfold treeB
  cases chk (fun i => decide (i < (l.length : Int) - 1 → uses l i = 1)) l.length 0 <;> rfl

theorem ref_Tree_F (h : TermsOK l) (hn : 20 ≤ nf) : ref_Tree_f nf l = some (treeB l, ()) := by
  have h8 := h.few
  have hm : l.length ≤ maxLen := Nat.le_trans h8 (by decide)
  simp only [ref_Tree_f, ref_Tree_p]
  have key := loop_chk (n := l.length) (F := fun fu t => ref_Tree_l0 nf l fu t) (yes := some (true, ())) (no := some (false, ()))
    (fun i => decide (i < (l.length : Int) - 1 → uses l i = 1)) (fun fu i hi0 hi1 => by
      rw [ref_Tree_l0, ref_Tree_b0]
      simp only [hi1, decide_true, cond_true]
      have key := loop_inv (n := l.length) (F := fun fu2 t (q : Int) => ref_Tree_l2 nf l i (fun i => ref_Tree_l0 nf l fu i) fu2 q t)
        (fun t q => q = uses (l.take t.toNat) i) ?_ nf 0 0 (Int.le_refl _) (by omega) (by omega) (by simp [uses])
      · obtain ⟨fu', q, h1, h5⟩ := key
        rw [Int.toNat_natCast, List.take_length] at h1
        subst h1
        rw [h5, ref_Tree_l2, ref_Tree_b2, wrap_last h, wrap_step hi0 hi1 hm]
        simp only [Int.lt_irrefl, decide_false, cond_false]
        by_cases hl : i < (l.length : Int) - 1
        · have hne : (i == (l.length : Int) - 1) = false := beq_f (by omega)
          by_cases hu : uses l i = 1
          · rw [hne]; simp [hl, hu]
          · rw [bne_t hu]; simp [hl, hu]
        · have he : i = (l.length : Int) - 1 := by omega
          have := uses_last h he
          rw [this]
          simp [he]
      · rintro fu2 t q ht0 ht1 rfl
        refine ⟨_, ?_, rfl⟩
        have hu := uses_take (l := l) (i := i) ht0 ht1
        have hle : 0 ≤ uses (l.take t.toNat) i ∧ uses (l.take t.toNat) i < 900 := by
          have := uses_le i (l.take t.toNat)
          have := List.length_take_le t.toNat l
          omega
        rw [hu, ref_Tree_l2, ref_Tree_b2, inb_ok ht0 ht1, wrap_step ht0 ht1 hm]
        simp only [ht1, decide_true, cond_true]
        rw [wrap_up hle.1 (by omega), wrap_up (x := uses (l.take t.toNat) i + 1) (by omega) (by omega)]
        generalize l.getD t.toNat (0, 0, 0, 0, ()) = x
        obtain ⟨op, a, b, k, u⟩ := x
        simp only [use1]
        by_cases ho : op > 2
        · have ho' : op ≥ 3 := by omega
          by_cases ha : a = i <;> by_cases hb : b = i <;> simp [ho, ho', ha, hb, beq_f] <;> (try (congr 1; omega))
        · have ho' : ¬ op ≥ 3 := by omega
          simp [ho, ho']) (fun fu => by rw [ref_Tree_l0, ref_Tree_b0]; simp) nf 0 (Int.le_refl _) (by omega) (by omega)
  rw [show ((l.length : Int) - 0).toNat = l.length by omega] at key
  refine key.trans ?_
  unfold treeB
  cases chk (fun i => decide (i < (l.length : Int) - 1 → uses l i = 1)) l.length 0 <;> rfl

/-- what a term needs, by what is needed by those before -/
def needOf (out : List Int) (t : Term5) : Int := if t.1 > 2 then (if out.getD t.2.1.toNat 0 = out.getD t.2.2.1.toNat 0 then out.getD t.2.1.toNat 0 + 1 else if out.getD t.2.2.1.toNat 0 > out.getD t.2.1.toNat 0 then out.getD t.2.2.1.toNat 0 else out.getD t.2.1.toNat 0) else 1

/-- the list of what is needed -/
structure NeedsOK (l : List Term5) (out : List Int) : Prop where
  len : out.length = l.length
  eq : ∀ i : Int, 0 ≤ i → i < l.length → out.getD i.toNat 0 = needOf out (l.getD i.toNat T0)
  le : ∀ i : Int, 0 ≤ i → i < l.length → 0 ≤ out.getD i.toNat 0 ∧ out.getD i.toNat 0 ≤ i + 1

theorem needs_F (h : TermsOK l) (hn : 20 ≤ nf) : ∃ out, NeedsOK l out ∧ need_needs_f nf l = some (out, ()) := by
  have h8 := h.few
  have hm : l.length ≤ maxLen := Nat.le_trans h8 (by decide)
  simp only [need_needs_f, need_needs_p]
  have key := loop_inv (n := l.length) (F := fun fu t (q : List Int) => need_needs_l0 nf l fu q t)
    (fun t q => (q.length : Int) = t ∧ ∀ i : Int, 0 ≤ i → i < t → q.getD i.toNat 0 = needOf q (l.getD i.toNat T0) ∧ 0 ≤ q.getD i.toNat 0 ∧ q.getD i.toNat 0 ≤ i + 1) ?_ nf 0 [] (Int.le_refl _) (by omega) (by omega)
    ⟨by simp, fun i a b => by omega⟩
  · obtain ⟨fu', q, ⟨h1, h2⟩, h5⟩ := key
    refine ⟨q, ⟨by omega, fun i a b => (h2 i a b).1, fun i a b => (h2 i a b).2⟩, ?_⟩
    rw [h5, need_needs_l0, need_needs_b0]
    simp only [Int.lt_irrefl, decide_false, cond_false]
  · rintro fu t q ht0 ht1 ⟨h1, h2⟩
    have hb := h.back t ht0 ht1
    have hpre : ∀ (x : Int) (i : Int), 0 ≤ i → i < t → (q ++ [x]).getD i.toNat 0 = q.getD i.toNat 0 := fun x i a b => by
      simp only [List.getD_eq_getElem?_getD]
      rw [List.getElem?_append_left (by omega)]
    have hat : ∀ x : Int, (q ++ [x]).getD t.toNat 0 = x := fun x => by
      rw [List.getD_eq_getElem?_getD, List.getElem?_append_right (by omega), show t.toNat - q.length = 0 by omega]; rfl
    have hof : ∀ (x : Int) (i : Int), 0 ≤ i → i ≤ t → i < l.length → needOf (q ++ [x]) (l.getD i.toNat T0) = needOf q (l.getD i.toNat T0) := fun x i a b c => by
      unfold needOf
      split
      · rename_i ho
        obtain ⟨a0, a1, b0, b1⟩ := h.back i a c ho
        rw [hpre x _ a0 (by omega), hpre x _ b0 (by omega)]
      · rfl
    have hnb : 0 ≤ needOf q (l.getD t.toNat T0) ∧ needOf q (l.getD t.toNat T0) ≤ t + 1 := by
      unfold needOf
      split
      · rename_i ho
        obtain ⟨a0, a1, b0, b1⟩ := hb ho
        have ga := h2 _ a0 a1
        have gb := h2 _ b0 b1
        split
        · omega
        · split <;> omega
      · omega
    refine ⟨q ++ [needOf q (l.getD t.toNat T0)], ?_, by simp; omega, fun i a b => ?_⟩
    · rw [need_needs_l0, need_needs_b0, inb_ok ht0 ht1, wrap_step ht0 ht1 hm]
      simp only [ht1, decide_true, cond_true]
      have hbl := ble_ok (n := q.length + 1) (by omega)
      revert hb hnb
      generalize l.getD t.toNat (0, 0, 0, 0, ()) = x
      obtain ⟨op, a, b, k, u⟩ := x
      intro hb hnb
      simp only [needOf] at hb hnb ⊢
      by_cases ho : op > 2
      · obtain ⟨a0, a1, b0, b1⟩ := hb ho
        have ga := h2 _ a0 a1
        have gb := h2 _ b0 b1
        rw [inb_ok (t := a) (n := q.length) a0 (by omega), inb_ok (t := b) (n := q.length) b0 (by omega)]
        by_cases he : q.getD a.toNat 0 = q.getD b.toNat 0
        · have hw := wrap_up (x := q.getD b.toNat 0) gb.2.1 (by omega)
          have e2 : (if q.getD b.toNat 0 > q.getD a.toNat 0 then q.getD b.toNat 0 else q.getD a.toNat 0) = q.getD b.toNat 0 := by split <;> omega
          rw [e2, he, beq_self_eq_true, hw]
          simp only [ho, decide_true, cond_true, if_true, List.isEmpty_cons, bimp, Bool.not_false, Bool.true_and, List.length_cons, List.length_nil]
          rw [hbl]; rfl
        · rw [beq_f he]
          simp only [ho, decide_true, cond_true, cond_false, if_true, if_neg he, List.isEmpty_cons, bimp, Bool.not_false, Bool.true_and, List.length_cons, List.length_nil]
          rw [hbl]; rfl
      · simp only [ho, decide_false, cond_false, if_false, List.isEmpty_cons, bimp, Bool.not_false, Bool.true_and, List.length_cons, List.length_nil]
        rw [hbl]; rfl
    · by_cases hit : i = t
      · subst hit
        rw [hat, hof _ i a (Int.le_refl _) ht1]
        exact ⟨rfl, hnb⟩
      · have := h2 i a (by omega)
        rw [hpre _ i a (by omega), hof _ i a (by omega) (by omega)]
        exact this
end Go.Proofs.Ytoglkjmdloppcaa
