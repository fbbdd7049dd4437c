/- point.Run and the document's answer go alike. -/
import Derived.Test.YtgbldmehdipfaaaFn6
import Derived.Test.YtgbldmehdipfaaaLib
import Derived.Test.YtgbldmehdipfaaaAbLaw
namespace Go.Proofs.Ytgbldmehdipfaaa
open Go Go.Ab S
variable {nf : Nat}

abbrev PSt := Int × Int × Int × Unit

theorem pints_F (a b : List Int) (hl : a.length ≤ maxLen) (hf : a.length < nf) : ref_Ints_f nf a b = some (decide (a = b), ()) := by
  simp only [ref_Ints_f, ref_Ints_p]
  by_cases hab : a.length = b.length
  · have h0 : ((a.length : Int) != (b.length : Int)) = false := by simp [hab]
    rw [h0]
    have key : ∀ (fu : Nat) (t : Int), 0 ≤ t → t ≤ a.length → a.length < t + fu → ref_Ints_l0 nf a b fu t = some (decide (a.drop t.toNat = b.drop t.toNat), ()) := by
      intro fu
      induction fu with
      | zero => intro t h1 h2 h3; omega
      | succ fu ih =>
        intro t h1 h2 h3
        rw [ref_Ints_l0, ref_Ints_b0]
        by_cases ht : t < a.length
        · rw [inb_ok h1 ht, inb_ok h1 (by omega), wrap_step h1 ht hl, ih (t + 1) (by omega) (by omega) (by omega), drop_step a t 0 h1 ht, drop_step b t 0 h1 (by omega)]
          by_cases he : a.getD t.toNat 0 = b.getD t.toNat 0
          · rw [he]; simp [ht]
          · rw [bne_t he]
            simp only [ht, decide_true, cond_true, List.cons.injEq, he, false_and, decide_false]
        · simp [ht, List.drop_eq_nil_of_le (show a.length ≤ t.toNat by omega), List.drop_eq_nil_of_le (show b.length ≤ t.toNat by omega)]
    rw [cond_false, key nf 0 (by omega) (by omega) (by omega)]
    simp
  · have h0 : ((a.length : Int) != (b.length : Int)) = true := bne_t (by omega)
    rw [h0]
    have : a ≠ b := fun h => hab (by rw [h])
    simp [this]

/-- does all lie below n? -/
def pin (n : Int) (l : List Int) : Bool := l.all fun x => decide (0 ≤ x) && decide (x < n)
theorem pin_mem {n : Int} {l : List Int} (h : pin n l = true) : ∀ x ∈ l, 0 ≤ x ∧ x < n := fun x hx => by
  have := List.all_eq_true.1 h x hx
  simpa using this
theorem pin_cons (n x : Int) (l : List Int) : pin n (x :: l) = ((decide (0 ≤ x) && decide (x < n)) && pin n l) := rfl

theorem pinside_F (n : Int) (l : List Int) (hl : l.length ≤ maxLen) (hf : l.length < nf) : ref_Inside_f nf n l = some (pin n l, ()) := by
  have key : ∀ (fu : Nat) (t : Int), 0 ≤ t → t ≤ l.length → l.length < t + fu → ref_Inside_l0 nf n l fu t = some (pin n (l.drop t.toNat), ()) := by
    intro fu
    induction fu with
    | zero => intro t h1 h2 h3; omega
    | succ fu ih =>
      intro t h1 h2 h3
      rw [ref_Inside_l0, ref_Inside_b0]
      by_cases ht : t < l.length
      · rw [inb_ok h1 ht, wrap_step h1 ht hl, ih (t + 1) (by omega) (by omega) (by omega), drop_step l t 0 h1 ht, pin_cons]
        simp only [ht, decide_true, cond_true]
        by_cases h4 : 0 ≤ l.getD t.toNat 0
        · have h5 : ¬ l.getD t.toNat 0 < 0 := by omega
          by_cases h6 : l.getD t.toNat 0 < n
          · have h7 : ¬ l.getD t.toNat 0 ≥ n := by omega
            simp only [h4, h5, h6, h7, decide_true, decide_false, cond_false, Bool.true_and]
          · have h7 : l.getD t.toNat 0 ≥ n := by omega
            simp only [h5, h6, h7, decide_true, decide_false, cond_false, cond_true, Bool.and_false, Bool.false_and]
        · have h5 : l.getD t.toNat 0 < 0 := by omega
          simp only [h4, h5, decide_true, decide_false, cond_true, Bool.false_and]
      · simp [ht, List.drop_eq_nil_of_le (show l.length ≤ t.toNat by omega), pin]
  rw [ref_Inside_f, ref_Inside_p, key nf 0 (by omega) (by omega) (by omega)]
  simp

theorem pwrong_script (l' : List PSt) (s : List Int) (hl : s.length ≤ maxLen) (hf : s.length < nf) : slices_ContainsFunc__point_wrong_1_f nf s (l', ()) = some (!pin l'.length s, ()) := by
  have key : ∀ (fu : Nat) (t : Int), 0 ≤ t → t ≤ s.length → s.length < t + fu → ∃ r : Int, slices_IndexFunc__point_wrong_1_l0 nf s (l', ()) fu t = some (r, ()) ∧ (decide (r ≥ 0)) = !pin l'.length (s.drop t.toNat) := by
    intro fu
    induction fu with
    | zero => intro t h1 h2 h3; omega
    | succ fu ih =>
      intro t h1 h2 h3
      rw [slices_IndexFunc__point_wrong_1_l0, slices_IndexFunc__point_wrong_1_b0]
      by_cases ht : t < s.length
      · simp only [ht, decide_true, cond_true, inb_ok h1 ht, wrap_step h1 ht hl, drop_step s t 0 h1 ht, pin_cons, point_wrong_1_f, point_wrong_1_p]
        by_cases h4 : s.getD t.toNat 0 < 0
        · refine ⟨t, ?_, ?_⟩
          · simp only [h4, decide_true, cond_true, Option.bind_some]
          · have : ¬ 0 ≤ s.getD t.toNat 0 := by omega
            simp only [this, decide_false, Bool.false_and, Bool.not_false, decide_eq_true_eq]; omega
        · by_cases h5 : s.getD t.toNat 0 ≥ l'.length
          · refine ⟨t, ?_, ?_⟩
            · simp only [h4, h5, decide_true, decide_false, cond_true, cond_false, Option.bind_some]
            · have : ¬ s.getD t.toNat 0 < l'.length := by omega
              simp only [this, decide_false, Bool.false_and, Bool.and_false, Bool.not_false, decide_eq_true_eq]; omega
          · obtain ⟨r, i1, i2⟩ := ih (t + 1) (by omega) (by omega) (by omega)
            refine ⟨r, ?_, ?_⟩
            · simp only [h4, h5, decide_false, cond_false, Option.bind_some, i1]
            · rw [i2]
              simp only [show 0 ≤ s.getD t.toNat 0 by omega, show s.getD t.toNat 0 < l'.length by omega, decide_true, Bool.true_and]
      · refine ⟨-1, by simp [ht], ?_⟩
        simp [List.drop_eq_nil_of_le (show s.length ≤ t.toNat by omega), pin]
  obtain ⟨r, i1, i2⟩ := key nf 0 (by omega) (by omega) (by omega)
  simp only [slices_ContainsFunc__point_wrong_1_f, slices_ContainsFunc__point_wrong_1_p, slices_IndexFunc__point_wrong_1_f, slices_IndexFunc__point_wrong_1_p, i1, Option.bind_some, i2]
  simp

def pstCode (vars : Int) (s : PSt) : Int := if s.1 < 1 ∨ s.1 > 4 then 6 else if pin vars [s.2.1, s.2.2.1] = true then 0 else 2
def pstGo (vars : Int) (n : Int) (script : List Int) : List PSt → Int
  | [] => if pin n script = true then 0 else 5
  | s :: r => if pstCode vars s = 0 then pstGo vars n script r else pstCode vars s
def pCode (vars : Int) (l : List PSt) (script : List Int) : Int := if vars < 1 ∨ vars > 8 ∨ (l.length : Int) > 12 ∨ (script.length : Int) > 200 then 1 else pstGo vars l.length script l

theorem pw_l0 {vars : Int} {l : List PSt} {script : List Int} (hl : l.length ≤ 12) (hs : script.length ≤ 200) (hn : 300 ≤ nf) : ∀ (fu : Nat) (t : Int), 0 ≤ t → t ≤ l.length → l.length < t + fu →
    point_wrong_l0 nf vars l script fu l t = some (pstGo vars l.length script (l.drop t.toNat), ()) := by
  intro fu
  induction fu with
  | zero => intro t h1 h2 h3; omega
  | succ fu ih =>
    intro t h1 h2 h3
    rw [point_wrong_l0, point_wrong_b0]
    by_cases ht : t < l.length
    · simp only [ht, decide_true, cond_true, inb_ok h1 ht, wrap_step h1 ht (Nat.le_trans hl (by decide)), ih (t + 1) (by omega) (by omega) (by omega), drop_step l t (0, 0, 0, ()) h1 ht, pstGo, pstCode]
      generalize l.getD t.toNat (0, 0, 0, ()) = s
      obtain ⟨op, a, b, u⟩ := s
      simp only [pin, List.all_cons, List.all_nil]
      by_cases o1 : op < 1
      · simp [o1]
      · by_cases o2 : op > 4
        · simp [o1, o2]
        · simp only [o1, o2, decide_false, cond_false, or_self, if_false]
          by_cases hab : b < a
          · by_cases c1 : b < 0
            · have : ¬ (0 ≤ b) := by omega
              simp [hab, c1, this]
            · by_cases c2 : a ≥ vars
              · have : ¬ a < vars := by omega
                have : ¬ (b > a) := by omega
                have : ¬ (a < 0) := by omega
                simp [*]
              · have e1 : 0 ≤ a := by omega
                have e2 : a < vars := by omega
                have e3 : 0 ≤ b := by omega
                have e4 : b < vars := by omega
                have e5 : ¬ (b > a) := by omega
                simp [hab, c1, c2, e1, e2, e3, e4, e5]
          · by_cases c1 : a < 0
            · have : ¬ (0 ≤ a) := by omega
              simp [hab, c1, this]
            · by_cases c2 : b > a
              · by_cases c3 : b ≥ vars
                · have : ¬ b < vars := by omega
                  simp [*]
                · have e1 : 0 ≤ a := by omega
                  have e2 : a < vars := by omega
                  have e3 : 0 ≤ b := by omega
                  have e4 : b < vars := by omega
                  simp [hab, c1, c2, c3, e1, e2, e3, e4]
              · by_cases c3 : a ≥ vars
                · have : ¬ a < vars := by omega
                  simp [*]
                · have e1 : 0 ≤ a := by omega
                  have e2 : a < vars := by omega
                  have e3 : 0 ≤ b := by omega
                  have e4 : b < vars := by omega
                  simp [hab, c1, c2, c3, e1, e2, e3, e4]
    · simp only [ht, decide_false, cond_false, pwrong_script (nf := nf) l script (Nat.le_trans hs (by decide)) (show script.length < nf by omega), Option.bind_some, List.drop_eq_nil_of_le (show l.length ≤ t.toNat by omega), pstGo]
      cases pin l.length script <;> simp

theorem pc_l0 {vars : Int} {l : List PSt} {script : List Int} (hl : l.length ≤ 12) (hs : script.length ≤ 200) (hn : 300 ≤ nf) : ∀ (fu : Nat) (t : Int), 0 ≤ t → t ≤ l.length → l.length < t + fu →
    ref_PointCheck_l0 nf vars l script fu t = some (pstGo vars l.length script (l.drop t.toNat), ()) := by
  intro fu
  induction fu with
  | zero => intro t h1 h2 h3; omega
  | succ fu ih =>
    intro t h1 h2 h3
    rw [ref_PointCheck_l0, ref_PointCheck_b0]
    by_cases ht : t < l.length
    · simp only [ht, decide_true, cond_true, inb_ok h1 ht, wrap_step h1 ht (Nat.le_trans hl (by decide)), ih (t + 1) (by omega) (by omega) (by omega), drop_step l t (0, 0, 0, ()) h1 ht, pstGo, pstCode]
      generalize l.getD t.toNat (0, 0, 0, ()) = s
      obtain ⟨op, a, b, u⟩ := s
      simp only [pinside_F vars [a, b] (show (2 : Nat) ≤ maxLen by decide) (show 2 < nf by omega), Option.bind_some]
      by_cases o1 : op < 1
      · simp [o1]
      · by_cases o2 : op > 4
        · simp [o1, o2]
        · cases pin vars [a, b] <;> simp [o1, o2]
    · simp only [ht, decide_false, cond_false, pinside_F (nf := nf) (l.length : Int) script (Nat.le_trans hs (by decide)) (show script.length < nf by omega), Option.bind_some, List.drop_eq_nil_of_le (show l.length ≤ t.toNat by omega), pstGo]
      cases pin l.length script <;> simp

theorem pwrong_F (hn : 300 ≤ nf) (vars : Int) (l : List PSt) (script : List Int) : point_wrong_f nf vars l script = some (pCode vars l script, ()) := by
  simp only [point_wrong_f, point_wrong_p, pCode]
  by_cases h1 : vars < 1
  · simp [h1]
  · by_cases h2 : vars > 8
    · simp [h1, h2]
    · by_cases h3 : (l.length : Int) > 12
      · simp [h1, h2, h3]
      · by_cases h4 : (script.length : Int) > 200
        · simp [h1, h2, h3, h4]
        · simp only [h1, h2, h3, h4, decide_false, cond_false, or_self, if_false]
          rw [pw_l0 (by omega) (by omega) hn nf 0 (by omega) (by omega) (by omega)]
          simp
theorem pcheck_F (hn : 300 ≤ nf) (vars : Int) (l : List PSt) (script : List Int) : ref_PointCheck_f nf vars l script = some (pCode vars l script, ()) := by
  simp only [ref_PointCheck_f, ref_PointCheck_p, pCode]
  by_cases h1 : vars < 1
  · simp [h1]
  · by_cases h2 : vars > 8
    · simp [h1, h2]
    · by_cases h3 : (l.length : Int) > 12
      · simp [h1, h2, h3]
      · by_cases h4 : (script.length : Int) > 200
        · simp [h1, h2, h3, h4]
        · simp only [h1, h2, h3, h4, decide_false, cond_false, or_self, if_false]
          rw [pc_l0 (by omega) (by omega) hn nf 0 (by omega) (by omega) (by omega)]
          simp

theorem pstGo_ok {vars n : Int} {script : List Int} : ∀ {l : List PSt}, pstGo vars n script l = 0 → (∀ s ∈ l, 1 ≤ s.1 ∧ s.1 ≤ 4 ∧ 0 ≤ s.2.1 ∧ s.2.1 < vars ∧ 0 ≤ s.2.2.1 ∧ s.2.2.1 < vars) ∧ pin n script = true
  | [], h => by
    simp only [pstGo] at h
    split at h
    · rename_i h1; exact ⟨fun s hs => (by cases hs), h1⟩
    · omega
  | s :: r, h => by
    simp only [pstGo] at h
    split at h
    · rename_i h1
      obtain ⟨h2, h3⟩ := pstGo_ok h
      refine ⟨fun x hx => ?_, h3⟩
      rcases List.mem_cons.1 hx with rfl | hx
      · unfold pstCode at h1
        split at h1
        · omega
        · split at h1
          · rename_i h4 h5
            have a1 := pin_mem h5 x.2.1 (by simp)
            have a2 := pin_mem h5 x.2.2.1 (by simp)
            omega
          · omega
      · exact h2 x hx
    · omega

theorem repeat_all : ∀ v : Fin 9, slices_Repeat_f 400 [-1] ((v.val : Nat) : Int) = some (List.replicate v.val (-1), ()) := by decide +kernel
theorem repeat_F {vars : Int} (h0 : 0 ≤ vars) (h1 : vars ≤ 8) : slices_Repeat_f 400 [-1] vars = some (List.replicate vars.toNat (-1), ()) := by
  have := repeat_all ⟨vars.toNat, by omega⟩
  rwa [show ((vars.toNat : Nat) : Int) = vars by omega] at this

/-- what the variables point at: at a variable or at none -/
structure To (vars : Int) (to : List Int) : Prop where
  len : (to.length : Int) = vars
  ok : ∀ x ∈ to, -1 ≤ x ∧ x < vars
theorem To.get {vars : Int} {to : List Int} (h : To vars to) {i : Int} (h0 : 0 ≤ i) (h1 : i < vars) : -1 ≤ to.getD i.toNat 0 ∧ to.getD i.toNat 0 < vars := h.ok _ (getD_mem h0 (by rw [h.len]; exact h1))
theorem To.set {vars : Int} {to : List Int} (h : To vars to) (i : Nat) {x : Int} (h0 : -1 ≤ x) (h1 : x < vars) : To vars (to.set i x) := by
  refine ⟨by simpa using h.len, fun y hy => ?_⟩
  rcases List.mem_or_eq_of_mem_set hy with h2 | rfl
  · exact h.ok y h2
  · exact ⟨h0, h1⟩

def pStep (to : List Int) (s : PSt) : List Int :=
  if s.1 = 1 then to.set s.2.1.toNat s.2.2.1
  else if s.1 = 2 then to.set s.2.1.toNat (to.getD s.2.2.1.toNat 0)
  else if s.1 = 3 then (if to.getD s.2.2.1.toNat 0 ≥ 0 then to.set s.2.1.toNat (to.getD (to.getD s.2.2.1.toNat 0).toNat 0) else to)
  else (if to.getD s.2.1.toNat 0 ≥ 0 then to.set (to.getD s.2.1.toNat 0).toNat (to.getD s.2.2.1.toNat 0) else to)

theorem pStep_to {vars : Int} {to : List Int} (h : To vars to) {s : PSt} (hs : 1 ≤ s.1 ∧ s.1 ≤ 4 ∧ 0 ≤ s.2.1 ∧ s.2.1 < vars ∧ 0 ≤ s.2.2.1 ∧ s.2.2.1 < vars) : To vars (pStep to s) := by
  obtain ⟨h1, h2, h3, h4, h5, h6⟩ := hs
  have ga := h.get h3 h4
  have gb := h.get h5 h6
  unfold pStep
  split
  · exact h.set _ (by omega) h6
  · split
    · exact h.set _ gb.1 gb.2
    · split
      · split
        · rename_i hc
          have := h.get (i := to.getD s.2.2.1.toNat 0) hc gb.2
          exact h.set _ this.1 this.2
        · exact h
      · split
        · exact h.set _ gb.1 gb.2
        · exact h

def pRunAll (l : List PSt) : List Int → List Int → List Int
  | [], to => to
  | k :: r, to => pRunAll l r (pStep to (l.getD k.toNat (0, 0, 0, ())))

theorem prun_l0 {vars : Int} {l : List PSt} {script : List Int} (hs : script.length ≤ 200) (hst : ∀ s ∈ l, 1 ≤ s.1 ∧ s.1 ≤ 4 ∧ 0 ≤ s.2.1 ∧ s.2.1 < vars ∧ 0 ≤ s.2.2.1 ∧ s.2.2.1 < vars) (hsc : ∀ x ∈ script, 0 ≤ x ∧ x < l.length) :
    ∀ (fu : Nat) (to : List Int) (t : Int), To vars to → 0 ≤ t → t ≤ script.length → script.length < t + fu →
    point_Run_l0 nf l script fu to t = some (pRunAll l (script.drop t.toNat) to, 0, ()) ∧ ref_Pointed_l2 nf l script fu to t = some (pRunAll l (script.drop t.toNat) to, ()) ∧ To vars (pRunAll l (script.drop t.toNat) to) := by
  intro fu
  induction fu with
  | zero => intro to t h0 h1 h2 h3; omega
  | succ fu ih =>
    intro to t h0 h1 h2 h3
    rw [point_Run_l0, point_Run_b0, ref_Pointed_l2, ref_Pointed_b2]
    by_cases ht : t < script.length
    · have hk := hsc _ (getD_mem (d := 0) h1 ht)
      have hs1 := hst _ (getD_mem (d := (0, 0, 0, ())) hk.1 hk.2)
      have hto := pStep_to h0 hs1
      obtain ⟨i1, i2, i3⟩ := ih _ (t + 1) hto (by omega) (by omega) (by omega)
      have hdr := drop_step script t 0 h1 ht
      rw [hdr]
      simp only [pRunAll]
      refine ⟨?_, ?_, i3⟩
      all_goals first | rw [← i1] | rw [← i2]
      all_goals
        simp only [ht, decide_true, cond_true, inb_ok h1 ht, inb_ok hk.1 hk.2, wrap_step h1 ht (Nat.le_trans hs (by decide))]
        generalize l.getD (script.getD t.toNat 0).toNat (0, 0, 0, ()) = s at *
        obtain ⟨op, a, b, u⟩ := s
        obtain ⟨o1, o2, a1, a2, b1, b2⟩ := hs1
        simp only at o1 o2 a1 a2 b1 b2
        have ga := h0.get a1 a2
        have gb := h0.get b1 b2
        have la : inb a to.length = true := inb_ok a1 (by rw [h0.len]; exact a2)
        have lb : inb b to.length = true := inb_ok b1 (by rw [h0.len]; exact b2)
        have ho : op = 1 ∨ op = 2 ∨ op = 3 ∨ op = 4 := by omega
        rcases ho with rfl | rfl | rfl | rfl
        · simp only [la, cond_true, cond_false, Int.reduceBEq, pStep, if_true]
        · simp only [la, lb, cond_true, cond_false, Int.reduceBEq, pStep, if_true, Int.reduceEq, if_false]
        · by_cases hb : to.getD b.toNat 0 ≥ 0
          · have lc : inb (to.getD b.toNat 0) to.length = true := inb_ok hb (by rw [h0.len]; exact gb.2)
            simp only [la, lb, lc, hb, cond_true, cond_false, Int.reduceBEq, pStep, if_true, Int.reduceEq, if_false, decide_true]
          · simp only [la, lb, hb, cond_true, cond_false, Int.reduceBEq, pStep, if_true, Int.reduceEq, if_false, decide_false]
        · by_cases hb : to.getD a.toNat 0 ≥ 0
          · have lc : inb (to.getD a.toNat 0) to.length = true := inb_ok hb (by rw [h0.len]; exact ga.2)
            simp only [la, lb, lc, hb, cond_true, cond_false, Int.reduceBEq, pStep, if_true, Int.reduceEq, if_false, decide_true]
          · simp only [la, lb, hb, cond_true, cond_false, Int.reduceBEq, pStep, if_true, Int.reduceEq, if_false, decide_false]
    · have he : script.drop t.toNat = [] := List.drop_eq_nil_of_le (by omega)
      simp only [ht, decide_false, cond_false, he, pRunAll]
      exact ⟨trivial, trivial, h0⟩

theorem pointed_l0 {vars : Int} {l : List PSt} {script : List Int} (h8 : 0 ≤ vars) (h9 : vars ≤ 8) (hn : 1 ≤ nf) : ref_Pointed_l0 nf vars l script 400 (List.replicate vars.toNat 0) 0 = ref_Pointed_l2 nf l script nf (List.replicate vars.toNat (-1)) 0 := by
  have := loop_inv (n := vars) (F := fun fu t to => ref_Pointed_l0 nf vars l script fu to t) (fun t to => (to.length : Int) = vars ∧ ∀ i : Nat, i < to.length → to.getD i 0 = if (i : Int) < t then -1 else 0) (by
    intro fu t to h0 h1 ⟨h2, h3⟩
    refine ⟨to.set t.toNat (-1), ?_, by simpa using h2, fun i hi => ?_⟩
    · show ref_Pointed_l0 nf vars l script (fu + 1) to t = _
      rw [ref_Pointed_l0, ref_Pointed_b0]
      simp only [h1, decide_true, cond_true, inb_ok (n := to.length) h0 (by omega), wrap_step (n := 8) h0 (by omega) (by decide)]
    · rw [getD_upd (by omega)]
      simp only [List.length_set] at hi
      by_cases hh : i = t.toNat
      · rw [if_pos hh, if_pos (by omega)]
      · rw [if_neg hh, h3 i hi]
        by_cases hi2 : (i : Int) < t
        · rw [if_pos hi2, if_pos (by omega)]
        · rw [if_neg hi2, if_neg (by omega)]) 400 0 (List.replicate vars.toNat 0) (by omega) (by omega) (by omega) ⟨by simp; omega, fun i hi => by
          rw [if_neg (by omega)]
          simp only [List.length_replicate] at hi
          simp [List.getD_eq_getElem?_getD, hi]⟩
  obtain ⟨fu', s', ⟨g1, g2⟩, g3⟩ := this
  rw [show ref_Pointed_l0 nf vars l script 400 (List.replicate vars.toNat 0) 0 = _ from g3]
  show ref_Pointed_l0 nf vars l script (fu' + 1) s' vars = _
  rw [ref_Pointed_l0, ref_Pointed_b0]
  have e : s' = List.replicate vars.toNat (-1) := by
    refine List.ext_getElem (by simp; omega) fun i h1 h2 => ?_
    have := g2 i h1
    rw [List.getD_eq_getElem?_getD, List.getElem?_eq_getElem h1, Option.getD_some, if_pos (by omega)] at this
    rw [this]; simp
  rw [e]
  simp

theorem pointRuns_aux (vars : Int) (l : List PSt) (script : List Int) : law_PointRuns_f 400 vars l script = some (true, ()) := by
  simp only [law_PointRuns_f, law_PointRuns_p, point_Run_f, point_Run_p, pwrong_F (nf := 400) (by omega), pcheck_F (nf := 400) (by omega), Option.bind_some]
  by_cases h : pCode vars l script = 0
  · have h' := h
    unfold pCode at h'
    split at h'
    · omega
    · rename_i h1
      obtain ⟨hst, hsc⟩ := pstGo_ok h'
      have hr : To vars (List.replicate vars.toNat (-1)) := ⟨by simp; omega, fun x hx => by rw [List.eq_of_mem_replicate hx]; omega⟩
      obtain ⟨i1, i2, i3⟩ := prun_l0 (nf := 400) (vars := vars) (l := l) (script := script) (by omega) hst (pin_mem hsc) 400 _ 0 hr (by omega) (by omega) (by omega)
      have c : (decide (0 ≤ vars) && decide (vars ≤ vars) && decide (vars ≤ ((lim : Nat) : Int))) = true := by
        rw [decide_eq_true (show (0 : Int) ≤ vars by omega), decide_eq_true (Int.le_refl _), decide_eq_true (show vars ≤ ((lim : Nat) : Int) by show vars ≤ ((4294967296 : Nat) : Int); omega)]; rfl
      have hlen : (pRunAll l (List.drop (0 : Int).toNat script) (List.replicate vars.toNat (-1))).length ≤ 8 := by have := i3.len; omega
      simp only [h, show ((0 : Int) != 0) = false from rfl, cond_false, repeat_F (vars := vars) (by omega) (by omega), Option.bind_some, i1, beq_self_eq_true, cond_true, ref_Pointed_f, ref_Pointed_p, c, pointed_l0 (nf := 400) (vars := vars) (l := l) (script := script) (by omega) (by omega) (by omega), i2]
      rw [pints_F _ _ (Nat.le_trans hlen (by decide)) (by omega)]
      simp
  · simp only [bne_t h, cond_true, Option.bind_some, beq_self_eq_true]
    rfl

theorem pointRuns_law (x : denPs (lawPs [.int .i64, .sl (.pair (.int .i64) (.pair (.int .i64) (.pair (.int .i64) .unit))), .sl (.int .i64)])) (h : wfPs [.int .i64, .sl (.pair (.int .i64) (.pair (.int .i64) (.pair (.int .i64) .unit))), .sl (.int .i64)] x) : ∃ n, law_PointRuns_F n x = some (true, ()) := by
  obtain ⟨vars, l, script, _⟩ := x
  exact ⟨_, pointRuns_aux vars l script⟩
end Go.Proofs.Ytgbldmehdipfaaa
