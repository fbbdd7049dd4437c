/- mach.Text tells the orders of bytes, one behind the other. -/
import Derived.Test.YtkcnmbcefbeldaaFn1
import Derived.Test.YtkcnmbcefbeldaaLib
import Derived.Test.YtkcnmbcefbeldaaAbLaw
namespace Go.Proofs.Ytkcnmbcefbeldaa
open Go Go.Ab S
variable {nf : Nat} {code : List Int}

def isB (x : Int) : Prop := 0 ≤ x ∧ x ≤ 255
abbrev Ord := Int × Int × Int × Int × Int × Unit
/-- the size of an order -/
def szOf (o r : Int) : Int := if o > 9 then 0 else if o = 0 then 1 else if o = 1 then 2 else if o = 8 then 3 else if r ≥ 6 then 0 else if o = 9 then 3 else 1

theorem wr64 {x : Int} (h0 : -100000000 ≤ x) (h1 : x ≤ 100000000) : IntKind.i64.wrap x = x := Go.IntWalk.i64_in _ ⟨by omega, by omega⟩
theorem wr8 {x : Int} (h0 : 0 ≤ x) (h1 : x ≤ 255) : IntKind.u8.wrap x = x := Go.IntWalk.u8_in _ ⟨by omega, by omega⟩

theorem size_all' : ∀ n : Fin 256, mach_Size_f 0 ((n.val : Nat) : Int) = some (szOf (((n.val : Nat) : Int) / 8) (((n.val : Nat) : Int) % 8), ()) ∧ ref_OrderSize_f 0 ((n.val : Nat) : Int) = some (szOf (((n.val : Nat) : Int) / 8) (((n.val : Nat) : Int) % 8), ()) := by decide +kernel
theorem sizes {b : Int} (h : isB b) : mach_Size_f nf b = some (szOf (b / 8) (b % 8), ()) ∧ ref_OrderSize_f nf b = some (szOf (b / 8) (b % 8), ()) := by
  have := size_all' ⟨b.toNat, by have := h.1; have := h.2; omega⟩
  rw [show ((b.toNat : Nat) : Int) = b by have := h.1; omega] at this
  exact this
theorem shl8 {x : Int} (h : isB x) : shlI .i64 x 8 = 256 * x := by
  obtain ⟨h0, h1⟩ := h
  unfold shlI
  have e : min (8 : Int).toNat IntKind.i64.bits = 8 := by decide
  rw [e, show (2 ^ 8 : Int) = 256 by decide, wr64 (by omega) (by omega)]
  omega
theorem code_at {at' : Int} (hc : ∀ x ∈ code, isB x) (h0 : 0 ≤ at') (h1 : at' < code.length) : isB (code.getD at'.toNat 0) := hc _ (getD_mem h0 h1)

/-- the size of the order at a place -/
def szA (code : List Int) (at' : Int) : Int := szOf (code.getD at'.toNat 0 / 8) (code.getD at'.toNat 0 % 8)
/-- the order at a place -/
def ordA (code : List Int) (at' : Int) : Ord :=
  let o := code.getD at'.toNat 0 / 8
  (o, if o < 2 ∨ o = 8 then 0 else code.getD at'.toNat 0 % 8, 0, 0, if szA code at' = 2 then code.getD (at' + 1).toNat 0 else if szA code at' = 3 then code.getD (at' + 1).toNat 0 + 256 * code.getD (at' + 2).toNat 0 else 0, ())
/-- all orders from a place on -/
def tx (code : List Int) : Nat → Int → Option (List Ord)
  | 0, _ => none
  | n + 1, at' => if at' < code.length then (if szA code at' = 0 ∨ at' + szA code at' > code.length then none else (tx code n (at' + szA code at')).map (ordA code at' :: ·)) else some []

theorem szA_cases (hc : ∀ x ∈ code, isB x) {at' : Int} (h0 : 0 ≤ at') (h1 : at' < code.length) : szA code at' = 0 ∨
    (szA code at' = 1 ∧ (code.getD at'.toNat 0 / 8 = 0 ∨ (2 ≤ code.getD at'.toNat 0 / 8 ∧ code.getD at'.toNat 0 / 8 ≤ 7))) ∨ (szA code at' = 2 ∧ code.getD at'.toNat 0 / 8 = 1) ∨ (szA code at' = 3 ∧ (code.getD at'.toNat 0 / 8 = 8 ∨ code.getD at'.toNat 0 / 8 = 9)) := by
  have hb := code_at hc h0 h1
  have := hb.1; have := hb.2
  unfold szA szOf
  repeat' split
  all_goals omega

theorem order_F (hc : ∀ x ∈ code, isB x) (hl : code.length ≤ 400) {at' : Int} (h0 : 0 ≤ at') (h1 : at' < code.length) :
    mach_order_f nf code at' = some (if szA code at' = 0 ∨ at' + szA code at' > code.length then ((0, 0, 0, 0, 0, ()), 0, false, ()) else (ordA code at', szA code at', true, ())) := by
  have hb := code_at hc h0 h1
  have b0 := hb.1
  have b1 := hb.2
  obtain ⟨s1, _⟩ := sizes (nf := nf) hb
  have s1 : mach_Size_f nf (code.getD at'.toNat 0) = some (szA code at', ()) := s1
  have e1 : Int.tdiv (code.getD at'.toNat 0) 8 = code.getD at'.toNat 0 / 8 := Int.tdiv_eq_ediv_of_nonneg b0
  have e2 : Int.tmod (code.getD at'.toNat 0) 8 = code.getD at'.toNat 0 % 8 := Int.tmod_eq_emod_of_nonneg b0
  have hn : ¬ at' ≥ code.length := by omega
  have hz := szA_cases hc h0 h1
  simp only [mach_order_f, mach_order_p, hn, decide_false, cond_false, inb_ok h0 h1, s1, Option.bind_some, e1, e2, cond_true]
  by_cases z0 : szA code at' = 0
  · simp [z0]
  · have w1 : IntKind.i64.wrap (at' + szA code at') = at' + szA code at' := wr64 (by omega) (by omega)
    rw [w1, beq_f z0]
    by_cases hgo : at' + szA code at' > code.length
    · simp [hgo]
    · simp only [cond_false, hgo, decide_false, or_false, z0, if_false]
      have w2 : IntKind.i64.wrap (IntKind.u8.wrap (code.getD at'.toNat 0 / 8)) = code.getD at'.toNat 0 / 8 := by rw [wr8 (by omega) (by omega), wr64 (by omega) (by omega)]
      have w3 : IntKind.i64.wrap (code.getD at'.toNat 0 % 8) = code.getD at'.toNat 0 % 8 := wr64 (by omega) (by omega)
      have w4 : IntKind.i64.wrap (at' + 1) = at' + 1 := wr64 (by omega) (by omega)
      have w5 : IntKind.i64.wrap (at' + 2) = at' + 2 := wr64 (by omega) (by omega)
      rw [w2, w3, w4, w5]
      rcases hz with hz | ⟨hz, ho⟩ | ⟨hz, ho⟩ | ⟨hz, ho⟩
      · exact absurd hz z0
      · rcases ho with ho | ho
        · simp [-List.getD_eq_getElem?_getD, ho, ordA, hz]
        · have c0 := beq_f (show ¬ code.getD at'.toNat 0 / 8 = 0 by omega)
          have c1 := beq_f (show ¬ code.getD at'.toNat 0 / 8 = 1 by omega)
          have c8 := beq_f (show ¬ code.getD at'.toNat 0 / 8 = 8 by omega)
          have c9 := beq_f (show ¬ code.getD at'.toNat 0 / 8 = 9 by omega)
          have hno : ¬ (code.getD at'.toNat 0 / 8 < 2 ∨ code.getD at'.toNat 0 / 8 = 8) := by omega
          simp only [c0, c1, c8, c9, cond_false, ordA, hz, hno, if_false]
          rfl
      · have v1 := code_at hc (show 0 ≤ at' + 1 by omega) (by omega)
        have x1 : IntKind.i64.wrap (code.getD (at' + 1).toNat 0) = code.getD (at' + 1).toNat 0 := wr64 (by have := v1.1; omega) (by have := v1.2; omega)
        simp [-List.getD_eq_getElem?_getD, ho, ordA, hz, inb_ok (show 0 ≤ at' + 1 by omega) (show at' + 1 < (code.length : Int) by omega), x1]
      · have v1 := code_at hc (show 0 ≤ at' + 1 by omega) (by omega)
        have v2 := code_at hc (show 0 ≤ at' + 2 by omega) (by omega)
        have i1 := inb_ok (show 0 ≤ at' + 1 by omega) (show at' + 1 < (code.length : Int) by omega)
        have i2 := inb_ok (show 0 ≤ at' + 2 by omega) (show at' + 2 < (code.length : Int) by omega)
        have a1 := v1.1; have a2 := v1.2; have a3 := v2.1; have a4 := v2.2
        have x1 : IntKind.i64.wrap (code.getD (at' + 1).toNat 0) = code.getD (at' + 1).toNat 0 := wr64 (by omega) (by omega)
        have x2 : IntKind.i64.wrap (code.getD (at' + 2).toNat 0) = code.getD (at' + 2).toNat 0 := wr64 (by omega) (by omega)
        have x3 : IntKind.i64.wrap (code.getD (at' + 1).toNat 0 + 256 * code.getD (at' + 2).toNat 0) = code.getD (at' + 1).toNat 0 + 256 * code.getD (at' + 2).toNat 0 := wr64 (by omega) (by omega)
        simp only [i1, i2, x1, x2, shl8 v2, x3]
        rcases ho with ho | ho <;> simp [-List.getD_eq_getElem?_getD, ho, ordA, hz]

theorem text_l0 (hc : ∀ x ∈ code, isB x) (hl : code.length ≤ 400) : ∀ (fu : Nat) (l : List Ord) (at' : Int), 0 ≤ at' → at' ≤ code.length → l.length ≤ at' → code.length < at' + fu →
    mach_Text_l0 nf code fu l at' = some (match tx code fu at' with | none => ([], 6, ()) | some s => (l ++ s, 0, ())) := by
  intro fu
  induction fu with
  | zero => intro l at' h0 h1 h2 h3; omega
  | succ fu ih =>
    intro l at' h0 h1 h2 h3
    rw [mach_Text_l0, mach_Text_b0, tx]
    by_cases h : at' < code.length
    · rw [order_F hc hl h0 h]
      simp only [h, decide_true, cond_true, Option.bind_some, if_true]
      have hz := szA_cases hc h0 h
      by_cases hb : szA code at' = 0 ∨ at' + szA code at' > code.length
      · simp [hb]
      · simp only [hb, if_false, Bool.not_true, cond_false]
        rw [show (bimp false (!List.isEmpty [ordA code at']) && Nat.ble (l.length + [ordA code at'].length) lim) = true by rw [ble_ok (by simp; omega)]; rfl, cond_true, wr64 (by omega) (by omega), ih _ _ (by omega) (by omega) (by simp; omega) (by omega)]
        cases tx code fu (at' + szA code at') <;> simp
    · simp [h]

theorem law_l0 (hc : ∀ x ∈ code, isB x) (hl : code.length ≤ 400) {r : List Ord × Int × Unit} : ∀ (fu : Nat) (k at' : Int), 0 ≤ at' → at' ≤ code.length → 0 ≤ k → k ≤ at' → code.length < at' + fu →
    ((r = ([], 6, ()) ∧ tx code fu at' = none) ∨ (r.2.1 = 0 ∧ tx code fu at' = some (r.1.drop k.toNat) ∧ k ≤ r.1.length)) → law_MachTexts_l0 nf code r fu r.1 k at' = some (true, ()) := by
  intro fu
  induction fu with
  | zero => intro k at' h0 h1 h2 h3 h4; omega
  | succ fu ih =>
    intro k at' h0 h1 h2 h3 h4 hr
    rw [law_MachTexts_l0, law_MachTexts_b0]
    rw [tx] at hr
    by_cases h : at' < code.length
    · have hb := code_at hc h0 h
      have b0 := hb.1
      have b1 := hb.2
      obtain ⟨_, s1⟩ := sizes (nf := nf) hb
      have s1 : ref_OrderSize_f nf (code.getD at'.toNat 0) = some (szA code at', ()) := s1
      have hz := szA_cases hc h0 h
      have w1 : IntKind.i64.wrap (at' + szA code at') = at' + szA code at' := wr64 (by omega) (by omega)
      have w6 : IntKind.i64.wrap (k + 1) = k + 1 := wr64 (by omega) (by omega)
      simp only [h, if_true] at hr
      simp only [h, decide_true, cond_true, inb_ok h0 h, s1, Option.bind_some, both_self, w1]
      by_cases z0 : szA code at' = 0
      · simp only [z0, true_or, if_true] at hr
        rcases hr with ⟨rfl, _⟩ | ⟨_, hr, _⟩
        · simp [z0]
        · cases hr
      · rw [beq_f z0, cond_false]
        by_cases hgo : at' + szA code at' > code.length
        · simp only [hgo, or_true, if_true] at hr
          rcases hr with ⟨rfl, _⟩ | ⟨_, hr, _⟩
          · simp [hgo]
          · cases hr
        · simp only [z0, hgo, or_false, if_false] at hr
          simp only [hgo, decide_false, cond_false]
          rcases hr with ⟨rfl, hr⟩ | ⟨r0, hr, hk⟩
          · have hn : tx code fu (at' + szA code at') = none := by simpa using hr
            simp only [show ((6 : Int) == 0) = false from rfl, cond_false, w6]
            exact ih (k + 1) _ (by omega) (by omega) (by omega) (by omega) (by omega) (.inl ⟨rfl, hn⟩)
          · cases hs : tx code fu (at' + szA code at') with
            | none => rw [hs] at hr; cases hr
            | some s =>
              rw [hs] at hr
              simp only [Option.map_some, Option.some.injEq] at hr
              have hkl : k < r.1.length := by
                rcases Int.lt_or_le k r.1.length with h | h
                · exact h
                · rw [List.drop_eq_nil_of_le (by omega)] at hr; cases hr
              rw [drop_step r.1 k (0, 0, 0, 0, 0, ()) h2 hkl] at hr
              simp only [List.cons.injEq] at hr
              obtain ⟨hr1, hr2⟩ := hr
              have go := ih (k + 1) (at' + szA code at') (by omega) (by omega) (by omega) (by omega) (by omega) (.inr ⟨r0, by rw [hs, hr2], by omega⟩)
              have hkn : ¬ k ≥ r.1.length := by omega
              have e1 : Int.tdiv (code.getD at'.toNat 0) 8 = code.getD at'.toNat 0 / 8 := Int.tdiv_eq_ediv_of_nonneg b0
              have e2 : Int.tmod (code.getD at'.toNat 0) 8 = code.getD at'.toNat 0 % 8 := Int.tmod_eq_emod_of_nonneg b0
              have w3 : IntKind.i64.wrap (code.getD at'.toNat 0) = code.getD at'.toNat 0 := wr64 (by omega) (by omega)
              have w2 : IntKind.i64.wrap (code.getD at'.toNat 0 / 8) = code.getD at'.toNat 0 / 8 := wr64 (by omega) (by omega)
              have w4 : IntKind.i64.wrap (at' + 1) = at' + 1 := wr64 (by omega) (by omega)
              have w5 : IntKind.i64.wrap (at' + 2) = at' + 2 := wr64 (by omega) (by omega)
              rw [r0]
              simp only [beq_self_eq_true, cond_true, w3, e1, e2, w2, w4, w5, w6, hkn, decide_false, cond_false, inb_ok h2 hkl, ← hr1, go]
              rcases hz with hz | ⟨hz, ho⟩ | ⟨hz, ho⟩ | ⟨hz, ho⟩
              · exact absurd hz z0
              · rcases ho with ho | ho
                · simp [-List.getD_eq_getElem?_getD, ho, ordA, hz]
                · have c2 : ¬ code.getD at'.toNat 0 / 8 < 2 := by omega
                  have c8 := beq_f (show ¬ code.getD at'.toNat 0 / 8 = 8 by omega)
                  have hn8 : ¬ code.getD at'.toNat 0 / 8 = 8 := by omega
                  simp [-List.getD_eq_getElem?_getD, c2, c8, ordA, hz, hn8]
              · have v1 := code_at hc (show 0 ≤ at' + 1 by omega) (by omega)
                have i1 := inb_ok (show 0 ≤ at' + 1 by omega) (show at' + 1 < (code.length : Int) by omega)
                have x1 : IntKind.i64.wrap (code.getD (at' + 1).toNat 0) = code.getD (at' + 1).toNat 0 := wr64 (by have := v1.1; omega) (by have := v1.2; omega)
                simp [-List.getD_eq_getElem?_getD, ho, ordA, hz, i1, x1]
              · have v1 := code_at hc (show 0 ≤ at' + 1 by omega) (by omega)
                have v2 := code_at hc (show 0 ≤ at' + 2 by omega) (by omega)
                have i1 := inb_ok (show 0 ≤ at' + 1 by omega) (show at' + 1 < (code.length : Int) by omega)
                have i2 := inb_ok (show 0 ≤ at' + 2 by omega) (show at' + 2 < (code.length : Int) by omega)
                have a1 := v1.1; have a2 := v1.2; have a3 := v2.1; have a4 := v2.2
                have x1 : IntKind.i64.wrap (code.getD (at' + 1).toNat 0) = code.getD (at' + 1).toNat 0 := wr64 (by omega) (by omega)
                have x2 : IntKind.i64.wrap (code.getD (at' + 2).toNat 0) = code.getD (at' + 2).toNat 0 := wr64 (by omega) (by omega)
                have x4 : IntKind.i64.wrap (256 * code.getD (at' + 2).toNat 0) = 256 * code.getD (at' + 2).toNat 0 := wr64 (by omega) (by omega)
                have x3 : IntKind.i64.wrap (code.getD (at' + 1).toNat 0 + 256 * code.getD (at' + 2).toNat 0) = code.getD (at' + 1).toNat 0 + 256 * code.getD (at' + 2).toNat 0 := wr64 (by omega) (by omega)
                rcases ho with ho | ho <;> simp [-List.getD_eq_getElem?_getD, ho, ordA, hz, i1, i2, x1, x2, x3, x4]
    · simp only [h, if_false] at hr
      rcases hr with ⟨_, hr⟩ | ⟨r0, hr, hk⟩
      · cases hr
      · simp only [Option.some.injEq] at hr
        have : r.1.length ≤ k.toNat := by
          rcases Nat.lt_or_ge k.toNat r.1.length with h | h
          · have := congrArg List.length hr; simp at this; omega
          · exact h
        have e : (k == (r.1.length : Int)) = true := by rw [show k = (r.1.length : Int) by omega]; exact beq_self_eq_true _
        simp [-List.getD_eq_getElem?_getD, h, r0, e]

theorem machTexts_aux (hc : ∀ x ∈ code, isB x) (hn : 401 ≤ nf) : law_MachTexts_f nf code = some (true, ()) := by
  simp only [law_MachTexts_f, law_MachTexts_p, mach_Text_f, mach_Text_p]
  by_cases h : (code.length : Int) > 400
  · simp [h]
  · simp only [h, decide_false, cond_false]
    rw [text_l0 hc (by omega) nf [] 0 (by omega) (by omega) (by simp) (by omega)]
    simp only [Option.bind_some, List.nil_append]
    refine law_l0 hc (by omega) nf 0 0 (by omega) (by omega) (by omega) (by omega) (by omega) ?_
    cases tx code nf 0 with
    | none => exact .inl ⟨rfl, rfl⟩
    | some s => exact .inr ⟨rfl, by simp, by simp⟩
theorem machTexts_law (x : denPs (lawPs [.sl (.int .u8)])) (h : wfPs [.sl (.int .u8)] x) : ∃ n, law_MachTexts_F n x = some (true, ()) := by
  obtain ⟨code, _⟩ := x
  obtain ⟨⟨_, h1⟩, _⟩ := h
  refine ⟨_, machTexts_aux (fun b hb => ?_) (Nat.le_refl _)⟩
  obtain ⟨i, hi, rfl⟩ := List.mem_iff_getElem.1 hb
  have := h1 i hi
  have e : List.getD code i (dflt _) = code[i] := by simp [List.getD, hi]
  rw [e] at this
  have e1 : IntKind.u8.min = 0 := by decide
  have e2 : IntKind.u8.max = 255 := by decide
  have t1 := this.1
  have t2 := this.2
  rw [e1] at t1
  rw [e2] at t2
  exact ⟨t1, t2⟩
end Go.Proofs.Ytkcnmbcefbeldaa
