/- mach.Run and the document's machine go alike. -/
import Derived.Test.YtokjogplnoeicaaOps
import Derived.Test.YtokjogplnoeicaaFn2
import Derived.Test.YtokjogplnoeicaaAbLaw
namespace Go.Proofs.Ytokjogplnoeicaa
open Go Go.Ab S
variable {nf : Nat} {code : List Int}

def isB (x : Int) : Prop := 0 ≤ x ∧ x ≤ 255

/-- the size of an order -/
def szOf (o r : Int) : Int := if o > 9 then 0 else if o = 0 then 1 else if o = 1 then 2 else if o = 8 then 3 else if r ≥ 6 then 0 else if o = 9 then 3 else 1

theorem wr64 {x : Int} (h0 : -100000000 ≤ x) (h1 : x ≤ 100000000) : IntKind.i64.wrap x = x := Go.IntWalk.i64_in _ ⟨by omega, by omega⟩
theorem wr8 {x : Int} (h0 : 0 ≤ x) (h1 : x ≤ 255) : IntKind.u8.wrap x = x := Go.IntWalk.u8_in _ ⟨by omega, by omega⟩

theorem size_all' : ∀ n : Fin 256, mach_Size_f 0 ((n.val : Nat) : Int) = some (szOf (((n.val : Nat) : Int) / 8) (((n.val : Nat) : Int) % 8), ()) ∧ ref_OrderSize_f 0 ((n.val : Nat) : Int) = some (szOf (((n.val : Nat) : Int) / 8) (((n.val : Nat) : Int) % 8), ()) := by decide +kernel
theorem sizes {b : Int} (h : isB b) : mach_Size_f nf b = some (szOf (b / 8) (b % 8), ()) ∧ ref_OrderSize_f nf b = some (szOf (b / 8) (b % 8), ()) := by
  have := size_all' ⟨b.toNat, by have := h.1; have := h.2; omega⟩
  rw [show ((b.toNat : Nat) : Int) = b by have := h.1; omega] at this
  exact this
theorem shl8 {x : Int} (h : isB x) : shlI .i64 x 8 = 256 * x := by
  obtain ⟨h0, h1⟩ := h
  unfold shlI
  have e : min (8 : Int).toNat IntKind.i64.bits = 8 := by decide
  rw [e, show (2 ^ 8 : Int) = 256 by decide, wr64 (by omega) (by omega)]
  omega

theorem code_at {at' : Int} (hc : ∀ x ∈ code, isB x) (h0 : 0 ≤ at') (h1 : at' < code.length) : isB (code.getD at'.toNat 0) := hc _ (getD_mem h0 h1)

theorem runs_alike (hc : ∀ x ∈ code, isB x) (hl : code.length ≤ 400) : ∀ (fu : Nat) (cells : List Int) (at' box t : Int), cells.length = 6 → (∀ x ∈ cells, isV x) → isV box → 0 ≤ at' → at' ≤ 100000 → 0 ≤ t → t ≤ 20000 → 20000 < t + fu →
    ∃ l e, l.length ≤ 6 ∧ mach_Run_l0 nf code fu cells at' box t = some (l, e, ()) ∧ ref_Machine_l2 nf code fu cells at' box t = some (l, e, ()) := by
  intro fu
  induction fu with
  | zero => intro cells at' box t h1 h2 h3 h4 h5 h6 h7 h8; omega
  | succ fu ih =>
    intro cells at' box t h1 h2 h3 h4 h5 h6 h7 h8
    rw [mach_Run_l0, mach_Run_b0, ref_Machine_l2, ref_Machine_b2]
    by_cases ht : t < 20000
    · have hw : IntKind.i64.wrap (t + 1) = t + 1 := wr64 (by omega) (by omega)
      by_cases ha : at' < code.length
      · have hb := code_at hc h4 ha
        have hb0 := hb.1
        have hb1 := hb.2
        obtain ⟨s1, s2⟩ := sizes (nf := nf) hb
        have e1 : Int.tdiv (code.getD at'.toNat 0) 8 = code.getD at'.toNat 0 / 8 := Int.tdiv_eq_ediv_of_nonneg hb0
        have e2 : Int.tmod (code.getD at'.toNat 0) 8 = code.getD at'.toNat 0 % 8 := Int.tmod_eq_emod_of_nonneg hb0
        have e3 : IntKind.i64.wrap (code.getD at'.toNat 0) = code.getD at'.toNat 0 := wr64 (by omega) (by omega)
        have hn : ¬ at' ≥ code.length := by omega
        simp only [ht, decide_true, cond_true, mach_order_f, mach_order_p, hn, decide_false, cond_false, inb_ok h4 ha, s1, s2, Option.bind_some, e1, e2, e3, hw]
        generalize code.getD at'.toNat 0 = b at *
        clear e1 e2 e3 s1 s2
        have o0 : 0 ≤ b / 8 := by omega
        have o1 : b / 8 ≤ 31 := by omega
        have r0 : 0 ≤ b % 8 := by omega
        have r1 : b % 8 < 8 := by omega
        generalize b / 8 = o at *
        generalize b % 8 = r at *
        rw [wr8 o0 (by omega), wr64 (x := o) (by omega) (by omega), wr64 (x := r) (by omega) (by omega)]
        have hz : szOf o r = 0 ∨ (szOf o r = 1 ∧ o = 0) ∨ (szOf o r = 2 ∧ o = 1) ∨ (szOf o r = 3 ∧ o = 8) ∨ (szOf o r = 3 ∧ o = 9 ∧ r < 6) ∨ (szOf o r = 1 ∧ r < 6 ∧ 2 ≤ o ∧ o ≤ 7) := by
          unfold szOf
          repeat' split
          all_goals omega
        rcases hz with hz | hz
        · simp [hz]
        · have z0 : szOf o r ≠ 0 := by omega
          have z1 : 1 ≤ szOf o r ∧ szOf o r ≤ 3 := by omega
          have w2 : IntKind.i64.wrap (at' + szOf o r) = at' + szOf o r := wr64 (by omega) (by omega)
          have w3 : IntKind.i64.wrap (at' + 1) = at' + 1 := wr64 (by omega) (by omega)
          have w4 : IntKind.i64.wrap (at' + 2) = at' + 2 := wr64 (by omega) (by omega)
          have w5 : IntKind.i64.wrap (at' + 3) = at' + 3 := wr64 (by omega) (by omega)
          rw [w2]
          by_cases hgo : at' + szOf o r > code.length
          · simp [beq_f z0, hgo]
          · have go : ∀ (cells' : List Int) (at2 box2 : Int), cells'.length = 6 → (∀ x ∈ cells', isV x) → isV box2 → 0 ≤ at2 → at2 ≤ 100000 → _ := fun cells' at2 box2 a1 a2 a3 a4 a5 => ih cells' at2 box2 (t + 1) a1 a2 a3 a4 a5 (by omega) (by omega) (by omega)
            have hreg : ∀ {x : Int}, 0 ≤ x → x < 6 → isV (cells.getD x.toNat 0) := fun a b => h2 _ (getD_mem a (by omega))
            have hset : ∀ x ∈ cells.set r.toNat box, isV x := fun x hx => by
              rcases List.mem_or_eq_of_mem_set hx with h | h
              · exact h2 x h
              · rw [h]; exact h3
            rcases hz with ⟨hz, ho⟩ | ⟨hz, ho⟩ | ⟨hz, ho⟩ | ⟨hz, ho, hr⟩ | ⟨hz, hr, ho, ho'⟩
            · subst ho
              simp only [hz] at *
              refine ⟨cells, 0, by omega, ?_, ?_⟩ <;> simp only [cond_true, cond_false, decide_false, Bool.not_true, Option.bind_some, Int.reduceBEq, hgo, Int.reduceToNat]
            · subst ho
              simp only [hz] at *
              have c1 := code_at (at' := at' + 1) hc (by omega) (by omega)
              have v1 := c1.1
              have v2 := c1.2
              obtain ⟨l, e, g0, g1, g2⟩ := go cells (at' + 2) (code.getD (at' + 1).toNat 0) h1 h2 ⟨v1, v2⟩ (by omega) (by omega)
              have b1 := inb_ok (show 0 ≤ at' + 1 by omega) (show at' + 1 < (code.length : Int) by omega)
              have x1 := wr64 (x := code.getD (at' + 1).toNat 0) (by omega) (by omega)
              refine ⟨l, e, g0, ?_, ?_⟩
              · rw [← g1]; simp only [cond_true, cond_false, decide_false, Bool.not_true, Option.bind_some, Int.reduceBEq, hgo, Int.reduceToNat, w3, w4, x1, b1]
              · rw [← g2]; simp only [cond_true, cond_false, decide_false, Int.reduceBEq, hgo, w3, w4, x1, b1]
            · subst ho
              simp only [hz] at *
              have c1 := code_at (at' := at' + 1) hc (by omega) (by omega)
              have v1 := c1.1
              have v2 := c1.2
              have c2 := code_at (at' := at' + 2) hc (by omega) (by omega)
              have u1 := c2.1
              have u2 := c2.2
              have b1 := inb_ok (show 0 ≤ at' + 1 by omega) (show at' + 1 < (code.length : Int) by omega)
              have b2 := inb_ok (show 0 ≤ at' + 2 by omega) (show at' + 2 < (code.length : Int) by omega)
              have x1 := wr64 (x := code.getD (at' + 1).toNat 0) (by omega) (by omega)
              have x2 := wr64 (x := code.getD (at' + 2).toNat 0) (by omega) (by omega)
              have x3 := shl8 c2
              have x4 := wr64 (x := code.getD (at' + 1).toNat 0 + 256 * code.getD (at' + 2).toNat 0) (by omega) (by omega)
              have x5 := wr64 (x := 256 * code.getD (at' + 2).toNat 0) (by omega) (by omega)
              obtain ⟨l, e, g0, g1, g2⟩ := go cells (code.getD (at' + 1).toNat 0 + 256 * code.getD (at' + 2).toNat 0) box h1 h2 h3 (by omega) (by omega)
              refine ⟨l, e, g0, ?_, ?_⟩
              · rw [← g1]; simp only [cond_true, cond_false, decide_false, Bool.not_true, Option.bind_some, Int.reduceBEq, hgo, Int.reduceToNat, w3, w4, w5, b1, b2, x1, x2, x3, x4]
              · rw [← g2]; simp only [cond_true, cond_false, decide_false, Int.reduceBEq, hgo, w3, w4, b1, b2, x1, x2, x4, x5]
            · subst ho
              simp only [hz] at *
              have c1 := code_at (at' := at' + 1) hc (by omega) (by omega)
              have v1 := c1.1
              have v2 := c1.2
              have c2 := code_at (at' := at' + 2) hc (by omega) (by omega)
              have u1 := c2.1
              have u2 := c2.2
              have b1 := inb_ok (show 0 ≤ at' + 1 by omega) (show at' + 1 < (code.length : Int) by omega)
              have b2 := inb_ok (show 0 ≤ at' + 2 by omega) (show at' + 2 < (code.length : Int) by omega)
              have b3 := inb_ok (n := cells.length) r0 (by omega)
              have x1 := wr64 (x := code.getD (at' + 1).toNat 0) (by omega) (by omega)
              have x2 := wr64 (x := code.getD (at' + 2).toNat 0) (by omega) (by omega)
              have x3 := shl8 c2
              have x4 := wr64 (x := code.getD (at' + 1).toNat 0 + 256 * code.getD (at' + 2).toNat 0) (by omega) (by omega)
              have x5 := wr64 (x := 256 * code.getD (at' + 2).toNat 0) (by omega) (by omega)
              have hr' : ¬ r ≥ 6 := by omega
              by_cases hd : cells.getD r.toNat 0 = 0
              · have hd' : (cells.getD r.toNat 0 == 0) = true := by rw [hd]; rfl
                obtain ⟨l, e, g0, g1, g2⟩ := go cells (code.getD (at' + 1).toNat 0 + 256 * code.getD (at' + 2).toNat 0) box h1 h2 h3 (by omega) (by omega)
                refine ⟨l, e, g0, ?_, ?_⟩
                · rw [← g1]; simp only [cond_true, cond_false, decide_false, Bool.not_true, Option.bind_some, Int.reduceBEq, hgo, w3, w4, w5, b1, b2, b3, x1, x2, x3, x4, hd']
                · rw [← g2]; simp only [cond_true, cond_false, decide_false, Int.reduceBEq, hgo, w3, w4, b1, b2, b3, x1, x2, x4, x5, hd']
              · have hd' := beq_f hd
                obtain ⟨l, e, g0, g1, g2⟩ := go cells (at' + 3) box h1 h2 h3 (by omega) (by omega)
                refine ⟨l, e, g0, ?_, ?_⟩
                · rw [← g1]; simp only [cond_true, cond_false, decide_false, Bool.not_true, Option.bind_some, Int.reduceBEq, hgo, w3, w4, w5, b1, b2, b3, x1, x2, x3, x4, hd']
                · rw [← g2]; simp only [cond_true, cond_false, decide_false, Int.reduceBEq, hgo, w3, w4, b1, b2, b3, x1, x2, x4, x5, hd']
            · simp only [hz] at *
              have b3 := inb_ok (n := cells.length) r0 (by omega)
              have hr' : ¬ r ≥ 6 := by omega
              have n0 := beq_f (show ¬ o = 0 by omega)
              have n1 := beq_f (show ¬ o = 1 by omega)
              have n8 := beq_f (show ¬ o = 8 by omega)
              have n9 := beq_f (show ¬ o = 9 by omega)
              by_cases h2o : o = 2
              · subst h2o
                obtain ⟨l, e, g0, g1, g2⟩ := go cells (at' + 1) (cells.getD r.toNat 0) h1 h2 (hreg r0 (by omega)) (by omega) (by omega)
                refine ⟨l, e, g0, ?_, ?_⟩
                · rw [← g1]; simp only [cond_true, cond_false, decide_false, Bool.not_true, Option.bind_some, Int.reduceBEq, hgo, w3, w4, b3]
                · rw [← g2]; simp only [cond_true, cond_false, decide_false, Int.reduceBEq, hgo, w3, w4, b3]
              · by_cases h3o : o = 3
                · subst h3o
                  obtain ⟨l, e, g0, g1, g2⟩ := go (cells.set r.toNat box) (at' + 1) box (by simpa using h1) hset h3 (by omega) (by omega)
                  refine ⟨l, e, g0, ?_, ?_⟩
                  · rw [← g1]; simp only [cond_true, cond_false, decide_false, Bool.not_true, Option.bind_some, Int.reduceBEq, hgo, w3, w4, b3]
                  · rw [← g2]; simp only [cond_true, cond_false, decide_false, Int.reduceBEq, hgo, w3, w4, b3]
                · have n2 := beq_f h2o
                  have n3 := beq_f h3o
                  have y1 : IntKind.i64.wrap (o - 4) = o - 4 := wr64 (by omega) (by omega)
                  have y2 : IntKind.i64.wrap (o - 4 + 3) = o - 1 := by rw [wr64 (by omega) (by omega)]; omega
                  have y3 : IntKind.i64.wrap (3 + o) = 3 + o := wr64 (by omega) (by omega)
                  have y4 : IntKind.i64.wrap (3 + o - 4) = o - 1 := by rw [wr64 (by omega) (by omega)]; omega
                  have hv := hreg r0 (by omega)
                  have d1 := do_F (nf := nf) (op := o - 1) h3 hv
                  have d2 := op_F (nf := nf) (op := o - 1) (by omega) (by omega) h3 hv
                  obtain ⟨l, e, g0, g1, g2⟩ := go cells (at' + 1) (opV (o - 1) box (cells.getD r.toNat 0)) h1 h2 (opV_isV _ _ _) (by omega) (by omega)
                  refine ⟨l, e, g0, ?_, ?_⟩
                  · rw [← g1]; simp only [cond_true, cond_false, decide_false, Bool.not_true, Option.bind_some, Int.reduceBEq, hgo, w3, w4, b3, n0, n1, n2, n3, n8, n9, y1, y2, d1]
                  · rw [← g2]; simp only [cond_true, cond_false, decide_false, Option.bind_some, Int.reduceBEq, hgo, w3, w4, b3, n0, n1, n2, n3, n8, n9, y3, y4, d2]
      · have hn : at' ≥ code.length := by omega
        simp [ht, mach_order_f, mach_order_p, hn]
    · simp [ht]

theorem haves_alike {cells have' : List Int} (hl : have'.length ≤ 6) (h : cells.length = 6) (hc : ∀ i, i < 6 → cells.getD i 0 = if i < have'.length then have'.getD i 0 else 0) :
    cells = have' ++ List.replicate (6 - have'.length) 0 := by
  refine List.ext_getElem (by simp; omega) fun i h1 h2 => ?_
  have := hc i (by omega)
  rw [List.getD_eq_getElem?_getD, List.getElem?_eq_getElem h1, Option.getD_some] at this
  rw [this]
  split
  · rename_i h3
    rw [List.getElem_append_left h3, List.getD_eq_getElem?_getD, List.getElem?_eq_getElem h3, Option.getD_some]
  · rename_i h3
    rw [List.getElem_append_right (by omega)]
    simp

theorem have_l0 {have' : List Int} (hl : have'.length ≤ 6) : ∀ (fu : Nat) (t : Int) (cells : List Int), 0 ≤ t → t ≤ have'.length → have'.length < t + fu → (cells.length = 6 ∧ ∀ i : Nat, i < 6 → cells.getD i 0 = if (i : Int) < t then have'.getD i 0 else 0) →
    ref_Machine_l0 nf code have' fu cells t = ref_Machine_l2 nf code nf (have' ++ List.replicate (6 - have'.length) 0) 0 0 0 := by
  intro fu t cells h0 h1 h2 h3
  have := loop_inv (n := (have'.length : Int)) (F := fun fu t cells => ref_Machine_l0 nf code have' fu cells t) (fun t cells => cells.length = 6 ∧ ∀ i : Nat, i < 6 → cells.getD i 0 = if (i : Int) < t then have'.getD i 0 else 0) (by
    intro fu t cells h0 h1 ⟨h2, h3⟩
    refine ⟨cells.set t.toNat (have'.getD t.toNat 0), ?_, by simpa using h2, fun i hi => ?_⟩
    · show ref_Machine_l0 nf code have' (fu + 1) cells t = _
      rw [ref_Machine_l0, ref_Machine_b0]
      simp only [h1, decide_true, cond_true, inb_ok h0 h1, inb_ok (n := cells.length) h0 (by omega), wr64 (x := t + 1) (by omega) (by omega)]
    · rw [getD_upd (by omega)]
      by_cases hh : i = t.toNat
      · rw [if_pos hh, if_pos (by omega), hh]
      · rw [if_neg hh, h3 i hi]
        by_cases hi2 : (i : Int) < t
        · rw [if_pos hi2, if_pos (by omega)]
        · rw [if_neg hi2, if_neg (by omega)]) fu t cells h0 h1 h2 h3
  obtain ⟨fu', s', ⟨g1, g2⟩, g3⟩ := this
  rw [show ref_Machine_l0 nf code have' fu cells t = _ from g3]
  show ref_Machine_l0 nf code have' (fu' + 1) s' (have'.length : Int) = _
  rw [ref_Machine_l0, ref_Machine_b0]
  have e := haves_alike hl g1 fun i hi => by
    rw [g2 i hi]
    by_cases h : i < have'.length
    · rw [if_pos (by omega), if_pos h]
    · rw [if_neg (by omega), if_neg h]
  rw [e]
  simp

theorem machRuns_aux (code have' : List Int) (hc : ∀ x ∈ code, isB x) (hh : have'.length ≤ maxLen) : law_MachRuns_f (have'.length + 20100) code have' = some (true, ()) := by
  simp only [law_MachRuns_f, law_MachRuns_p, mach_Run_f, mach_Run_p]
  have hnil : ref_Ints_f (have'.length + 20100) [] [] = some (true, ()) := by rw [ints_F [] [] (by simp) (by simp)]; rfl
  by_cases h1 : (code.length : Int) > 400
  · simp only [h1, decide_true, cond_true, Option.bind_some, show ((1 : Int) == 1) = true from rfl, hnil]
  · by_cases h2 : (have'.length : Int) > 6
    · simp only [h1, h2, decide_true, decide_false, cond_true, cond_false, Option.bind_some, show ((3 : Int) == 3) = true from rfl, hnil]
    · rw [have_F _ _ hh (by omega), haveCheck_F _ _ hh (by omega)]
      simp only [h1, h2, decide_false, cond_false, Option.bind_some]
      by_cases h3 : haveCode (have'.length : Int) have' = 0
      · obtain ⟨_, hv⟩ := haveCode_ok h3
        have hl : have'.length ≤ 6 := by omega
        have hm : (6 : Nat).min have'.length = have'.length := Nat.min_eq_right hl
        have hr : ref_Machine_f (have'.length + 20100) code have' = ref_Machine_l2 (have'.length + 20100) code (have'.length + 20100) (have' ++ List.replicate (6 - have'.length) 0) 0 0 0 := by
          simp only [ref_Machine_f, ref_Machine_p]
          refine have_l0 hl _ 0 _ (by omega) (by omega) (by omega) ⟨by simp, fun i hi => ?_⟩
          rw [if_neg (by omega)]
          rw [List.getD_eq_getElem?_getD, List.getElem?_replicate, if_pos hi]; rfl
        obtain ⟨l, er, g0, g1, g2⟩ := runs_alike (nf := have'.length + 20100) hc (by omega) (have'.length + 20100) (have' ++ List.replicate (6 - have'.length) 0) 0 0 0 (by simp; omega) (fun x hx => by
          rcases List.mem_append.1 hx with h | h
          · exact hv x h
          · rw [List.eq_of_mem_replicate h]; exact ⟨by omega, by omega⟩) ⟨by omega, by omega⟩ (by omega) (by omega) (by omega) (by omega) (by omega)
        rw [h3, hr]
        simp only [show ((0 : Int) != 0) = false from rfl, show ((0 : Int) == 0) = true from rfl, cond_false, cond_true]
        simp only [List.take_zero, List.nil_append, Option.getD_none, List.length_replicate, hm, Nat.zero_add, List.take_length, List.drop_replicate]
        rw [g1, g2]
        simp only [Option.bind_some, beq_self_eq_true, cond_true, ints_F (nf := have'.length + 20100) l l (Nat.le_trans g0 (by decide)) (show l.length < have'.length + 20100 by omega), decide_true]
      · simp only [bne_t h3, beq_f h3, cond_true, cond_false, Option.bind_some, beq_self_eq_true, hnil]

theorem machRuns_law (x : denPs (lawPs [.sl (.int .u8), .sl (.int .i64)])) (h : wfPs [.sl (.int .u8), .sl (.int .i64)] x) : ∃ n, law_MachRuns_F n x = some (true, ()) := by
  obtain ⟨code, have', _⟩ := x
  obtain ⟨⟨_, h1⟩, ⟨h2, _⟩, _⟩ := h
  refine ⟨_, machRuns_aux code have' (fun b hb => ?_) h2⟩
  obtain ⟨i, hi, rfl⟩ := List.mem_iff_getElem.1 hb
  have := h1 i hi
  have e : List.getD code i (dflt _) = code[i] := by simp [List.getD, hi]
  rw [e] at this
  have e1 : IntKind.u8.min = 0 := by decide
  have e2 : IntKind.u8.max = 255 := by decide
  have t1 := this.1
  have t2 := this.2
  rw [e1] at t1
  rw [e2] at t2
  exact ⟨t1, t2⟩
end Go.Proofs.Ytokjogplnoeicaa
