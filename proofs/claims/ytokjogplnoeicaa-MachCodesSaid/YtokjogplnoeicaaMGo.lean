/- The document's machine, order by order. -/
import Derived.Test.YtokjogplnoeicaaMToks
namespace Go.Proofs.Ytokjogplnoeicaa
open Go Go.Ab S

variable {nf : Nat} {n : Int} {p : List Blk} {code cells v : List Int} {at' box t : Int} {fu : Nat}

def isB (x : Int) : Prop := 0 ≤ x ∧ x ≤ 255
/-- the size of an order -/
def szOf (o r : Int) : Int := if o > 9 then 0 else if o = 0 then 1 else if o = 1 then 2 else if o = 8 then 3 else if r ≥ 6 then 0 else if o = 9 then 3 else 1
theorem wr64 {x : Int} (h0 : -100000000 ≤ x) (h1 : x ≤ 100000000) : IntKind.i64.wrap x = x := Go.IntWalk.i64_in _ ⟨by omega, by omega⟩
theorem wr8 {x : Int} (h0 : 0 ≤ x) (h1 : x ≤ 255) : IntKind.u8.wrap x = x := Go.IntWalk.u8_in _ ⟨by omega, by omega⟩
theorem size_all' : ∀ n : Fin 256, ref_OrderSize_f 0 ((n.val : Nat) : Int) = some (szOf (((n.val : Nat) : Int) / 8) (((n.val : Nat) : Int) % 8), ()) := by decide +kernel
theorem sizes {b : Int} (h : isB b) : ref_OrderSize_f nf b = some (szOf (b / 8) (b % 8), ()) := by
  have := size_all' ⟨b.toNat, by have := h.1; have := h.2; omega⟩
  rw [show ((b.toNat : Nat) : Int) = b by have := h.1; omega] at this
  exact this

/-- these bytes stand there -/
def Has (code : List Int) (at' : Int) (l : List Int) : Prop := 0 ≤ at' ∧ ∃ post, code.drop at'.toNat = l ++ post
theorem Has.head {x : Int} {l : List Int} (h : Has code at' (x :: l)) : at' < code.length ∧ code.getD at'.toNat 0 = x ∧ Has code (at' + 1) l := by
  obtain ⟨h0, post, hd⟩ := h
  have hl : at'.toNat < code.length := by
    rcases Nat.lt_or_ge at'.toNat code.length with h | h
    · exact h
    · rw [List.drop_eq_nil_of_le h] at hd; cases hd
  rw [List.drop_eq_getElem_cons hl, List.cons_append, List.cons.injEq] at hd
  refine ⟨by omega, by simp [List.getD, hl, hd.1], by omega, post, ?_⟩
  rw [show (at' + 1).toNat = at'.toNat + 1 by omega]
  exact hd.2
theorem Has.app {a l : List Int} (h : Has code at' (a ++ l)) : Has code (at' + a.length) l := by
  obtain ⟨h0, post, hd⟩ := h
  refine ⟨by omega, post, ?_⟩
  rw [show (at' + (a.length : Int)).toNat = at'.toNat + a.length by omega, ← List.drop_drop, hd, List.append_assoc, List.drop_left]
theorem Has.left {a l : List Int} (h : Has code at' (a ++ l)) : Has code at' a := by
  obtain ⟨h0, post, hd⟩ := h
  exact ⟨h0, l ++ post, by rw [hd, List.append_assoc]⟩

/-- what holds of bytes and cells all along -/
structure MOK (nf : Nat) (code : List Int) : Prop where
  bytes : ∀ x ∈ code, isB x
  few : code.length ≤ 400
structure Cells (cells : List Int) : Prop where
  len : cells.length = 6
  ok : ∀ x ∈ cells, isV x
theorem Cells.get (h : Cells cells) {i : Int} (h0 : 0 ≤ i) (h1 : i < 6) : isV (cells.getD i.toNat 0) := h.ok _ (getD_mem h0 (by rw [h.len]; omega))
theorem Cells.set (h : Cells cells) (i : Nat) {x : Int} (hx : isV x) : Cells (cells.set i x) := ⟨by rw [List.length_set]; exact h.len, fun y hy => by
  rcases List.mem_or_eq_of_mem_set hy with h1 | rfl
  · exact h.ok y h1
  · exact hx⟩

/-- an order, as far as its kind is known -/
theorem one (hM : MOK nf code) (h0 : 0 ≤ at') (h1 : at' < code.length) (ht : 0 ≤ t ∧ t < 20000) {o r : Int} (ho : 0 ≤ o ∧ o ≤ 9) (hr : 0 ≤ r ∧ r < 8) (hb : code.getD at'.toNat 0 = 8 * o + r) (hs : szOf o r ≠ 0) (hfit : at' + szOf o r ≤ code.length) :
    ref_Machine_l2 nf code (fu + 1) cells at' box t =
      if o = 0 then some (cells, 0, ()) else if o = 1 then ref_Machine_l2 nf code fu cells (at' + 2) (code.getD (at' + 1).toNat 0) (t + 1)
      else if o = 8 then ref_Machine_l2 nf code fu cells (code.getD (at' + 1).toNat 0 + 256 * code.getD (at' + 2).toNat 0) box (t + 1)
      else bif inb r cells.length then (
        if o = 2 then ref_Machine_l2 nf code fu cells (at' + 1) (cells.getD r.toNat 0) (t + 1)
        else if o = 3 then ref_Machine_l2 nf code fu (cells.set r.toNat box) (at' + 1) box (t + 1)
        else if o = 9 then (if cells.getD r.toNat 0 = 0 then ref_Machine_l2 nf code fu cells (code.getD (at' + 1).toNat 0 + 256 * code.getD (at' + 2).toNat 0) box (t + 1) else ref_Machine_l2 nf code fu cells (at' + 3) box (t + 1))
        else Option.bind (ref_Op_f nf (o - 1) box (cells.getD r.toNat 0)) fun r2 => ref_Machine_l2 nf code fu cells (at' + 1) r2.1 (t + 1)) else none := by
  have hl := hM.few
  have hB := hM.bytes _ (getD_mem (d := 0) h0 h1)
  have hsz := sizes (nf := nf) hB
  have d1 : code.getD at'.toNat 0 / 8 = o := by omega
  have d2 : code.getD at'.toNat 0 % 8 = r := by omega
  have e1 : Int.tdiv (code.getD at'.toNat 0) 8 = o := by rw [Int.tdiv_eq_ediv_of_nonneg hB.1, d1]
  have e2 : Int.tmod (code.getD at'.toNat 0) 8 = r := by rw [Int.tmod_eq_emod_of_nonneg hB.1, d2]
  have e3 : IntKind.i64.wrap (code.getD at'.toNat 0) = code.getD at'.toNat 0 := wr64 (by have := hB.1; omega) (by have := hB.2; omega)
  rw [d1, d2] at hsz
  have hn : ¬ at' ≥ code.length := by omega
  have hs3 : szOf o r ≤ 3 := by unfold szOf; (repeat' split) <;> omega
  have hs1 : 0 ≤ szOf o r := by unfold szOf; (repeat' split) <;> omega
  have hfit' : ¬ at' + szOf o r > (code.length : Int) := by omega
  rw [ref_Machine_l2, ref_Machine_b2]
  simp only [ht.2, decide_true, cond_true, hn, decide_false, cond_false, inb_ok h0 h1, hsz, Option.bind_some, e1, e2, e3, beq_f hs, wr64 (x := at' + szOf o r) (by omega) (by omega), hfit', wr64 (x := t + 1) (by omega) (by omega), wr64 (x := at' + 1) (by omega) (by omega), wr64 (x := at' + 2) (by omega) (by omega), wr64 (x := o) (by omega) (by omega), wr64 (x := r) (by omega) (by omega)]
  have hby : ∀ k : Int, 0 ≤ k → k < code.length → IntKind.i64.wrap (code.getD k.toNat 0) = code.getD k.toNat 0 ∧ 0 ≤ code.getD k.toNat 0 ∧ code.getD k.toNat 0 ≤ 255 := fun k k0 k1 => by
    have := hM.bytes _ (getD_mem (d := 0) k0 k1)
    exact ⟨wr64 (by have := this.1; omega) (by have := this.2; omega), this.1, this.2⟩
  by_cases c3 : szOf o r = 3
  · have i1 : inb (at' + 1) code.length = true := inb_ok (by omega) (by omega)
    have i2 : inb (at' + 2) code.length = true := inb_ok (by omega) (by omega)
    obtain ⟨a1, a2, a3⟩ := hby (at' + 1) (by omega) (by omega)
    obtain ⟨b1, b2, b3⟩ := hby (at' + 2) (by omega) (by omega)
    have ho9 : o = 8 ∨ o = 9 := by
      unfold szOf at c3
      (repeat' split at c3) <;> omega
    have hw : IntKind.i64.wrap (IntKind.i64.wrap (code.getD (at' + 1).toNat 0) + IntKind.i64.wrap (256 * IntKind.i64.wrap (code.getD (at' + 2).toNat 0))) = code.getD (at' + 1).toNat 0 + 256 * code.getD (at' + 2).toNat 0 := by
      rw [a1, b1, wr64 (x := 256 * code.getD (at' + 2).toNat 0) (by omega) (by omega), wr64 (by omega) (by omega)]
    rcases ho9 with rfl | rfl
    · simp only [c3, show ((3 : Int) == 3) = true from rfl, i1, i2, cond_true, hw, Int.reduceBEq, cond_false, Int.reduceEq, if_false, if_true]
    · simp only [c3, show ((3 : Int) == 3) = true from rfl, i1, i2, cond_true, hw, Int.reduceBEq, cond_false, Int.reduceEq, if_false, if_true]
      by_cases hc : cells.getD r.toNat 0 = 0
      · simp only [hc, beq_self_eq_true, cond_true, if_true]
      · simp only [hc, beq_f hc, cond_false, if_false]
  · rw [beq_f c3, cond_false]
    have hne : o ≠ 8 ∧ o ≠ 9 := by
      refine ⟨fun h => c3 ?_, fun h => ?_⟩
      · subst h; rfl
      · subst h
        unfold szOf at hs c3
        simp at hs c3
        omega
    by_cases o0 : o = 0
    · subst o0; simp only [beq_self_eq_true, cond_true, if_true]
    · rw [beq_f o0, cond_false, if_neg o0]
      by_cases o1 : o = 1
      · subst o1
        have hz : szOf 1 r = 2 := rfl
        rw [hz] at hfit ⊢
        obtain ⟨a1, _, _⟩ := hby (at' + 1) (by omega) (by omega)
        simp only [inb_ok (t := at' + 1) (n := code.length) (by omega) (by omega), a1, beq_self_eq_true, cond_true, if_true]
      · have hz : szOf o r = 1 := by
          unfold szOf at hs c3 ⊢
          simp only [o0, o1, hne.1, hne.2, if_false] at hs c3 ⊢
          (repeat' split) <;> first | rfl | (simp_all; done) | omega
        rw [beq_f o1, cond_false, if_neg o1, hz, if_neg hne.1, beq_f hne.1, beq_f hne.2]
        by_cases o2 : o = 2
        · subst o2; simp only [beq_self_eq_true, cond_true, if_true]
        · rw [beq_f o2, cond_false]
          by_cases o3 : o = 3
          · subst o3; simp only [beq_self_eq_true, cond_true, if_true, Int.reduceEq, if_false]
          · rw [beq_f o3]
            simp only [cond_false, o2, o3, hne.2, if_false]
            rw [wr64 (x := 3 + o) (by omega) (by omega), wr64 (x := 3 + o - 4) (by omega) (by omega), show 3 + o - 4 = o - 1 by omega]

/-! orders of a step -/
theorem at_lt (hM : MOK nf code) {x : Int} {l : List Int} (h : Has code at' (x :: l)) : at' < code.length ∧ 0 ≤ at' := ⟨h.head.1, h.1⟩
theorem has_len {l : List Int} (h : Has code at' l) (hne : l ≠ []) : at' + l.length ≤ code.length := by
  obtain ⟨h0, post, hd⟩ := h
  have h1 : (code.drop at'.toNat).length = (l ++ post).length := by rw [hd]
  have h2 : 1 ≤ l.length := by cases l with | nil => exact absurd rfl hne | cons _ _ => simp
  rw [List.length_drop, List.length_append] at h1
  omega
theorem o_num (hM : MOK nf code) (ht : 0 ≤ t ∧ t < 20000) {x : Int} {l : List Int} (h : Has code at' (8 :: x :: l)) : ref_Machine_l2 nf code (fu + 1) cells at' box t = ref_Machine_l2 nf code fu cells (at' + 2) x (t + 1) := by
  have h1 := h.head
  have hl := has_len h (by simp)
  simp only [List.length_cons] at hl
  rw [one hM h.1 h1.1 ht (o := 1) (r := 0) (by omega) (by omega) (by rw [h1.2.1]; rfl) (by decide) (by have : szOf 1 0 = 2 := rfl; omega)]
  simp only [Int.reduceEq, if_false, if_true, h1.2.2.head.2.1]
theorem o_get (hM : MOK nf code) (hC : Cells cells) (ht : 0 ≤ t ∧ t < 20000) {i : Int} (hi : 0 ≤ i ∧ i < 6) {l : List Int} (h : Has code at' ((16 + i) :: l)) : ref_Machine_l2 nf code (fu + 1) cells at' box t = ref_Machine_l2 nf code fu cells (at' + 1) (cells.getD i.toNat 0) (t + 1) := by
  have h1 := h.head
  have hz : szOf 2 i = 1 := by unfold szOf; simp; omega
  rw [one hM h.1 h1.1 ht (o := 2) (r := i) (by omega) (by omega) (by rw [h1.2.1]; omega) (by omega) (by omega)]
  simp only [Int.reduceEq, if_false, if_true, inb_ok (t := i) (n := cells.length) hi.1 (by rw [hC.len]; omega), cond_true]
theorem o_put (hM : MOK nf code) (hC : Cells cells) (ht : 0 ≤ t ∧ t < 20000) {i : Int} (hi : 0 ≤ i ∧ i < 6) {l : List Int} (h : Has code at' ((24 + i) :: l)) : ref_Machine_l2 nf code (fu + 1) cells at' box t = ref_Machine_l2 nf code fu (cells.set i.toNat box) (at' + 1) box (t + 1) := by
  have h1 := h.head
  have hz : szOf 3 i = 1 := by unfold szOf; simp; omega
  rw [one hM h.1 h1.1 ht (o := 3) (r := i) (by omega) (by omega) (by rw [h1.2.1]; omega) (by omega) (by omega)]
  simp only [Int.reduceEq, if_false, if_true, inb_ok (t := i) (n := cells.length) hi.1 (by rw [hC.len]; omega), cond_true]
theorem o_op (hM : MOK nf code) (hC : Cells cells) (hb : isV box) (ht : 0 ≤ t ∧ t < 20000) {op i : Int} (ho : 3 ≤ op ∧ op ≤ 6) (hi : 0 ≤ i ∧ i < 6) {l : List Int} (h : Has code at' ((8 * (op + 1) + i) :: l)) : ref_Machine_l2 nf code (fu + 1) cells at' box t = ref_Machine_l2 nf code fu cells (at' + 1) (opV op box (cells.getD i.toNat 0)) (t + 1) := by
  have h1 := h.head
  have hz : szOf (op + 1) i = 1 := by unfold szOf; (repeat' split) <;> omega
  rw [one hM h.1 h1.1 ht (o := op + 1) (r := i) (by omega) (by omega) (by rw [h1.2.1]) (by omega) (by omega)]
  rw [if_neg (by omega), if_neg (by omega), if_neg (by omega), inb_ok (t := i) (n := cells.length) hi.1 (by rw [hC.len]; omega), cond_true, if_neg (by omega), if_neg (by omega), if_neg (by omega), show op + 1 - 1 = op by omega, op_F ho.1 ho.2 hb (hC.get hi.1 hi.2), Option.bind_some]
theorem o_go (hM : MOK nf code) (ht : 0 ≤ t ∧ t < 20000) {x y : Int} {l : List Int} (h : Has code at' (64 :: x :: y :: l)) : ref_Machine_l2 nf code (fu + 1) cells at' box t = ref_Machine_l2 nf code fu cells (x + 256 * y) box (t + 1) := by
  have h1 := h.head
  have hl := has_len h (by simp)
  simp only [List.length_cons] at hl
  have h2 := h1.2.2.head
  have h3 := h2.2.2.head
  rw [show at' + 1 + 1 = at' + 2 by omega] at h3
  rw [one hM h.1 h1.1 ht (o := 8) (r := 0) (by omega) (by omega) (by rw [h1.2.1]; rfl) (by decide) (by have : szOf 8 0 = 3 := rfl; omega)]
  simp only [Int.reduceEq, if_false, if_true, h2.2.1, h3.2.1]
theorem o_zero (hM : MOK nf code) (hC : Cells cells) (ht : 0 ≤ t ∧ t < 20000) {i x y : Int} (hi : 0 ≤ i ∧ i < 6) {l : List Int} (h : Has code at' ((72 + i) :: x :: y :: l)) : ref_Machine_l2 nf code (fu + 1) cells at' box t = if cells.getD i.toNat 0 = 0 then ref_Machine_l2 nf code fu cells (x + 256 * y) box (t + 1) else ref_Machine_l2 nf code fu cells (at' + 3) box (t + 1) := by
  have h1 := h.head
  have hl := has_len h (by simp)
  simp only [List.length_cons] at hl
  have h2 := h1.2.2.head
  have h3 := h2.2.2.head
  rw [show at' + 1 + 1 = at' + 2 by omega] at h3
  have hz : szOf 9 i = 3 := by unfold szOf; simp; omega
  rw [one hM h.1 h1.1 ht (o := 9) (r := i) (by omega) (by omega) (by rw [h1.2.1]; omega) (by omega) (by omega)]
  simp only [Int.reduceEq, if_false, if_true, inb_ok (t := i) (n := cells.length) hi.1 (by rw [hC.len]; omega), cond_true, h2.2.1, h3.2.1]
theorem o_stop (hM : MOK nf code) (ht : 0 ≤ t ∧ t < 20000) {l : List Int} (h : Has code at' (0 :: l)) : ref_Machine_l2 nf code (fu + 1) cells at' box t = some (cells, 0, ()) := by
  have h1 := h.head
  have hl := has_len h (by simp)
  simp only [List.length_cons] at hl
  rw [one hM h.1 h1.1 ht (o := 0) (r := 0) (by omega) (by omega) (by rw [h1.2.1]; rfl) (by decide) (by have : szOf 0 0 = 1 := rfl; omega)]
  simp only [if_true]

/-- cells that hold the variables -/
structure Rel (n : Int) (v cells : List Int) : Prop where
  vars : Vars n v
  cs : Cells cells
  eq : ∀ i : Int, 0 ≤ i → i < n → cells.getD i.toNat 0 = v.getD i.toNat 0
theorem Rel.set (h : Rel n v cells) (hn6 : n ≤ 6) {i x : Int} (hi : 0 ≤ i ∧ i < n) (hx : isV x) : Rel n (v.set i.toNat x) (cells.set i.toNat x) := by
  refine ⟨h.vars.set _ hx, h.cs.set _ hx, fun j h0 h1 => ?_⟩
  have hl := h.vars.len
  have := h.eq j h0 h1
  have h6 := h.cs.len
  by_cases e : i.toNat = j.toNat
  · have hv : j.toNat < v.length := by omega
    have hc : j.toNat < cells.length := by omega
    simp [List.getD_eq_getElem?_getD, List.getElem?_set, e, hv, hc]
  · rw [List.getD_eq_getElem?_getD, List.getElem?_set, if_neg e, ← List.getD_eq_getElem?_getD, this]
    simp [List.getD_eq_getElem?_getD, List.getElem?_set, e]

theorem step_run (hM : MOK nf code) (hn6 : n ≤ 6) {s : Step6} (hs : stepCode n n s = 0) (hR : Rel n v cells) (ht : 0 ≤ t ∧ t + 3 ≤ 20000) {l : List Int} (h : Has code at' (stepB s ++ l)) :
    ∃ box' k, k ≤ 3 ∧ ∃ cells', Rel n (stpDo v s) cells' ∧ ∀ fu, ref_Machine_l2 nf code (fu + k) cells at' box t = ref_Machine_l2 nf code fu cells' (at' + (stepB s).length) box' (t + k) := by
  obtain ⟨op, to, a, b, k, u⟩ := s
  obtain ⟨o1, o6, k1, k2, r1, k3⟩ := stepCode_ok hs
  have hC := hR.cs
  unfold stepB stpDo at *
  simp only at *
  by_cases c1 : op = 1
  · rw [if_pos c1] at h ⊢
    rw [if_pos c1]
    simp only [List.cons_append, List.nil_append] at h
    have hk := k1 c1
    have h2 := h.head.2.2.head.2.2
    rw [show at' + 1 + 1 = at' + 2 by omega] at h2
    refine ⟨k, 2, by omega, _, hR.set hn6 r1 hk, fun fu => ?_⟩
    rw [show fu + 2 = (fu + 1) + 1 from rfl, o_num hM ⟨ht.1, by omega⟩ h, o_put hM hC ⟨by omega, by omega⟩ ⟨r1.1, by omega⟩ h2]
    simp only [List.length_cons, List.length_nil]
    congr 1 <;> omega
  · rw [if_neg c1] at h ⊢
    rw [if_neg c1]
    by_cases c2 : op = 2
    · rw [if_pos c2] at h ⊢
      rw [if_pos c2]
      simp only [List.cons_append, List.nil_append] at h
      have hk := k2 c2
      refine ⟨v.getD k.toNat 0, 2, by omega, _, hR.set hn6 r1 (hR.vars.get hk.1 hk.2), fun fu => ?_⟩
      rw [show fu + 2 = (fu + 1) + 1 from rfl, o_get hM hC ⟨ht.1, by omega⟩ ⟨hk.1, by omega⟩ h, o_put hM hC ⟨by omega, by omega⟩ ⟨r1.1, by omega⟩ h.head.2.2, hR.eq k hk.1 hk.2]
      simp only [List.length_cons, List.length_nil]
      congr 1 <;> omega
    · rw [if_neg c2] at h ⊢
      rw [if_neg c2]
      simp only [List.cons_append, List.nil_append] at h
      obtain ⟨a0, a1, b0, b1⟩ := k3 (by omega)
      have va := hR.vars.get a0 a1
      refine ⟨opV op (v.getD a.toNat 0) (v.getD b.toNat 0), 3, by omega, _, hR.set hn6 r1 (opV_isV op _ _), fun fu => ?_⟩
      rw [show fu + 3 = ((fu + 1) + 1) + 1 from rfl, o_get hM hC ⟨ht.1, by omega⟩ ⟨a0, by omega⟩ h, hR.eq a a0 a1, o_op hM hC va ⟨by omega, by omega⟩ ⟨by omega, o6⟩ ⟨b0, by omega⟩ h.head.2.2, hR.eq b b0 b1,
        o_put hM hC ⟨by omega, by omega⟩ ⟨r1.1, by omega⟩ h.head.2.2.head.2.2]
      simp only [List.length_cons, List.length_nil]
      congr 1 <;> omega

theorem steps_run (hM : MOK nf code) (hn6 : n ≤ 6) : ∀ (c : List Step6) (v cells : List Int) (at' box t : Int) (l : List Int), (∀ s ∈ c, stepCode n n s = 0) → Rel n v cells → 0 ≤ t → t + 3 * c.length ≤ 20000 → Has code at' (c.flatMap stepB ++ l) →
    ∃ box' k, k ≤ 3 * c.length ∧ ∃ cells', Rel n (c.foldl stpDo v) cells' ∧ ∀ fu, ref_Machine_l2 nf code (fu + k) cells at' box t = ref_Machine_l2 nf code fu cells' (at' + (c.flatMap stepB).length) box' (t + k)
  | [], v, cells, at', box, t, l, _, hR, _, _, _ => ⟨box, 0, by simp, cells, hR, fun fu => by simp⟩
  | s :: c, v, cells, at', box, t, l, hc, hR, h0, h1, h => by
    simp only [List.flatMap_cons, List.append_assoc, List.length_cons] at h h1
    have hs := hc s (by simp)
    obtain ⟨box1, k1, q1, cells1, hR1, e1⟩ := step_run (box := box) hM hn6 hs hR ⟨h0, by omega⟩ h
    obtain ⟨box2, k2, q2, cells2, hR2, e2⟩ := steps_run hM hn6 c _ cells1 _ box1 (t + k1) l (fun s hs => hc s (by simp [hs])) hR1 (by omega) (by omega) h.app
    refine ⟨box2, k2 + k1, by simp only [List.length_cons]; omega, cells2, hR2, fun fu => ?_⟩
    rw [← Nat.add_assoc, e1 (fu + k2), e2 fu]
    simp only [List.flatMap_cons, List.length_append]
    congr 1 <;> omega
end Go.Proofs.Ytokjogplnoeicaa
