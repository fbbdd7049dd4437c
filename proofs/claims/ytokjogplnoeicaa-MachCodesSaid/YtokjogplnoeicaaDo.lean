/- Steps that are done on variables. -/
import Derived.Test.YtokjogplnoeicaaBlk
namespace Go.Proofs.Ytokjogplnoeicaa
open Go Go.Ab S

variable {nf : Nat} {p : List Blk}

theorem progCode_ok {vars : Int} (h : progCode vars p = 0) : 1 ≤ vars ∧ vars ≤ 6 ∧ 1 ≤ p.length ∧ p.length ≤ 8 ∧ blocksGo vars p.length p = 0 := by
  unfold progCode at h
  split at h
  · omega
  · exact ⟨by omega, by omega, by omega, by omega, h⟩
theorem blocksGo_ok {vars n : Int} : ∀ {l : List Blk}, blocksGo vars n l = 0 → ∀ b ∈ l, blockCode vars n b = 0
  | [], _, b, hb => by cases hb
  | x :: r, h, b, hb => by
    simp only [blocksGo] at h
    split at h
    · rename_i h1
      rcases List.mem_cons.1 hb with rfl | hb
      · exact h1
      · exact blocksGo_ok h b hb
    · rename_i h1; exact absurd h h1
/-- what is so of a block that may be -/
theorem blockCode_ok {vars n : Int} {b : Blk} (h : blockCode vars n b = 0) : stepsGo vars vars b.1 = 0 ∧ -1 ≤ b.2.1 ∧ b.2.1 < vars ∧ ((0 ≤ b.2.2.1 ∧ b.2.2.1 < n) ∨ (b.2.2.1 = -1 ∧ b.2.1 < 0)) ∧ (b.2.1 ≥ 0 → 0 ≤ b.2.2.2.1 ∧ b.2.2.2.1 < n) := by
  unfold blockCode at h
  split at h
  · rename_i h0
    split at h
    · omega
    · split at h
      · omega
      · refine ⟨h0, by omega, by omega, by omega, fun h => by omega⟩
  · rename_i h0; exact absurd h h0


/-- what variables have: values, n of them -/
structure Vars (n : Int) (v : List Int) : Prop where
  len : (v.length : Int) = n
  ok : ∀ x ∈ v, isV x
theorem Vars.get {n : Int} {v : List Int} (h : Vars n v) {i : Int} (h0 : 0 ≤ i) (h1 : i < n) : isV (v.getD i.toNat 0) := h.ok _ (getD_mem h0 (by rw [h.len]; exact h1))
theorem Vars.set {n : Int} {v : List Int} (h : Vars n v) (i : Nat) {x : Int} (hx : isV x) : Vars n (v.set i x) := by
  refine ⟨by simpa using h.len, fun y hy => ?_⟩
  rcases List.mem_or_eq_of_mem_set hy with h2 | rfl
  · exact h.ok y h2
  · exact hx
theorem Vars.inb {n : Int} {v : List Int} (h : Vars n v) {i : Int} (h0 : 0 ≤ i) (h1 : i < n) : inb i v.length = true := inb_ok h0 (by rw [h.len]; exact h1)

theorem stepsGo_all {vars regs : Int} : ∀ {l : List Step6}, stepsGo vars regs l = 0 → ∀ s ∈ l, stepCode vars regs s = 0
  | [], _, s, h => by cases h
  | k :: r, h, s, hs => by
    simp only [stepsGo] at h
    split at h
    · rename_i h1
      rcases List.mem_cons.1 hs with rfl | hs
      · exact h1
      · exact stepsGo_all h s hs
    · rename_i h1; exact absurd h h1

def stpDo (w : List Int) (s : Step6) : List Int := w.set s.2.1.toNat (if s.1 = 1 then s.2.2.2.2.1 else if s.1 = 2 then w.getD s.2.2.2.2.1.toNat 0 else opV s.1 (w.getD s.2.2.1.toNat 0) (w.getD s.2.2.2.1.toNat 0))

theorem stpDo_vars {n : Int} {w : List Int} (hw : Vars n w) {s : Step6} (h : stepCode n n s = 0) : Vars n (stpDo w s) := by
  obtain ⟨op, to, a, b, k, u⟩ := s
  obtain ⟨h1, h2, h3, h4, h5, h6⟩ := stepCode_ok h
  refine hw.set _ ?_
  simp only
  split
  · rename_i ho; exact h3 ho
  · split
    · rename_i ho; have := h4 ho; exact hw.get this.1 this.2
    · exact opV_isV _ _ _

theorem do_l0 {n : Int} {code : List Step6} (hc : ∀ s ∈ code, stepCode n n s = 0) (hm : code.length ≤ maxLen) : ∀ (fu : Nat) (w : List Int) (t : Int), Vars n w → 0 ≤ t → t ≤ code.length → code.length < t + fu →
    block_Do_l0 nf code fu w t = some ((code.drop t.toNat).foldl stpDo w, ()) ∧ ref_Doing_l0 nf code fu w t = some ((code.drop t.toNat).foldl stpDo w, ()) ∧ Vars n ((code.drop t.toNat).foldl stpDo w) := by
  intro fu
  induction fu with
  | zero => intro w t hw h1 h2 h3; omega
  | succ fu ih =>
    intro w t hw h1 h2 h3
    rw [block_Do_l0, block_Do_b0, ref_Doing_l0, ref_Doing_b0]
    by_cases ht : t < code.length
    · have hs := hc _ (getD_mem (d := ((0 : Int), (0 : Int), (0 : Int), (0 : Int), (0 : Int), ())) h1 ht)
      obtain ⟨i1, i2, i3⟩ := ih _ (t + 1) (stpDo_vars hw hs) (by omega) (by omega) (by omega)
      rw [drop_step code t (0, 0, 0, 0, 0, ()) h1 ht]
      simp only [List.foldl_cons]
      refine ⟨Eq.trans ?_ i1, Eq.trans ?_ i2, i3⟩
      all_goals
        simp only [ht, decide_true, cond_true, inb_ok h1 ht, wrap_step h1 ht hm]
        clear i1 i2 i3
        generalize code.getD t.toNat (0, 0, 0, 0, 0, ()) = s at *
        obtain ⟨op, to, x, y, k, u⟩ := s
        obtain ⟨o1, o2, k1, k2, r1, k3⟩ := stepCode_ok hs
        have b0 := hw.inb r1.1 r1.2
        by_cases c1 : op = 1
        · simp only [c1, cond_true, cond_false, Int.reduceBEq, b0, stpDo, if_true, Int.reduceGE, decide_false]
        · by_cases c2 : op = 2
          · have k2' := k2 c2
            simp only [c2, cond_true, cond_false, Int.reduceBEq, b0, hw.inb k2'.1 k2'.2, stpDo, if_true, Int.reduceEq, if_false, Int.reduceGE, decide_false]
          · have k3' := k3 (by omega)
            have va := hw.get k3'.1 k3'.2.1
            have vb := hw.get k3'.2.2.1 k3'.2.2.2
            have b1 := hw.inb k3'.1 k3'.2.1
            have b2 := hw.inb k3'.2.2.1 k3'.2.2.2
            have d1 := do_F (nf := nf) (op := op) va vb
            have d2 := op_F (nf := nf) (op := op) (by omega) (by omega) va vb
            simp only [beq_f c1, beq_f c2, cond_true, cond_false, b0, b1, b2, d1, d2, Option.bind_some, stpDo, c1, c2, if_false, show op ≥ 3 by omega, decide_true]
    · have he : code.drop t.toNat = [] := List.drop_eq_nil_of_le (by omega)
      simp only [ht, decide_false, cond_false, he, List.foldl_nil]
      exact ⟨trivial, trivial, hw⟩

theorem doing_F {n : Int} {code : List Step6} (h1 : 1 ≤ n) (h6 : n ≤ 6) (hc : ∀ s ∈ code, stepCode n n s = 0) (hm : code.length ≤ maxLen) (hf : code.length < nf) {w : List Int} (hw : Vars n w) :
    block_Do_f nf code w = some (code.foldl stpDo w, ()) ∧ ref_Doing_f nf code w = some (code.foldl stpDo w, ()) ∧ Vars n (code.foldl stpDo w) := by
  obtain ⟨d1, d2, d3⟩ := do_l0 (nf := nf) hc hm nf w 0 hw (by omega) (by omega) (by omega)
  rw [Int.toNat_zero, List.drop_zero] at d1 d2 d3
  have hwn : (bimp false (!w.isEmpty) && Nat.ble ((List.length ([] : List Unit)) + w.length) lim) = true := by
    have : (!w.isEmpty) = true := by
      cases w with
      | nil => have := hw.len; simp at this; omega
      | cons x r => rfl
    rw [this, ble_ok (by have := hw.len; simp; omega)]; rfl
  refine ⟨d1, ?_, d3⟩
  simp only [ref_Doing_f, ref_Doing_p, hwn, cond_true]
  exact d2
end Go.Proofs.Ytokjogplnoeicaa
