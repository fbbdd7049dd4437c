/- Ways: by which pairs one goes back. -/
import Derived.Test.YtccbcbhiblohgaaDfs
namespace Go.Proofs.Ytccbcbhiblohgaa
open Go Go.Ab S

variable {next : List (List Int)} {nf : Nat}

/-- the nodes as they are left -/
def leftOf (next : List (List Int)) : List Int := (dfs next next.length 0 ([], [])).2

theorem walked (hW : WayOK next) : Went next next.length 0 ([], []) :=
  went hW next.length 0 ([], []) ⟨⟨by simp, by simp⟩, by simp, by simp⟩ (Int.le_refl _) (by have := hW.pos; omega) (by simp) (by simp)
theorem leftOf_ok (hW : WayOK next) : Nodes next.length (leftOf next) :=
  have h := (walked hW).ok
  ⟨h.once, fun x hx => h.seen.good x (h.sub x hx)⟩
theorem ref_walk (hW : WayOK next) (hn : 30 ≤ nf) : ∃ s, ref_Walk_F nf (next, 0, [], [], ()) = some (s, leftOf next, ()) :=
  ⟨_, (walked hW).ref nf (by have := hW.few; omega)⟩
theorem own_walk (hW : WayOK next) (hn : 30 ≤ nf) : way_walk_f nf next = some (leftOf next, ()) := by
  have h8 := hW.few
  obtain ⟨S', _, h⟩ := (walked hW).own (List.replicate next.length false) ⟨by simp, fun k hk => by simp [List.getD_eq_getElem?_getD, hk]⟩
  unfold way_walk_f
  simp only [Int.toNat_natCast, Int.le_refl, Int.natCast_nonneg, decide_true, Bool.true_and]
  rw [h nf (by omega), decide_eq_true (show (next.length : Int) ≤ (lim : Int) by simp [lim]; omega)]
  rfl

/-- where it stands -/
def posI (l : List Int) (x : Int) : Int := if x ∈ l then (l.idxOf x : Int) else -1
theorem posI_pos {l : List Int} {x : Int} : 0 ≤ posI l x ↔ x ∈ l := by
  unfold posI; split
  · rename_i h; exact ⟨fun _ => h, fun _ => by omega⟩
  · rename_i h; exact ⟨fun h => by omega, fun h' => absurd h' h⟩
theorem posI_snoc {l : List Int} {i : Int} (h : i ∉ l) (x : Int) : posI (l ++ [i]) x = if x = i then (l.length : Int) else posI l x := by
  unfold posI
  by_cases hx : x = i
  · subst hx
    rw [if_pos rfl, if_pos (by simp), List.idxOf_append, if_neg h]
    simp
  · rw [if_neg hx]
    simp only [List.mem_append, List.mem_singleton, hx, or_false]
    split
    · rename_i h1; rw [List.idxOf_append, if_pos h1]
    · rfl
theorem goL_pos {x : Int} (step : Int → Int → Unit → (Unit → Option (Int × Unit)) → Option (Int × Unit)) (h : ∀ y t k, step y t () k = if y = x then some (t, ()) else k ()) : ∀ (l : List Int) (t : Int),
    goL step (fun _ => some (-1, ())) l t () = some (if x ∈ l then t + (l.idxOf x : Int) else -1, ())
  | [], t => rfl
  | y :: r, t => by
    simp only [goL, h, goL_pos step h r]
    by_cases hy : y = x
    · subst hy; simp
    · have hyx : ¬ x = y := fun h => hy h.symm
      simp only [hy, if_false, List.mem_cons, hyx, false_or, List.idxOf_cons]
      have : (y == x) = false := by simpa using hy
      rw [this]
      split
      · simp; omega
      · rfl
theorem index_F (l : List Int) (x : Int) (hl : l.length ≤ maxLen) (hf : l.length < nf) : slices_Index_f nf l x = some (posI l x, ()) := by
  have h := loop_all (l := l) (d := 0) (F := fun fu t (_ : Unit) => slices_Index_l0 nf l x fu t) (fin := fun _ => some (-1, ()))
    (step := fun y t s k => bif x == y then some (t, ()) else k s) ?_ ?_ nf () hf
  · refine h.trans ((goL_pos (x := x) _ (fun y t k => ?_) l 0).trans ?_)
    · by_cases hy : y = x
      · subst hy; simp
      · have : (x == y) = false := by simpa using fun h => hy h.symm
        simp [hy, this]
    · simp [posI]
  · intro fu t s a b
    simp only [slices_Index_l0, slices_Index_b0, inb_ok a b, wrap_step a b hl, b, decide_true, cond_true]
  · intro fu t s a
    simp [slices_Index_l0, slices_Index_b0, a]
theorem contains2_F (l : List Int) (x : Int) (hl : l.length ≤ maxLen) (hf : l.length < nf) : slices_Contains_f nf l x = some (decide (x ∈ l), ()) := by
  simp only [slices_Contains_f, slices_Contains_p, index_F l x hl hf, Option.bind_some, ge_iff_le, posI_pos]
theorem pairs1_F (l : List Int) (x : Int) (hl : l.length ≤ maxLen) (hf : l.length < nf) : ref_BackPairs_1_f nf x l = some (posI l x, ()) := by
  have h := loop_all (l := l) (d := 0) (F := fun fu t (_ : Unit) => ref_BackPairs_1_l0 nf x l fu t) (fin := fun _ => some (-1, ()))
    (step := fun y t s k => bif y == x then some (t, ()) else k s) ?_ ?_ nf () hf
  · refine h.trans ((goL_pos (x := x) _ (fun y t k => ?_) l 0).trans ?_)
    · by_cases hy : y = x
      · subst hy; simp
      · have : (y == x) = false := by simpa using hy
        simp [hy, this]
    · simp [posI]
  · intro fu t s a b
    simp only [ref_BackPairs_1_l0, ref_BackPairs_1_b0, inb_ok a b, wrap_step a b hl, b, decide_true, cond_true]
  · intro fu t s a
    simp [ref_BackPairs_1_l0, ref_BackPairs_1_b0, a]

/-- does one go back from i to j? -/
def backB (next : List (List Int)) (i j : Int) : Bool := decide (i ∈ leftOf next) && (decide (j ∈ nexts next i) && decide (posI (leftOf next) i ≤ posI (leftOf next) j))
abbrev PL := List (Int × Int × Unit)
def rowB (next : List (List Int)) (i : Int) (l : PL) : Nat → PL
  | 0 => l
  | k + 1 => if backB next i (k : Int) then rowB next i l k ++ [(i, (k : Int), ())] else rowB next i l k
def allB (next : List (List Int)) : Nat → PL
  | 0 => []
  | k + 1 => rowB next (k : Int) (allB next k) next.length
/-- the pairs by which one goes back -/
def backs (next : List (List Int)) : PL := allB next next.length
theorem rowB_len (i : Int) (l : PL) : ∀ k, (rowB next i l k).length ≤ l.length + k
  | 0 => by simp [rowB]
  | k + 1 => by
    have := rowB_len i l k
    simp only [rowB]
    split
    · simp; omega
    · omega
theorem allB_len : ∀ k, (allB next k).length ≤ k * next.length
  | 0 => by simp [allB]
  | k + 1 => by
    have h1 := allB_len k
    have h2 := rowB_len (next := next) (k : Int) (allB next k) next.length
    simp only [allB]
    rw [Nat.succ_mul]; omega
theorem rowB_mem (i : Int) (l : PL) : ∀ k p, p ∈ rowB next i l k ↔ p ∈ l ∨ ∃ j : Nat, j < k ∧ p = (i, (j : Int), ()) ∧ backB next i (j : Int) = true
  | 0, p => by simp [rowB]
  | k + 1, p => by
    simp only [rowB]
    have ih := rowB_mem i l k p
    constructor
    · intro h
      split at h
      · rename_i hb
        rcases List.mem_append.1 h with h | h
        · rcases ih.1 h with h | ⟨j, h1, h2⟩
          · exact .inl h
          · exact .inr ⟨j, by omega, h2⟩
        · exact .inr ⟨k, by omega, by simpa using h, hb⟩
      · rcases ih.1 h with h | ⟨j, h1, h2⟩
        · exact .inl h
        · exact .inr ⟨j, by omega, h2⟩
    · rintro (h | ⟨j, h1, h2, h3⟩)
      · have := ih.2 (.inl h)
        split
        · exact List.mem_append_left _ this
        · exact this
      · by_cases hj : j = k
        · subst hj
          rw [if_pos h3, h2]; simp
        · have := ih.2 (.inr ⟨j, by omega, h2, h3⟩)
          split
          · exact List.mem_append_left _ this
          · exact this
theorem allB_mem : ∀ k p, p ∈ allB next k ↔ ∃ i j : Nat, i < k ∧ j < next.length ∧ p = ((i : Int), (j : Int), ()) ∧ backB next i j = true
  | 0, p => by simp [allB]
  | k + 1, p => by
    simp only [allB]
    rw [rowB_mem, allB_mem k p]
    constructor
    · rintro (⟨i, j, h1, h2⟩ | ⟨j, h1, h2⟩)
      · exact ⟨i, j, by omega, h2⟩
      · exact ⟨k, j, by omega, h1, h2⟩
    · rintro ⟨i, j, h1, h2, h3⟩
      by_cases hi : i = k
      · subst hi; exact .inr ⟨j, h2, h3⟩
      · exact .inl ⟨i, j, by omega, h2, h3⟩
theorem backs_len (hW : WayOK next) : (backs next).length ≤ 64 := by
  have := allB_len (next := next) next.length
  exact Nat.le_trans this (Nat.mul_le_mul hW.few hW.few)

/-- where each node stands among those that were left -/
def AtOK (next : List (List Int)) (l : List Int) (a : List Int) : Prop := a.length = next.length ∧ ∀ k : Nat, k < next.length → a.getD k 0 = posI l (k : Int)
theorem AtOK.at {l a : List Int} (h : AtOK next l a) {i : Int} (h0 : 0 ≤ i) (h1 : i < next.length) : a.getD i.toNat 0 = posI l i := by
  rw [h.2 i.toNat (by omega), Int.toNat_of_nonneg h0]

theorem back_l4 (hW : WayOK next) (hn : 100 ≤ nf) {a : List Int} (ha : AtOK next (leftOf next) a) {k : Nat} (hk : k < next.length) (g : List Int → PL → Int → Option (PL × Int × Unit)) :
    way_Back_l4 nf next (k : Int) g nf a (allB next k) 0 = g a (allB next (k + 1)) ((k : Int) + 1) := by
  have h8 := hW.few
  have hm : next.length ≤ maxLen := Nat.le_trans h8 (by decide)
  have key := loop_inv (n := next.length) (F := fun fu t (l : PL) => way_Back_l4 nf next (k : Int) g fu a l t) (fun t l => l = rowB next (k : Int) (allB next k) t.toNat) ?_ nf 0 (allB next k) (Int.le_refl _) (by omega) (by omega) rfl
  · obtain ⟨fu, s, rfl, h⟩ := key
    refine h.trans ?_
    simp only [way_Back_l4]
    unfold way_Back_b4
    simp only [Int.lt_irrefl, decide_false, cond_false, Int.toNat_natCast, wrap_step (show (0 : Int) ≤ (k : Int) by omega) (by omega) hm]
    rfl
  · rintro fu t l a0 b0 rfl
    refine ⟨_, ?_, rfl⟩
    simp only [way_Back_l4]
    unfold way_Back_b4
    have hlen := rowB_len (next := next) (k : Int) (allB next k) t.toNat
    have hlen2 := Nat.le_trans (allB_len (next := next) k) (Nat.mul_le_mul (show k ≤ 8 by omega) h8)
    have ht : t = ((t.toNat : Nat) : Int) := by omega
    have hthin := hW.thin _ (nexts_mem (show (0 : Int) ≤ (k : Int) by omega) (by omega))
    have hin1 : inb (k : Int) a.length = true := by rw [ha.1]; exact inb_ok (by omega) (by omega)
    have hin2 : inb t a.length = true := by rw [ha.1]; exact inb_ok a0 b0
    have hc := contains2_F (nf := nf) (nexts next (k : Int)) t (Nat.le_trans hthin (by decide)) (by omega)
    simp only [nexts, Int.toNat_natCast] at hc
    rw [show (t + 1).toNat = t.toNat + 1 by omega]
    simp only [b0, hin1, hin2, decide_true, cond_true, ha.at a0 b0, ge_iff_le, Int.toNat_natCast, ha.2 k hk, posI_pos, wrap_step a0 b0 hm, rowB, backB, nexts, hc, Option.bind_some, ← ht]
    rw [ble_ok (by simp; omega)]
    by_cases c1 : (k : Int) ∈ leftOf next
    · by_cases c2 : posI (leftOf next) (k : Int) ≤ posI (leftOf next) t
      · by_cases c3 : t ∈ next.getD k []
        · simp only [c1, c2, c3, decide_true, cond_true, if_true, Bool.and_self]; rfl
        · simp only [c1, c2, c3, decide_true, decide_false, cond_true, cond_false, Bool.true_and, Bool.false_and, Bool.false_eq_true, if_false]
      · simp [c1, c2]
    · simp [c1]

theorem back_l2 (hW : WayOK next) (hn : 100 ≤ nf) {a : List Int} (ha : AtOK next (leftOf next) a) : way_Back_l2 nf next nf a [] 0 = some (backs next, 0, ()) := by
  have h8 := hW.few
  have key := loop_inv (n := next.length) (F := fun fu t (l : PL) => way_Back_l2 nf next fu a l t) (fun t l => l = allB next t.toNat) ?_ nf 0 [] (Int.le_refl _) (by omega) (by omega) rfl
  · obtain ⟨fu, s, rfl, h⟩ := key
    refine h.trans ?_
    simp only [way_Back_l2]
    unfold way_Back_b2
    simp only [Int.lt_irrefl, decide_false, cond_false, Int.toNat_natCast]
    rfl
  · rintro fu t l a0 b0 rfl
    refine ⟨_, ?_, rfl⟩
    simp only [way_Back_l2]
    unfold way_Back_b2
    have ht : t = ((t.toNat : Nat) : Int) := by omega
    simp only [b0, decide_true, cond_true, inb_ok a0 b0]
    have := back_l4 hW hn ha (k := t.toNat) (by omega) (fun at'2 l' t38 => way_Back_l2 nf next fu at'2 l' t38)
    rw [← ht] at this
    rw [this, show (t + 1).toNat = t.toNat + 1 by omega]

theorem back_l0 (hW : WayOK next) (hn : 100 ≤ nf) {a : List Int} (ha : AtOK next [] a) : way_Back_l0 nf next (leftOf next, ()) nf (leftOf next) a 0 = some (backs next, 0, ()) := by
  have h8 := hW.few
  have hN := leftOf_ok hW
  have hlen := hN.len
  have hm : (leftOf next).length ≤ maxLen := Nat.le_trans hlen (Nat.le_trans h8 (by decide))
  have key := loop_inv (n := (leftOf next).length) (F := fun fu t (a : List Int) => way_Back_l0 nf next (leftOf next, ()) fu (leftOf next) a t) (fun t a => AtOK next ((leftOf next).take t.toNat) a) ?_ nf 0 a (Int.le_refl _) (by omega) (by omega) (by simpa using ha)
  · obtain ⟨fu, s, hs, h⟩ := key
    refine h.trans ?_
    simp only [way_Back_l0]
    unfold way_Back_b0
    simp only [Int.lt_irrefl, decide_false, cond_false]
    refine back_l2 hW hn ?_
    simpa using hs
  · intro fu t s a0 b0 hs
    have hx := hN.good _ (getD_mem (d := 0) a0 b0)
    have hd := drop_step (leftOf next) t 0 a0 b0
    refine ⟨s.set ((leftOf next).getD t.toNat 0).toNat t, ?_, ?_, fun k hk => ?_⟩
    · simp only [way_Back_l0]
      unfold way_Back_b0
      simp only [b0, decide_true, cond_true, inb_ok a0 b0, show inb ((leftOf next).getD t.toNat 0) s.length = true by rw [hs.1]; exact inb_ok hx.1 hx.2, wrap_step a0 b0 hm]
    · simpa using hs.1
    · rw [getD_upd (by rw [hs.1]; omega), show (t + 1).toNat = t.toNat + 1 by omega, List.take_succ_eq_append_getElem (by omega), posI_snoc, hs.2 k hk]
      · rw [getD_nat _ t 0 a0 b0] at hx ⊢
        have e1 : (((leftOf next).take t.toNat).length : Int) = t := by rw [List.length_take]; omega
        rw [e1]
        by_cases hk2 : k = ((leftOf next)[t.toNat]'(by omega)).toNat
        · rw [if_pos hk2, if_pos (by omega)]
        · rw [if_neg hk2, if_neg (by omega)]
      · intro hmem
        have ho := hN.once
        rw [← List.take_append_drop t.toNat (leftOf next), List.nodup_append] at ho
        exact ho.2.2 _ hmem _ (by rw [List.drop_eq_getElem_cons (by omega)]; exact List.mem_cons_self) rfl

theorem pairs_l2 (hW : WayOK next) (hn : 100 ≤ nf) {k : Nat} (hk : k < next.length) (g : List Int → PL → Int → Option (PL × Unit)) :
    ref_BackPairs_l2 nf next (k : Int) g nf (leftOf next) (allB next k) 0 = g (leftOf next) (allB next (k + 1)) ((k : Int) + 1) := by
  have h8 := hW.few
  have hN := leftOf_ok hW
  have hl := hN.len
  have hm : next.length ≤ maxLen := Nat.le_trans h8 (by decide)
  have hml : (leftOf next).length ≤ maxLen := Nat.le_trans hl hm
  have key := loop_inv (n := next.length) (F := fun fu t (l : PL) => ref_BackPairs_l2 nf next (k : Int) g fu (leftOf next) l t) (fun t l => l = rowB next (k : Int) (allB next k) t.toNat) ?_ nf 0 (allB next k) (Int.le_refl _) (by omega) (by omega) rfl
  · obtain ⟨fu, s, rfl, h⟩ := key
    refine h.trans ?_
    simp only [ref_BackPairs_l2]
    unfold ref_BackPairs_b2
    simp only [Int.lt_irrefl, decide_false, cond_false, Int.toNat_natCast, wrap_step (show (0 : Int) ≤ (k : Int) by omega) (by omega) hm]
    rfl
  · rintro fu t l a0 b0 rfl
    refine ⟨_, ?_, rfl⟩
    simp only [ref_BackPairs_l2]
    unfold ref_BackPairs_b2
    have hlen := rowB_len (next := next) (k : Int) (allB next k) t.toNat
    have hlen2 := Nat.le_trans (allB_len (next := next) k) (Nat.mul_le_mul (show k ≤ 8 by omega) h8)
    have ht : t = ((t.toNat : Nat) : Int) := by omega
    have hthin := hW.thin _ (nexts_mem (show (0 : Int) ≤ (k : Int) by omega) (by omega))
    have hc := has_F (nf := nf) (nexts next (k : Int)) t (Nat.le_trans hthin (by decide)) (by omega)
    simp only [nexts, Int.toNat_natCast] at hc
    rw [show (t + 1).toNat = t.toNat + 1 by omega]
    simp only [b0, inb_ok (show (0 : Int) ≤ (k : Int) by omega) (show (k : Int) < next.length by omega), decide_true, cond_true, has_F (nf := nf) (leftOf next) (k : Int) hml (by omega), pairs1_F (leftOf next) (k : Int) hml (show _ < nf by omega), pairs1_F (leftOf next) t hml (show _ < nf by omega),
      Int.toNat_natCast, wrap_step a0 b0 hm, rowB, backB, nexts, hc, Option.bind_some, ← ht]
    rw [ble_ok (by simp; omega)]
    by_cases c1 : (k : Int) ∈ leftOf next
    · by_cases c3 : t ∈ next.getD k []
      · by_cases c2 : posI (leftOf next) (k : Int) ≤ posI (leftOf next) t
        · simp only [c1, c2, c3, decide_true, cond_true, if_true, Bool.and_self]; rfl
        · simp only [c1, c2, c3, decide_true, decide_false, cond_true, cond_false, Bool.true_and, Bool.false_eq_true, if_false]
      · simp only [c1, c3, decide_true, decide_false, cond_true, cond_false, Bool.true_and, Bool.false_and, Bool.false_eq_true, if_false]
    · simp [c1]

theorem pairs_F (hW : WayOK next) (hn : 100 ≤ nf) : ref_BackPairs_f nf next = some (backs next, ()) := by
  have h8 := hW.few
  have hm : next.length ≤ maxLen := Nat.le_trans h8 (by decide)
  obtain ⟨s0, hs0⟩ := ref_walk hW (nf := nf) (by omega)
  simp only [ref_BackPairs_f, ref_BackPairs_p, hs0, Option.bind_some]
  have key := loop_inv (n := next.length) (F := fun fu t (l : PL) => ref_BackPairs_l0 nf next fu (leftOf next) l t) (fun t l => l = allB next t.toNat) ?_ nf 0 [] (Int.le_refl _) (by omega) (by omega) rfl
  · obtain ⟨fu, s, rfl, h⟩ := key
    refine h.trans ?_
    simp only [ref_BackPairs_l0]
    unfold ref_BackPairs_b0
    simp only [Int.lt_irrefl, decide_false, cond_false, Int.toNat_natCast]
    rfl
  · rintro fu t l a0 b0 rfl
    refine ⟨_, ?_, rfl⟩
    simp only [ref_BackPairs_l0]
    unfold ref_BackPairs_b0
    have ht : t = ((t.toNat : Nat) : Int) := by omega
    simp only [b0, decide_true, cond_true]
    have := pairs_l2 hW hn (k := t.toNat) (by omega) (fun left l' i => ref_BackPairs_l0 nf next fu left l' i)
    rw [← ht] at this
    rw [this, show (t + 1).toNat = t.toNat + 1 by omega]

theorem twos_F (l : PL) (hl : l.length ≤ maxLen) (hf : l.length < nf) : ref_Twos_f nf l l = some (true, ()) := by
  simp only [ref_Twos_f, ref_Twos_p]
  rw [show (((l.length : Int) != (l.length : Int))) = false by simp, cond_false]
  refine (loop_chk (n := l.length) (F := fun fu t => ref_Twos_l0 nf l l fu t) (yes := some (true, ())) (no := some (false, ())) (fun _ => true) ?_ ?_ nf 0 (Int.le_refl _) (by omega) (by omega)).trans ?_
  · intro fu t a b
    simp only [ref_Twos_l0, ref_Twos_b0, b, inb_ok a b, wrap_step a b hl, decide_true, cond_true, beq_self_eq_true, Bool.and_true, Bool.not_true, cond_false]
  · intro fu
    simp [ref_Twos_l0, ref_Twos_b0]
  · rw [chk_iff.2 fun _ _ _ => rfl]; rfl

theorem repeat_all : ∀ v : Fin 9, slices_Repeat_f 100000000000 [-1] ((v.val : Nat) : Int) = some (List.replicate v.val (-1), ()) := by decide +kernel
theorem repeat_F {n : Nat} (h : n ≤ 8) : slices_Repeat_f 100000000000 [-1] (n : Int) = some (List.replicate n (-1), ()) := repeat_all ⟨n, by omega⟩

theorem back_F (h : wayCode next = 0) : way_Back_f 100000000000 next = some (backs next, 0, ()) := by
  have hW := wayCode_ok h
  simp only [way_Back_f, way_Back_p, way_Check_F (show 9 ≤ 100000000000 by omega), h, own_walk hW (show 30 ≤ 100000000000 by omega), repeat_F hW.few, Option.bind_some]
  refine back_l0 hW (by omega) ⟨by simp, fun k hk => ?_⟩
  simp [List.getD_eq_getElem?_getD, hk, posI]
theorem back_bad {nf : Nat} (hn : 9 ≤ nf) (h : wayCode next ≠ 0) : way_Back_f nf next = some ([], wayCode next, ()) := by
  simp only [way_Back_f, way_Back_p, way_Check_F hn, Option.bind_some, bne_t h, cond_true]
end Go.Proofs.Ytccbcbhiblohgaa
