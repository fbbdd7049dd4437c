/- Where one may go from each block. -/
import Derived.Test.YtokjogplnoeicaaBlk
namespace Go.Proofs.Ytokjogplnoeicaa
open Go Go.Ab S

variable {nf : Nat} {p : List Blk}

abbrev B0 : Blk := ([], 0, 0, 0, ())
/-- where one may go from a block -/
def nextOf (b : Blk) : List Int := (if b.2.2.1 ≥ 0 then [b.2.2.1] else []) ++ (if b.2.1 ≥ 0 ∧ b.2.2.2.1 ≠ b.2.2.1 then [b.2.2.2.1] else [])

theorem progCode_ok {vars : Int} (h : progCode vars p = 0) : 1 ≤ vars ∧ vars ≤ 6 ∧ 1 ≤ p.length ∧ p.length ≤ 8 ∧ blocksGo vars p.length p = 0 := by
  unfold progCode at h
  split at h
  · omega
  · exact ⟨by omega, by omega, by omega, by omega, h⟩
theorem blocksGo_ok {vars n : Int} : ∀ {l : List Blk}, blocksGo vars n l = 0 → ∀ b ∈ l, blockCode vars n b = 0
  | [], _, b, hb => by cases hb
  | x :: r, h, b, hb => by
    simp only [blocksGo] at h
    split at h
    · rename_i h1
      rcases List.mem_cons.1 hb with rfl | hb
      · exact h1
      · exact blocksGo_ok h b hb
    · rename_i h1; exact absurd h h1
/-- what is so of a block that may be -/
theorem blockCode_ok {vars n : Int} {b : Blk} (h : blockCode vars n b = 0) : stepsGo vars vars b.1 = 0 ∧ -1 ≤ b.2.1 ∧ b.2.1 < vars ∧ ((0 ≤ b.2.2.1 ∧ b.2.2.1 < n) ∨ (b.2.2.1 = -1 ∧ b.2.1 < 0)) ∧ (b.2.1 ≥ 0 → 0 ≤ b.2.2.2.1 ∧ b.2.2.2.1 < n) := by
  unfold blockCode at h
  split at h
  · rename_i h0
    split at h
    · omega
    · split at h
      · omega
      · refine ⟨h0, by omega, by omega, by omega, fun h => by omega⟩
  · rename_i h0; exact absurd h h0

theorem next_F (h8 : p.length ≤ 8) (hn : 12 ≤ nf) : block_Next_f nf p = some (p.map nextOf, ()) := by
  have hm : p.length ≤ maxLen := Nat.le_trans h8 (by decide)
  have c : (decide (0 ≤ (List.length p : Int)) && decide ((List.length p : Int) ≤ (List.length p : Int)) && decide ((List.length p : Int) ≤ ((lim : Nat) : Int))) = true := by
    rw [decide_eq_true (show (0 : Int) ≤ (List.length p : Int) by omega), decide_eq_true (Int.le_refl _), decide_eq_true (show (List.length p : Int) ≤ ((lim : Nat) : Int) by show (List.length p : Int) ≤ ((4294967296 : Nat) : Int); omega)]; rfl
  simp only [block_Next_f, block_Next_p]
  rw [c, cond_true, Int.toNat_natCast]
  have key := loop_inv (n := p.length) (F := fun fu t (q : List (List Int)) => block_Next_l0 nf p fu q t)
    (fun t q => q.length = p.length ∧ (∀ i : Int, 0 ≤ i → i < t → q.getD i.toNat [] = nextOf (p.getD i.toNat B0)) ∧ ∀ i : Int, t ≤ i → q.getD i.toNat [] = [])
    ?_ nf 0 (List.replicate p.length []) (Int.le_refl _) (by omega) (by omega) ⟨by simp, fun i a b => by omega, fun i a => by rw [List.getD_eq_getElem?_getD, List.getElem?_replicate]; split <;> rfl⟩
  · obtain ⟨fu', q, ⟨h1, h2, _⟩, h5⟩ := key
    have : q = p.map nextOf := by
      refine List.ext_getElem (by simp [h1]) fun i hi1 hi2 => ?_
      have := h2 i (by omega) (by omega)
      rw [Int.toNat_natCast] at this
      simp only [List.getD_eq_getElem?_getD] at this
      rw [List.getElem?_eq_getElem hi1, List.getElem?_eq_getElem (by omega)] at this
      simpa using this
    rw [h5, block_Next_l0, block_Next_b0]
    simp only [Int.lt_irrefl, decide_false, cond_false, this]
  · rintro fu t q ht0 ht1 ⟨h1, h2, h3⟩
    have hq := h3 t (Int.le_refl _)
    have hi : inb t q.length = true := inb_ok ht0 (by omega)
    have hw := wrap_step ht0 ht1 hm
    have hset : ∀ (l : List Int) (i : Int), 0 ≤ i → (q.set t.toNat l).getD i.toNat [] = if i = t then l else q.getD i.toNat [] := fun l i a => by
      rw [getD_upd (by omega)]
      by_cases hit : i = t
      · subst hit; simp
      · rw [if_neg (by omega), if_neg hit]
    have hb1 := ble_ok (n := 0 + 1) (by omega)
    have hb2 := ble_ok (n := 1 + 1) (by omega)
    refine ⟨q.set t.toNat (nextOf (p.getD t.toNat B0)), ?_, by simp [h1], fun i a b => ?_, fun i a => ?_⟩
    · have e : ∀ fu, block_Next_l0 nf p (fu + 1) q t = block_Next_b0 nf p (block_Next_l0 nf p fu) q t := fun _ => rfl
      rw [e]
      unfold block_Next_b0
      have hnil : q.set t.toNat [] = q := by
        have : q[t.toNat]'(by omega) = [] := by rw [List.getD_eq_getElem?_getD, List.getElem?_eq_getElem (show t.toNat < q.length by omega)] at hq; exact hq
        rw [← this]; exact List.set_getElem_self _
      have hg1 : ∀ l : List Int, (q.set t.toNat l).getD t.toNat [] = l := fun l => by rw [hset l t ht0, if_pos rfl]
      generalize p.getD t.toNat ([], 0, 0, 0, ()) = b
      obtain ⟨code, ts, th, el, u⟩ := b
      simp only [ht1, inb_ok ht0 ht1, hi, hw, hq, hg1, List.length_set, decide_true, cond_true, List.nil_append, List.isEmpty_cons, List.length_nil, List.length_cons, Bool.not_false, Bool.true_and, hb1, hb2, nextOf, List.set_set]
      by_cases c1 : th ≥ 0
      · by_cases c2 : ts ≥ 0
        · by_cases c3 : el = th
          · subst c3; simp [c1, c2]
          · simp [c1, c2, c3, bne_t c3]
        · simp [c1, c2]
      · by_cases c2 : ts ≥ 0
        · by_cases c3 : el = th
          · subst c3; simp [c1, c2, hnil]
          · simp [c1, c2, c3, bne_t c3]
        · simp [c1, c2, hnil]
    · rw [hset _ i a]
      by_cases hit : i = t
      · subst hit; rw [if_pos rfl]
      · rw [if_neg hit]; exact h2 i a (by omega)
    · rw [hset _ i (by omega), if_neg (by omega)]
      exact h3 i (by omega)

theorem nexts_F (h8 : p.length ≤ 8) (hn : 12 ≤ nf) (hp : ∀ b ∈ p, -1 ≤ b.2.1 ∧ (0 ≤ b.2.2.1 ∨ b.2.2.1 = -1)) : ref_Nexts_f nf p = some (p.map nextOf, ()) := by
  have hm : p.length ≤ maxLen := Nat.le_trans h8 (by decide)
  simp only [ref_Nexts_f, ref_Nexts_p]
  have key := loop_inv (n := p.length) (F := fun fu t (q : List (List Int)) => ref_Nexts_l0 nf p fu q t)
    (fun t q => q = (p.take t.toNat).map nextOf) ?_ nf 0 [] (Int.le_refl _) (by omega) (by omega) (by simp)
  · obtain ⟨fu', q, h1, h5⟩ := key
    rw [Int.toNat_natCast, List.take_length] at h1
    subst h1
    rw [h5, ref_Nexts_l0, ref_Nexts_b0]
    simp only [Int.lt_irrefl, decide_false, cond_false]
  · rintro fu t q ht0 ht1 rfl
    refine ⟨_, ?_, rfl⟩
    have hw := wrap_step ht0 ht1 hm
    have hb := hp _ (getD_mem (l := p) (t := t) (d := B0) ht0 ht1)
    have e1 : (p.take (t + 1).toNat).map nextOf = (p.take t.toNat).map nextOf ++ [nextOf (p.getD t.toNat B0)] := by
      rw [show (t + 1).toNat = t.toNat + 1 by omega, List.take_succ_eq_append_getElem (by omega), List.map_append, getD_nat _ _ _ ht0 ht1]; rfl
    have hbl := ble_ok (n := ((p.take t.toNat).map nextOf).length + 1) (by rw [List.length_map]; have := List.length_take_le t.toNat p; omega)
    have hle : leM (Ty.int .i64).sl 0 (Md.bor false false) (Md.bor false false) = true := rfl
    rw [e1]
    generalize (p.take t.toNat).map nextOf = q at hbl ⊢
    have e : ∀ fu, ref_Nexts_l0 nf p (fu + 1) q t = ref_Nexts_b0 nf p (ref_Nexts_l0 nf p fu) q t := fun _ => rfl
    rw [e]
    unfold ref_Nexts_b0
    revert hb
    generalize p.getD t.toNat ([], 0, 0, 0, ()) = b
    obtain ⟨code, ts, th, el, u⟩ := b
    intro hb
    simp only at hb
    simp only [ht1, inb_ok ht0 ht1, hw, hle, decide_true, cond_true, List.nil_append, List.length_nil, List.length_cons, Bool.not_false, Bool.true_and, hbl, nextOf, Nat.zero_add]
    by_cases c1 : th = -1
    · subst c1
      by_cases c2 : ts = -1
      · subst c2; simp
      · have c2' : ts ≥ 0 := by omega
        by_cases c3 : el = -1
        · subst c3; simp [c2']
        · rw [bne_t c2, bne_t (fun h => c3 h.symm)]; simp [c2', c3]
    · have c1' : th ≥ 0 := by omega
      rw [bne_t c1]
      by_cases c2 : ts = -1
      · subst c2; simp [c1']
      · have c2' : ts ≥ 0 := by omega
        rw [bne_t c2]
        by_cases c3 : el = th
        · subst c3; simp [c1', c2']
        · rw [bne_t (fun h => c3 h.symm)]; simp [c1', c2', c3]

theorem lists_F {a : List (List Int)} (b : List (List Int)) (hl : a.length ≤ maxLen) (hf : a.length < nf) (he : ∀ x ∈ a, x.length ≤ maxLen ∧ x.length < nf) : ref_Lists_f nf a b = some (decide (a = b), ()) := by
  simp only [ref_Lists_f, ref_Lists_p]
  by_cases hab : a.length = b.length
  · have h0 : ((a.length : Int) != (b.length : Int)) = false := by simp [hab]
    rw [h0, cond_false]
    have key := loop_chk (n := a.length) (F := fun fu t => ref_Lists_l0 nf a b fu t) (yes := some (true, ())) (no := some (false, ()))
      (fun i => decide (a.getD i.toNat [] = b.getD i.toNat [])) (fun fu t ht0 ht1 => by
        obtain ⟨e1, e2⟩ := he _ (getD_mem (l := a) (t := t) (d := []) ht0 ht1)
        rw [ref_Lists_l0, ref_Lists_b0, inb_ok ht0 ht1, inb_ok (t := t) (n := b.length) ht0 (by omega), wrap_step ht0 ht1 hl]
        simp only [ht1, decide_true, cond_true, ints_F _ _ e1 e2, Option.bind_some]
        cases decide (a.getD t.toNat [] = b.getD t.toNat []) <;> rfl) (fun fu => by rw [ref_Lists_l0, ref_Lists_b0]; simp) nf 0 (Int.le_refl _) (by omega) (by omega)
    refine key.trans ?_
    have : chk (fun i => decide (a.getD i.toNat [] = b.getD i.toNat [])) ((a.length : Int) - 0).toNat 0 = decide (a = b) := by
      rw [Bool.eq_iff_iff, chk_iff, decide_eq_true_eq]
      constructor
      · intro h
        refine List.ext_getElem hab fun i h1 h2 => ?_
        have := h i (by omega) (by omega)
        simp only [decide_eq_true_eq, Int.toNat_natCast, List.getD_eq_getElem?_getD] at this
        rw [List.getElem?_eq_getElem h1, List.getElem?_eq_getElem h2] at this
        exact this
      · rintro rfl i _ _; simp
    rw [this]
    cases decide (a = b) <;> rfl
  · have h0 : ((a.length : Int) != (b.length : Int)) = true := bne_t (by omega)
    have : a ≠ b := fun h => hab (by rw [h])
    rw [h0, cond_true, decide_eq_false this]
end Go.Proofs.Ytokjogplnoeicaa
