/- The freeing of registers as a whole. -/
import Derived.Test.YtmndifhjmbiodaaSwapMoves
namespace Go.Proofs.Ytmndifhjmbiodaa
open Go Go.Ab S

/-- how many are not done -/
def left (F : List Int) : Nat := cnt (fun j => decide (F.getD j 0 ≠ j)) F.length

/-- where the values lie, told by the loop -/
abbrev Lore := List Int → List Mv → Prop

theorem free_l2 {nf : Nat} {n : Nat} (h8 : n ≤ 8) {F U : List Int} (hF : F.length = n) (hU : U.length = n) {i : Nat} (hi : i < n) (hm : F.getD i 0 ≠ i) (hr : ∀ r : Nat, r < n → 0 ≤ F.getD r 0 ∧ F.getD r 0 < n) (hb : -900 ≤ U.getD (F.getD i 0).toNat 0 ∧ U.getD (F.getD i 0).toNat 0 ≤ 1000)
    (out : List Mv) (g0 : List Int × List Int × Unit → List Mv → Int → Option (Option (List Int × List Int × Unit) × List Mv × Unit)) (hn : 20 ≤ nf) :
    ∃ F' U' : List Int, F'.length = n ∧ U'.length = n ∧ (∀ t : Nat, t < n → F'.getD t 0 = if t = i then (i : Int) else if F.getD t 0 = F.getD i 0 ∧ (t : Int) ≠ F.getD i 0 then (i : Int) else F.getD t 0) ∧
      (∀ c : Nat, c < n → (c : Int) ≠ F.getD i 0 → U'.getD c 0 = U.getD c 0) ∧ U'.getD (F.getD i 0).toNat 0 = U.getD (F.getD i 0).toNat 0 - 1 - (cnt (fun j => decide (j ≠ i ∧ (j : Int) ≠ F.getD i 0 ∧ F.getD j 0 = F.getD i 0)) n : Nat) ∧
      swap_state_free_l2 nf i (F, U, ()) g0 nf (F.set i i, U.set (F.getD i 0).toNat (U.getD (F.getD i 0).toNat 0 - 1), ()) out 0 = g0 (F', U', ()) out 0 := by
  have hri := hr i hi
  obtain ⟨fu', q, ⟨q1, q2, q3, q4, q5, q6⟩, e⟩ := loop_inv (n := (F.set i (i : Int)).length) (F := fun fu t (q : List Int × List Int × Unit) => swap_state_free_l2 nf i (F, U, ()) g0 fu q out t)
    (fun t q => q.1.length = n ∧ q.2.1.length = n ∧ (∀ j : Nat, j < n → q.1.getD j 0 = if j = i then (i : Int) else if (j : Int) < t ∧ F.getD j 0 = F.getD i 0 ∧ (j : Int) ≠ F.getD i 0 then (i : Int) else F.getD j 0) ∧
      (∀ c : Nat, c < n → (c : Int) ≠ F.getD i 0 → q.2.1.getD c 0 = U.getD c 0) ∧ q.2.1.getD (F.getD i 0).toNat 0 = U.getD (F.getD i 0).toNat 0 - 1 - (cnt (fun j => decide (j ≠ i ∧ (j : Int) ≠ F.getD i 0 ∧ F.getD j 0 = F.getD i 0)) t.toNat : Nat) ∧ q.2.2 = ())
    (fun fu t q h0 ht hI => by
      obtain ⟨i1, i2, i3, i4, i5, i6⟩ := hI
      obtain ⟨t, rfl⟩ : ∃ k : Nat, t = (k : Int) := ⟨t.toNat, by omega⟩
      have hlen : (F.set i (i : Int)).length = n := by rw [List.length_set, hF]
      rw [hlen] at ht
      have e1 : ((t : Int) + 1).toNat = t + 1 := by omega
      have hcn := cnt_n (fun j => decide (j ≠ i ∧ (j : Int) ≠ F.getD i 0 ∧ F.getD j 0 = F.getD i 0)) t
      have h3 := i3 t (by omega)
      have hstep : swap_state_free_l2 nf i (F, U, ()) g0 (fu + 1) q out t = swap_state_free_b2 nf i (F, U, ()) g0 (swap_state_free_l2 nf i (F, U, ()) g0 fu) q out t := rfl
      have hw : IntKind.i64.wrap ((t : Int) + 1) = (t : Int) + 1 := Go.IntWalk.i64_in _ (by omega)
      unfold swap_state_free_b2 at hstep
      simp only [Int.toNat_natCast, hlen, ht, decide_true, cond_true, inb_ok (n := List.length q.1) h0 (by omega), hw] at hstep
      by_cases hc : t ≠ i ∧ (t : Int) ≠ F.getD i 0 ∧ F.getD t 0 = F.getD i 0
      · obtain ⟨c1, c2, c3⟩ := hc
        have hq : q.1.getD t 0 = F.getD i 0 := by rw [h3, if_neg c1, if_neg (fun h => by omega), c3]
        have hwu : IntKind.i64.wrap (q.2.1.getD (F.getD i 0).toNat 0 - 1) = q.2.1.getD (F.getD i 0).toNat 0 - 1 := by
          rw [Int.toNat_natCast] at i5
          exact Go.IntWalk.i64_in _ (by omega)
        rw [hq, bne_t c2, beq_self_eq_true] at hstep
        simp only [cond_true, inb_ok (n := List.length q.2.1) hri.1 (by omega), hwu] at hstep
        refine ⟨(q.1.set t i, q.2.1.set (F.getD i 0).toNat (q.2.1.getD (F.getD i 0).toNat 0 - 1), q.2.2), hstep, by simpa using i1, by simpa using i2, fun j hj => ?_, fun c hc hne => ?_, ?_, rfl⟩
        · rw [getD_upd (by omega)]
          by_cases hjt : j = t
          · subst hjt; rw [if_pos rfl, if_neg c1, if_pos ⟨by omega, c3, c2⟩]
          · rw [if_neg hjt, i3 j hj]
            split
            · rfl
            · have : ((j : Int) < (t : Int) ∧ F.getD j 0 = F.getD i 0 ∧ (j : Int) ≠ F.getD i 0) ↔ ((j : Int) < (t : Int) + 1 ∧ F.getD j 0 = F.getD i 0 ∧ (j : Int) ≠ F.getD i 0) := ⟨fun h => ⟨by omega, h.2⟩, fun h => ⟨by omega, h.2⟩⟩
              simp only [this]
        · rw [getD_upd (by omega), if_neg (by omega)]; exact i4 c hc hne
        · rw [getD_upd (by omega), if_pos rfl, i5, e1, Int.toNat_natCast]
          simp only [cnt]
          rw [if_pos (decide_eq_true ⟨c1, c2, c3⟩)]; omega
      · have hres : swap_state_free_l2 nf i (F, U, ()) g0 (fu + 1) q out t = swap_state_free_l2 nf i (F, U, ()) g0 fu q out (t + 1) := by
          rw [hstep]
          by_cases hti : t = i
          · have : q.1.getD t 0 = t := by rw [h3, if_pos hti, hti]
            rw [this, bne_self_eq_false, cond_false]
          · have hqt : q.1.getD t 0 = F.getD t 0 := by rw [h3, if_neg hti, if_neg (fun h => by omega)]
            rw [hqt]
            by_cases hto : (t : Int) = F.getD t 0
            · rw [← hto, bne_self_eq_false, cond_false]
            · rw [bne_t hto, cond_true, beq_f (fun h => hc ⟨hti, fun h2 => hto (h2.trans h.symm), h⟩), cond_false]
        refine ⟨q, hres, i1, i2, fun j hj => ?_, i4, ?_, i6⟩
        · rw [i3 j hj]
          split
          · rfl
          · rename_i hji
            have : ((j : Int) < (t : Int) ∧ F.getD j 0 = F.getD i 0 ∧ (j : Int) ≠ F.getD i 0) ↔ ((j : Int) < (t : Int) + 1 ∧ F.getD j 0 = F.getD i 0 ∧ (j : Int) ≠ F.getD i 0) := ⟨fun h => ⟨by omega, h.2⟩, fun h => ⟨by
              by_cases hjt : j = t
              · subst hjt; exact absurd ⟨hji, h.2.2, h.2.1⟩ hc
              · omega, h.2⟩⟩
            simp only [this]
        · rw [i5, e1, Int.toNat_natCast]
          simp only [cnt]
          rw [if_neg (fun h => hc (of_decide_eq_true h))]; omega) nf 0 (F.set i i, U.set (F.getD i 0).toNat (U.getD (F.getD i 0).toNat 0 - 1), ()) (by omega) (by omega) (by rw [List.length_set]; omega)
    ⟨by simpa using hF, by simpa using hU, fun j hj => by
      show (F.set i i).getD j 0 = _
      rw [getD_upd (by omega)]
      by_cases hji : j = i
      · rw [if_pos hji, if_pos hji]
      · rw [if_neg hji, if_neg hji, if_neg (fun h => by omega)], fun c hc hne => by
      show (U.set _ _).getD c 0 = _
      rw [getD_upd (by omega), if_neg (by omega)], by
      show (U.set _ _).getD _ 0 = _
      rw [getD_upd (by omega), if_pos rfl]; simp [cnt], rfl⟩
  have hlen : (F.set i (i : Int)).length = n := by rw [List.length_set, hF]
  refine ⟨q.1, q.2.1, q1, q2, fun t ht => ?_, q4, ?_, ?_⟩
  · rw [q3 t ht, hlen]
    have : ((t : Int) < ((n : Nat) : Int) ∧ F.getD t 0 = F.getD i 0 ∧ (t : Int) ≠ F.getD i 0) ↔ (F.getD t 0 = F.getD i 0 ∧ (t : Int) ≠ F.getD i 0) := ⟨fun h => h.2, fun h => ⟨by omega, h⟩⟩
    simp only [this]
  · rw [q5, hlen, Int.toNat_natCast]
  · rw [e, swap_state_free_l2, swap_state_free_b2]
    simp only [Int.toNat_natCast, Int.lt_irrefl, decide_false, cond_false, show IntKind.i64.wrap (-1 + 1) = 0 from rfl]

theorem left_step {F F' : List Int} {n i : Nat} (lF : F.length = n) (lF' : F'.length = n) (hi : i < n) (hm : F.getD i 0 ≠ i)
    (hno : ∀ j : Nat, j < n → j ≠ i → F.getD j 0 ≠ i)
    (e : ∀ t : Nat, t < n → F'.getD t 0 = if t = i then (i : Int) else if F.getD t 0 = F.getD i 0 ∧ (t : Int) ≠ F.getD i 0 then (i : Int) else F.getD t 0) : left F = left F' + 1 := by
  unfold left
  rw [lF, lF']
  refine cnt_flip (i := i) (decide_eq_true hm) (by rw [e i hi, if_pos rfl]; simp) (fun j hj hji => ?_) hi
  rw [decide_eq_decide, e j hj, if_neg hji]
  split
  · rename_i hc
    constructor
    · intro _ h; omega
    · intro _ h; omega
  · rfl

theorem no_read {n : Nat} {f : Int → Int} {F U : List Int} (h : Freed n f F U) {i : Nat} (hi : i < n) (hm : F.getD i 0 ≠ i) (hu : U.getD i 0 = 0) : ∀ j : Nat, j < n → j ≠ i → F.getD j 0 ≠ i := fun j hj hji e => by
  have h1 := h.uses i hi hm
  have hl := h.lenF
  have : 0 < readers F i := by
    have h2 := cnt_lt (p := fun _ => false) (q := fun j => decide ((j : Int) ≠ i ∧ F.getD j 0 = i)) (n := F.length) (fun _ _ h => by cases h) ⟨j, by omega, rfl, decide_eq_true ⟨by omega, e⟩⟩
    unfold readers; omega
  omega

/-- is told of each freeing -/
def Tells (n : Nat) (f : Int → Int) (P : Lore) : Prop := ∀ (F U F' : List Int) (out : List Mv) (i : Nat), Freed n f F U → i < n → F.getD i 0 ≠ i → (∀ j : Nat, j < n → j ≠ i → F.getD j 0 ≠ i) → F'.length = n →
  (∀ t : Nat, t < n → F'.getD t 0 = if t = i then (i : Int) else if F.getD t 0 = F.getD i 0 ∧ (t : Int) ≠ F.getD i 0 then (i : Int) else F.getD t 0) → P F out → P F' (out ++ [((i : Int), F.getD i 0, ())])

theorem free_l0 {nf n K : Nat} {f : Int → Int} (h8 : n ≤ 8) (hn : 20 ≤ nf) (hK : K ≤ 8) {P : Lore} (hP : Tells n f P) : ∀ (fu : Nat) (F U : List Int) (out : List Mv) (i : Nat), Freed n f F U →
    (∀ c : Nat, c < n → -80 + 10 * (left F : Int) ≤ U.getD c 0 ∧ U.getD c 0 ≤ 8) → P F out → i ≤ n → (∀ j : Nat, j < i → F.getD j 0 ≠ j → U.getD j 0 ≠ 0) → out.length + left F = K → left F * (n + 1) + (n - i) < fu →
    ∃ (F' U' : List Int) (out' : List Mv), Freed n f F' U' ∧ P F' out' ∧ out'.length + left F' = K ∧ (∀ j : Nat, j < n → F'.getD j 0 ≠ j → U'.getD j 0 ≠ 0) ∧ swap_state_free_l0 nf fu (F, U, ()) out i = some (some (F', U', ()), out', ())
  | 0, F, U, out, i, _, _, _, _, _, _, hfu => by omega
  | fu + 1, F, U, out, i, h, hb, hp, hi, hd, hk, hfu => by
    have lF := h.lenF
    have lU := h.lenU
    have hstep : swap_state_free_l0 nf (fu + 1) (F, U, ()) out i = swap_state_free_b0 nf (fun p0 p1 v0 v1 v2 => swap_state_free_l2 nf p0 p1 (fun s2 out i => swap_state_free_l0 nf fu s2 out i) nf v0 v1 v2) (swap_state_free_l0 nf fu) (F, U, ()) out i := rfl
    unfold swap_state_free_b0 at hstep
    by_cases hin : i < n
    · have hw : IntKind.i64.wrap ((i : Int) + 1) = ((i + 1 : Nat) : Int) := by rw [Go.IntWalk.i64_in _ (by omega)]; omega
      simp only [show ((i : Int) < (F.length : Int)) by omega, decide_true, cond_true, Int.toNat_natCast, inb_ok (n := F.length) (t := (i : Int)) (by omega) (by omega), inb_ok (n := U.length) (t := (i : Int)) (by omega) (by omega), hw] at hstep
      have hmul : (n - (i + 1)) + 1 = n - i := by omega
      by_cases hm : F.getD i 0 = i
      · rw [hm, beq_self_eq_true, cond_true] at hstep
        rw [hstep]
        exact free_l0 h8 hn hK hP fu F U out (i + 1) h hb hp (by omega) (fun j hj hne => by
          by_cases hji : j = i
          · subst hji; exact absurd hm hne
          · exact hd j (by omega) hne) hk (by omega)
      · rw [beq_f hm, cond_false] at hstep
        have huse := h.uses i hin hm
        by_cases hu : U.getD i 0 > 0
        · rw [decide_eq_true hu, cond_true] at hstep
          rw [hstep]
          exact free_l0 h8 hn hK hP fu F U out (i + 1) h hb hp (by omega) (fun j hj hne => by
            by_cases hji : j = i
            · subst hji; omega
            · exact hd j (by omega) hne) hk (by omega)
        · have hu0 : U.getD i 0 = 0 := by omega
          have hr := h.rng
          have hri := hr i hin
          have hbi := hb (F.getD i 0).toNat (by omega)
          have hleft : left F ≤ n := by unfold left; rw [lF]; exact cnt_n _ _
          have hble : (out.length + [((i : Int), F.getD i 0, ())].length).ble lim = true := ble_ok (by simp; omega)
          have hw1 : IntKind.i64.wrap (U.getD (F.getD i 0).toNat 0 - 1) = U.getD (F.getD i 0).toNat 0 - 1 := Go.IntWalk.i64_in _ (by omega)
          simp only [decide_eq_false hu, cond_false, hble, bimp, Bool.and_self, cond_true, inb_ok (n := U.length) hri.1 (by omega), hw1] at hstep
          obtain ⟨F', U', f1, f2, f3, f4, f5, f6⟩ := free_l2 (nf := nf) h8 lF lU hin hm hr (by omega) (out ++ [((i : Int), F.getD i 0, ())]) (fun s2 out i => swap_state_free_l0 nf fu s2 out i) hn
          have hno := no_read h hin hm hu0
          have hls := left_step lF f1 hin hm hno f3
          have hcn := cnt_n (fun j => decide (j ≠ i ∧ (j : Int) ≠ F.getD i 0 ∧ F.getD j 0 = F.getD i 0)) n
          have hF' : Freed n f F' U' := by
            refine h.step hin hm hu0 f1 f2 (by rw [f3 i hin, if_pos rfl]) (fun t ht hti => by rw [f3 t ht, if_neg hti]) f4 fun hne => ?_
            have h1 := h.uses (F.getD i 0).toNat (by omega) (by rw [show (((F.getD i 0).toNat : Nat) : Int) = F.getD i 0 by omega]; exact hne)
            rw [show (((F.getD i 0).toNat : Nat) : Int) = F.getD i 0 by omega] at h1
            have h2 : readers F (F.getD i 0) = cnt (fun j => decide (j ≠ i ∧ (j : Int) ≠ F.getD i 0 ∧ F.getD j 0 = F.getD i 0)) n + 1 := by
              unfold readers
              rw [lF]
              refine cnt_flip (i := i) (decide_eq_true ⟨fun e => hm e.symm, rfl⟩) (by simp) (fun j hj hji => ?_) hin
              rw [decide_eq_decide]
              exact ⟨fun h => ⟨hji, h⟩, fun h => h.2⟩
            rw [f5, h1, h2]; omega
          have hmul2 : (left F' + 1) * (n + 1) = left F' * (n + 1) + (n + 1) := Nat.succ_mul _ _
          rw [hls, hmul2] at hfu
          obtain ⟨F2, U2, out2, r1, r2, r3, r4, r5⟩ := free_l0 h8 hn hK hP fu F' U' (out ++ [((i : Int), F.getD i 0, ())]) 0 hF' (fun c hc => by
            by_cases hco : (c : Int) = F.getD i 0
            · have e : c = (F.getD i 0).toNat := by omega
              subst e
              rw [f5]; omega
            · have := hb c hc
              rw [f4 c hc hco]; omega) (hP F U F' out i h hin hm hno f1 f3 hp) (by omega) (fun j hj => by omega) (by simp; omega) (by omega)
          refine ⟨F2, U2, out2, r1, r2, r3, r4, ?_⟩
          rw [hstep, f6]
          exact r5
    · have : i = n := by omega
      subst this
      simp only [show ¬ ((i : Int) < (F.length : Int)) by omega, decide_false, cond_false] at hstep
      exact ⟨F, U, out, h, hp, hk, hd, hstep⟩

theorem free_F {nf n : Nat} {f : Int → Int} (h8 : n ≤ 8) (hn : 100 ≤ nf) {P : Lore} (hP : Tells n f P) {F U : List Int} (h : Freed n f F U) (hb : ∀ c : Nat, c < n → 0 ≤ U.getD c 0 ∧ U.getD c 0 ≤ 8) (hp : P F []) :
    ∃ (F' U' : List Int) (out' : List Mv), Freed n f F' U' ∧ P F' out' ∧ out'.length + left F' = left F ∧ (∀ j : Nat, j < n → F'.getD j 0 ≠ j → U'.getD j 0 ≠ 0) ∧ swap_state_free_f nf (F, U, ()) = some (some (F', U', ()), out', ()) := by
  have hl : left F ≤ n := by unfold left; rw [h.lenF]; exact cnt_n _ _
  have hm : left F * (n + 1) ≤ 8 * 9 := Nat.mul_le_mul (by omega) (by omega)
  exact free_l0 h8 (by omega) (K := left F) (by omega) hP nf F U [] 0 h (fun c hc => by have := hb c hc; omega) hp (by omega) (fun j hj => by omega) (by simp) (by omega)

/-- what is not done at the end: the pure circles -/
theorem end_above {n : Nat} {f : Int → Int} {F U : List Int} (h : Freed n f F U) (he : ∀ j : Nat, j < n → F.getD j 0 ≠ j → U.getD j 0 ≠ 0) (c : Nat) (hc : c < n) : (Circ n f c → F.getD c 0 = f c) ∧ (¬ Circ n f c → F.getD c 0 = c) := by
  refine ⟨h.pure c hc, fun hno => Classical.byContradiction fun hne => hno (h.end_pure he (undone_mem.2 ⟨by omega, by have := h.lenF; omega, by rw [Int.toNat_natCast]; exact hne⟩))⟩
end Go.Proofs.Ytmndifhjmbiodaa
