/- Moves at once: a shortest order of moves, one by one. -/
import Derived.Test.YtmndifhjmbiodaaSwapSeq
import Derived.Test.YtmndifhjmbiodaaSwapRef
namespace Go.Proofs.Ytmndifhjmbiodaa
open Go Go.Ab S

theorem end_rest {n : Nat} {f : Int → Int} {F U : List Int} (h : Freed n f F U) (he : ∀ j : Nat, j < n → F.getD j 0 ≠ j → U.getD j 0 ≠ 0) : RestC n f 0 F := by
  have key := end_above h he
  have hab : ∀ c : Int, Above n f 0 c ↔ Circ n f c := fun c => ⟨fun h => h.1, fun h => ⟨h, fun m => (h.inn m).1⟩⟩
  exact ⟨h.lenF, fun c hc ha => (key c hc).1 ((hab c).1 ha), fun c hc ha => (key c hc).2 fun h2 => ha ((hab c).2 h2)⟩

theorem moved_F {nf n : Nat} (h8 : n ≤ 8) (hn : 100 ≤ nf) {o : List Mv} (ho : o.length ≤ 20) (hin : ∀ m ∈ o, 0 ≤ m.1 ∧ m.1 ≤ n ∧ 0 ≤ m.2.1 ∧ m.2.1 ≤ n) :
    ∃ v : List Int, v.length = n + 1 ∧ (∀ r : Nat, r ≤ n → v.getD r 0 = vals o id r) ∧ ref_Moved_f nf n o = some (v, ()) := by
  have hw : IntKind.i64.wrap ((n : Int) + 1) = ((n + 1 : Nat) : Int) := by rw [Go.IntWalk.i64_in _ (by omega)]; omega
  have hlim : ((n + 1 : Nat) : Int) ≤ (lim : Int) := by have : lim = 4294967296 := rfl; omega
  obtain ⟨fu', v, ⟨v1, v2⟩, e⟩ := loop_inv (n := ((n + 1 : Nat) : Int)) (F := fun fu t (v : List Int) => ref_Moved_l0 nf n o fu v t) (fun t v => v.length = n + 1 ∧ ∀ r : Nat, (r : Int) < t → v.getD r 0 = r) (fun fu t v h0 ht hI => by
    obtain ⟨i1, i2⟩ := hI
    refine ⟨v.set t.toNat t, ?_, by simpa using i1, fun r hr => ?_⟩
    · rw [ref_Moved_l0, ref_Moved_b0, inb_ok (n := v.length) h0 (by omega), wrap_step (n := n + 1) h0 ht (Nat.le_trans (show n + 1 ≤ 9 by omega) (by decide))]
      simp only [show t ≤ (n : Int) by omega, decide_true, cond_true]
    · rw [getD_upd (by omega)]
      split
      · omega
      · exact i2 r (by omega)) nf 0 (List.replicate (n + 1) 0) (by omega) (by omega) (by omega) ⟨by simp, fun r hr => by omega⟩
  obtain ⟨fu2, w, ⟨w1, w2⟩, e2⟩ := loop_inv (n := (o.length : Int)) (F := fun fu t (v : List Int) => ref_Moved_l2 nf o fu v t) (fun t v => v.length = n + 1 ∧ ∀ r : Nat, r ≤ n → v.getD r 0 = vals (o.take t.toNat) id r) (fun fu t v h0 ht hI => by
    obtain ⟨i1, i2⟩ := hI
    obtain ⟨a, b, c, d⟩ := hin _ (getD_mem (d := (0, 0, ())) h0 ht)
    refine ⟨v.set (o.getD t.toNat (0, 0, ())).1.toNat (v.getD (o.getD t.toNat (0, 0, ())).2.1.toNat 0), ?_, by simpa using i1, fun r hr => ?_⟩
    · rw [ref_Moved_l2, ref_Moved_b2, inb_ok h0 ht, wrap_step h0 ht (Nat.le_trans ho (by decide))]
      simp only [ht, decide_true, cond_true, inb_ok (n := v.length) c (by omega), inb_ok (n := v.length) a (by omega)]
    · rw [show (t + 1).toNat = t.toNat + 1 by omega, List.take_succ_eq_append_getElem (by omega), show o[t.toNat] = o.getD t.toNat (0, 0, ()) by rw [getD_nat o t _ h0 ht], vals_app, getD_upd (by omega)]
      have h1 := i2 (o.getD t.toNat (0, 0, ())).2.1.toNat (by omega)
      rw [show (((o.getD t.toNat (0, 0, ())).2.1.toNat : Nat) : Int) = (o.getD t.toNat (0, 0, ())).2.1 by omega] at h1
      by_cases hre : r = (o.getD t.toNat (0, 0, ())).1.toNat
      · rw [if_pos hre, if_pos (by omega), h1]
      · rw [if_neg hre, if_neg (by omega), i2 r hr]) nf 0 v (by omega) (by omega) (by omega) ⟨v1, fun r hr => by rw [v2 r (by omega)]; simp [vals]⟩
  refine ⟨w, w1, fun r hr => by rw [w2 r hr, Int.toNat_natCast, List.take_length], ?_⟩
  simp only [ref_Moved_f, ref_Moved_p, hw, show (0 : Int) ≤ ((n + 1 : Nat) : Int) by omega, Int.le_refl, hlim, decide_true, Bool.and_self, cond_true, Int.toNat_natCast]
  rw [e, ref_Moved_l0, ref_Moved_b0]
  simp only [show ¬ ((n + 1 : Nat) : Int) ≤ (n : Int) by omega, decide_false, cond_false]
  rw [e2, ref_Moved_l2, ref_Moved_b2]
  simp only [Int.lt_irrefl, decide_false, cond_false]

theorem mf_none : ∀ {l : List Mv} {r : Int}, (∀ q ∈ l, q.1 ≠ r) → mf l r = r
  | [], _, _ => rfl
  | p :: l, r, h => by
    simp only [mf]
    rw [if_neg (h p (by simp)), mf_none fun q hq => h q (by simp [hq])]

/-- how many of the first t moves move -/
def movs (l : List Mv) (t : Nat) : Nat := cnt (fun k => decide ((l.getD k (0, 0, ())).1 ≠ (l.getD k (0, 0, ())).2.1)) t

theorem movs_left {n : Nat} {l : List Mv} (hin : insB n l = true) (hnew : chk (newAt l) l.length 0 = true) : ∀ t : Nat, t ≤ l.length → movs l t = cnt (fun j => decide (mf (l.take t) j ≠ j)) n
  | 0, _ => by
    unfold movs
    rw [cnt_congr (p := fun j : Nat => decide (mf (l.take 0) j ≠ j)) (q := fun _ => false) fun k hk => by simp [mf], cnt_zero]; rfl
  | t + 1, ht => by
    have ih := movs_left hin hnew t (by omega)
    have hm : l.getD t (0, 0, ()) ∈ l := by have := getD_mem (l := l) (t := (t : Int)) (d := (0, 0, ())) (by omega) (by omega); simpa using this
    obtain ⟨a0, a1, b0, b1⟩ := insB_mem hin hm
    have hn := (newAt_iff (show t < l.length by omega)).1 (chk_iff.1 hnew t (by omega) (by omega))
    have hold : mf (l.take t) (l.getD t (0, 0, ())).1 = (l.getD t (0, 0, ())).1 := mf_none fun q hq => by
      obtain ⟨j, hj, rfl⟩ := List.mem_iff_getElem.1 hq
      rw [List.length_take] at hj
      have := hn j (by omega)
      rw [List.getElem_take]
      rwa [show l.getD j (0, 0, ()) = l[j] by simp [List.getD, show j < l.length by omega]] at this
    have hs : movs l (t + 1) = movs l t + if (l.getD t (0, 0, ())).1 ≠ (l.getD t (0, 0, ())).2.1 then 1 else 0 := by
      unfold movs; simp only [cnt, decide_eq_true_eq]
    have hmt := fun r => mf_take (l := l) (t := t) (by omega) hn r
    have eN : (((l.getD t (0, 0, ())).1.toNat : Nat) : Int) = (l.getD t (0, 0, ())).1 := by omega
    rw [hs, ih]
    by_cases hmv : (l.getD t (0, 0, ())).1 = (l.getD t (0, 0, ())).2.1
    · rw [if_neg (fun h => h hmv), Nat.add_zero]
      refine cnt_congr fun j hj => ?_
      rw [decide_eq_decide, hmt]
      split
      · rename_i hj2
        rw [hj2, hold, ← hmv]
      · rfl
    · rw [if_pos hmv]
      refine (cnt_flip (i := (l.getD t (0, 0, ())).1.toNat) ?_ ?_ (fun j hj hne => ?_) (by omega)).symm
      · rw [decide_eq_true_eq, eN, hmt, if_pos rfl]; exact fun h => hmv h.symm
      · rw [decide_eq_false_iff_not, eN, hold]; simp
      · rw [decide_eq_decide, hmt, if_neg (by omega)]

theorem swapOrders_main {nf : Nat} (hn : 100 ≤ nf) (regs : Int) (l : List Mv) : law_SwapOrders_f nf regs l = some (true, ()) := by
  obtain ⟨b1, b2⟩ := build_F (nf := nf) (by omega) regs l
  simp only [law_SwapOrders_f, law_SwapOrders_p, swap_Order_f, swap_Order_p]
  rw [check_F (by omega)]
  by_cases hc : mvCode regs l = 0
  · obtain ⟨F, U, f1, f0, f2, f3⟩ := b1 hc
    have hcs : (1 ≤ regs ∧ regs ≤ 8) ∧ l.length ≤ 8 ∧ insB regs l = true ∧ chk (newAt l) l.length 0 = true := by
      unfold mvCode at hc
      split at hc
      · cases hc
      · split at hc
        · cases hc
        · split at hc
          · cases hc
          · rename_i h1 h2 h3
            refine ⟨by omega, by omega, ?_, ?_⟩
            · cases h : insB regs l with
              | false => exact absurd h h2
              | true => rfl
            · cases h : chk (newAt l) l.length 0 with
              | false => exact absurd h h3
              | true => rfl
    obtain ⟨⟨c1, c2⟩, c3, c4, c5⟩ := hcs
    obtain ⟨n, rfl⟩ : ∃ n : Nat, regs = (n : Int) := ⟨regs.toNat, by omega⟩
    rw [Int.toNat_natCast] at f0 f1 f2
    have hlF := f1.lenF
    have hleft : left F = movs l l.length := by
      rw [movs_left c4 c5 l.length (Nat.le_refl _), List.take_length]
      unfold left
      rw [hlF]
      exact cnt_congr fun j hj => by rw [f0 j hj]
    have hl8 : left F ≤ 8 := by unfold left; rw [hlF]; exact Nat.le_trans (cnt_n _ _) (by omega)
    obtain ⟨F', U', out', r1, r0, rk, r2, r3⟩ := free_F (nf := nf) (n := n) (by omega) hn (vl_tells n (mf l)) f1 f2 (by
      refine ⟨fun m hm => (by cases hm), fun c hc hne => ?_, fun c hc he => ?_⟩
      · show F.getD c 0 = mf l c
        exact f0 c hc
      · show (c : Int) = mf l c
        rw [← f0 c hc, he])
    have hrest := end_rest r1 r2
    obtain ⟨o, o1, o2, o3⟩ := order_l0 (nf := nf) (n := n) (by omega) (by omega) (K := left F) (by omega) hrest (U', ()) (ord_start hrest r0) rk
    have hcir := circles_F (nf := nf) (by omega) (l := l) c3 (n := n) (by omega) (fun r h0 h1 => mf_in c4 h0 h1)
    have hh8 := heads_n n (mf l) n
    have hw : IntKind.i64.wrap ((n : Int) + 1) = (n : Int) + 1 := Go.IntWalk.i64_in _ (by omega)
    obtain ⟨v, v1, v2, v3⟩ := moved_F (nf := nf) (n := n) (by omega) hn (o := o) (by omega) o1.ins
    rw [f3, hc]
    simp only [Option.bind_some, bne_self_eq_false, cond_false, r3]
    rw [o3, hcir]
    simp only [Option.bind_some]
    -- how many moves there must be
    obtain ⟨fu1, q, ⟨q1, q2⟩, e1⟩ := loop_inv (n := (l.length : Int)) (F := fun fu t (q : List Mv × Int) => law_SwapOrders_l0 nf n l (o, 0, ()) fu q.1 q.2 t)
      (fun t q => q.1 = o ∧ q.2 = ((heads n (mf l) n : Nat) : Int) + (movs l t.toNat : Nat)) (fun fu t q h0 ht hI => by
        obtain ⟨i1, i2⟩ := hI
        have hcn : movs l t.toNat ≤ t.toNat := cnt_n _ _
        have hw2 : IntKind.i64.wrap (q.2 + 1) = q.2 + 1 := Go.IntWalk.i64_in _ (by omega)
        have hs : movs l (t + 1).toNat = movs l t.toNat + if (l.getD t.toNat (0, 0, ())).1 ≠ (l.getD t.toNat (0, 0, ())).2.1 then 1 else 0 := by
          rw [show (t + 1).toNat = t.toNat + 1 by omega]
          unfold movs; simp only [cnt, decide_eq_true_eq]
        by_cases hm : (l.getD t.toNat (0, 0, ())).1 = (l.getD t.toNat (0, 0, ())).2.1
        · refine ⟨q, ?_, i1, by rw [hs, if_neg (fun h => h hm)]; exact i2⟩
          rw [law_SwapOrders_l0, law_SwapOrders_b0, inb_ok h0 ht, wrap_step h0 ht (Nat.le_trans c3 (by decide)), hm, bne_self_eq_false]
          simp only [ht, decide_true, cond_true, cond_false]
        · refine ⟨(q.1, q.2 + 1), ?_, i1, by rw [hs, if_pos hm]; show q.2 + 1 = _; omega⟩
          rw [law_SwapOrders_l0, law_SwapOrders_b0, inb_ok h0 ht, wrap_step h0 ht (Nat.le_trans c3 (by decide)), bne_t hm, hw2]
          simp only [ht, decide_true, cond_true]) nf 0 (o, ((heads n (mf l) n : Nat) : Int)) (by omega) (by omega) (by omega) ⟨rfl, by simp [movs, cnt]⟩
    rw [show law_SwapOrders_l0 nf n l (o, 0, ()) nf o ((heads n (mf l) n : Nat) : Int) 0 = _ from e1, law_SwapOrders_l0, law_SwapOrders_b0]
    simp only [Int.lt_irrefl, decide_false, cond_false]
    rw [q1]
    -- each lies inside
    obtain ⟨fu2, o', rfl, e2⟩ := loop_inv (n := (o.length : Int)) (F := fun fu t (o' : List Mv) => law_SwapOrders_l2 nf n l (o, 0, ()) q.2 o fu o' t)
      (fun t o' => o' = o) (fun fu t o' h0 ht hI => by
        subst hI
        obtain ⟨a, b, c, d⟩ := o1.ins _ (getD_mem (d := (0, 0, ())) h0 ht)
        refine ⟨o', ?_, rfl⟩
        rw [law_SwapOrders_l2, law_SwapOrders_b2, inb_ok h0 ht, wrap_step h0 ht (Nat.le_trans (show o'.length ≤ 20 by omega) (by decide)), hw, inside_F (by omega), decide_eq_true (show 0 ≤ (o'.getD t.toNat (0, 0, ())).1 ∧ (o'.getD t.toNat (0, 0, ())).1 < (n : Int) + 1 ∧ 0 ≤ (o'.getD t.toNat (0, 0, ())).2.1 ∧ (o'.getD t.toNat (0, 0, ())).2.1 < (n : Int) + 1 by omega)]
        simp only [ht, decide_true, cond_true, Option.bind_some, Bool.not_true, cond_false]) nf 0 o (by omega) (by omega) (by omega) rfl
    rw [e2, law_SwapOrders_l2, law_SwapOrders_b2, v3]
    simp only [Int.lt_irrefl, decide_false, cond_false, Option.bind_some]
    -- each has what it should have
    obtain ⟨fu3, w, rfl, e3⟩ := loop_inv (n := (n : Int)) (F := fun fu t (w : List Int) => law_SwapOrders_l4 nf n l (o', 0, ()) q.2 fu o' w t)
      (fun t w => w = v) (fun fu t w h0 ht hI => by
        subst hI
        have hm : ref_MoveFrom_f nf l t = some (mf l t, ()) := mf_F l t (Nat.le_trans c3 (by decide)) (by omega)
        have h1 := v2 t.toNat (by omega)
        rw [show ((t.toNat : Nat) : Int) = t by omega] at h1
        have h2 := o1.no t.toNat (by omega) fun ha => by
          have := ha.2 0
          have e : it (mf l) 0 ((t.toNat : Nat) : Int) = t.toNat := rfl
          omega
        rw [show ((t.toNat : Nat) : Int) = t by omega] at h2
        refine ⟨w, ?_, rfl⟩
        rw [law_SwapOrders_l4, law_SwapOrders_b4, inb_ok (n := w.length) h0 (by omega), wrap_step h0 ht (Nat.le_trans (show n ≤ 8 by omega) (by decide)), hm]
        simp only [ht, decide_true, cond_true, Option.bind_some]
        rw [h1, h2, bne_self_eq_false, cond_false]) nf 0 v (by omega) (by omega) (by omega) rfl
    rw [e3, law_SwapOrders_l4, law_SwapOrders_b4]
    simp only [Int.lt_irrefl, decide_false, cond_false, beq_self_eq_true, cond_true]
    rw [Int.toNat_natCast] at q2
    rw [q2, o2, hleft]
    simp only [Option.some.injEq, Prod.mk.injEq, beq_iff_eq, and_true]
    omega
  · rw [b2 hc]
    simp only [Option.bind_some, bne_t hc, cond_true, beq_self_eq_true]
    rfl

theorem swapOrders_law (x : denPs (lawPs [.int .i64, .sl (.pair (.int .i64) (.pair (.int .i64) .unit))])) (_ : wfPs [.int .i64, .sl (.pair (.int .i64) (.pair (.int .i64) .unit))] x) : ∃ n, law_SwapOrders_F n x = some (true, ()) := by
  obtain ⟨regs, l, _⟩ := x
  exact ⟨100, swapOrders_main (by omega) regs l⟩
end Go.Proofs.Ytmndifhjmbiodaa
