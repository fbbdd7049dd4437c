/- tile.Cover tells a cover of a tree that costs least. -/
import Derived.Test.YtpnganfbonlphaaTileWalk
import Derived.Test.YtpnganfbonlphaaAbLaw
namespace Go.Proofs.Ytpnganfbonlphaa
open Go Go.Ab S

variable {nf : Nat} {l : List Term5} {ts : List Til}

theorem walk_inv (h : TermsOK l) (hc : tilesCode ts = 0) : ∀ (fu : Nat) (d q : List Int), WInv l ts d q → l.length + 1 ≤ d.length + fu → WInv l ts (walk l ts fu d q) [] ∧ ∀ x ∈ d ++ q, x ∈ walk l ts fu d q
  | 0, d, q, w, hf => by have := w.few; omega
  | fu + 1, d, [], w, _ => ⟨w, fun x hx => by simpa [walk] using hx⟩
  | fu + 1, d, q :: r, w, hf => by
    obtain ⟨h1, h2⟩ := walk_inv h hc fu (d ++ [q]) (r ++ rst l ts q) (w.step h hc) (by simp; omega)
    refine ⟨h1, fun x hx => ?_⟩
    simp only [walk]
    refine h2 x ?_
    simp only [List.mem_append, List.mem_cons] at hx ⊢
    rcases hx with hx | rfl | hx
    · exact .inl (.inl hx)
    · exact .inl (.inr (.inl rfl))
    · exact .inr (.inl hx)

def putW (l : List Term5) (ts : List Til) (o : List Int) (i : Int) : List Int := o.set i.toNat (wth l ts i)
def setAll (l : List Term5) (ts : List Til) (d : List Int) : List Int := d.foldl (putW l ts) (List.replicate l.length (-1))
theorem put_len : ∀ (d o : List Int), (d.foldl (putW l ts) o).length = o.length
  | [], _ => rfl
  | y :: d, o => by simp only [List.foldl_cons, put_len d, putW, List.length_set]
theorem setAll_len (d : List Int) : (setAll l ts d).length = l.length := by simp [setAll, put_len]
theorem put_getD : ∀ (d o : List Int), (∀ y ∈ d, 0 ≤ y ∧ y < o.length) → ∀ x : Int, 0 ≤ x → (d.foldl (putW l ts) o).getD x.toNat 0 = if x ∈ d then wth l ts x else o.getD x.toNat 0
  | [], _, _, _, _ => by simp
  | y :: d, o, h, x, hx => by
    have hy := h y (by simp)
    rw [List.foldl_cons, put_getD d _ (fun z hz => by simp only [putW, List.length_set]; exact h z (by simp [hz])) x hx]
    by_cases c : x ∈ d
    · simp [c]
    · simp only [c, if_false, putW]
      rw [getD_upd (by omega)]
      by_cases e : x = y
      · subst e; simp
      · rw [if_neg (by omega), if_neg (by simp [c, e])]
theorem setAll_getD {d : List Int} (h : ∀ y ∈ d, 0 ≤ y ∧ y < l.length) {x : Int} (hx : x ∈ d) : (setAll l ts d).getD x.toNat 0 = wth l ts x := by
  rw [setAll, put_getD d _ (by simpa using h) x (h x hx).1, if_pos hx]
def cntNe (c : List Int) : Nat := c.countP fun k => k != -1
theorem put_cnt : ∀ (d o : List Int), d.Nodup → (∀ y ∈ d, (0 ≤ y ∧ y < o.length) ∧ o.getD y.toNat 0 = -1 ∧ wth l ts y ≠ -1) → cntNe (d.foldl (putW l ts) o) = cntNe o + d.length
  | [], _, _, _ => rfl
  | y :: d, o, hn, h => by
    obtain ⟨⟨h0, h1⟩, h2, h3⟩ := h y (by simp)
    simp only [List.nodup_cons] at hn
    rw [List.foldl_cons, put_cnt d _ hn.2 fun z hz => by
      obtain ⟨g1, g2, g3⟩ := h z (by simp [hz])
      refine ⟨by simpa [putW] using g1, ?_, g3⟩
      have hne : z ≠ y := fun e => hn.1 (e ▸ hz)
      simp only [putW]
      rw [getD_upd (by omega), if_neg (by omega), g2]]
    have e : cntNe (putW l ts o y) = cntNe o + 1 := by
      simp only [cntNe, putW]
      rw [List.countP_set (by omega)]
      have : o[y.toNat] = -1 := by rw [← getD_nat o y 0 h0 h1, h2]
      simp [this, h3]
    rw [e, List.length_cons]; omega
theorem setAll_cnt (h : TermsOK l) (hc : tilesCode ts = 0) {d : List Int} (w : WInv l ts d []) : cntNe (setAll l ts d) = d.length := by
  have r := w.rng
  have ok := w.ok
  simp only [List.append_nil] at r ok
  rw [setAll, put_cnt d _ w.nodup fun y hy => ?_]
  · have : cntNe (List.replicate l.length (-1)) = 0 := by simp [cntNe, List.countP_replicate]
    omega
  · have hy' := r y hy
    obtain ⟨h1, _⟩ := cst_ok h hc hy'.1 hy'.2 (ok y hy)
    refine ⟨by simpa using hy', ?_, by omega⟩
    simp only [List.getD_eq_getElem?_getD, List.getElem?_replicate]
    rw [if_pos (by omega)]; rfl

theorem cover_l2 (h : TermsOK l) (hn : 20 ≤ nf) (hc : tilesCode ts = 0) : ∀ (fu : Nat) (d q : List Int), WInv l ts d q → l.length + 1 ≤ d.length + fu →
    tile_Cover_l2 nf l ts fu (costsL l ts l.length).2 (setAll l ts d) q = some (setAll l ts (walk l ts fu d q), 0, ())
  | 0, d, q, w, hf => by have := w.few; omega
  | fu + 1, d, [], w, _ => by rw [tile_Cover_l2, tile_Cover_b2]; simp [walk]
  | fu + 1, d, q :: r, w, hf => by
    have hq := w.rng q (by simp)
    obtain ⟨g1, g2⟩ := costsL_len (l := l) ts l.length
    obtain ⟨h1, h2, h3, h4⟩ := cst_ok h hc hq.1 hq.2 (w.ok q (by simp))
    have hfew := h.few
    have hw := w.few
    have hll := lies_len (l := l) q (tileOf l ts q)
    have e : (costsL l ts l.length).2.getD q.toNat 0 = wth l ts q := by
      rw [(costsL_at (l := l) ts l.length q.toNat (by omega)).2]; congr 1; omega
    have b1 : inb q (costsL l ts l.length).2.length = true := inb_ok hq.1 (by omega)
    have b2 : inb q (setAll l ts d).length = true := inb_ok hq.1 (by rw [setAll_len]; omega)
    have b3 : Nat.ble ((q :: r).length + (lies l q (tileOf l ts q)).1.length) lim = true := ble_ok (by simp only [List.length_cons] at hw ⊢; omega)
    have ih := cover_l2 h hn hc fu (d ++ [q]) (r ++ rst l ts q) (w.step h hc) (by simp; omega)
    have hs : setAll l ts (d ++ [q]) = (setAll l ts d).set q.toNat (wth l ts q) := by simp [setAll, List.foldl_append, putW]
    have ht : ts.getD (wth l ts q).toNat (0, 0, 0, 0, ()) = tileOf l ts q := rfl
    rw [tile_Cover_l2, tile_Cover_b2]
    simp only [List.getD_cons_zero, e, ht, b1, b2, inb_ok h1.1 h1.2, cond_true, below_F h (show 4 ≤ nf by omega) hq.1 hq.2, Option.bind_some, bimp, Bool.true_and, b3]
    rw [hs] at ih
    have c1 : decide (((q :: r).length : Int) > 0) = true := by simp
    have c2 : inb 0 (q :: r).length = true := inb_ok (by omega) (by simp)
    have c3 : (decide ((1 : Int) ≤ ((q :: r ++ (lies l q (tileOf l ts q)).1).length : Int))) = true := decide_eq_true (by simp only [List.length_append, List.length_cons]; omega)
    have c4 : List.take (((q :: r ++ (lies l q (tileOf l ts q)).1).length : Int) - 1).toNat (List.drop 1 (q :: r ++ (lies l q (tileOf l ts q)).1)) = r ++ rst l ts q := by
      simp only [List.cons_append, List.drop_one, List.tail_cons, List.length_cons, rst]
      exact List.take_of_length_le (by simp only [List.length_append, List.length_cons]; omega)
    simp only [c1, c2, c3, c4, cond_true, Int.le_refl, decide_true, Bool.and_true, ih, walk]
    rfl

theorem cover_F (h : TermsOK l) (ht : treeB l = true) (hn : 60 ≤ nf) (hc : tilesCode ts = 0) (hr : 0 ≤ cst l ts (l.length - 1)) : (∀ vars : Int, treeC vars l = 0 → tile_Cover_f nf vars l ts = some (setAll l ts (walk l ts nf [] [(l.length : Int) - 1]), 0, ())) := by
  intro vars hv
  have hp := h.pos
  have hf := h.few
  obtain ⟨g1, g2⟩ := costsL_len (l := l) ts l.length
  have e : (costsL l ts l.length).1.getD ((l.length : Int) - 1).toNat 0 = cst l ts ((l.length : Int) - 1) := by
    rw [(costsL_at (l := l) ts l.length ((l.length : Int) - 1).toNat (by omega)).1]
    congr 1; omega
  have key : ∀ (fu : Nat) (t : Int), 0 ≤ t → t ≤ l.length → l.length < t + fu → tile_Cover_l0 nf l ts fu (costsL l ts l.length).2 (List.replicate t.toNat (-1) ++ List.replicate (l.length - t.toNat) 0) t = tile_Cover_l2 nf l ts nf (costsL l ts l.length).2 (List.replicate l.length (-1)) [(l.length : Int) - 1] := by
    intro fu
    induction fu with
    | zero => intro t a b c; omega
    | succ fu ih =>
      intro t a b c
      rw [tile_Cover_l0, tile_Cover_b0]
      simp only [List.length_replicate, Int.toNat_natCast]
      by_cases c1 : t < l.length
      · have hs : (List.replicate t.toNat (-1 : Int) ++ List.replicate (l.length - t.toNat) 0).set t.toNat (-1) = List.replicate (t + 1).toNat (-1) ++ List.replicate (l.length - (t + 1).toNat) 0 := by
          obtain ⟨m, hm⟩ : ∃ m, l.length - t.toNat = m + 1 := ⟨l.length - t.toNat - 1, by omega⟩
          rw [hm, show l.length - (t + 1).toNat = m by omega, show (t + 1).toNat = t.toNat + 1 by omega, List.replicate_succ, List.replicate_succ', List.set_append_right _ _ (by simp)]
          simp
        have := ih (t + 1) (by omega) (by omega) (by omega)
        simp only [c1, decide_true, cond_true, inb_ok (n := (List.replicate t.toNat (-1 : Int) ++ List.replicate (l.length - t.toNat) (0 : Int)).length) a (by simp; omega), hs, wrap_step a c1 (Nat.le_trans hf (by decide)), this]
      · have : t = l.length := by omega
        subst this
        simp [wrap_last h]
  have k0 := key nf 0 (by omega) (by omega) (by omega)
  simp only [Int.toNat_zero, List.replicate_zero, List.nil_append, Nat.sub_zero] at k0
  have k2 := cover_l2 h (show 20 ≤ nf by omega) hc nf [] [(l.length : Int) - 1] (WInv.init h ht hc hr) (by simp; omega)
  have hlen : decide ((l.length : Int) ≤ (lim : Int)) = true := decide_eq_true (by show (l.length : Int) ≤ 4294967296; omega)
  have c0 : decide ((0 : Int) ≤ (l.length : Int)) = true := decide_eq_true (by omega)
  have hneg : ¬ cst l ts ((l.length : Int) - 1) < 0 := by omega
  simp only [tile_Cover_f, tile_Cover_p, tile_wrong_F (show 20 ≤ nf by omega), Option.bind_some, hv, hc, if_true, show ((0 : Int) != 0) = false from rfl, cond_false, solve_F h (show 20 ≤ nf by omega) (tilesCode_len hc), wrap_last h, inb_ok (n := (costsL l ts l.length).1.length) (show 0 ≤ (l.length : Int) - 1 by omega) (by omega), cond_true, e, hneg, decide_false, hlen, c0, Int.le_refl, decide_true, Bool.and_self, Int.toNat_natCast, k0]
  exact k2

def tcost (l : List Term5) (ts : List Til) (d : List Int) : Int := (d.map fun i => (tileOf l ts i).2.2.2.1).sum
theorem tlaw_l0 (h : TermsOK l) (hn : 60 ≤ nf) (hc : tilesCode ts = 0) {r : List Int × Int × Unit} : ∀ (fu : Nat) (d q : List Int), WInv l ts d q → l.length + 1 ≤ d.length + fu →
    law_TileCovers_l0 nf l ts r fu (setAll l ts (walk l ts fu d q)) (d ++ q) (IntKind.i64.wrap (tcost l ts d)) d.length =
      law_TileCovers_l2 nf l ts r (IntKind.i64.wrap (tcost l ts (walk l ts fu d q))) (setAll l ts (walk l ts fu d q)) nf (setAll l ts (walk l ts fu d q)) (walk l ts fu d q) 0 0
  | 0, d, q, w, hf => by have := w.few; omega
  | fu + 1, d, [], w, _ => by rw [law_TileCovers_l0, law_TileCovers_b0]; simp [walk]
  | fu + 1, d, q :: r', w, hf => by
    have hq := w.rng q (by simp)
    obtain ⟨h1, h2, h3, h4⟩ := cst_ok h hc hq.1 hq.2 (w.ok q (by simp))
    have hfew := h.few
    have hw := w.few
    have hll := lies_len (l := l) q (tileOf l ts q)
    have hwi := walk_inv h hc (fu + 1) d (q :: r') w hf
    have r2 := hwi.1.rng
    simp only [List.append_nil] at r2
    have e : (setAll l ts (walk l ts (fu + 1) d (q :: r'))).getD q.toNat 0 = wth l ts q := setAll_getD r2 (hwi.2 q (by simp))
    have ih := tlaw_l0 (r := r) h hn hc fu (d ++ [q]) (r' ++ rst l ts q) (w.step h hc) (by simp; omega)
    have ht : ts.getD (wth l ts q).toNat (0, 0, 0, 0, ()) = tileOf l ts q := rfl
    have g : (d ++ q :: r').getD ((d.length : Nat) : Int).toNat 0 = q := by simp [List.getD_eq_getElem?_getD]
    have b1 : inb q (setAll l ts (walk l ts (fu + 1) d (q :: r'))).length = true := inb_ok hq.1 (by rw [setAll_len]; omega)
    have b2 : inb ((d.length : Nat) : Int) (d ++ q :: r').length = true := inb_ok (by omega) (by simp; omega)
    have b3 : Nat.ble ((d ++ q :: r').length + (lies l q (tileOf l ts q)).1.length) lim = true := ble_ok (by simp only [List.length_append, List.length_cons] at hw ⊢; omega)
    have b4 : decide (((d.length : Nat) : Int) < ((d ++ q :: r').length : Int)) = true := decide_eq_true (by simp; omega)
    have hin : ref_Inside_f nf ((ts.length : Int)) [wth l ts q] = some (true, ()) := by
      rw [within_F (ts.length : Int) [wth l ts q] (by simp [maxLen]) (by simp; omega)]
      simp [within, h1.1, h1.2]
    have hsum : IntKind.i64.wrap (IntKind.i64.wrap (tcost l ts d) + (tileOf l ts q).2.2.2.1) = IntKind.i64.wrap (tcost l ts (d ++ [q])) := by
      rw [wrap_add']; simp [tcost]
    have hk : IntKind.i64.wrap ((d.length : Nat) + 1) = ((d ++ [q]).length : Int) := by
      rw [wrap_step (n := 100) (by omega) (by omega) (by decide)]; simp
    rw [law_TileCovers_l0, law_TileCovers_b0]
    simp only [b2, b4, cond_true, g, e, b1, hin, Option.bind_some, Bool.not_true, cond_false, inb_ok h1.1 h1.2, ht, ref_Lies_F h (show 4 ≤ nf by omega) hq.1 hq.2, h2, bimp, Bool.true_and, b3, hsum, hk]
    simp only [walk]
    rw [← ih]
    congr 1
    simp [rst]

theorem many_l2 (h : TermsOK l) (hc : tilesCode ts = 0) {r : List Int × Int × Unit} {sum : Int} {c todo : List Int} (hl : c.length ≤ 16) : ∀ (fu : Nat) (m t : Int), 0 ≤ t → t ≤ c.length → c.length < t + fu → 0 ≤ m → m ≤ t → nf ≥ 60 →
    law_TileCovers_l2 nf l ts r sum c fu c todo m t = bif r.2.1 == 0 then (bif sum == cst l ts (l.length - 1) then some ((todo.length : Int) == m + cntNe (c.drop t.toNat), ()) else some (false, ())) else some (false, ()) := by
  intro fu
  induction fu with
  | zero => intro m t a b c; omega
  | succ fu ih =>
    intro m t a b c' m0 m1 hn
    have hp := h.pos
    have hf := h.few
    rw [law_TileCovers_l2, law_TileCovers_b2]
    by_cases ht : t < c.length
    · rw [drop_step c t 0 a ht]
      simp only [ht, decide_true, cond_true, inb_ok a ht, wrap_step (n := c.length) a ht (Nat.le_trans hl (by decide))]
      by_cases hk : c.getD t.toNat 0 = -1
      · simp only [hk, bne_self_eq_false, cond_false, ih m (t + 1) (by omega) (by omega) (by omega) m0 (by omega) hn]
        simp [cntNe]
      · simp only [bne_t hk, cond_true, wrap_step (t := m) (n := 100) m0 (by omega) (by decide), ih (m + 1) (t + 1) (by omega) (by omega) (by omega) (by omega) (by omega) hn]
        have : cntNe (c.getD t.toNat 0 :: c.drop (t + 1).toNat) = cntNe (c.drop (t + 1).toNat) + 1 := by
          simp only [cntNe, List.countP_cons, bne_t hk, if_true]
        rw [this]
        rw [show m + ((cntNe (c.drop (t + 1).toNat) + 1 : Nat) : Int) = m + ((cntNe (c.drop (t + 1).toNat) : Int) + 1) by omega, show m + 1 + (cntNe (c.drop (t + 1).toNat) : Int) = m + ((cntNe (c.drop (t + 1).toNat) : Int) + 1) by omega]
    · have he : c.drop t.toNat = [] := List.drop_eq_nil_of_le (by omega)
      simp only [ht, decide_false, cond_false, he, wrap_last h, tc_F h (tilesCode_len hc) nf ((l.length : Int) - 1) (by omega) (by omega) (by omega), Option.bind_some]
      simp [cntNe]

theorem tileCovers_main (hn : 60 ≤ nf) (vars : Int) (l : List Term5) (ts : List Til) : law_TileCovers_f nf vars l ts = some (true, ()) := by
  simp only [law_TileCovers_f, law_TileCovers_p, tileCode_F hn]
  by_cases h : treeC vars l = 0
  · obtain ⟨hT, htree⟩ := treeC_ok h
    have hp := hT.pos
    have hf := hT.few
    by_cases h2 : tilesCode ts = 0
    · obtain ⟨g1, g2⟩ := costsL_len (l := l) ts l.length
      have e : (costsL l ts l.length).1.getD ((l.length : Int) - 1).toNat 0 = cst l ts ((l.length : Int) - 1) := by
        rw [(costsL_at (l := l) ts l.length ((l.length : Int) - 1).toNat (by omega)).1]
        congr 1; omega
      by_cases h3 : cst l ts (l.length - 1) < 0
      · have hcov : tile_Cover_f nf vars l ts = some ([], 5, ()) := by
          simp only [tile_Cover_f, tile_Cover_p, tile_wrong_F (show 20 ≤ nf by omega), Option.bind_some, h, h2, if_true, show ((0 : Int) != 0) = false from rfl, cond_false, solve_F hT (show 20 ≤ nf by omega) (tilesCode_len h2), wrap_last hT, inb_ok (n := (costsL l ts l.length).1.length) (show 0 ≤ (l.length : Int) - 1 by omega) (by omega), cond_true, e, h3, decide_true]
        simp [hcov, h, h2, h3]
      · have hr : 0 ≤ cst l ts (l.length - 1) := by omega
        have w := WInv.init hT htree h2 hr
        have hwi := walk_inv hT h2 nf _ _ w (by simp; omega)
        have k1 := tlaw_l0 (r := (setAll l ts (walk l ts nf [] [(l.length : Int) - 1]), 0, ())) hT hn h2 nf [] [(l.length : Int) - 1] w (by simp; omega)
        have k2 := many_l2 (nf := nf) hT h2 (r := (setAll l ts (walk l ts nf [] [(l.length : Int) - 1]), 0, ())) (sum := IntKind.i64.wrap (tcost l ts (walk l ts nf [] [(l.length : Int) - 1]))) (c := setAll l ts (walk l ts nf [] [(l.length : Int) - 1])) (todo := walk l ts nf [] [(l.length : Int) - 1]) (by rw [setAll_len]; omega) nf 0 0 (by omega) (by omega) (by rw [setAll_len]; omega) (by omega) (by omega) hn
        have hs := hwi.1.sum
        simp only [List.map_nil, List.sum_nil, Int.add_zero] at hs
        have hz : IntKind.i64.wrap (tcost l ts []) = 0 := by simp only [tcost, List.map_nil, List.sum_nil]; decide
        rw [hz] at k1
        simp only [List.nil_append, List.length_nil] at k1
        have k1' := k1.trans k2
        simp only [cover_F hT htree hn h2 hr vars h, Option.bind_some, h, h2, h3, if_true, if_false, show ((0 : Int) != 0) = false from rfl, cond_false, setAll_len, bne_self_eq_false, wrap_last hT]
        rw [show (0 : Int) = ((0 : Nat) : Int) from rfl]
        refine k1'.trans ?_
        have e2 : IntKind.i64.wrap (tcost l ts (walk l ts nf [] [(l.length : Int) - 1])) = cst l ts (l.length - 1) := hs
        simp only [e2, beq_self_eq_true, cond_true, Int.toNat_zero, List.drop_zero, setAll_cnt hT h2 hwi.1, Int.zero_add]
    · have hcov : tile_Cover_f nf vars l ts = some ([], tilesCode ts, ()) := by
        simp only [tile_Cover_f, tile_Cover_p, tile_wrong_F (show 20 ≤ nf by omega), Option.bind_some, h, if_true, bne_t h2, cond_true]
      simp [hcov, h, h2, bne_t h2]
  · have hcov : tile_Cover_f nf vars l ts = some ([], treeC vars l, ()) := by
      simp only [tile_Cover_f, tile_Cover_p, tile_wrong_F (show 20 ≤ nf by omega), Option.bind_some, h, if_false, bne_t h, cond_true]
    simp [hcov, h, bne_t h]

theorem tileCovers_law (x : denPs (lawPs [.int .i64, .sl (.pair (.int .i64) (.pair (.int .i64) (.pair (.int .i64) (.pair (.int .i64) (.unit))))), .sl (.pair (.int .i64) (.pair (.int .i64) (.pair (.int .i64) (.pair (.int .i64) (.unit)))))])) (_ : wfPs [.int .i64, .sl (.pair (.int .i64) (.pair (.int .i64) (.pair (.int .i64) (.pair (.int .i64) (.unit))))), .sl (.pair (.int .i64) (.pair (.int .i64) (.pair (.int .i64) (.pair (.int .i64) (.unit)))))] x) : ∃ n, law_TileCovers_F n x = some (true, ()) := by
  obtain ⟨vars, l, ts, _⟩ := x
  exact ⟨60, tileCovers_main (Nat.le_refl _) vars l ts⟩
end Go.Proofs.Ytpnganfbonlphaa
