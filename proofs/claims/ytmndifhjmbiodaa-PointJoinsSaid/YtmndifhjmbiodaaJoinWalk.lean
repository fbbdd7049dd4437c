/- Classes of variables: the program's steps. -/
import Derived.Test.YtmndifhjmbiodaaJoinLib
namespace Go.Proofs.Ytmndifhjmbiodaa
open Go Go.Ab S

theorem getD_self {F : List Int} {n : Nat} (hl : F.length = n) {a : Int} (h0 : 0 ≤ a) (h1 : a < n) (x : Int) : (F.set a.toNat x).getD a.toNat 0 = x := by
  rw [getD_upd (by omega), if_pos rfl]

theorem join_l2 {nf n : Nat} (h8 : n ≤ 8) (hn : 20 ≤ nf) {F T : List Int} (h : WF n F T) {a b : Int} (ha : 0 ≤ a ∧ a < n) (hb : 0 ≤ b ∧ b < n) (g0 : List Int × List Int × Unit → Int → Int → Option (Option (List Int × List Int × Unit) × Unit)) :
    ∃ F' T', Merged n a b F T F' T' ∧ point_classes_join_l2 nf a b (F, T, ()) g0 nf (F, T, ()) 0 = g0 (F', T', ()) (sub a b (gt T a)) (sub a b (gt T b)) := by
  have lF := h.lenF
  have lT := h.lenT
  obtain ⟨fu', q, ⟨q1, q2, q3, q4, q5⟩, e⟩ := loop_inv (n := (n : Int)) (F := fun fu t (q : List Int × List Int × Unit) => point_classes_join_l2 nf a b (F, T, ()) g0 fu q t)
    (fun t q => q.1.length = n ∧ q.2.1.length = n ∧ (∀ i : Int, 0 ≤ i → i < n → gt q.1 i = if i < t then sub a b (gt F i) else gt F i) ∧ (∀ i : Int, 0 ≤ i → i < n → gt q.2.1 i = if i < t then sub a b (gt T i) else gt T i) ∧ q.2.2 = ()) (fun fu t q h0 ht hI => by
      obtain ⟨i1, i2, i3, i4, _⟩ := hI
      have hFt := i3 t h0 ht
      have hTt := i4 t h0 ht
      rw [if_neg (by omega)] at hFt hTt
      have hst : point_classes_join_l2 nf a b (F, T, ()) g0 (fu + 1) q t = point_classes_join_b2 nf a b (F, T, ()) g0 (point_classes_join_l2 nf a b (F, T, ()) g0 fu) q t := rfl
      have hw := wrap_step h0 ht (Nat.le_trans h8 (by decide))
      have eF : List.getD q.1 t.toNat 0 = gt F t := hFt
      have eT : List.getD q.2.1 t.toNat 0 = gt T t := hTt
      unfold point_classes_join_b2 at hst
      simp only [lF, ht, decide_true, cond_true, inb_ok (n := List.length q.1) h0 (by omega), inb_ok (n := List.length q.2.1) h0 (by omega), eF, eT, hw] at hst
      have upd : ∀ (L L' : List Int) (M : List Int), L.length = n → (∀ i : Int, 0 ≤ i → i < n → gt L i = if i < t then sub a b (gt M i) else gt M i) → L' = (if gt M t = b then L.set t.toNat a else L) → L'.length = n ∧ ∀ i : Int, 0 ≤ i → i < n → gt L' i = if i < t + 1 then sub a b (gt M i) else gt M i := fun L L' M hL hI hL' => by
        refine ⟨by rw [hL']; split <;> simp [hL], fun i j0 j1 => ?_⟩
        have hi := hI i j0 j1
        by_cases hit : i = t
        · subst hit
          rw [if_pos (by omega)]
          rw [if_neg (by omega)] at hi
          by_cases hM : gt M i = b
          · rw [hL', if_pos hM, gt_set hL h0 ht _ j0, if_pos rfl, sub, if_pos hM]
          · rw [hL', if_neg hM, hi, sub, if_neg hM]
        · have hsame : gt L' i = gt L i := by
            rw [hL']
            split
            · rw [gt_set hL h0 ht _ j0, if_neg hit]
            · rfl
          rw [hsame, hi]
          by_cases hlt : i < t
          · rw [if_pos hlt, if_pos (by omega)]
          · rw [if_neg hlt, if_neg (by omega)]
      obtain ⟨u1, u2⟩ := upd q.1 _ F i1 i3 rfl
      obtain ⟨u3, u4⟩ := upd q.2.1 _ T i2 i4 rfl
      refine ⟨((if gt F t = b then q.1.set t.toNat a else q.1), (if gt T t = b then q.2.1.set t.toNat a else q.2.1), ()), ?_, u1, u3, u2, u4, rfl⟩
      rw [hst]
      by_cases c1 : gt F t = b
      · by_cases c2 : gt T t = b
        · rw [c1, c2]; simp only [beq_self_eq_true, cond_true, if_true]
        · rw [c1, beq_f c2]; simp only [beq_self_eq_true, cond_true, if_true, cond_false, c2, if_false]
      · by_cases c2 : gt T t = b
        · rw [c2, beq_f c1]; simp only [beq_self_eq_true, cond_true, if_true, cond_false, c1, if_false]
        · rw [beq_f c1, beq_f c2]; simp only [cond_false, c1, c2, if_false]) nf 0 (F, T, ()) (by omega) (by omega) (by omega) ⟨lF, lT, fun i i0 i1 => by rw [if_neg (by omega)], fun i i0 i1 => by rw [if_neg (by omega)], rfl⟩
  have fin : ∀ (T4 : List Int) (w : Int), T4.length = n → (∀ i : Int, 0 ≤ i → gt T4 i = if i = a then w else gt q.2.1 i) → w = sub a b (if gt T a < 0 then gt T b else gt T a) → Merged n a b F T q.1 T4 := fun T4 w hl hi hw => by
    refine ⟨q1, hl, fun i i0 i1 => by rw [q3 i i0 i1, if_pos i1], fun i i0 i1 => ?_⟩
    rw [hi i i0]
    split
    · exact hw
    · rw [q4 i i0 i1, if_pos i1]
  obtain ⟨x, hx⟩ : ∃ x, x = gt T a := ⟨_, rfl⟩
  obtain ⟨y, hy⟩ : ∃ y, y = gt T b := ⟨_, rfl⟩
  have ex : List.getD T a.toNat 0 = x := hx.symm
  have ey : List.getD T b.toNat 0 = y := hy.symm
  simp only [← hx, ← hy] at fin ⊢
  have la : ∀ v, (q.2.1.set a.toNat v).length = n := fun v => by simpa using q2
  have la2 : ∀ v w, ((q.2.1.set a.toNat v).set a.toNat w).length = n := fun v w => by simpa using q2
  have sa := fun v => getD_self q2 ha.1 ha.2 v
  have sa2 := fun v w => getD_self (la v) ha.1 ha.2 w
  have g1 := fun v i i0 => gt_set q2 ha.1 ha.2 v (i := i) i0
  have g2 := fun v w i i0 => gt_set (la v) ha.1 ha.2 w (i := i) i0
  have g3 := fun v w z i i0 => gt_set (la2 v w) ha.1 ha.2 z (i := i) i0
  have hin1 : ∀ v, inb a (q.2.1.set a.toNat v).length = true := fun v => by rw [la]; exact inb_ok ha.1 ha.2
  have hin2 : ∀ v w, inb a ((q.2.1.set a.toNat v).set a.toNat w).length = true := fun v w => by rw [la2]; exact inb_ok ha.1 ha.2
  have hin0 : inb a (List.length q.2.1) = true := by rw [q2]; exact inb_ok ha.1 ha.2
  rw [show point_classes_join_l2 nf a b (F, T, ()) g0 nf (F, T, ()) 0 = _ from e, point_classes_join_l2]
  unfold point_classes_join_b2
  simp only [lF, Int.lt_irrefl, decide_false, cond_false, hin0, cond_true, ex, ey, hin1, hin2, sa, sa2]
  by_cases cx : x < 0
  · have hxb : x ≠ b := by omega
    simp only [cx, decide_true, cond_true, beq_f hxb, cond_false, if_true] at fin ⊢
    by_cases cy : y = b
    · refine ⟨q.1, ((q.2.1.set a.toNat x).set a.toNat y).set a.toNat a, fin _ a (by simpa using q2) (fun i i0 => by
        rw [g3 _ _ _ i i0]; split
        · rfl
        · rw [g2 _ _ i i0]; split
          · rename_i h1 h2; exact absurd h2 h1
          · rw [g1 _ i i0]; split
            · rename_i h1 h2; exact absurd h2 h1
            · rfl) (by rw [sub, if_pos cy]), ?_⟩
      simp only [cy, beq_self_eq_true, cond_true, sub, if_true, hxb, if_false]
    · refine ⟨q.1, (q.2.1.set a.toNat x).set a.toNat y, fin _ y (by simpa using q2) (fun i i0 => by
        rw [g2 _ _ i i0]; split
        · rfl
        · rw [g1 _ i i0]; split
          · rename_i h1 h2; exact absurd h2 h1
          · rfl) (by rw [sub, if_neg cy]), ?_⟩
      simp only [beq_f cy, cond_false, sub, cy, hxb, if_false]
  · simp only [cx, decide_false, cond_false, if_false] at fin ⊢
    by_cases cxb : x = b
    · refine ⟨q.1, (q.2.1.set a.toNat x).set a.toNat a, fin _ a (by simpa using q2) (fun i i0 => by
        rw [g2 _ _ i i0]; split
        · rfl
        · rw [g1 _ i i0]; split
          · rename_i h1 h2; exact absurd h2 h1
          · rfl) (by rw [sub, if_pos cxb]), ?_⟩
      by_cases cy : y = b
      · simp only [cxb, cy, beq_self_eq_true, cond_true, sub, if_true]
      · simp only [cxb, beq_self_eq_true, cond_true, beq_f cy, cond_false, sub, if_true, cy, if_false]
    · refine ⟨q.1, q.2.1.set a.toNat x, fin _ x (by simpa using q2) (fun i i0 => g1 _ i i0) (by rw [sub, if_neg cxb]), ?_⟩
      by_cases cy : y = b
      · simp only [beq_f cxb, cy, beq_self_eq_true, cond_true, cond_false, sub, if_true, cxb, if_false]
      · simp only [beq_f cxb, beq_f cy, cond_false, sub, cxb, cy, if_false]

theorem join_l0 {nf n : Nat} {vars : Int} {l : List Stm} (hv : vars = n) (h8 : n ≤ 8) (hn : 20 ≤ nf) : ∀ (fu : Nat) (F T : List Int) (a b : Int), WF n F T → SndJ vars l (rl n F T) → names F < fu → (a < 0 ∨ ((0 ≤ a ∧ a < n) ∧ gt F a = a)) → (b < 0 ∨ ((0 ≤ b ∧ b < n) ∧ gt F b = b)) → (0 ≤ a → 0 ≤ b → Jn vars l true a b) →
    ∃ F' T', MoveJ vars l n F T F' T' ∧ (0 ≤ a → 0 ≤ b → rl n F' T' true a b = true) ∧ point_classes_join_l0 nf fu (F, T, ()) a b = some (some (F', T', ()), ())
  | 0, F, T, a, b, _, _, hfu, _, _, _ => by omega
  | fu + 1, F, T, a, b, h, hs, hfu, hA, hB, hj => by
    have lF := h.lenF
    have lT := h.lenT
    have hst : point_classes_join_l0 nf (fu + 1) (F, T, ()) a b = point_classes_join_b0 nf (fun p0 p1 p2 v0 v1 => point_classes_join_l2 nf p0 p1 p2 (fun c2 a2 b2 => point_classes_join_l0 nf fu c2 a2 b2) nf v0 v1) (point_classes_join_l0 nf fu) (F, T, ()) a b := rfl
    unfold point_classes_join_b0 at hst
    by_cases hab : a = b
    · subst hab
      rw [bne_self_eq_false, cond_false] at hst
      refine ⟨F, T, MoveJ.same h hs, fun a0 _ => ?_, hst⟩
      rcases hA with h1 | ⟨h1, _⟩
      · omega
      · exact h.base.refl _ h1.1 h1.2
    · rw [bne_t hab, cond_true] at hst
      by_cases ha0 : a < 0
      · rw [show decide (a ≥ 0) = false by rw [decide_eq_false_iff_not]; omega, cond_false] at hst
        exact ⟨F, T, MoveJ.same h hs, fun h1 _ => by omega, hst⟩
      · by_cases hb0 : b < 0
        · rw [show decide (a ≥ 0) = true by rw [decide_eq_true_eq]; omega, cond_true, show decide (b ≥ 0) = false by rw [decide_eq_false_iff_not]; omega, cond_false] at hst
          exact ⟨F, T, MoveJ.same h hs, fun _ h1 => by omega, hst⟩
        · obtain ⟨ha, ra⟩ : (0 ≤ a ∧ a < n) ∧ gt F a = a := hA.resolve_left ha0
          obtain ⟨hb, rb⟩ : (0 ≤ b ∧ b < n) ∧ gt F b = b := hB.resolve_left hb0
          rw [show decide (a ≥ 0) = true by rw [decide_eq_true_eq]; omega, cond_true, show decide (b ≥ 0) = true by rw [decide_eq_true_eq]; omega, cond_true, inb_ok (n := List.length (F, T, ()).2.1) ha.1 (by show a < (T.length : Int); omega), inb_ok (n := List.length (F, T, ()).2.1) hb.1 (by show b < (T.length : Int); omega), cond_true, cond_true] at hst
          obtain ⟨F1, T1, m, e⟩ := join_l2 (nf := nf) h8 hn h ha hb (fun c2 a2 b2 => point_classes_join_l0 nf fu c2 a2 b2)
          obtain ⟨s1, s2⟩ := m.snd h hv ha hb hab ra rb hs (hj ha.1 hb.1)
          have hw := m.wf h ha hb hab ra rb
          have hnm := m.fewer h ha hb hab ra rb
          have hneg : ∀ z : Int, 0 ≤ sub a b z → 0 ≤ z := fun z hz => by
            unfold sub at hz
            split at hz
            · omega
            · exact hz
          have hpos : ∀ z : Int, 0 ≤ z → 0 ≤ sub a b z := fun z hz => by
            unfold sub
            split
            · exact ha.1
            · exact hz
          have hrep : ∀ c : Int, 0 ≤ c → c < n → sub a b (gt T c) < 0 ∨ ((0 ≤ sub a b (gt T c) ∧ sub a b (gt T c) < n) ∧ gt F1 (sub a b (gt T c)) = sub a b (gt T c)) := fun c c0 c1 => by
            rcases h.to c c0 c1 with h1 | ⟨h1, h2⟩
            · left; rw [h1, sub, if_neg (by omega)]; decide
            · exact .inr (m.rep ha hab ra h1.1 h1.2 h2)
          obtain ⟨F2, T2, r1, r2, r3⟩ := join_l0 hv h8 hn fu F1 T1 (sub a b (gt T a)) (sub a b (gt T b)) hw s1 (by omega) (hrep a ha.1 ha.2) (hrep b hb.1 hb.2) (fun h1 h2 => s2 (hneg _ h1) (hneg _ h2))
          refine ⟨F2, T2, ⟨r1.wf, m.le h ha hb hab ra rb r1.wf.base r1.le fun h1 h2 => r2 (hpos _ h1) (hpos _ h2), r1.snd, .inr ?_⟩, fun _ _ => r1.le true a b (rl_one.2 ⟨ha, hb, ?_⟩), hst.trans (e.trans r3)⟩
          · have hu := unset_le (T := T1)
            rw [m.lenT] at hu
            have hlt : meas F1 T1 < meas F T := by
              unfold meas; omega
            rcases r1.less with ⟨e1, e2⟩ | hl
            · rw [e1, e2]; exact hlt
            · omega
          · rw [m.of a ha.1 ha.2, m.of b hb.1 hb.2, ra, rb, sub, if_neg hab, sub, if_pos rfl]

theorem join_F {nf n : Nat} {vars : Int} {l : List Stm} (hv : vars = n) (h8 : n ≤ 8) (hn : 20 ≤ nf) {F T : List Int} {a b : Int} (h : WF n F T) (hs : SndJ vars l (rl n F T)) (ha : (0 ≤ a ∧ a < n) ∧ gt F a = a) (hb : (0 ≤ b ∧ b < n) ∧ gt F b = b) (hj : Jn vars l true a b) :
    ∃ F' T', MoveJ vars l n F T F' T' ∧ rl n F' T' true a b = true ∧ point_classes_join_f nf (F, T, ()) a b = some (some (F', T', ()), ()) := by
  have hnm := names_le (F := F)
  rw [h.lenF] at hnm
  obtain ⟨F', T', r1, r2, r3⟩ := join_l0 (nf := nf) hv h8 hn nf F T a b h hs (by omega) (.inr ha) (.inr hb) fun _ _ => hj
  exact ⟨F', T', r1, r2 ha.1.1 hb.1.1, r3⟩

theorem same_F {nf n : Nat} {vars : Int} {l : List Stm} (hv : vars = n) (h8 : n ≤ 8) (hn : 20 ≤ nf) {F T : List Int} {a b : Int} (h : WF n F T) (hs : SndJ vars l (rl n F T)) (ha : (0 ≤ a ∧ a < n) ∧ gt F a = a) (hb : (0 ≤ b ∧ b < n) ∧ gt F b = b) (hj : ∀ z, Jn vars l false a z ↔ Jn vars l false b z) :
    ∃ F' T', MoveJ vars l n F T F' T' ∧ (∀ z, rl n F' T' false a z = true ↔ rl n F' T' false b z = true) ∧ point_classes_same_f nf (F, T, ()) a b = some (some (F', T', ()), ()) := by
  have lT := h.lenT
  obtain ⟨⟨a0, a1⟩, ra⟩ := ha
  obtain ⟨⟨b0, b1⟩, rb⟩ := hb
  have hTa := h.to a a0 a1
  have hTb := h.to b b0 b1
  have hto : ∀ c : Int, (0 ≤ c ∧ c < n) → gt F c = c → 0 ≤ gt T c → rl n F T false c (gt T c) = true := fun c hc rc h0 => by
    rcases h.to c hc.1 hc.2 with h1 | ⟨h1, h2⟩
    · omega
    · exact rl_to.2 ⟨hc, h1, by rw [rc]; exact h0, by rw [rc]; exact h2⟩
  have ia : inb a (List.length (F, T, ()).2.1) = true := inb_ok a0 (by show a < (T.length : Int); omega)
  have ib : inb b (List.length (F, T, ()).2.1) = true := inb_ok b0 (by show b < (T.length : Int); omega)
  have ea : List.getD (F, T, ()).2.1 a.toNat 0 = gt T a := rfl
  have eb : List.getD (F, T, ()).2.1 b.toNat 0 = gt T b := rfl
  simp only [point_classes_same_f, point_classes_same_p, ia, ib, cond_true, ea, eb]
  by_cases hx : gt T a < 0
  · have hx1 : gt T a = -1 := by
      rcases hTa with h1 | ⟨h1, _⟩
      · exact h1
      · omega
    obtain ⟨m, hg⟩ := set_move (l := l) h hv hs ⟨a0, a1⟩ ra hx1 hTb fun h0 => (hj _).2 (hs false b _ (hto b ⟨b0, b1⟩ rb h0))
    refine ⟨F, _, m, fun z => ?_, by rw [decide_eq_true hx, cond_true]⟩
    have e1 : gt (T.set a.toNat (gt T b)) a = gt T b := by rw [hg a a0, if_pos rfl]
    have e2 : gt (T.set a.toNat (gt T b)) b = gt T b := by rw [hg b b0]; split <;> rfl
    rw [rl_to, rl_to, ra, rb, e1, e2]
    exact ⟨fun ⟨_, h2⟩ => ⟨⟨b0, b1⟩, h2⟩, fun ⟨_, h2⟩ => ⟨⟨a0, a1⟩, h2⟩⟩
  · rw [decide_eq_false hx, cond_false]
    by_cases hy : gt T b < 0
    · have hy1 : gt T b = -1 := by
        rcases hTb with h1 | ⟨h1, _⟩
        · exact h1
        · omega
      obtain ⟨m, hg⟩ := set_move (l := l) h hv hs ⟨b0, b1⟩ rb hy1 hTa fun h0 => (hj _).1 (hs false a _ (hto a ⟨a0, a1⟩ ra h0))
      refine ⟨F, _, m, fun z => ?_, by rw [decide_eq_true hy, cond_true]⟩
      have e1 : gt (T.set b.toNat (gt T a)) b = gt T a := by rw [hg b b0, if_pos rfl]
      have e2 : gt (T.set b.toNat (gt T a)) a = gt T a := by rw [hg a a0]; split <;> rfl
      rw [rl_to, rl_to, ra, rb, e1, e2]
      exact ⟨fun ⟨_, h2⟩ => ⟨⟨b0, b1⟩, h2⟩, fun ⟨_, h2⟩ => ⟨⟨a0, a1⟩, h2⟩⟩
    · rw [decide_eq_false hy, cond_false]
      have ta := hto a ⟨a0, a1⟩ ra (by omega)
      have tb := hto b ⟨b0, b1⟩ rb (by omega)
      have hTa' : (0 ≤ gt T a ∧ gt T a < n) ∧ gt F (gt T a) = gt T a := hTa.resolve_left (by omega)
      have hTb' : (0 ≤ gt T b ∧ gt T b < n) ∧ gt F (gt T b) = gt T b := hTb.resolve_left (by omega)
      obtain ⟨F', T', r1, r2, r3⟩ := join_F (nf := nf) hv h8 hn h hs hTa' hTb' (.both (hs false a _ ta) ((hj _).2 (hs false b _ tb)))
      refine ⟨F', T', r1, fun z => ?_, by rw [r3]; rfl⟩
      have hB := r1.wf.base
      have ta' := r1.le false a _ ta
      have tb' := r1.le false b _ tb
      exact ⟨fun hz => hB.to1 _ _ _ tb' (hB.trans _ _ _ (rl_symm r2) (hB.both _ _ _ ta' hz)), fun hz => hB.to1 _ _ _ ta' (hB.trans _ _ _ r2 (hB.both _ _ _ tb' hz))⟩
end Go.Proofs.Ytmndifhjmbiodaa
