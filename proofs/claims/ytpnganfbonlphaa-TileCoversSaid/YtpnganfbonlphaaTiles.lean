/- Tiles over terms: where one lies, what is left below it, and what a cover costs. -/
import Derived.Test.YtpnganfbonlphaaTree
import Derived.Test.YtpnganfbonlphaaFn2
namespace Go.Proofs.Ytpnganfbonlphaa
open Go Go.Ab S

variable {nf : Nat} {l : List Term5}

abbrev Til := Int × Int × Int × Int × Unit
/-- what is left on one side, below index j -/
def side (l : List Term5) (j op : Int) : Option (List Int) :=
  if op = 0 then some [j] else if (l.getD j.toNat T0).1 ≠ op then none else if op > 2 then some [(l.getD j.toNat T0).2.1, (l.getD j.toNat T0).2.2.1] else some []
def sides (l : List Term5) (a b p q : Int) : List Int × Bool × Unit := match side l a p with
  | none => ([], false, ())
  | some x => match side l b q with
    | none => ([], false, ())
    | some y => (x ++ y, true, ())
/-- what is left below term i if a tile lies on it -/
def lies (l : List Term5) (i : Int) (t : Til) : List Int × Bool × Unit :=
  if (l.getD i.toNat T0).1 ≠ t.1 then ([], false, ()) else if (l.getD i.toNat T0).1 ≤ 2 then ([], true, ()) else sides l (l.getD i.toNat T0).2.1 (l.getD i.toNat T0).2.2.1 t.2.1 t.2.2.1

theorem side_len {j op : Int} {x : List Int} (h : side l j op = some x) : x.length ≤ 2 := by
  unfold side at h
  split at h
  · cases h; simp
  · split at h
    · cases h
    · split at h <;> cases h <;> simp
theorem side_in (h : TermsOK l) {j op : Int} (h0 : 0 ≤ j) (h1 : j < l.length) {x : List Int} (hs : side l j op = some x) : ∀ y ∈ x, 0 ≤ y ∧ y ≤ j := by
  have hb := h.back j h0 h1
  unfold side at hs
  intro y hy
  split at hs
  · cases hs; simp at hy; omega
  · split at hs
    · cases hs
    · split at hs
      · rename_i h2 h3
        cases hs
        have h2 := Classical.not_not.1 h2
        have := hb (by omega)
        simp only [List.mem_cons, List.not_mem_nil, or_false] at hy
        omega
      · cases hs; simp at hy
theorem lies_in (h : TermsOK l) {i : Int} (h0 : 0 ≤ i) (h1 : i < l.length) (t : Til) : ∀ y ∈ (lies l i t).1, 0 ≤ y ∧ y < i := by
  intro y hy
  unfold lies at hy
  split at hy
  · simp at hy
  · split at hy
    · simp at hy
    · rename_i h2 h3
      obtain ⟨b1, b2, b3, b4⟩ := h.back i h0 h1 (by omega)
      unfold sides at hy
      split at hy
      · simp at hy
      · split at hy
        · simp at hy
        · rename_i _ x hx _ z hz
          simp only [List.mem_append] at hy
          rcases hy with hy | hy
          · have := side_in h b1 (by omega) hx y hy; omega
          · have := side_in h b3 (by omega) hz y hy; omega
theorem lies_len (i : Int) (t : Til) : (lies l i t).1.length ≤ 4 := by
  unfold lies sides
  repeat' split
  all_goals first
    | (simp; done)
    | (rename_i _ x hx _ y hy; have := side_len hx; have := side_len hy; simp; omega)

theorem below_step (fu : Nat) (t : Til) (x : Term5) (out : List Int) (p q k : Int) (hk : k = 0 ∨ k = 1) (ho : out.length ≤ 2) (hj : 0 ≤ (if k = 1 then x.2.2.1 else x.2.1) ∧ (if k = 1 then x.2.2.1 else x.2.1) < l.length) (hp : p = t.2.1) (hq : q = t.2.2.1) :
    tile_below_l0 nf l t (fu + 1) x out [p, q] k = match side l (if k = 1 then x.2.2.1 else x.2.1) (if k = 1 then q else p) with
      | none => some ([], false, ())
      | some a => tile_below_l0 nf l t fu x (out ++ a) [p, q] (k + 1) := by
  subst hp hq
  rw [tile_below_l0, tile_below_b0]
  have bl : ∀ y : List Int, y ≠ [] → y.length ≤ 2 → (bimp false (!List.isEmpty y) && Nat.ble (out.length + y.length) lim) = true := fun y _ h => by rw [ble_ok (by omega)]; rfl
  have t0 : decide ((0 : Int) < (([t.2.1, t.2.2.1] : List Int).length : Int)) = true := by simp
  have t1 : decide ((1 : Int) < (([t.2.1, t.2.2.1] : List Int).length : Int)) = true := by simp
  have i0 : inb 0 ([t.2.1, t.2.2.1] : List Int).length = true := inb_ok (by omega) (by simp)
  have i1 : inb 1 ([t.2.1, t.2.2.1] : List Int).length = true := inb_ok (by omega) (by simp)
  have w0 : IntKind.i64.wrap 1 = 1 := by decide
  have w1 : IntKind.i64.wrap (1 + 1) = 1 + 1 := by decide
  rcases hk with rfl | rfl
  · simp only [show ¬ (0 : Int) = 1 by decide, if_false] at hj ⊢
    have hb := inb_ok hj.1 hj.2
    simp only [t0, i0, cond_true, show ((0 : Int) == 1) = false from rfl, cond_false, Int.toNat_zero, List.getD_cons_zero, w0, hb, bl [x.2.1] (by simp) (by simp), side, show ((0 : Int) + 1) = 1 from rfl]
    by_cases c0 : t.2.1 = 0
    · simp [c0]
    · simp only [beq_f c0, cond_false, c0, if_false]
      by_cases c1 : (l.getD x.2.1.toNat (0, 0, 0, 0, ())).1 = t.2.1
      · simp only [c1, bne_self_eq_false, cond_false, ne_eq, not_true, if_false]
        by_cases c2 : t.2.1 > 2
        · simp only [c2, decide_true, cond_true, if_true]
          rw [bl _ (by simp) (by simp), cond_true]
        · simp [c2]
      · simp only [bne_t c1, cond_true, ne_eq, c1, not_false_eq_true, if_true]
  · simp only [if_true] at hj ⊢
    have hb := inb_ok hj.1 hj.2
    have e1 : ([t.2.1, t.2.2.1] : List Int).getD (1 : Int).toNat 0 = t.2.2.1 := rfl
    simp only [t1, i1, cond_true, beq_self_eq_true, e1, w1, hb, bl [x.2.2.1] (by simp) (by simp), side]
    by_cases c0 : t.2.2.1 = 0
    · simp [c0]
    · simp only [beq_f c0, cond_false, c0, if_false]
      by_cases c1 : (l.getD x.2.2.1.toNat (0, 0, 0, 0, ())).1 = t.2.2.1
      · simp only [c1, bne_self_eq_false, cond_false, ne_eq, not_true, if_false]
        by_cases c2 : t.2.2.1 > 2
        · simp only [c2, decide_true, cond_true, if_true]
          rw [bl _ (by simp) (by simp), cond_true]
        · simp [c2]
      · simp only [bne_t c1, cond_true, ne_eq, c1, not_false_eq_true, if_true]

theorem below_F (h : TermsOK l) (hn : 4 ≤ nf) {i : Int} (h0 : 0 ≤ i) (h1 : i < l.length) (t : Til) : tile_below_f nf l i t = some (lies l i t) := by
  obtain ⟨m, rfl⟩ : ∃ m, nf = m + 4 := ⟨nf - 4, by omega⟩
  simp only [tile_below_f, tile_below_p, inb_ok h0 h1, cond_true]
  unfold lies
  by_cases c0 : (l.getD i.toNat T0).1 = t.1
  · have c0' : (l.getD i.toNat (0, 0, 0, 0, ())).1 = t.1 := c0
    simp only [c0', bne_self_eq_false, cond_false, ne_eq, not_true, if_false]
    by_cases c1 : t.1 ≤ 2
    · simp [c1]
    · obtain ⟨b1, b2, b3, b4⟩ := h.back i h0 h1 (by omega)
      simp only [c1, decide_false, cond_false, if_false]
      rw [below_step (m + 3) t _ [] _ _ 0 (.inl rfl) (by simp) (by simp only [show ¬ (0 : Int) = 1 by decide, if_false]; exact ⟨b1, Int.lt_trans b2 h1⟩) rfl rfl]
      simp only [show ¬ (0 : Int) = 1 by decide, if_false, List.nil_append]
      unfold sides
      cases hs : side l (l.getD i.toNat T0).2.1 t.2.1 with
      | none => rfl
      | some a =>
        simp only
        rw [show (0 : Int) + 1 = 1 from rfl, below_step (m + 2) t _ a _ _ 1 (.inr rfl) (side_len hs) (by simp only [if_true]; exact ⟨b3, Int.lt_trans b4 h1⟩) rfl rfl]
        simp only [if_true]
        cases hs2 : side l (l.getD i.toNat T0).2.2.1 t.2.2.1 with
        | none => rfl
        | some b =>
          simp only
          rw [tile_below_l0, tile_below_b0]
          simp
  · have c0' : ¬ (l.getD i.toNat (0, 0, 0, 0, ())).1 = t.1 := c0
    simp only [bne_t c0', cond_true, ne_eq, c0, not_false_eq_true, if_true]

theorem lies_step (fu : Nat) (t : Til) (a b : Int) (out : List Int) (p q k : Int) (hk : k = 0 ∨ k = 1) (ho : out.length ≤ 2) (hj : 0 ≤ (if k = 1 then b else a) ∧ (if k = 1 then b else a) < l.length) (hp : p = t.2.1) (hq : q = t.2.2.1) :
    ref_Lies_l0 nf l t (fu + 1) out [a, b] [p, q] k = match side l (if k = 1 then b else a) (if k = 1 then q else p) with
      | none => some ([], false, ())
      | some x => ref_Lies_l0 nf l t fu (out ++ x) [a, b] [p, q] (k + 1) := by
  subst hp hq
  rw [ref_Lies_l0, ref_Lies_b0]
  have bl : ∀ (z y : List Int), y.length = 1 → z.length ≤ 3 → (bimp false (!List.isEmpty y) && Nat.ble (z.length + y.length) lim) = true := fun z y _ h => by rw [ble_ok (by omega)]; rfl
  have t0 : decide ((0 : Int) < (([t.2.1, t.2.2.1] : List Int).length : Int)) = true := by simp
  have t1 : decide ((1 : Int) < (([t.2.1, t.2.2.1] : List Int).length : Int)) = true := by simp
  have i0 : inb 0 ([t.2.1, t.2.2.1] : List Int).length = true := inb_ok (by omega) (by simp)
  have i1 : inb 1 ([t.2.1, t.2.2.1] : List Int).length = true := inb_ok (by omega) (by simp)
  have j0 : inb 0 ([a, b] : List Int).length = true := inb_ok (by omega) (by simp)
  have j1 : inb 1 ([a, b] : List Int).length = true := inb_ok (by omega) (by simp)
  have w0 : IntKind.i64.wrap 1 = 1 := by decide
  have w1 : IntKind.i64.wrap (1 + 1) = 1 + 1 := by decide
  rcases hk with rfl | rfl
  · simp only [show ¬ (0 : Int) = 1 by decide, if_false] at hj ⊢
    have hb := inb_ok hj.1 hj.2
    simp only [t0, i0, j0, cond_true, Int.toNat_zero, List.getD_cons_zero, w0, hb, side, show ((0 : Int) + 1) = 1 from rfl, both_self]
    by_cases c0 : t.2.1 = 0
    · rw [bl out [a] rfl (by omega)]; simp [c0]
    · simp only [beq_f c0, cond_false, c0, if_false]
      by_cases c1 : (l.getD a.toNat (0, 0, 0, 0, ())).1 = t.2.1
      · simp only [c1, bne_self_eq_false, cond_false, ne_eq, not_true, if_false]
        by_cases c2 : t.2.1 > 2
        · simp only [c2, decide_true, cond_true, if_true]
          rw [bl out _ rfl (by omega), cond_true, bl (out ++ _) _ rfl (by simp; omega), cond_true, List.append_assoc]
          rfl
        · simp [c2]
      · simp only [bne_t c1, cond_true, ne_eq, c1, not_false_eq_true, if_true]
  · simp only [if_true] at hj ⊢
    have hb := inb_ok hj.1 hj.2
    have e1 : ([t.2.1, t.2.2.1] : List Int).getD (1 : Int).toNat 0 = t.2.2.1 := rfl
    have e2 : ([a, b] : List Int).getD (1 : Int).toNat 0 = b := rfl
    simp only [t1, i1, j1, cond_true, e1, e2, w1, hb, side, both_self]
    by_cases c0 : t.2.2.1 = 0
    · rw [bl out [b] rfl (by omega)]; simp [c0]
    · simp only [beq_f c0, cond_false, c0, if_false]
      by_cases c1 : (l.getD b.toNat (0, 0, 0, 0, ())).1 = t.2.2.1
      · simp only [c1, bne_self_eq_false, cond_false, ne_eq, not_true, if_false]
        by_cases c2 : t.2.2.1 > 2
        · simp only [c2, decide_true, cond_true, if_true]
          rw [bl out _ rfl (by omega), cond_true, bl (out ++ _) _ rfl (by simp; omega), cond_true, List.append_assoc]
          rfl
        · simp [c2]
      · simp only [bne_t c1, cond_true, ne_eq, c1, not_false_eq_true, if_true]

theorem ref_Lies_F (h : TermsOK l) (hn : 4 ≤ nf) {i : Int} (h0 : 0 ≤ i) (h1 : i < l.length) (t : Til) : ref_Lies_f nf l i t = some (lies l i t) := by
  obtain ⟨m, rfl⟩ : ∃ m, nf = m + 4 := ⟨nf - 4, by omega⟩
  simp only [ref_Lies_f, ref_Lies_p, inb_ok h0 h1, cond_true]
  unfold lies
  by_cases c0 : (l.getD i.toNat T0).1 = t.1
  · have c0' : (l.getD i.toNat (0, 0, 0, 0, ())).1 = t.1 := c0
    simp only [c0', bne_self_eq_false, cond_false, ne_eq, not_true, if_false]
    by_cases c1 : t.1 ≤ 2
    · simp [c1]
    · obtain ⟨b1, b2, b3, b4⟩ := h.back i h0 h1 (by omega)
      simp only [c1, decide_false, cond_false, if_false]
      rw [lies_step (m + 3) t _ _ [] _ _ 0 (.inl rfl) (by simp) (by simp only [show ¬ (0 : Int) = 1 by decide, if_false]; exact ⟨b1, Int.lt_trans b2 h1⟩) rfl rfl]
      simp only [show ¬ (0 : Int) = 1 by decide, if_false, List.nil_append]
      unfold sides
      cases hs : side l (l.getD i.toNat T0).2.1 t.2.1 with
      | none => rfl
      | some a =>
        simp only
        rw [show (0 : Int) + 1 = 1 from rfl, lies_step (m + 2) t _ _ a _ _ 1 (.inr rfl) (side_len hs) (by simp only [if_true]; exact ⟨b3, Int.lt_trans b4 h1⟩) rfl rfl]
        simp only [if_true]
        cases hs2 : side l (l.getD i.toNat T0).2.2.1 t.2.2.1 with
        | none => rfl
        | some b =>
          simp only
          rw [ref_Lies_l0, ref_Lies_b0]
          simp
  · have c0' : ¬ (l.getD i.toNat (0, 0, 0, 0, ())).1 = t.1 := c0
    simp only [bne_t c0', cond_true, ne_eq, c0, not_false_eq_true, if_true]

/-- what lies below, reckoned up -/
def addUp (c : Int → Int) : List Int → Bool × Int → Bool × Int
  | [], s => s
  | j :: r, s => addUp c r (s.1 && decide (c j ≥ 0), IntKind.i64.wrap (s.2 + c j))
theorem addUp_congr {c c' : Int → Int} : ∀ {r : List Int} {s : Bool × Int}, (∀ j ∈ r, c j = c' j) → addUp c r s = addUp c' r s
  | [], _, _ => rfl
  | j :: r, s, h => by
    simp only [addUp, h j (by simp)]
    exact addUp_congr fun k hk => h k (by simp [hk])
/-- one more tile is looked at: the least cost so far, and by which tile -/
def pickT (l : List Term5) (i : Int) (c : Int → Int) (t : Til) (k : Int) (s : Int × Int) : Int × Int :=
  let q := addUp c (lies l i t).1 ((lies l i t).2.1, t.2.2.2.1)
  if q.1 = true ∧ (s.1 < 0 ∨ q.2 < s.1) then (q.2, k) else s
def tilesGo (l : List Term5) (i : Int) (c : Int → Int) : List Til → Int → Int × Int → Int × Int
  | [], _, s => s
  | t :: r, k, s => tilesGo l i c r (k + 1) (pickT l i c t k s)
theorem tilesGo_congr (h : TermsOK l) {i : Int} (h0 : 0 ≤ i) (h1 : i < l.length) {c c' : Int → Int} (hc : ∀ j, 0 ≤ j → j < i → c j = c' j) : ∀ {ts : List Til} {k : Int} {s : Int × Int}, tilesGo l i c ts k s = tilesGo l i c' ts k s
  | [], _, _ => rfl
  | t :: r, k, s => by
    simp only [tilesGo, pickT]
    rw [addUp_congr fun j hj => by have := lies_in h h0 h1 t j hj; exact hc j this.1 this.2]
    exact tilesGo_congr h h0 h1 hc
/-- costs, and tiles, of the first n terms -/
def costsL (l : List Term5) (ts : List Til) : Nat → List Int × List Int
  | 0 => ([], [])
  | n + 1 =>
    let p := costsL l ts n
    let s := tilesGo l n (fun j => p.1.getD j.toNat 0) ts 0 (-1, -1)
    (p.1 ++ [s.1], p.2 ++ [s.2])
theorem costsL_len (ts : List Til) : ∀ n, (costsL l ts n).1.length = n ∧ (costsL l ts n).2.length = n
  | 0 => ⟨rfl, rfl⟩
  | n + 1 => by
    obtain ⟨h1, h2⟩ := costsL_len ts n
    simp [costsL, h1, h2]
/-- the least cost of term j, and its tile -/
def cst (l : List Term5) (ts : List Til) (j : Int) : Int := (costsL l ts (j.toNat + 1)).1.getD j.toNat 0
def wth (l : List Term5) (ts : List Til) (j : Int) : Int := (costsL l ts (j.toNat + 1)).2.getD j.toNat 0
theorem costsL_at (ts : List Til) : ∀ (n j : Nat), j < n → (costsL l ts n).1.getD j 0 = cst l ts j ∧ (costsL l ts n).2.getD j 0 = wth l ts j
  | 0, j, h => by omega
  | n + 1, j, h => by
    by_cases hj : j = n
    · subst hj; exact ⟨rfl, rfl⟩
    · obtain ⟨h1, h2⟩ := costsL_at ts n j (by omega)
      obtain ⟨g1, g2⟩ := costsL_len (l := l) ts n
      have e1 : ∀ (x : List Int) (y : Int), x.length = n → (x ++ [y]).getD j 0 = x.getD j 0 := fun x y hx => by
        simp only [List.getD_eq_getElem?_getD]
        rw [List.getElem?_append_left (by omega)]
      simp only [costsL]
      rw [e1 _ _ g1, e1 _ _ g2]
      exact ⟨h1, h2⟩
theorem cst_eq (h : TermsOK l) (ts : List Til) {i : Int} (h0 : 0 ≤ i) (h1 : i < l.length) : cst l ts i = (tilesGo l i (cst l ts) ts 0 (-1, -1)).1 ∧ wth l ts i = (tilesGo l i (cst l ts) ts 0 (-1, -1)).2 := by
  obtain ⟨g1, g2⟩ := costsL_len (l := l) ts i.toNat
  have e : tilesGo l (i.toNat : Nat) (fun j => (costsL l ts i.toNat).1.getD j.toNat 0) ts 0 (-1, -1) = tilesGo l i (cst l ts) ts 0 (-1, -1) := by
    rw [show ((i.toNat : Nat) : Int) = i by omega]
    refine tilesGo_congr h h0 h1 fun j a b => ?_
    have := (costsL_at (l := l) ts i.toNat j.toNat (by omega)).1
    simp only [this]
    rw [show ((j.toNat : Nat) : Int) = j by omega]
  have last : ∀ (x : List Int) (y : Int), x.length = i.toNat → (x ++ [y]).getD i.toNat 0 = y := fun x y hx => by
    simp [List.getD_eq_getElem?_getD, hx]
  constructor
  · simp only [cst, costsL]
    rw [last _ _ g1, e]
  · simp only [wth, costsL]
    rw [last _ _ g2, e]

theorem solve_l4 {i best which k : Int} {ts : List Til} {q : List Int × Bool × Unit} {g2 : List Int → List Int → Int → Int → Int → Option (List Int × List Int × Unit)} {g0 : List Int → List Int → Int → Option (List Int × List Int × Unit)} {cost by' : List Int}
    (hq : ∀ j ∈ q.1, 0 ≤ j ∧ j < cost.length) (hl : q.1.length ≤ 4) : ∀ (fu : Nat) (ok : Bool) (sum t : Int), 0 ≤ t → t ≤ q.1.length → q.1.length < t + fu →
    tile_solve_l4 nf l ts i best which k q g2 g0 fu cost by' q.1 ok sum t =
      let s := addUp (fun j => cost.getD j.toNat 0) (q.1.drop t.toNat) (ok, sum)
      let s' := if s.1 = true ∧ (best < 0 ∨ s.2 < best) then (s.2, k) else (best, which)
      g2 cost by' s'.1 s'.2 (IntKind.i64.wrap (k + 1)) := by
  intro fu
  induction fu with
  | zero => intro ok sum t h0 h1 h2; omega
  | succ fu ih =>
    intro ok sum t h0 h1 h2
    rw [tile_solve_l4, tile_solve_b4]
    by_cases ht : t < q.1.length
    · have hm := hq _ (getD_mem (d := 0) h0 ht)
      have hb := inb_ok hm.1 hm.2
      rw [drop_step q.1 t 0 h0 ht]
      simp only [ht, decide_true, cond_true, inb_ok h0 ht, hb, wrap_step (n := q.1.length) h0 ht (Nat.le_trans hl (by decide)), addUp]
      have := fun ok' sum' => ih ok' sum' (t + 1) (by omega) (by omega) (by omega)
      cases ok with
      | true => simp only [cond_true, this, Bool.true_and]
      | false => simp only [cond_false, this, Bool.false_and]
    · have he : q.1.drop t.toNat = [] := List.drop_eq_nil_of_le (by omega)
      simp only [ht, decide_false, cond_false, he, addUp]
      cases ok with
      | true =>
        by_cases c0 : best < 0
        · simp [c0]
        · by_cases c1 : sum < best <;> simp [c0, c1]
      | false => simp

theorem solve_l2 (h : TermsOK l) (hn : 20 ≤ nf) {i : Int} (h0 : 0 ≤ i) (h1 : i < l.length) {ts : List Til} (hts : ts.length ≤ 10) {g0 : List Int → List Int → Int → Option (List Int × List Int × Unit)} {cost by' : List Int} (hc : cost.length = i) (hby : by'.length = i) : ∀ (fu : Nat) (best which t : Int), 0 ≤ t → t ≤ ts.length → ts.length < t + fu →
    tile_solve_l2 nf l ts i g0 fu cost by' best which t =
      let s := tilesGo l i (fun j => cost.getD j.toNat 0) (ts.drop t.toNat) t (best, which)
      g0 (cost ++ [s.1]) (by' ++ [s.2]) (IntKind.i64.wrap (i + 1)) := by
  have hf := h.few
  intro fu
  induction fu with
  | zero => intro best which t a b c; omega
  | succ fu ih =>
    intro best which t a b c
    rw [tile_solve_l2, tile_solve_b2]
    by_cases ht : t < ts.length
    · have hli := lies_in h h0 h1 (ts.getD t.toNat (0, 0, 0, 0, ()))
      have hll := lies_len (l := l) i (ts.getD t.toNat (0, 0, 0, 0, ()))
      rw [drop_step ts t (0, 0, 0, 0, ()) a ht]
      simp only [ht, decide_true, cond_true, inb_ok a ht, below_F h (show 4 ≤ nf by omega) h0 h1, Option.bind_some]
      rw [solve_l4 (fun j hj => by have := hli j hj; omega) hll nf _ _ 0 (by omega) (by omega) (by omega)]
      simp only [Int.toNat_zero, List.drop_zero, wrap_step (n := ts.length) a ht (Nat.le_trans hts (by decide)), tilesGo, pickT]
      rw [ih _ _ (t + 1) (by omega) (by omega) (by omega)]
    · have he : ts.drop t.toNat = [] := List.drop_eq_nil_of_le (by omega)
      have bl : ∀ (x : List Int) (y : Int), x.length = i → (bimp false (!List.isEmpty [y]) && Nat.ble (x.length + [y].length) lim) = true := fun x y h => by rw [ble_ok (by simp; omega)]; rfl
      simp only [ht, decide_false, cond_false, he, tilesGo, bl _ _ hc, bl _ _ hby, cond_true]

theorem solve_l0 (h : TermsOK l) (hn : 20 ≤ nf) {ts : List Til} (hts : ts.length ≤ 10) : ∀ (fu : Nat) (t : Int), 0 ≤ t → t ≤ l.length → l.length < t + fu →
    tile_solve_l0 nf l ts fu (costsL l ts t.toNat).1 (costsL l ts t.toNat).2 t = some ((costsL l ts l.length).1, (costsL l ts l.length).2, ()) := by
  have hf := h.few
  intro fu
  induction fu with
  | zero => intro t a b c; omega
  | succ fu ih =>
    intro t a b c
    rw [tile_solve_l0, tile_solve_b0]
    by_cases ht : t < l.length
    · obtain ⟨g1, g2⟩ := costsL_len (l := l) ts t.toNat
      simp only [ht, decide_true, cond_true]
      rw [solve_l2 h hn a ht hts (by omega) (by omega) nf (-1) (-1) 0 (by omega) (by omega) (by omega)]
      have e : (costsL l ts (t + 1).toNat) = ((costsL l ts t.toNat).1 ++ [(tilesGo l t (fun j => (costsL l ts t.toNat).1.getD j.toNat 0) ts 0 (-1, -1)).1], (costsL l ts t.toNat).2 ++ [(tilesGo l t (fun j => (costsL l ts t.toNat).1.getD j.toNat 0) ts 0 (-1, -1)).2]) := by
        rw [show (t + 1).toNat = t.toNat + 1 by omega]
        simp only [costsL]
        rw [show ((t.toNat : Nat) : Int) = t by omega]
      have := ih (t + 1) (by omega) (by omega) (by omega)
      rw [e] at this
      simp only [Int.toNat_zero, List.drop_zero, wrap_step (n := l.length) a ht (Nat.le_trans hf (by decide))]
      exact this
    · have : t = l.length := by omega
      subst this
      simp

theorem solve_F (h : TermsOK l) (hn : 20 ≤ nf) {ts : List Til} (hts : ts.length ≤ 10) : tile_solve_f nf l ts = some ((costsL l ts l.length).1, (costsL l ts l.length).2, ()) := by
  have hf := h.few
  have := solve_l0 h hn hts nf 0 (by omega) (by omega) (by omega)
  simpa [tile_solve_f, tile_solve_p, costsL] using this

/-! the reference -/
theorem tc_l2 {fu0 : Nat} {self : _} {i best k : Int} {ts : List Til} {c : Int → Int} {q : List Int × Bool × Unit} {g0 : Int → Int → Option (Int × Unit)} (hs : ∀ j ∈ q.1, self (l, ts, j, ()) = some (c j, ())) (hl : q.1.length ≤ 4) : ∀ (fu : Nat) (ok : Bool) (sum t : Int), 0 ≤ t → t ≤ q.1.length → q.1.length < t + fu →
    ref_TileCost_l2 fu0 self l ts i best k q g0 fu q.1 ok sum t =
      let s := addUp c (q.1.drop t.toNat) (ok, sum)
      g0 (if s.1 = true ∧ (best < 0 ∨ s.2 < best) then s.2 else best) (IntKind.i64.wrap (k + 1)) := by
  intro fu
  induction fu with
  | zero => intro ok sum t h0 h1 h2; omega
  | succ fu ih =>
    intro ok sum t h0 h1 h2
    rw [ref_TileCost_l2, ref_TileCost_b2]
    by_cases ht : t < q.1.length
    · have hm := hs _ (getD_mem (d := 0) h0 ht)
      rw [drop_step q.1 t 0 h0 ht]
      simp only [ht, decide_true, cond_true, inb_ok h0 ht, hm, Option.bind_some, wrap_step (n := q.1.length) h0 ht (Nat.le_trans hl (by decide)), addUp]
      have := fun ok' sum' => ih ok' sum' (t + 1) (by omega) (by omega) (by omega)
      cases ok with
      | true => simp only [cond_true, this, Bool.true_and]
      | false => simp only [cond_false, this, Bool.false_and]
    · have he : q.1.drop t.toNat = [] := List.drop_eq_nil_of_le (by omega)
      simp only [ht, decide_false, cond_false, he, addUp]
      cases ok with
      | true =>
        by_cases c0 : best < 0
        · simp [c0]
        · by_cases c1 : sum < best <;> simp [c0, c1]
      | false => simp

theorem tc_F (h : TermsOK l) {ts : List Til} (hts : ts.length ≤ 10) : ∀ (fu : Nat) (i : Int), 0 ≤ i → i < l.length → i + 20 < fu → ref_TileCost_F fu (l, ts, i, ()) = some (cst l ts i, ())
  | 0, i, a, b, c => by omega
  | fu + 1, i, h0, h1, hfu => by
    show ref_TileCost_f fu (ref_TileCost_F fu) l ts i = _
    rw [(cst_eq h ts h0 h1).1]
    simp only [ref_TileCost_f, ref_TileCost_p]
    have key : ∀ (n : Nat) (best which t : Int), 0 ≤ t → t ≤ ts.length → ts.length < t + n → ref_TileCost_l0 fu (ref_TileCost_F fu) l ts i n best t = some ((tilesGo l i (cst l ts) (ts.drop t.toNat) t (best, which)).1, ()) := by
      intro n
      induction n with
      | zero => intro best which t a b c; omega
      | succ n ih =>
        intro best which t a b c
        rw [ref_TileCost_l0, ref_TileCost_b0]
        by_cases ht : t < ts.length
        · have hli := lies_in h h0 h1 (ts.getD t.toNat (0, 0, 0, 0, ()))
          have hll := lies_len (l := l) i (ts.getD t.toNat (0, 0, 0, 0, ()))
          rw [drop_step ts t (0, 0, 0, 0, ()) a ht]
          simp only [ht, decide_true, cond_true, inb_ok a ht, ref_Lies_F h (show 4 ≤ fu by omega) h0 h1, Option.bind_some]
          rw [tc_l2 (c := cst l ts) (fun j hj => by have := hli j hj; exact tc_F h hts fu j this.1 (by omega) (by omega)) hll fu _ _ 0 (by omega) (by omega) (by omega)]
          simp only [Int.toNat_zero, List.drop_zero, wrap_step (n := ts.length) a ht (Nat.le_trans hts (by decide)), tilesGo, pickT]
          split
          · rename_i hc; rw [ih _ t (t + 1) (by omega) (by omega) (by omega)]
          · rename_i hc; rw [ih _ which (t + 1) (by omega) (by omega) (by omega)]
        · have he : ts.drop t.toNat = [] := List.drop_eq_nil_of_le (by omega)
          simp [ht, he, tilesGo]
    have := key fu (-1) (-1) 0 (by omega) (by omega) (by omega)
    simpa using this

/-! what is wrong with tiles -/
def tileCodeGo : List Til → Int
  | [] => 0
  | t :: r => if t.1 < 1 ∨ t.1 > 6 ∨ t.2.1 < 0 ∨ t.2.1 > 6 ∨ t.2.2.1 < 0 ∨ t.2.2.1 > 6 then 6 else if t.1 ≤ 2 ∧ (t.2.1 ≠ 0 ∨ t.2.2.1 ≠ 0) then 3 else if t.2.2.2.1 < 0 ∨ t.2.2.2.1 > 99 then 4 else tileCodeGo r
def tilesCode (ts : List Til) : Int := if ts.length > 10 then 1 else tileCodeGo ts

theorem or_all : ∀ a b : Fin 7, (IntKind.i64.wrap (((BitVec.ofInt IntKind.i64.bits ((a.val : Nat) : Int) ||| BitVec.ofInt IntKind.i64.bits ((b.val : Nat) : Int)).toNat : Nat) : Int) != 0) = decide (((a.val : Nat) : Int) ≠ 0 ∨ ((b.val : Nat) : Int) ≠ 0) := by decide +kernel
theorem or_small {x y : Int} (h0 : 0 ≤ x) (h1 : x ≤ 6) (h2 : 0 ≤ y) (h3 : y ≤ 6) : (IntKind.i64.wrap (((BitVec.ofInt IntKind.i64.bits x ||| BitVec.ofInt IntKind.i64.bits y).toNat : Nat) : Int) != 0) = decide (x ≠ 0 ∨ y ≠ 0) := by
  have := or_all ⟨x.toNat, by omega⟩ ⟨y.toNat, by omega⟩
  simp only at this
  rwa [show ((x.toNat : Nat) : Int) = x by omega, show ((y.toNat : Nat) : Int) = y by omega] at this

theorem wrong_l0 {ts : List Til} (hts : ts.length ≤ 10) : ∀ (fu : Nat) (t : Int), 0 ≤ t → t ≤ ts.length → ts.length < t + fu → tile_wrong_l0 nf ts fu t = some (tileCodeGo (ts.drop t.toNat), ()) ∧ ref_TilesCheck_l0 nf ts fu t = some (tileCodeGo (ts.drop t.toNat), ()) := by
  intro fu
  induction fu with
  | zero => intro t a b c; omega
  | succ fu ih =>
    intro t a b c
    rw [tile_wrong_l0, tile_wrong_b0, ref_TilesCheck_l0, ref_TilesCheck_b0]
    by_cases ht : t < ts.length
    · obtain ⟨i1, i2⟩ := ih (t + 1) (by omega) (by omega) (by omega)
      rw [drop_step ts t (0, 0, 0, 0, ()) a ht]
      simp only [ht, decide_true, cond_true, inb_ok a ht, wrap_step (n := ts.length) a ht (Nat.le_trans hts (by decide)), i1, i2, tileCodeGo]
      generalize ts.getD t.toNat (0, 0, 0, 0, ()) = x
      obtain ⟨op, p, q, k, u⟩ := x
      simp only
      by_cases c1 : op < 1
      · simp [c1]
      · by_cases c2 : op > 6
        · have : (if q > (if p > op then p else op) then q else (if p > op then p else op)) > 6 := by split <;> split <;> omega
          simp [c1, c2, this]
        · by_cases c3 : p > 6
          · have : (if q > (if p > op then p else op) then q else (if p > op then p else op)) > 6 := by split <;> split <;> omega
            simp [c1, c2, c3, this]
          · by_cases c4 : q > 6
            · have : (if q > (if p > op then p else op) then q else (if p > op then p else op)) > 6 := by split <;> split <;> omega
              simp [c1, c2, c3, c4, this]
            · have e1 : ¬ (if q > (if p > op then p else op) then q else (if p > op then p else op)) > 6 := by split <;> split <;> omega
              by_cases c5 : p < 0
              · have : (if q < p then q else p) < 0 := by split <;> omega
                simp [c1, c2, e1, c5, this]
              · by_cases c6 : q < 0
                · have : (if q < p then q else p) < 0 := by split <;> omega
                  simp [c1, c2, c3, e1, c5, c6, this]
                · have e2 : ¬ (if q < p then q else p) < 0 := by split <;> omega
                  have e3 := or_small (x := p) (y := q) (by omega) (by omega) (by omega) (by omega)
                  simp only [c1, c2, c3, c4, c5, c6, e1, e2, e3, decide_false, cond_false, or_self, if_false]
                  by_cases c7 : op ≤ 2
                  · by_cases c8 : p = 0
                    · by_cases c9 : q = 0
                      · by_cases d1 : k < 0
                        · simp [c7, c8, c9, d1]
                        · by_cases d2 : k > 99 <;> simp [c7, c8, c9, d1, d2]
                      · simp [c7, c8, c9, bne_t c9]
                    · simp [c7, c8, bne_t c8]
                  · by_cases d1 : k < 0
                    · simp [c7, d1]
                    · by_cases d2 : k > 99 <;> simp [c7, d1, d2]
    · have he : ts.drop t.toNat = [] := List.drop_eq_nil_of_le (by omega)
      simp [ht, he, tileCodeGo]

theorem tilesCheck_F (hn : 20 ≤ nf) (ts : List Til) : ref_TilesCheck_f nf ts = some (tilesCode ts, ()) := by
  simp only [ref_TilesCheck_f, ref_TilesCheck_p, tilesCode]
  by_cases h : ts.length > 10
  · have : (ts.length : Int) > 10 := by omega
    simp [h, this]
  · have : ¬ (ts.length : Int) > 10 := by omega
    simp only [h, this, decide_false, cond_false, if_false]
    have := (wrong_l0 (nf := nf) (show ts.length ≤ 10 by omega) nf 0 (by omega) (by omega) (by omega)).2
    simpa using this

/-- the code of terms that are a tree -/
def treeC (vars : Int) (l : List Term5) : Int := if termCode vars l = 0 then (if treeB l = true then 0 else 3) else termCode vars l
theorem need_F (hn : 20 ≤ nf) (vars : Int) (l : List Term5) : ∃ k, need_Need_f nf vars l = some (k, treeC vars l, ()) := by
  simp only [need_Need_f, need_Need_p, need_wrong_f, need_wrong_p, term_F (show 18 ≤ nf by omega), Option.bind_some, treeC]
  by_cases h : termCode vars l = 0
  · have hT := termsOK h
    have hp := hT.pos
    obtain ⟨out, h1, h2⟩ := needs_F (nf := nf) hT hn
    simp only [h, tree_F hT hn, show ((0 : Int) != 0) = false from rfl, cond_false, Option.bind_some, if_true]
    cases treeB l with
    | false => exact ⟨0, rfl⟩
    | true =>
      simp only [Bool.not_true, cond_false, Option.bind_some, show ((0 : Int) != 0) = false from rfl, h2, wrap_last hT, inb_ok (n := out.length) (show 0 ≤ (l.length : Int) - 1 by omega) (by rw [h1.len]; omega), cond_true, if_true]
      exact ⟨_, rfl⟩
  · exact ⟨0, by simp [bne_t h, h]⟩
theorem treeCode_F (hn : 20 ≤ nf) (vars : Int) (l : List Term5) : law_treeCode_f nf vars l = some (treeC vars l, ()) := by
  simp only [law_treeCode_f, law_treeCode_p, terms_F' (show 18 ≤ nf by omega), Option.bind_some, treeC]
  by_cases h : termCode vars l = 0
  · simp only [h, ref_Tree_F (termsOK h) hn, beq_self_eq_true, cond_true, Option.bind_some, if_true]
    cases treeB l <;> rfl
  · simp [beq_f h, h]
theorem tile_wrong_F (hn : 20 ≤ nf) (vars : Int) (l : List Term5) (ts : List Til) : tile_wrong_f nf vars l ts = some (if treeC vars l = 0 then tilesCode ts else treeC vars l, ()) := by
  obtain ⟨k, hk⟩ := need_F hn vars l
  simp only [tile_wrong_f, tile_wrong_p, hk, Option.bind_some]
  by_cases h : treeC vars l = 0
  · simp only [h, show ((0 : Int) != 0) = false from rfl, cond_false, if_true, tilesCode]
    by_cases h2 : ts.length > 10
    · have : (ts.length : Int) > 10 := by omega
      simp [h2, this]
    · have h3 : ¬ (ts.length : Int) > 10 := by omega
      simp only [h2, h3, decide_false, cond_false, if_false]
      have := (wrong_l0 (nf := nf) (show ts.length ≤ 10 by omega) nf 0 (by omega) (by omega) (by omega)).1
      simpa using this
  · simp [bne_t h, h]
theorem treeC_ok {vars : Int} (h : treeC vars l = 0) : TermsOK l ∧ treeB l = true := by
  unfold treeC at h
  split at h
  · rename_i h1
    split at h
    · rename_i h2; exact ⟨termsOK h1, h2⟩
    · omega
  · rename_i h1; exact absurd h h1
theorem tilesCode_len {ts : List Til} (h : tilesCode ts = 0) : ts.length ≤ 10 := by
  unfold tilesCode at h
  split at h
  · omega
  · omega
theorem tileCode_F (hn : 60 ≤ nf) (vars : Int) (l : List Term5) (ts : List Til) : law_tileCode_f nf vars l ts = some (if treeC vars l = 0 then (if tilesCode ts = 0 then (if cst l ts (l.length - 1) < 0 then 5 else 0) else tilesCode ts) else treeC vars l, ()) := by
  simp only [law_tileCode_f, law_tileCode_p, treeCode_F (show 20 ≤ nf by omega), tilesCheck_F (show 20 ≤ nf by omega), Option.bind_some]
  by_cases h : treeC vars l = 0
  · simp only [h, beq_self_eq_true, cond_true, if_true]
    by_cases h2 : tilesCode ts = 0
    · obtain ⟨hT, _⟩ := treeC_ok h
      have hp := hT.pos
      have hf := hT.few
      simp only [h2, beq_self_eq_true, cond_true, if_true, wrap_last hT, tc_F hT (tilesCode_len h2) nf ((l.length : Int) - 1) (by omega) (by omega) (by omega), Option.bind_some]
      by_cases h3 : cst l ts (l.length - 1) < 0 <;> simp [h3]
    · simp [beq_f h2, h2]
  · simp [beq_f h, h]
end Go.Proofs.Ytpnganfbonlphaa
