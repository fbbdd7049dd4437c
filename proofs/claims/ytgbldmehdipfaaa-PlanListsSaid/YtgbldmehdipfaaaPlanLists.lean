/- plan.List tells when each task is done, turn by turn. -/
import Derived.Test.YtgbldmehdipfaaaPlan
import Derived.Test.YtgbldmehdipfaaaAbLaw
namespace Go.Proofs.Ytgbldmehdipfaaa
open Go Go.Ab S

variable {n : Int} {pairs : List Pr} {nf : Nat}

/-! an order that has each one once -/
theorem all_len : ∀ (n : Nat) (l : List Int), (∀ i : Int, 0 ≤ i → i < n → i ∈ l) → n ≤ l.length
  | 0, _, _ => Nat.zero_le _
  | n + 1, l, h => by
    have hm := h n (by omega) (by omega)
    have := all_len n (l.erase n) fun i h0 h1 => (List.mem_erase_of_ne (by omega)).2 (h i h0 (by omega))
    rw [List.length_erase_of_mem hm] at this
    have := List.length_pos_of_mem hm
    omega
theorem once_iff {n : Int} (hn : 0 ≤ n) (l : List Int) (hl : (l.length : Int) = n) : (∀ i, 0 ≤ i → i < n → i ∈ l) ↔ l.Nodup ∧ ∀ x ∈ l, 0 ≤ x ∧ x < n := by
  constructor
  · intro h
    have no : ∀ y ∈ l, (y ∈ l.erase y ∨ ¬ (0 ≤ y ∧ y < n)) → False := fun y hy hc => by
      have := all_len n.toNat (l.erase y) fun i h0 h1 => by
        by_cases e : i = y
        · subst e
          rcases hc with hc | hc
          · exact hc
          · exact absurd ⟨h0, by omega⟩ hc
        · exact (List.mem_erase_of_ne e).2 (h i h0 (by omega))
      rw [List.length_erase_of_mem hy] at this
      have := List.length_pos_of_mem hy
      omega
    refine ⟨List.nodup_iff_count.2 fun y => ?_, fun x hx => Classical.byContradiction fun hc => no x hx (.inr hc)⟩
    refine Classical.byContradiction fun hc => ?_
    have hy : y ∈ l := List.count_pos_iff.1 (by omega)
    refine no y hy (.inl (List.count_pos_iff.1 ?_))
    rw [List.count_erase_self]; omega
  · rintro ⟨h1, h2⟩ i h0 hi
    refine Classical.byContradiction fun hc => ?_
    have := nodup_len n.toNat (i :: l) (List.nodup_cons.2 ⟨hc, h1⟩) fun x hx => by
      rcases List.mem_cons.1 hx with rfl | hx
      · omega
      · have := h2 x hx; omega
    simp only [List.length_cons] at this
    omega
def good (n : Int) (l : List Int) : Prop := ((l.length : Int) = n ∧ l.Nodup) ∧ ∀ x ∈ l, 0 ≤ x ∧ x < n
instance (n : Int) (l : List Int) : Decidable (good n l) := by unfold good; infer_instance

theorem once_F (h1 : 1 ≤ n) (h8 : n ≤ 8) (hn : 60 ≤ nf) (l : List Int) : ref_Once_f nf n l = some (decide (good n l), ()) := by
  simp only [ref_Once_f, ref_Once_p]
  by_cases hl : (l.length : Int) = n
  · simp only [hl, bne_self_eq_false, cond_false]
    have hh : ∀ i, ref_Has_f nf l i = some (decide (i ∈ l), ()) := fun i => has_F l i (Nat.le_trans (show l.length ≤ 8 by omega) (by decide)) (by omega)
    rw [loop_chk (F := fun fu t => ref_Once_l0 nf n l fu t) (n := n) (yes := some (true, ())) (no := some (false, ())) (fun i => decide (i ∈ l)) (fun fu t a b => by
      simp only [ref_Once_l0, ref_Once_b0, b, decide_true, cond_true, hh, Option.bind_some, wrap_step (n := 9) a (show t < (9 : Nat) by omega) (by decide)]
      cases decide (t ∈ l) <;> rfl) (fun fu => by simp [ref_Once_l0, ref_Once_b0]) nf 0 (by omega) (by omega) (by omega)]
    have : chk (fun i => decide (i ∈ l)) (n - 0).toNat 0 = decide (good n l) := by
      rw [Bool.eq_iff_iff, chk_iff, decide_eq_true_eq]
      have e := once_iff (show 0 ≤ n by omega) l hl
      unfold good
      constructor
      · intro h
        have := e.1 fun i a b => of_decide_eq_true (h i a (by omega))
        exact ⟨⟨hl, this.1⟩, this.2⟩
      · rintro ⟨⟨_, g1⟩, g2⟩ i a b
        exact decide_eq_true (e.2 ⟨g1, g2⟩ i a (by omega))
    rw [this]
    cases decide (good n l) <;> rfl
  · have : ¬ good n l := fun h => hl h.1.1
    simp [bne_t hl, this]

theorem wd_all {D : List Int} {n : Int} (h8 : n ≤ 8) (h : ∀ x ∈ D, 0 ≤ x ∧ x < n) : ∀ x ∈ D, 0 ≤ x ∧ x < 32 := fun x hx => by have := h x hx; omega
/-- the order is looked at -/
theorem seen_l0 {hands : Int} {order l : List Int} (h1 : 1 ≤ n) (h8 : n ≤ 8) : ∀ (fu : Nat) (t : Int), 0 ≤ t → t ≤ order.length → t ≤ n → 9 < t + fu → (order.take t.toNat).Nodup → (∀ x ∈ order.take t.toNat, 0 ≤ x ∧ x < n) →
    plan_List_l0 nf n hands order fu l (wd (order.take t.toNat)) t = if good n order then plan_List_l2 nf n hands order nf l (List.replicate n.toNat 0) 0 0 else some ([], 3, ())
  | 0, t, a, b, c, d, _, _ => by omega
  | fu + 1, t, a, b, c, d, hnd, hr => by
    have hlim : decide (n ≤ (lim : Int)) = true := decide_eq_true (by show n ≤ 4294967296; omega)
    rw [plan_List_l0, plan_List_b0]
    by_cases ht : t < order.length
    · have htk : order.take (t + 1).toNat = order.take t.toNat ++ [order.getD t.toNat 0] := by
        rw [show (t + 1).toNat = t.toNat + 1 by omega, List.take_succ_eq_append_getElem (by omega), getD_nat order t 0 a ht]
      have hmem := getD_mem (d := 0) a ht
      simp only [ht, decide_true, cond_true, inb_ok a ht]
      generalize order.getD t.toNat 0 = x at htk hmem ⊢
      by_cases c1 : x < 0
      · have : ¬ good n order := fun g => by have := g.2 x hmem; omega
        simp [c1, this]
      · by_cases c2 : x ≥ n
        · have : ¬ good n order := fun g => by have := g.2 x hmem; omega
          simp [c1, c2, this]
        · have e1 := shr_and_beq1 (wd_w (wd_all h8 hr)) (show 0 ≤ x by omega) (show x < 32 by omega)
          rw [wd_bt (wd_all h8 hr), show ((x.toNat : Nat) : Int) = x by omega] at e1
          simp only [and32] at e1
          simp only [c1, c2, decide_false, cond_false, decide_eq_true (show (0 : Int) ≤ x by omega), cond_true, e1]
          by_cases c3 : x ∈ order.take t.toNat
          · have : ¬ good n order := fun g => by
              have h2 := (List.take_sublist (t + 1).toNat order).nodup g.1.2
              rw [htk] at h2
              exact (List.nodup_append.1 h2).2.2 x c3 x (by simp) rfl
            simp [c3, this]
          · have hnd' : (order.take (t + 1).toNat).Nodup := by
              rw [htk]
              refine List.nodup_append.2 ⟨hnd, by simp, fun y hy z hz => ?_⟩
              simp only [List.mem_singleton] at hz
              subst hz
              rintro rfl
              exact c3 hy
            have hr' : ∀ y ∈ order.take (t + 1).toNat, 0 ≤ y ∧ y < n := fun y hy => by
              rw [htk] at hy
              rcases List.mem_append.1 hy with hy | hy
              · exact hr y hy
              · simp only [List.mem_singleton] at hy; omega
            have hlen := nodup_len n.toNat _ hnd' fun y hy => by have := hr' y hy; omega
            rw [List.length_take] at hlen
            simp only [c3, decide_false, cond_false, wrap_step (n := 9) a (show t < (9 : Nat) by omega) (by decide)]
            have ih := seen_l0 (hands := hands) (l := l) h1 h8 fu (t + 1) (by omega) (by omega) (by omega) (by omega) hnd' hr'
            rw [← ih, htk, wd_snoc]
            rfl
    · have hfull : order.take t.toNat = order := List.take_of_length_le (by omega)
      rw [hfull] at hnd hr
      simp only [ht, decide_false, cond_false]
      by_cases hl : (order.length : Int) = n
      · have : good n order := ⟨⟨hl, hnd⟩, hr⟩
        rw [if_pos this]
        simp only [hl, bne_self_eq_false, cond_false, decide_eq_true (show (0 : Int) ≤ n by omega), Int.le_refl, decide_true, hlim, Bool.and_self, cond_true]
      · have : ¬ good n order := fun g => hl g.1.1
        simp [bne_t hl, this]

/-! one turn -/
noncomputable def rdyL (n : Int) (pairs : List Pr) (D : List Int) (i : Int) : Bool := rdy n pairs (fun j => decide ((j : Int) ∈ D)) i.toNat
noncomputable def stepT (n : Int) (pairs : List Pr) (D : List Int) (hands turn : Int) (s : List Int × List Int) (i : Int) : List Int × List Int :=
  if rdyL n pairs D i = true ∧ (s.2.length : Int) < hands then (s.1.set i.toNat turn, s.2 ++ [i]) else s
theorem stepT_grow (D : List Int) (hands turn : Int) : ∀ (l : List Int) (s : List Int × List Int), s.2.length ≤ (l.foldl (stepT n pairs D hands turn) s).2.length ∧ (l.foldl (stepT n pairs D hands turn) s).2.length ≤ s.2.length + l.length ∧ (l.foldl (stepT n pairs D hands turn) s).1.length = s.1.length
  | [], s => ⟨Nat.le_refl _, by simp, rfl⟩
  | i :: l, s => by
    obtain ⟨h1, h2, h3⟩ := stepT_grow D hands turn l (stepT n pairs D hands turn s i)
    rw [List.foldl_cons, h3]
    unfold stepT at h1 h2 ⊢
    split at h1 <;> rename_i c
    · rw [if_pos c] at h2 ⊢
      simp only [List.length_append, List.length_cons, List.length_nil, List.length_set] at h1 h2 ⊢
      exact ⟨by omega, by omega, trivial⟩
    · rw [if_neg c] at h2 ⊢
      simp only [List.length_cons] at h2 ⊢
      exact ⟨h1, by omega, trivial⟩
theorem stepT_some {D : List Int} {hands turn : Int} (hh : 1 ≤ hands) {i : Int} (hi : rdyL n pairs D i = true) : ∀ (l : List Int) (s : List Int × List Int), i ∈ l → 1 ≤ (l.foldl (stepT n pairs D hands turn) s).2.length
  | [], s, h => by simp at h
  | x :: l, s, h => by
    rw [List.foldl_cons]
    by_cases c : x = i
    · subst c
      refine Nat.le_trans ?_ (stepT_grow D hands turn l _).1
      unfold stepT
      split
      · simp
      · rename_i c2
        have : ¬ (s.2.length : Int) < hands := fun h3 => c2 ⟨hi, h3⟩
        omega
    · exact stepT_some hh hi l _ ((List.mem_cons.1 h).resolve_left fun e => c e.symm)
theorem stepT_nodup {D : List Int} {hands turn : Int} (hD : ∀ x ∈ D, 0 ≤ x ∧ x < n) : ∀ (l : List Int) (s : List Int × List Int), l.Nodup → (∀ x ∈ l, 0 ≤ x ∧ x < n) → (D ++ s.2).Nodup → (∀ x ∈ D ++ s.2, 0 ≤ x ∧ x < n) → (∀ x ∈ l, x ∉ s.2) →
    (D ++ (l.foldl (stepT n pairs D hands turn) s).2).Nodup ∧ ∀ x ∈ D ++ (l.foldl (stepT n pairs D hands turn) s).2, 0 ≤ x ∧ x < n
  | [], s, _, _, h1, h2, _ => ⟨h1, h2⟩
  | i :: l, s, hl, hr, h1, h2, h3 => by
    rw [List.foldl_cons]
    have hl' := List.nodup_cons.1 hl
    have hi := hr i (by simp)
    refine stepT_nodup hD l _ hl'.2 (fun x hx => hr x (by simp [hx])) ?_ ?_ ?_
    · unfold stepT
      split
      · rename_i c
        have hni : i ∉ D := fun hm => by
          have := (rdy_iff.1 c.1).2.1
          rw [show ((i.toNat : Nat) : Int) = i by omega] at this
          simp [hm] at this
        rw [← List.append_assoc]
        refine List.nodup_append.2 ⟨h1, by simp, fun a ha b hb => ?_⟩
        simp only [List.mem_singleton] at hb
        subst hb
        rintro rfl
        rcases List.mem_append.1 ha with ha | ha
        · exact hni ha
        · exact h3 a (by simp) ha
      · exact h1
    · unfold stepT
      split
      · intro x hx
        rw [← List.append_assoc] at hx
        rcases List.mem_append.1 hx with hx | hx
        · exact h2 x hx
        · simp only [List.mem_singleton] at hx; omega
      · exact h2
    · intro x hx
      have hxi : x ≠ i := fun e => hl'.1 (e ▸ hx)
      unfold stepT
      split
      · simp only [List.mem_append, List.mem_singleton]
        rintro (h | h)
        · exact h3 x (by simp [hx]) h
        · exact hxi h
      · exact h3 x (by simp [hx])

/-- the program's turn -/
theorem list_l4 (h : PairsOK n pairs) {hands turn w : Int} {order l D : List Int} {g2 : List Int → List Int → Int → Int → Option (List Int × Int × Unit)} (hh : hands ≤ 8) (hg : good n order) (hw : W32 w) (hb : ∀ i : Nat, bt w i = rdy n pairs (fun j => decide ((j : Int) ∈ D)) i) (hD : ∀ x ∈ D, 0 ≤ x ∧ x < n) : ∀ (fu : Nat) (t : Int) (o now : List Int), 0 ≤ t → t ≤ order.length → order.length < t + fu → o.length = n.toNat → (now.length : Int) ≤ hands → (∀ x ∈ now, 0 ≤ x ∧ x < n) →
    plan_List_l4 nf n hands order turn (w, ()) g2 fu l o (wd (D ++ now)) (hands - now.length) t =
      g2 l ((order.drop t.toNat).foldl (stepT n pairs D hands turn) (o, now)).1 (wd (D ++ ((order.drop t.toNat).foldl (stepT n pairs D hands turn) (o, now)).2)) (IntKind.i64.wrap (turn + 1))
  | 0, t, o, now, a, b, c, _, _, _ => by omega
  | fu + 1, t, o, now, a, b, c, ho, hnow, hnr => by
    have h8 := h.few
    rw [plan_List_l4, plan_List_b4]
    by_cases ht : t < order.length
    · have hx := hg.2 _ (getD_mem (d := 0) a ht)
      have hol : (order.length : Int) = n := hg.1.1
      rw [drop_step order t 0 a ht, List.foldl_cons]
      simp only [ht, decide_true, cond_true, inb_ok a ht, wrap_step (n := order.length) a ht (Nat.le_trans (show order.length ≤ 8 by omega) (by decide))]
      generalize order.getD t.toNat 0 = x at hx ⊢
      have e1 := shr_and_beq1 hw hx.1 (show x < 32 by omega)
      rw [hb x.toNat] at e1
      have e1' : (IntKind.u32.wrap ((BitVec.ofInt IntKind.u32.bits (shrI IntKind.u32 w x) &&& BitVec.ofInt IntKind.u32.bits 1).toNat : Int) == 1) = rdyL n pairs D x := e1
      simp only [decide_eq_true hx.1, cond_true, e1']
      have hDn : ∀ y ∈ D ++ now, 0 ≤ y ∧ y < n := fun y hy => by
        rcases List.mem_append.1 hy with hy | hy
        · exact hD y hy
        · exact hnr y hy
      cases c1 : rdyL n pairs D x with
      | false =>
        have : stepT n pairs D hands turn (o, now) x = (o, now) := by simp [stepT, c1]
        rw [this]
        simp only [cond_false]
        exact list_l4 h hh hg hw hb hD fu (t + 1) o now (by omega) (by omega) (by omega) ho hnow hnr
      | true =>
        by_cases c2 : (now.length : Int) < hands
        · have hst : stepT n pairs D hands turn (o, now) x = (o.set x.toNat turn, now ++ [x]) := by simp [stepT, c1, c2]
          have hwl : IntKind.i64.wrap (hands - now.length - 1) = hands - ((now ++ [x]).length : Nat) := by
            rw [Go.IntWalk.i64_in _ ⟨by omega, by omega⟩]; simp; omega
          rw [hst]
          simp only [cond_true, decide_eq_true (show hands - (now.length : Int) > 0 by omega), inb_ok (n := o.length) hx.1 (by omega), hwl]
          have ih := list_l4 (g2 := g2) (l := l) (turn := turn) h hh hg hw hb hD fu (t + 1) (o.set x.toNat turn) (now ++ [x]) (by omega) (by omega) (by omega) (by simp [ho]) (by simp; omega) (fun y hy => by
            rcases List.mem_append.1 hy with hy | hy
            · exact hnr y hy
            · simp only [List.mem_singleton] at hy; omega)
          rw [← ih, ← List.append_assoc, wd_snoc]
          rfl
        · have hst : stepT n pairs D hands turn (o, now) x = (o, now) := by simp [stepT, c2]
          rw [hst]
          simp only [cond_true, decide_eq_false (show ¬ hands - (now.length : Int) > 0 by omega), cond_false]
          exact list_l4 h hh hg hw hb hD fu (t + 1) o now (by omega) (by omega) (by omega) ho hnow hnr
    · have he : order.drop t.toNat = [] := List.drop_eq_nil_of_le (by omega)
      simp [ht, he]

/-- the law's turn -/
def mayL (pairs : List Pr) (D : List Int) (i : Int) : Bool := pairs.all fun p => p.2.1 != i || decide (p.1 ∈ D)
theorem rdyL_eq (h : PairsOK n pairs) {D : List Int} {i : Int} (h0 : 0 ≤ i) (h1 : i < n) : rdyL n pairs D i = (!decide (i ∈ D) && mayL pairs D i) := by
  rw [Bool.eq_iff_iff, rdyL, rdy_iff, show ((i.toNat : Nat) : Int) = i by omega]
  simp only [Bool.and_eq_true, Bool.not_eq_true', decide_eq_false_iff_not, decide_eq_true_eq, mayL, List.all_eq_true, Bool.or_eq_true, bne_iff_ne]
  constructor
  · rintro ⟨_, g2, g3⟩
    refine ⟨g2, fun p hp => ?_⟩
    by_cases c : p.2.1 = i
    · have hr := (h.inn p hp).1
      have := g3 p.1.toNat ⟨p, hp, by omega, c⟩
      rw [show ((p.1.toNat : Nat) : Int) = p.1 by omega] at this
      exact .inr this
    · exact .inl c
  · rintro ⟨g2, g3⟩
    refine ⟨h1, g2, fun j ⟨p, hp, e1, e2⟩ => ?_⟩
    rcases g3 p hp with g | g
    · exact absurd e2 g
    · rw [← e1]; exact g
theorem lists_l4 (h : PairsOK n pairs) (hn : 60 ≤ nf) {hands turn t61 : Int} {order l' : List Int} {r : List Int × Int × Unit} {g2 : List Int → List Int → List Int → List Int → Int → Option (Bool × Unit)} {g0 : List Int → List Int → List Int → Int → Option (Bool × Unit)} {want D now : List Int} (hD : D.length ≤ 8) (hnow : now.length ≤ 8) (hx : 0 ≤ order.getD t61.toNat 0 ∧ order.getD t61.toNat 0 < want.length) : ∀ (fu : Nat) (t : Int) (ok : Bool), 0 ≤ t → t ≤ pairs.length → pairs.length < t + fu →
    law_PlanLists_l4 nf n pairs hands order r turn t61 g2 g0 fu l' want D now ok t =
      if (ok && mayL (pairs.drop t.toNat) D (order.getD t61.toNat 0)) = true then g2 l' (want.set (order.getD t61.toNat 0).toNat turn) D (now ++ [order.getD t61.toNat 0]) (IntKind.i64.wrap (t61 + 1)) else g2 l' want D now (IntKind.i64.wrap (t61 + 1))
  | 0, t, ok, a, b, c => by omega
  | fu + 1, t, ok, a, b, c => by
    have hlen := h.len
    rw [law_PlanLists_l4, law_PlanLists_b4]
    by_cases ht : t < pairs.length
    · rw [drop_step pairs t P0 a ht]
      have ih := fun ok => lists_l4 (g2 := g2) (g0 := g0) (r := r) (l' := l') (turn := turn) (hands := hands) h hn hD hnow hx fu (t + 1) ok (by omega) (by omega) (by omega)
      have hh : ∀ i, ref_Has_f nf D i = some (decide (i ∈ D), ()) := fun i => has_F D i (Nat.le_trans hD (by decide)) (by omega)
      simp only [ht, decide_true, cond_true, inb_ok a ht, wrap_step (n := pairs.length) a ht (Nat.le_trans hlen (by decide)), hh, Option.bind_some, ih]
      generalize pairs.getD t.toNat (0, 0, ()) = p
      have e : ∀ (p : Pr) r, mayL (p :: r) D (order.getD t61.toNat 0) = ((p.2.1 != order.getD t61.toNat 0 || decide (p.1 ∈ D)) && mayL r D (order.getD t61.toNat 0)) := fun _ _ => by simp only [mayL, List.all_cons]
      rw [e]
      cases ok with
      | false => simp only [cond_false, Bool.false_and]
      | true =>
        cases p.2.1 != order.getD t61.toNat 0 with
        | true => simp only [cond_true, Bool.true_and, Bool.true_or]
        | false => simp only [cond_true, cond_false, Bool.true_and, Bool.false_or]
    · have he : pairs.drop t.toNat = [] := List.drop_eq_nil_of_le (by omega)
      have hb : Nat.ble (now.length + [order.getD t61.toNat 0].length) lim = true := ble_ok (by simp; omega)
      simp only [ht, decide_false, cond_false, he, mayL, List.all_nil, Bool.and_true, hb, bimp, cond_true, inb_ok hx.1 hx.2]
      cases ok with
      | true => rfl
      | false => rfl
theorem lists_l2 (h : PairsOK n pairs) (hn : 60 ≤ nf) {hands turn : Int} {order l' : List Int} {r : List Int × Int × Unit} {g0 : List Int → List Int → List Int → Int → Option (Bool × Unit)} {D : List Int} (hD : D.length ≤ 8) (hg : good n order) : ∀ (fu : Nat) (t : Int) (o now : List Int), 0 ≤ t → t ≤ order.length → order.length < t + fu → o.length = n.toNat → (now.length : Int) ≤ t →
    law_PlanLists_l2 nf n pairs hands order r turn g0 fu l' o D now t =
      g0 l' ((order.drop t.toNat).foldl (stepT n pairs D hands turn) (o, now)).1 (D ++ ((order.drop t.toNat).foldl (stepT n pairs D hands turn) (o, now)).2) (IntKind.i64.wrap (turn + 1))
  | 0, t, o, now, a, b, c, _, _ => by omega
  | fu + 1, t, o, now, a, b, c, ho, hnow => by
    have h8 := h.few
    have hol : (order.length : Int) = n := hg.1.1
    rw [law_PlanLists_l2, law_PlanLists_b2]
    by_cases ht : t < order.length
    · have hx := hg.2 _ (getD_mem (d := 0) a ht)
      have hh : ref_Has_f nf D (order.getD t.toNat 0) = some (decide (order.getD t.toNat 0 ∈ D), ()) := has_F D _ (Nat.le_trans hD (by decide)) (by omega)
      rw [drop_step order t 0 a ht, List.foldl_cons]
      have hw : IntKind.i64.wrap (t + 1) = t + 1 := wrap_step (n := order.length) a ht (Nat.le_trans (show order.length ≤ 8 by omega) (by decide))
      have hlen := h.len
      have k4 := fun ok => lists_l4 (nf := nf) (g2 := fun l'2 want2 done2 now t61 => law_PlanLists_l2 nf n pairs hands order r turn g0 fu l'2 want2 done2 now t61) (g0 := g0) (r := r) (l' := l') (turn := turn) (hands := hands) (t61 := t) (order := order) (want := o) (D := D) (now := now) h hn hD (by omega) (by rw [ho]; omega) nf 0 ok (by omega) (by omega) (by omega)
      simp only [Int.toNat_zero, List.drop_zero, hw] at k4
      simp only [ht, decide_true, cond_true, inb_ok a ht, hh, Option.bind_some, k4]
      have hst : stepT n pairs D hands turn (o, now) (order.getD t.toNat 0) = if (!decide (order.getD t.toNat 0 ∈ D) && decide ((now.length : Int) < hands) && mayL pairs D (order.getD t.toNat 0)) = true then (o.set (order.getD t.toNat 0).toNat turn, now ++ [order.getD t.toNat 0]) else (o, now) := by
        have hiff : (rdyL n pairs D (order.getD t.toNat 0) = true ∧ (now.length : Int) < hands) ↔ (!decide (order.getD t.toNat 0 ∈ D) && decide ((now.length : Int) < hands) && mayL pairs D (order.getD t.toNat 0)) = true := by
          rw [rdyL_eq h hx.1 hx.2]
          simp only [Bool.and_eq_true, decide_eq_true_eq]
          constructor
          · rintro ⟨⟨h1, h2⟩, h3⟩; exact ⟨⟨h1, h3⟩, h2⟩
          · rintro ⟨⟨h1, h2⟩, h3⟩; exact ⟨⟨h1, h3⟩, h2⟩
        unfold stepT
        by_cases c : (rdyL n pairs D (order.getD t.toNat 0) = true ∧ (now.length : Int) < hands)
        · rw [if_pos c, if_pos (hiff.1 c)]
        · rw [if_neg c, if_neg (fun hc => c (hiff.2 hc))]
      rw [hst]
      cases decide (order.getD t.toNat 0 ∈ D) with
      | true =>
        simp only [Bool.not_true, cond_false, Bool.false_and, Bool.false_eq_true, if_false]
        exact lists_l2 h hn hD hg fu (t + 1) o now (by omega) (by omega) (by omega) ho (by omega)
      | false =>
        simp only [Bool.not_false, cond_true, Bool.true_and]
        by_cases c2 : (decide ((now.length : Int) < hands) && mayL pairs D (order.getD t.toNat 0)) = true
        · rw [if_pos c2, if_pos c2]
          exact lists_l2 h hn hD hg fu (t + 1) _ _ (by omega) (by omega) (by omega) (by simp [ho]) (by simp; omega)
        · rw [if_neg c2, if_neg c2]
          exact lists_l2 h hn hD hg fu (t + 1) o now (by omega) (by omega) (by omega) ho (by omega)
    · have he : order.drop t.toNat = [] := List.drop_eq_nil_of_le (by omega)
      have hb : Nat.ble (D.length + now.length) lim = true := ble_ok (by omega)
      simp [ht, he, hb, bimp]

/-- both, turn by turn -/
theorem lists_sim (h : PairsOK n pairs) (ha : Acyc pairs) (hn : 60 ≤ nf) {hands : Int} {order l : List Int} (hl : AheadOK n pairs l) (hh1 : 1 ≤ hands) (hh : hands ≤ 8) (hg : good n order) : ∀ (m fu : Nat) (turn : Int) (o D : List Int), n.toNat - D.length < m → m < fu → 0 ≤ turn → turn ≤ D.length → o.length = n.toNat → D.Nodup → (∀ x ∈ D, 0 ≤ x ∧ x < n) →
    ∃ oF, plan_List_l2 nf n hands order fu l o (wd D) turn = some (oF, 0, ()) ∧ oF.length = n.toNat ∧ ∀ (l' : List Int) (r : List Int × Int × Unit), law_PlanLists_l0 nf n pairs hands order r fu l' o D turn = bif r.2.1 == 0 then Option.bind (ref_Ints_f nf l' oF) fun r6 => some (r6.1, ()) else some (false, ())
  | 0, fu, turn, o, D, hm, _, _, _, _, _, _ => by omega
  | m + 1, 0, turn, o, D, hm, hf, _, _, _, _, _ => by omega
  | m + 1, fu + 1, turn, o, D, hm, hf, ht0, ht1, ho, hnd, hr => by
    have h1 := h.pos
    have h8 := h.few
    have hol : (order.length : Int) = n := hg.1.1
    have hDl := nodup_len n.toNat D hnd fun x hx => by have := hr x hx; omega
    obtain ⟨f1, f2⟩ := full_w h1 h8
    have hwD := wd_w (wd_all h8 hr)
    by_cases hlt : (D.length : Int) < n
    · have hne : wd D ≠ IntKind.u32.wrap (shlI .u32 1 n - 1) := fun e => by
        have hall : ∀ i, 0 ≤ i → i < n → i ∈ D := fun i h0 hi => by
          have := wd_bt (wd_all h8 hr) i.toNat
          rw [e, f2, decide_eq_true (by omega), show ((i.toNat : Nat) : Int) = i by omega] at this
          exact of_decide_eq_true this.symm
        have := all_len n.toNat D fun i h0 hi => hall i h0 (by omega)
        omega
      obtain ⟨w, w1, w2, w3⟩ := ready_F h hn hl hwD
      have hbD : bt (wd D) = fun j : Nat => decide ((j : Int) ∈ D) := funext fun j => wd_bt (wd_all h8 hr) j
      rw [hbD] at w3
      have k1 := list_l4 (nf := nf) (turn := turn) (l := l) (g2 := fun l'2 out done turn => plan_List_l2 nf n hands order fu l'2 out done turn) h hh hg w2 w3 hr nf 0 o [] (by omega) (by omega) (by omega) ho (by simp; omega) (by simp)
      simp only [List.append_nil, List.length_nil, Int.toNat_zero, List.drop_zero] at k1
      have k2 := fun (l' : List Int) (r : List Int × Int × Unit) => lists_l2 (nf := nf) (turn := turn) (hands := hands) (r := r) (l' := l') (D := D) (g0 := fun l' want done turn => law_PlanLists_l0 nf n pairs hands order r fu l' want done turn) h hn (by omega) hg nf 0 o [] (by omega) (by omega) (by omega) ho (by simp)
      simp only [Int.toNat_zero, List.drop_zero] at k2
      have hw : IntKind.i64.wrap (turn + 1) = turn + 1 := wrap_step (n := 9) ht0 (by omega) (by decide)
      rw [hw] at k1 k2
      have hgr := stepT_grow (n := n) (pairs := pairs) D hands turn order (o, [])
      have hnd2 := stepT_nodup (pairs := pairs) (hands := hands) (turn := turn) hr order (o, []) hg.1.2 hg.2 (by simpa using hnd) (by simpa using hr) (by simp)
      have hsome : 1 ≤ (order.foldl (stepT n pairs D hands turn) (o, [])).2.length := by
        have : ∃ i : Nat, (i : Int) < n ∧ decide ((i : Int) ∈ D) = false := by
          refine Classical.byContradiction fun hc => ?_
          have hall : ∀ i : Int, 0 ≤ i → i < n → i ∈ D := fun i h0 hi => Classical.byContradiction fun hni => hc ⟨i.toNat, by omega, by
            rw [show ((i.toNat : Nat) : Int) = i by omega]; exact decide_eq_false hni⟩
          have := all_len n.toNat D fun i h0 hi => hall i h0 (by omega)
          omega
        obtain ⟨i, hi, hni⟩ := this
        obtain ⟨j, hj⟩ := some_rdy h ha (D := fun j : Nat => decide ((j : Int) ∈ D)) _ i hi hni (Nat.lt_succ_self _)
        have hjn := (rdy_iff.1 hj).1
        have hjo : ((j : Nat) : Int) ∈ order := (once_iff (show 0 ≤ n by omega) order hol).2 ⟨hg.1.2, hg.2⟩ j (by omega) hjn
        exact stepT_some hh1 (i := (j : Int)) (by simpa [rdyL] using hj) order (o, []) hjo
      obtain ⟨oF, g1, g2, g3⟩ := lists_sim h ha hn hl hh1 hh hg m fu (turn + 1) (order.foldl (stepT n pairs D hands turn) (o, [])).1 (D ++ (order.foldl (stepT n pairs D hands turn) (o, [])).2) (by rw [List.length_append]; omega) (by omega) (by omega) (by rw [List.length_append]; omega) (by rw [hgr.2.2]; exact ho) hnd2.1 hnd2.2
      refine ⟨oF, ?_, g2, fun l' r => ?_⟩
      · rw [plan_List_l2, plan_List_b2]
        simp only [decide_eq_true (show (0 : Int) ≤ n by omega), cond_true, bne_t hne, w1, Option.bind_some]
        rw [show hands - ((0 : Nat) : Int) = hands by omega] at k1
        exact k1.trans g1
      · rw [law_PlanLists_l0, law_PlanLists_b0]
        simp only [hlt, decide_true, cond_true]
        exact (k2 l' r).trans (g3 l' r)
    · have heq : wd D = IntKind.u32.wrap (shlI .u32 1 n - 1) := by
        have hall := (once_iff (show 0 ≤ n by omega) D (by omega)).2 ⟨hnd, hr⟩
        refine bt_ext hwD f1 fun i _ => ?_
        rw [wd_bt (wd_all h8 hr), f2]
        by_cases c : (i : Int) < n
        · rw [decide_eq_true (hall i (by omega) c), decide_eq_true c]
        · rw [decide_eq_false c]
          exact decide_eq_false fun hm => by have := hr _ hm; omega
      refine ⟨o, ?_, ho, fun l' r => ?_⟩
      · rw [plan_List_l2, plan_List_b2]
        simp only [decide_eq_true (show (0 : Int) ≤ n by omega), cond_true, heq, bne_self_eq_false, cond_false]
      · rw [law_PlanLists_l0, law_PlanLists_b0]
        simp only [hlt, decide_false, cond_false]

theorem plints_F (a : List Int) (hl : a.length ≤ 8) (hn : 60 ≤ nf) : ref_Ints_f nf a a = some (true, ()) := by
  simp only [ref_Ints_f, ref_Ints_p, bne_self_eq_false, cond_false]
  have key : ∀ (fu : Nat) (i : Int), 0 ≤ i → i ≤ a.length → a.length < i + fu → ref_Ints_l0 nf a a fu i = some (true, ()) := by
    intro fu
    induction fu with
    | zero => intro i x y z; omega
    | succ fu ih =>
      intro i x y z
      rw [ref_Ints_l0, ref_Ints_b0]
      by_cases hi : i < a.length
      · simp only [hi, decide_true, cond_true, inb_ok x hi, bne_self_eq_false, cond_false, wrap_step (n := a.length) x hi (Nat.le_trans hl (by decide)), ih (i + 1) (by omega) (by omega) (by omega)]
      · simp [hi]
  exact key nf 0 (by omega) (by omega) (by omega)

theorem planLists_main (hn : 60 ≤ nf) (n : Int) (pairs : List Pr) (hands : Int) (order : List Int) : law_PlanLists_f nf n pairs hands order = some (true, ()) := by
  obtain ⟨l, h1, h2, h3⟩ := ahead_F (n := n) (pairs := pairs) hn
  simp only [law_PlanLists_f, law_PlanLists_p, plan_List_f, plan_List_p, h3, Option.bind_some, law_handsCode_f, law_handsCode_p, tasks_F hn]
  by_cases hc : taskCode n pairs = 0
  · have hok : PairsOK n pairs ∧ Acyc pairs := by
      unfold taskCode at hc
      split at hc
      · rename_i h0
        split at hc
        · rename_i ha; exact ⟨pairsCode_ok h0, ha⟩
        · omega
      · rename_i h0; exact absurd hc h0
    obtain ⟨h, ha⟩ := hok
    have hp := h.pos
    have h8 := h.few
    have hlim : decide (n ≤ (lim : Int)) = true := decide_eq_true (by show n ≤ 4294967296; omega)
    simp only [hc, show ((0 : Int) != 0) = false from rfl, cond_false, beq_self_eq_true, cond_true]
    by_cases c1 : hands < 1
    · simp [c1]
    · by_cases c2 : hands > 8
      · simp [c1, c2]
      · have hseen := seen_l0 (nf := nf) (hands := hands) (order := order) (l := l) hp h8 nf 0 (by omega) (by omega) (by omega) (by omega) (by simp) (by simp)
        have hz : wd (order.take (0 : Int).toNat) = 0 := by simp [wd]
        rw [hz] at hseen
        simp only [c1, c2, decide_false, cond_false, Option.bind_some, beq_self_eq_true, cond_true, hseen, once_F hp h8 hn]
        by_cases hg : good n order
        · obtain ⟨oF, g1, g2, g3⟩ := lists_sim (hands := hands) h ha hn (h1 hc) (by omega) (by omega) hg (n.toNat + 1) nf 0 (List.replicate n.toNat 0) [] (by simp) (by omega) (by omega) (by simp) (by simp) (by simp) (by simp)
          have hz2 : wd ([] : List Int) = 0 := rfl
          rw [hz2] at g1
          have g4 := g3 oF (oF, 0, ())
          simp only [plints_F oF (by omega) hn, Option.bind_some, beq_self_eq_true, cond_true] at g4
          simp only [hg, if_true, g1, Option.bind_some, decide_true, Bool.not_true, cond_false, bne_self_eq_false, decide_eq_true (show (0 : Int) ≤ n by omega), Int.le_refl, hlim, Bool.and_self, cond_true, g4]
        · simp [hg]
  · simp [bne_t hc, beq_f hc, h2 hc]

theorem planLists_law (x : denPs (lawPs [.int .i64, .sl (.pair (.int .i64) (.pair (.int .i64) (.unit))), .int .i64, .sl (.int .i64)])) (_ : wfPs [.int .i64, .sl (.pair (.int .i64) (.pair (.int .i64) (.unit))), .int .i64, .sl (.int .i64)] x) : ∃ n, law_PlanLists_F n x = some (true, ()) := by
  obtain ⟨n, pairs, hands, order, _⟩ := x
  exact ⟨60, planLists_main (Nat.le_refl _) n pairs hands order⟩
end Go.Proofs.Ytgbldmehdipfaaa
