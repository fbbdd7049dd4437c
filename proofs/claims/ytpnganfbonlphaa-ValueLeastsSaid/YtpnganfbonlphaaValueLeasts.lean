/- value.Least and the document's answer agree. -/
import Derived.Test.YtpnganfbonlphaaComes
import Derived.Test.YtpnganfbonlphaaFirsts
namespace Go.Proofs.Ytpnganfbonlphaa
open Go Go.Ab S

theorem sameTerms {nf : Nat} (a : List Term5) (hl : a.length ≤ maxLen) (hf : a.length < nf) : ref_Terms_f nf a a = some (true, ()) := by
  have h := loop_all (l := a) (d := (0, 0, 0, 0, ())) (F := fun fu t (_ : Unit) => ref_Terms_l0 nf a a fu t) (fin := fun _ => some (true, ())) (step := fun _ _ s k => k s) ?_ ?_ nf () hf
  · simp only [ref_Terms_f, ref_Terms_p]
    rw [show ref_Terms_l0 nf a a nf 0 = _ from h, goL_fold (f := fun s _ => s) (fun _ => True) a 0 () trivial fun _ _ _ _ _ _ => ⟨rfl, trivial⟩]
    simp
  · intro fu t s h0 h1
    simp [ref_Terms_l0, ref_Terms_b0, inb_ok h0 h1, wrap_step h0 h1 hl, h1]
  · intro fu t s h1
    simp [ref_Terms_l0, ref_Terms_b0, h1]

/-- the first ones lie before -/
theorem firstOf_low (done : List Term5) (F : List Int) (t : Term5) : 0 ≤ firstOf done F t ∧ firstOf done F t ≤ done.length := by
  unfold firstOf
  cases h : done.findIdx? fun u => decide (keyOf F u = keyOf F t) with
  | none => simp
  | some i =>
    have := (List.findIdx?_eq_some_iff_getElem.1 h).1
    simp; omega
theorem nums_low : ∀ (r done : List Term5) (F : List Int), F.length = done.length → (∀ i : Nat, i < F.length → 0 ≤ F.getD i 0 ∧ F.getD i 0 ≤ i) → ∀ i : Nat, i < (nums r done F).length → 0 ≤ (nums r done F).getD i 0 ∧ (nums r done F).getD i 0 ≤ i
  | [], _, _, _, h => h
  | t :: r, done, F, hF, h => by
    refine nums_low r (done ++ [t]) (F ++ [firstOf done F t]) (by simp [hF]) fun i hi => ?_
    by_cases hi' : i < F.length
    · rw [List.getD_eq_getElem?_getD, List.getElem?_append_left hi', ← List.getD_eq_getElem?_getD]; exact h i hi'
    · have : i = F.length := by simp at hi; omega
      subst this
      rw [List.getD_eq_getElem?_getD, List.getElem?_append_right (Nat.le_refl _)]
      have := firstOf_low done F t
      simp; omega

/-- a term with the first ones for its operands -/
def fstT (F : List Int) (t : Term5) : Term5 := if t.1 > 2 then (t.1, F.getD t.2.1.toNat 0, F.getD t.2.2.1.toNat 0, t.2.2.2.1, ()) else t

noncomputable def rchB (l : List Term5) (i x : Int) : Bool := @decide (Rch l i x) (Classical.propDecidable _)
theorem comes_eq (l : List Term5) (i : Int) : comes l i = ((List.range (i.toNat + 1)).map Int.ofNat).filter (rchB l i) := rfl
theorem rchB_iff {l : List Term5} {i x : Int} : rchB l i x = true ↔ Rch l i x := by unfold rchB; simp

variable {vars : Int} {l : List Term5}

theorem getD_map {f : Term5 → Term5} {i : Nat} (hi : i < l.length) : (l.map f).getD i (0, 0, 0, 0, ()) = f (l.getD i (0, 0, 0, 0, ())) := by
  simp [List.getD_eq_getElem?_getD, hi]

theorem fst_op (F : List Int) (t : Term5) : (fstT F t).1 = t.1 := by unfold fstT; split <;> rfl
theorem key_op (F : List Int) (t : Term5) : (keyOf F t).1 = t.1 := by unfold keyOf; split <;> (try split) <;> rfl

theorem kids_fst {F : List Int} {x : Int} (h0 : 0 ≤ x) (h1 : x < l.length) : kids (l.map (fstT F)) x = (kids l x).map fun c => F.getD c.toNat 0 := by
  unfold kids
  rw [getD_map (by omega), fst_op]
  split
  · rename_i h; unfold fstT; simp only [h, if_true, List.map_cons, List.map_nil]
  · rfl
theorem kids_key {F : List Int} {x : Int} (h0 : 0 ≤ x) (h1 : x < l.length) (c : Int) : c ∈ kids (l.map (keyOf F)) x ↔ c ∈ kids (l.map (fstT F)) x := by
  unfold kids
  rw [getD_map (by omega), getD_map (by omega), fst_op, key_op]
  split
  · rename_i h
    unfold fstT keyOf
    simp only [h, if_true]
    generalize F.getD (l.getD x.toNat (0, 0, 0, 0, ())).2.1.toNat 0 = a
    generalize F.getD (l.getD x.toNat (0, 0, 0, 0, ())).2.2.1.toNat 0 = b
    split
    · simp only [List.mem_cons, List.not_mem_nil, or_false]
      by_cases hab : b < a
      · simp only [hab, if_true, show ¬ b > a by omega, if_false]; exact or_comm
      · by_cases hab' : b > a
        · simp only [hab, hab', if_true, if_false]
        · have : a = b := by omega
          subst this; simp
    · rfl
  · rfl

theorem low_fst {F : List Int} (hL : Low l) (hF : F.length = l.length) (h : ∀ i : Nat, i < F.length → 0 ≤ F.getD i 0 ∧ F.getD i 0 ≤ i) : Low (l.map (fstT F)) := by
  intro x h0 h1 c hc
  rw [List.length_map] at h1
  rw [kids_fst h0 h1] at hc
  obtain ⟨d, hd, rfl⟩ := List.mem_map.1 hc
  have := hL x h0 h1 d hd
  have := h d.toNat (by omega)
  omega
theorem low_key {F : List Int} (hL : Low (l.map (fstT F))) : Low (l.map (keyOf F)) := by
  intro x h0 h1 c hc
  rw [List.length_map] at h1
  exact hL x h0 (by simpa using h1) c ((kids_key h0 h1 c).1 hc)
theorem rch_key {F : List Int} (hL : Low (l.map (fstT F))) {i : Int} (hi0 : 0 ≤ i) (hi1 : i < l.length) (j : Int) : Rch (l.map (keyOf F)) i j ↔ Rch (l.map (fstT F)) i j := by
  constructor
  · intro h
    induction h with
    | self => exact .self
    | kid _ hc ih =>
      have := ih.in hL hi0 (by simpa using hi1)
      exact .kid ih ((kids_key this.1 (by omega) _).1 hc)
  · intro h
    induction h with
    | self => exact .self
    | kid hj hc ih =>
      have := hj.in hL hi0 (by simpa using hi1)
      exact .kid ih ((kids_key this.1 (by omega) _).2 hc)

/-- what is chosen, in order -/
def outs {α : Type} (p : Nat → Bool) (f : Nat → α) : Nat → List α
  | 0 => []
  | n + 1 => outs p f n ++ (if p n then [f n] else [])
theorem outs_len {α : Type} {p : Nat → Bool} {f : Nat → α} : ∀ n, (outs p f n).length = cnt p n
  | 0 => rfl
  | n + 1 => by simp only [outs, cnt, List.length_append, outs_len n]; split <;> simp
theorem outs_congr {α : Type} {p : Nat → Bool} {f g : Nat → α} : ∀ {n}, (∀ j, j < n → p j = true → f j = g j) → outs p f n = outs p g n
  | 0, _ => rfl
  | n + 1, h => by
    simp only [outs]
    rw [outs_congr fun j hj => h j (by omega)]
    split
    · rename_i hp; rw [h n (by omega) hp]
    · rfl
theorem outs_map {α β : Type} {p : Nat → Bool} {f : Nat → α} (g : α → β) : ∀ {n}, (outs p f n).map g = outs p (fun j => g (f j)) n
  | 0 => rfl
  | n + 1 => by simp only [outs, List.map_append, outs_map g]; split <;> rfl
theorem outs_filter {α : Type} (p : Nat → Bool) (f : Nat → α) : ∀ n, ((List.range n).filter p).map f = outs p f n
  | 0 => rfl
  | n + 1 => by
    rw [List.range_succ, List.filter_append, List.map_append, outs_filter p f n]
    simp only [outs, List.filter_cons, List.filter_nil]
    split <;> rfl
theorem outs_cut {α : Type} {p : Nat → Bool} {f : Nat → α} {n : Nat} : ∀ {m}, n ≤ m → (∀ j, n ≤ j → j < m → p j = false) → outs p f m = outs p f n
  | 0, h, _ => by rw [show n = 0 by omega]
  | m + 1, h, hp => by
    by_cases hn : n = m + 1
    · rw [hn]
    · simp only [outs]
      rw [outs_cut (m := m) (by omega) fun j h1 h2 => hp j h1 (by omega), hp m (by omega) (by omega)]
      simp
theorem cnt_mono {p : Nat → Bool} {m : Nat} : ∀ {n}, m ≤ n → cnt p m ≤ cnt p n
  | 0, h => by rw [show m = 0 by omega]; exact Nat.le_refl _
  | n + 1, h => by
    by_cases hm : m = n + 1
    · rw [hm]; exact Nat.le_refl _
    · have := cnt_mono (p := p) (m := m) (n := n) (by omega)
      simp only [cnt]; omega

theorem outs_count {p : Nat → Bool} {i : Int} (h0 : 0 ≤ i) : ∀ n : Nat, i ≤ n → ((outs p Int.ofNat n).filter fun x => decide (x < i)).length = cnt p i.toNat
  | 0, h => by simp [outs, show i.toNat = 0 by omega, cnt]
  | n + 1, h => by
    by_cases hi : i = (n + 1 : Nat)
    · subst hi
      have key : ∀ m : Nat, m ≤ n + 1 → ((outs p Int.ofNat m).filter fun x => decide (x < ((n + 1 : Nat) : Int))) = outs p Int.ofNat m := by
        intro m
        induction m with
        | zero => intro _; rfl
        | succ m ih =>
          intro hm
          simp only [outs, List.filter_append, ih (by omega)]
          split
          · rw [List.filter_cons, if_pos (by simp; omega)]; rfl
          · rfl
      rw [key _ (Nat.le_refl _), outs_len, Int.toNat_natCast]
    · simp only [outs, List.filter_append, List.length_append, outs_count h0 n (by omega)]
      split
      · rw [List.filter_cons, if_neg (by simp; omega)]; rfl
      · rfl

/-- a term among the chosen ones -/
def renT (p : Nat → Bool) (t : Term5) : Term5 := if t.1 > 2 then (t.1, (cnt p t.2.1.toNat : Nat), (cnt p t.2.2.1.toNat : Nat), t.2.2.2.1, ()) else t

theorem least_l2 {nf : Nat} {own : List Term5} (hl : own.length ≤ 16) {nd : List Bool} (hnd : nd.length = own.length) (hL : Low own) (hc : ∀ j : Nat, j < own.length → nd.getD j false = true → ∀ c ∈ kids own j, nd.getD c.toNat false = true) :
    ∀ (fu t : Nat) (number : List Int), t ≤ own.length → own.length - t < fu → number.length = own.length → (∀ j : Nat, j < t → nd.getD j false = true → number.getD j 0 = (cnt (fun j => nd.getD j false) j : Nat)) →
      value_Least_l2 nf own fu own nd number (outs (fun j => nd.getD j false) (fun j => renT (fun j => nd.getD j false) (own.getD j (0, 0, 0, 0, ()))) t) t = some (outs (fun j => nd.getD j false) (fun j => renT (fun j => nd.getD j false) (own.getD j (0, 0, 0, 0, ()))) own.length, 0, ())
  | 0, t, number, h0, h1, _, _ => by omega
  | fu + 1, t, number, h0, h1, hnl, hnum => by
    rw [value_Least_l2, value_Least_b2]
    by_cases ht : t < own.length
    · have hw : IntKind.i64.wrap ((t : Int) + 1) = ((t + 1 : Nat) : Int) := by rw [Go.IntWalk.i64_in _ (by omega)]; rfl
      have hb : inb (t : Int) own.length = true := inb_ok (by omega) (by omega)
      have hb' : inb (t : Int) nd.length = true := inb_ok (by omega) (by omega)
      have hbn : inb (t : Int) number.length = true := inb_ok (by omega) (by omega)
      simp only [show (t : Int) < (own.length : Int) by omega, decide_true, cond_true, hb, hb', hbn, Int.toNat_natCast, hw]
      cases hm : nd.getD t false with
      | false =>
        have e : outs (fun j => nd.getD j false) (fun j => renT (fun j => nd.getD j false) (own.getD j (0, 0, 0, 0, ()))) (t + 1) = outs (fun j => nd.getD j false) (fun j => renT (fun j => nd.getD j false) (own.getD j (0, 0, 0, 0, ()))) t := by
          rw [outs, hm]; simp
        have ih := least_l2 (nf := nf) hl hnd hL hc fu (t + 1) number (by omega) (by omega) hnl fun j hj hp => by
          by_cases hjt : j = t
          · subst hjt; rw [hm] at hp; cases hp
          · exact hnum j (by omega) hp
        rw [e] at ih
        simp only [Bool.not_false, cond_true]
        exact ih
      | true =>
        have hlen : (outs (fun j => nd.getD j false) (fun j => renT (fun j => nd.getD j false) (own.getD j (0, 0, 0, 0, ()))) t).length = cnt (fun j => nd.getD j false) t := outs_len t
        have hcn := cnt_n (fun j => nd.getD j false) t
        have ih := least_l2 (nf := nf) hl hnd hL hc fu (t + 1) (number.set t (cnt (fun j => nd.getD j false) t : Nat)) (by omega) (by omega) (by simp [hnl]) fun j hj hp => by
          rw [getD_upd (by omega)]
          split
          · rename_i h; rw [h]
          · exact hnum j (by omega) hp
        have fit : ∀ {α β : Type} (y : α) (z : β), (bimp false (!List.isEmpty [y]) && Nat.ble (cnt (fun j => nd.getD j false) t + [z].length) lim) = true := fun y z => by rw [ble_ok (by rw [List.length_singleton]; omega)]; rfl
        simp only [Bool.not_true, cond_false, hlen, fit, cond_true]
        by_cases o : (own.getD t (0, 0, 0, 0, ())).1 > 2
        · have hk : kids own t = [(own.getD t (0, 0, 0, 0, ())).2.1, (own.getD t (0, 0, 0, 0, ())).2.2.1] := by unfold kids; rw [Int.toNat_natCast, if_pos o]
          have ha := hL t (by omega) (by omega) (own.getD t (0, 0, 0, 0, ())).2.1 (by rw [hk]; simp)
          have hbb := hL t (by omega) (by omega) (own.getD t (0, 0, 0, 0, ())).2.2.1 (by rw [hk]; simp)
          have na := hc t ht hm (own.getD t (0, 0, 0, 0, ())).2.1 (by rw [hk]; simp)
          have nb := hc t ht hm (own.getD t (0, 0, 0, 0, ())).2.2.1 (by rw [hk]; simp)
          have ga := hnum _ (by omega) na
          have gb := hnum _ (by omega) nb
          have ga' : (number.set t (cnt (fun j => nd.getD j false) t : Nat)).getD (own.getD t (0, 0, 0, 0, ())).2.1.toNat 0 = (cnt (fun j => nd.getD j false) (own.getD t (0, 0, 0, 0, ())).2.1.toNat : Nat) := by
            rw [getD_upd (by omega), if_neg (by omega), ga]
          have gb' : (number.set t (cnt (fun j => nd.getD j false) t : Nat)).getD (own.getD t (0, 0, 0, 0, ())).2.2.1.toNat 0 = (cnt (fun j => nd.getD j false) (own.getD t (0, 0, 0, 0, ())).2.2.1.toNat : Nat) := by
            rw [getD_upd (by omega), if_neg (by omega), gb]
          have e : outs (fun j => nd.getD j false) (fun j => renT (fun j => nd.getD j false) (own.getD j (0, 0, 0, 0, ()))) (t + 1) = outs (fun j => nd.getD j false) (fun j => renT (fun j => nd.getD j false) (own.getD j (0, 0, 0, 0, ()))) t ++ [((own.getD t (0, 0, 0, 0, ())).1, ((cnt (fun j => nd.getD j false) (own.getD t (0, 0, 0, 0, ())).2.1.toNat : Nat) : Int), ((cnt (fun j => nd.getD j false) (own.getD t (0, 0, 0, 0, ())).2.2.1.toNat : Nat) : Int), (own.getD t (0, 0, 0, 0, ())).2.2.2)] := by
            rw [outs, hm, if_pos rfl]
            simp only [renT, o, if_true]
          rw [e] at ih
          have l1 : (number.set t ((cnt (fun j => nd.getD j false) t : Nat) : Int)).length = own.length := by rw [List.length_set, hnl]
          simp only [o, decide_true, cond_true, l1, inb_ok (n := own.length) ha.1 (by omega), inb_ok (n := own.length) hbb.1 (by omega), ga', gb']
          exact ih
        · have e : outs (fun j => nd.getD j false) (fun j => renT (fun j => nd.getD j false) (own.getD j (0, 0, 0, 0, ()))) (t + 1) = outs (fun j => nd.getD j false) (fun j => renT (fun j => nd.getD j false) (own.getD j (0, 0, 0, 0, ()))) t ++ [own.getD t (0, 0, 0, 0, ())] := by
            rw [outs, hm, if_pos rfl]
            simp only [renT, o, if_false]
          rw [e] at ih
          simp only [o, decide_false, cond_false]
          exact ih
    · have : t = own.length := by omega
      subst this
      simp only [Int.lt_irrefl, decide_false, cond_false]

theorem least_l0 {nf : Nat} {own : List Term5} (hL : Low own) (hl : own.length ≤ 16) (h16 : l.length = own.length) : ∀ (t fu : Nat) (o : List Bool), t ≤ own.length → t < fu → o.length = own.length →
    value_Least_l0 nf l fu own o ((t : Int) - 1) = value_Least_l2 nf own nf own (marks own t o) (List.replicate own.length 0) [] 0
  | 0, fu + 1, o, _, _, ho => by
    have hlim : (own.length : Int) ≤ (lim : Int) := by have : own.length ≤ lim := Nat.le_trans hl (by decide); omega
    rw [value_Least_l0, value_Least_b0]
    simp only [show ¬ ((0 : Nat) : Int) - 1 ≥ 0 by omega, decide_false, cond_false, h16, hlim, show (0 : Int) ≤ own.length by omega, Int.le_refl, decide_true, Bool.and_self, cond_true, Int.toNat_natCast, marks]
  | t + 1, fu + 1, o, h0, h1, hlen => by
    rw [value_Least_l0, value_Least_b0, show ((t + 1 : Nat) : Int) - 1 = (t : Int) by omega]
    have hb : inb (t : Int) own.length = true := inb_ok (by omega) (by omega)
    have hb' : inb (t : Int) o.length = true := inb_ok (by omega) (by omega)
    have hw : IntKind.i64.wrap ((t : Int) - 1) = (t : Int) - 1 := Go.IntWalk.i64_in _ (by omega)
    have ih := fun o' (ho : o'.length = own.length) => least_l0 (nf := nf) hL hl h16 t fu o' (by omega) (by omega) ho
    simp only [show (t : Int) ≥ 0 by omega, decide_true, hb, hb', hw, cond_true, Int.toNat_natCast, marks]
    cases hm : o.getD t false with
    | false =>
      have : markAt own t o = o := by unfold markAt; rw [if_neg (by rw [hm]; simp)]
      rw [this]
      simp only [cond_false]
      exact ih o hlen
    | true =>
      by_cases ho : (own.getD t (0, 0, 0, 0, ())).1 > 2
      · have hk : kids own t = [(own.getD t (0, 0, 0, 0, ())).2.1, (own.getD t (0, 0, 0, 0, ())).2.2.1] := by unfold kids; rw [Int.toNat_natCast, if_pos ho]
        have ha := hL t (by omega) (by omega) (own.getD t (0, 0, 0, 0, ())).2.1 (by rw [hk]; simp)
        have hb := hL t (by omega) (by omega) (own.getD t (0, 0, 0, 0, ())).2.2.1 (by rw [hk]; simp)
        have : markAt own t o = (o.set (own.getD t (0, 0, 0, 0, ())).2.1.toNat true).set (own.getD t (0, 0, 0, 0, ())).2.2.1.toNat true := by
          unfold markAt; rw [if_pos hm, hk]; rfl
        rw [this]
        simp only [ho, decide_true, cond_true, inb_ok (n := o.length) ha.1 (by omega), inb_ok (n := (o.set (own.getD t (0, 0, 0, 0, ())).2.1.toNat true).length) hb.1 (by rw [List.length_set]; omega)]
        exact ih _ (by simp [hlen])
      · have hk : kids own t = [] := by unfold kids; rw [Int.toNat_natCast, if_neg ho]
        have : markAt own t o = o := by unfold markAt; rw [hk]; simp
        rw [this]
        simp only [ho, decide_false, cond_false, cond_true]
        exact ih o hlen

theorem less_F {nf : Nat} (i : Int) (c : List Int) (hl : c.length ≤ 16) (hn : 17 ≤ nf) : ref_Least_1_f nf i c = some ((((c.filter fun x => decide (x < i)).length : Nat) : Int), ()) := by
  have key : ∀ (r : List Int) (pre : List Int) (fu : Nat) (k : Nat), c = pre ++ r → r.length < fu → k ≤ pre.length → ref_Least_1_l0 nf i c fu k (pre.length : Nat) = some (((k + (r.filter fun x => decide (x < i)).length : Nat) : Int), ()) := by
    intro r
    induction r with
    | nil =>
      intro pre fu k hc hfu hk
      cases fu with
      | zero => omega
      | succ fu =>
        have : c.length = pre.length := by rw [hc]; simp
        rw [ref_Least_1_l0, ref_Least_1_b0]
        simp [this]
    | cons x r ih =>
      intro pre fu k hc hfu hk
      cases fu with
      | zero => omega
      | succ fu =>
        have hcl : c.length = pre.length + (r.length + 1) := by rw [hc]; simp
        have hx : c.getD pre.length 0 = x := by rw [hc]; simp
        have hb : inb ((pre.length : Nat) : Int) c.length = true := inb_ok (by omega) (by omega)
        have hw : IntKind.i64.wrap (((pre.length : Nat) : Int) + 1) = (((pre ++ [x]).length : Nat) : Int) := by rw [Go.IntWalk.i64_in _ (by omega)]; simp
        have hw' : IntKind.i64.wrap ((k : Int) + 1) = ((k + 1 : Nat) : Int) := by rw [Go.IntWalk.i64_in _ (by omega)]; rfl
        have ih' := fun k' => ih (pre ++ [x]) fu k' (by rw [hc]; simp) (by simp at hfu; omega)
        rw [ref_Least_1_l0, ref_Least_1_b0]
        simp only [show ((pre.length : Nat) : Int) < (c.length : Int) by omega, decide_true, cond_true, hb, Int.toNat_natCast, hx, hw, hw']
        rw [ih' (k + 1) (by simp; omega), ih' k (by simp; omega), List.filter_cons]
        by_cases hxi : x < i
        · simp [hxi]; omega
        · simp [hxi]
  have := key c [] nf 0 rfl (by omega) (by simp)
  simpa [ref_Least_1_f, ref_Least_1_p] using this

/-- the document's term among the chosen ones -/
def refT (p : Nat → Bool) (t : Term5) : Term5 :=
  if t.1 > 2 then
    if ((cnt p t.2.1.toNat : Nat) : Int) > (cnt p t.2.2.1.toNat : Nat) ∧ (t.1 = 3 ∨ t.1 = 5) then (t.1, (cnt p t.2.2.1.toNat : Nat), (cnt p t.2.1.toNat : Nat), 0, ())
    else (t.1, (cnt p t.2.1.toNat : Nat), (cnt p t.2.2.1.toNat : Nat), 0, ())
  else (t.1, 0, 0, t.2.2.2.1, ())

theorem rleast_l2 {nf : Nat} (hn : 17 ≤ nf) {fs : List Term5} (hl : fs.length ≤ 16) (hL : Low fs) {p : Nat → Bool} (u : Unit) {c : List Int} (hce : c = outs p Int.ofNat fs.length) (hcm : ∀ x ∈ c, 0 ≤ x ∧ x < fs.length) (hcl : c.length ≤ 16) :
    ∀ (fu t : Nat) (out : List Term5), t ≤ c.length → c.length - t < fu → out.length = t →
      ref_Least_l2 nf (c, u) fu fs c out t = some (out ++ (c.drop t).map fun x => refT p (fs.getD x.toNat (0, 0, 0, 0, ())), ())
  | 0, t, out, h0, h1, _ => by omega
  | fu + 1, t, out, h0, h1, hol => by
    rw [ref_Least_l2, ref_Least_b2]
    by_cases ht : t < c.length
    · have hw : IntKind.i64.wrap ((t : Int) + 1) = ((t + 1 : Nat) : Int) := by rw [Go.IntWalk.i64_in _ (by omega)]; rfl
      have hb : inb (t : Int) c.length = true := inb_ok (by omega) (by omega)
      have hd : c.drop t = c.getD t 0 :: c.drop (t + 1) := by
        have := drop_step c t 0 (by omega) (by omega)
        simpa using this
      have hx : c.getD t 0 ∈ c := by have := getD_mem (l := c) (t := (t : Int)) (d := 0) (by omega) (by omega); simpa using this
      obtain ⟨x0, x1⟩ := hcm _ hx
      have fit : ∀ {α β : Type} (y : α) (z : β), (bimp false (!List.isEmpty [y]) && Nat.ble (out.length + [z].length) lim) = true := fun y z => by rw [ble_ok (by simp; omega)]; rfl
      have ih := fun y => rleast_l2 hn hl hL u hce hcm hcl fu (t + 1) (out ++ [y]) (by omega) (by omega) (by simp [hol])
      have hcnt : ∀ i : Int, 0 ≤ i → i ≤ fs.length → (((c.filter fun x => decide (x < i)).length : Nat) : Int) = (cnt p i.toNat : Nat) := fun i h0 h1 => by rw [hce, outs_count h0 _ h1]
      rw [hd]
      simp only [both_self, show (t : Int) < (c.length : Int) by omega, decide_true, cond_true, hb, Int.toNat_natCast, hw, inb_ok x0 x1, List.map_cons, fit, less_F (nf := nf) _ c hcl hn, Option.bind_some]
      have hxs : ∀ o ∈ kids fs (c.getD t 0), 0 ≤ o ∧ o < fs.length := fun o ho => by have := hL _ x0 x1 o ho; omega
      by_cases o : (fs.getD (c.getD t 0).toNat (0, 0, 0, 0, ())).1 > 2
      · have hk : kids fs (c.getD t 0) = [(fs.getD (c.getD t 0).toNat (0, 0, 0, 0, ())).2.1, (fs.getD (c.getD t 0).toNat (0, 0, 0, 0, ())).2.2.1] := by unfold kids; rw [if_pos o]
        have ha := hxs (fs.getD (c.getD t 0).toNat (0, 0, 0, 0, ())).2.1 (by rw [hk]; simp)
        have hbb := hxs (fs.getD (c.getD t 0).toNat (0, 0, 0, 0, ())).2.2.1 (by rw [hk]; simp)
        simp only [show (fs.getD (c.getD t 0).toNat (0, 0, 0, 0, ())).1 ≥ 3 by omega, decide_true, cond_true, hcnt _ ha.1 (by omega), hcnt _ hbb.1 (by omega)]
        have hR : refT p (fs.getD (c.getD t 0).toNat (0, 0, 0, 0, ())) = if ((cnt p (fs.getD (c.getD t 0).toNat (0, 0, 0, 0, ())).2.1.toNat : Nat) : Int) > (cnt p (fs.getD (c.getD t 0).toNat (0, 0, 0, 0, ())).2.2.1.toNat : Nat) ∧ ((fs.getD (c.getD t 0).toNat (0, 0, 0, 0, ())).1 = 3 ∨ (fs.getD (c.getD t 0).toNat (0, 0, 0, 0, ())).1 = 5) then (((fs.getD (c.getD t 0).toNat (0, 0, 0, 0, ())).1, ((cnt p (fs.getD (c.getD t 0).toNat (0, 0, 0, 0, ())).2.2.1.toNat : Nat) : Int), ((cnt p (fs.getD (c.getD t 0).toNat (0, 0, 0, 0, ())).2.1.toNat : Nat) : Int), 0, ()) : Term5) else (((fs.getD (c.getD t 0).toNat (0, 0, 0, 0, ())).1, ((cnt p (fs.getD (c.getD t 0).toNat (0, 0, 0, 0, ())).2.1.toNat : Nat) : Int), ((cnt p (fs.getD (c.getD t 0).toNat (0, 0, 0, 0, ())).2.2.1.toNat : Nat) : Int), 0, ()) : Term5) := by
          unfold refT; rw [if_pos o]
        rw [hR]
        by_cases hc : ((cnt p (fs.getD (c.getD t 0).toNat (0, 0, 0, 0, ())).2.1.toNat : Nat) : Int) > (cnt p (fs.getD (c.getD t 0).toNat (0, 0, 0, 0, ())).2.2.1.toNat : Nat)
        · simp only [hc, decide_true, cond_true, true_and]
          by_cases o3 : (fs.getD (c.getD t 0).toNat (0, 0, 0, 0, ())).1 = 3
          · simp only [o3, beq_self_eq_true, cond_true, true_or, if_true]
            have := ih (3, (cnt p (fs.getD (c.getD t 0).toNat (0, 0, 0, 0, ())).2.2.1.toNat : Nat), (cnt p (fs.getD (c.getD t 0).toNat (0, 0, 0, 0, ())).2.1.toNat : Nat), 0, ())
            rw [List.append_assoc] at this
            exact this
          · by_cases o5 : (fs.getD (c.getD t 0).toNat (0, 0, 0, 0, ())).1 = 5
            · simp only [o5, beq_self_eq_true, show ((5 : Int) == 3) = false from rfl, cond_true, cond_false, or_true, if_true]
              have := ih (5, (cnt p (fs.getD (c.getD t 0).toNat (0, 0, 0, 0, ())).2.2.1.toNat : Nat), (cnt p (fs.getD (c.getD t 0).toNat (0, 0, 0, 0, ())).2.1.toNat : Nat), 0, ())
              rw [List.append_assoc] at this
              exact this
            · simp only [beq_f o3, beq_f o5, cond_false, o3, o5, or_self, if_false]
              have := ih ((fs.getD (c.getD t 0).toNat (0, 0, 0, 0, ())).1, (cnt p (fs.getD (c.getD t 0).toNat (0, 0, 0, 0, ())).2.1.toNat : Nat), (cnt p (fs.getD (c.getD t 0).toNat (0, 0, 0, 0, ())).2.2.1.toNat : Nat), 0, ())
              rw [List.append_assoc] at this
              exact this
        · simp only [hc, decide_false, cond_false, false_and, if_false]
          have := ih ((fs.getD (c.getD t 0).toNat (0, 0, 0, 0, ())).1, (cnt p (fs.getD (c.getD t 0).toNat (0, 0, 0, 0, ())).2.1.toNat : Nat), (cnt p (fs.getD (c.getD t 0).toNat (0, 0, 0, 0, ())).2.2.1.toNat : Nat), 0, ())
          rw [List.append_assoc] at this
          exact this
      · simp only [show ¬ (fs.getD (c.getD t 0).toNat (0, 0, 0, 0, ())).1 ≥ 3 by omega, decide_false, cond_false]
        have hR : refT p (fs.getD (c.getD t 0).toNat (0, 0, 0, 0, ())) = ((fs.getD (c.getD t 0).toNat (0, 0, 0, 0, ())).1, 0, 0, (fs.getD (c.getD t 0).toNat (0, 0, 0, 0, ())).2.2.2.1, ()) := by unfold refT; rw [if_neg o]
        rw [hR]
        have := ih ((fs.getD (c.getD t 0).toNat (0, 0, 0, 0, ())).1, 0, 0, (fs.getD (c.getD t 0).toNat (0, 0, 0, 0, ())).2.2.2.1, ())
        rw [List.append_assoc] at this
        exact this
    · have : c.drop t = [] := List.drop_eq_nil_of_le (by omega)
      simp only [show ¬ (t : Int) < (c.length : Int) by omega, decide_false, cond_false, this, List.map_nil, List.append_nil]

theorem rleast_l0 {nf : Nat} (hn : 20 ≤ nf) (hl : l.length ≤ 16) (hp : 1 ≤ l.length) {F : List Int} (hF : F.length = l.length) (hO : ∀ i, i < l.length → Opnds l.length (l.getD i (0, 0, 0, 0, ()))) {c : List Int} (hcm : ref_Comes_f nf (l.map (fstT F)) (F.getD (l.length - 1) 0) = some (c, ())) : ∀ (r done : List Term5) (fu : Nat) (t : Int), l = done ++ r → t = done.length → r.length < fu →
    ref_Least_l0 nf l fu F (done.map (fstT F)) t = ref_Least_l2 nf (c, ()) nf (l.map (fstT F)) c [] 0
  | [], done, fu + 1, t, hlr, ht, _ => by
    have hw : IntKind.i64.wrap ((l.length : Int) - 1) = (l.length : Int) - 1 := Go.IntWalk.i64_in _ (by omega)
    have hd : done = l := by rw [hlr]; simp
    subst hd
    rw [ref_Least_l0, ref_Least_b0]
    simp only [ht, Int.lt_irrefl, decide_false, cond_false, hw]
    rw [inb_ok (by omega) (by omega)]
    have e : ((done.length : Int) - 1).toNat = done.length - 1 := by omega
    rw [e, hcm]
    rfl
  | x :: r, done, fu + 1, t, hlr, ht, hfu => by
    have hlen : l.length = done.length + (r.length + 1) := by rw [hlr]; simp
    have h0 : 0 ≤ t := by omega
    have h1 : t < l.length := by omega
    have hx : l.getD t.toNat (0, 0, 0, 0, ()) = x := by
      rw [hlr, ht]; simp
    have hox : Opnds l.length x := by have := hO t.toNat (by omega); rw [hx] at this; exact this
    have ih := rleast_l0 hn hl hp hF hO hcm r (done ++ [x]) fu (t + 1) (by rw [hlr]; simp) (by simp; omega) (by simp at hfu; omega)
    rw [List.map_append, List.map_singleton] at ih
    have hw : IntKind.i64.wrap (t + 1) = t + 1 := wrap_step h0 h1 (Nat.le_trans hl (by decide))
    have fit : ∀ {α β : Type} (y : α) (z : β), (bimp false (!List.isEmpty [y]) && Nat.ble ((done.map (fstT F)).length + [z].length) lim) = true := fun y z => by rw [ble_ok (by simp; omega)]; rfl
    rw [ref_Least_l0, ref_Least_b0]
    simp only [hx, h1, decide_true, cond_true, inb_ok h0 h1, hw, fit]
    by_cases o : x.1 > 2
    · obtain ⟨a0, a1, b0, b1⟩ := hox o
      rw [← hF] at a1 b1
      simp only [show x.1 ≥ 3 by omega, decide_true, cond_true, inb_ok a0 a1, inb_ok b0 b1]
      have e : fstT F x = (x.1, F.getD x.2.1.toNat 0, F.getD x.2.2.1.toNat 0, x.2.2.2) := by unfold fstT; rw [if_pos o]
      rw [e] at ih
      exact ih
    · simp only [show ¬ x.1 ≥ 3 by omega, decide_false, cond_false]
      have e : fstT F x = x := by unfold fstT; rw [if_neg o]
      rw [e] at ih
      exact ih
  | _, _, 0, _, _, _, h => by omega

theorem ren_ref {F : List Int} {p : Nat → Bool} (t : Term5) (h0 : t.1 > 2 → 0 ≤ F.getD t.2.1.toNat 0 ∧ 0 ≤ F.getD t.2.2.1.toNat 0) : renT p (keyOf F t) = refT p (fstT F t) := by
  unfold renT refT
  rw [key_op, fst_op]
  by_cases o : t.1 > 2
  · simp only [o, if_true]
    obtain ⟨ha, hb⟩ := h0 o
    unfold keyOf fstT
    simp only [o, if_true]
    generalize F.getD t.2.1.toNat 0 = a at ha
    generalize F.getD t.2.2.1.toNat 0 = b at hb
    by_cases oc : t.1 = 3 ∨ t.1 = 5
    · simp only [oc, if_true, and_true]
      by_cases hab : b < a
      · have := cnt_mono (p := p) (m := b.toNat) (n := a.toNat) (by omega)
        simp only [hab, if_true, show ¬ b > a by omega, if_false]
        split
        · rfl
        · have : cnt p a.toNat = cnt p b.toNat := by omega
          rw [this]
      · have := cnt_mono (p := p) (m := a.toNat) (n := b.toNat) (by omega)
        simp only [hab, if_false]
        by_cases hab' : b > a
        · simp only [hab', if_true]
          rw [if_neg (by omega)]
        · have : a = b := by omega
          subst this; simp
    · simp only [oc, if_false, and_false]
  · simp only [o, if_false]
    unfold keyOf fstT
    simp only [o, if_false]

theorem valueLeasts_main (vars : Int) (l : List Term5) : law_ValueLeasts_f 20 vars l = some (true, ()) := by
  simp only [law_ValueLeasts_f, law_ValueLeasts_p, value_Least_f, value_Least_p]
  simp only [term_F (nf := 20) (by omega) vars l, terms_F' (nf := 20) (by omega) vars l, Option.bind_some]
  by_cases hc : termCode vars l = 0
  · obtain ⟨_, hv, hp, hl, hg⟩ := termCode_ok hc
    have hL := low_of hg
    have hlen : (nums l [] []).length = l.length := by rw [nums_len]; simp
    have hlow := nums_low l [] [] rfl (by simp)
    have hw : IntKind.i64.wrap ((l.length : Int) - 1) = (l.length : Int) - 1 := Go.IntWalk.i64_in _ (by omega)
    have hlim : (l.length : Int) ≤ (lim : Int) := by have : l.length ≤ lim := Nat.le_trans hl (by decide); omega
    have hO : ∀ i, i < l.length → Opnds l.length (l.getD i (0, 0, 0, 0, ())) := fun i hi ho => by
      have := opnds_of l 0 (by simpa using hg) i hi ho; omega
    simp only [hc, bne_self_eq_false, cond_false, numbers_F (nf := 20) hl (by omega) hg, Option.bind_some, hw, hlim, show (0 : Int) ≤ l.length by omega, Int.le_refl, decide_true, Bool.and_self, cond_true, Int.toNat_natCast]
    simp only [ref_Least_f, ref_Least_p, firsts_F (nf := 20) hl (by omega) hg, Option.bind_some]
    generalize hFe : nums l [] [] = F at hlen hlow
    have hLf : Low (l.map (fstT F)) := low_fst hL hlen hlow
    have hLk : Low (l.map (keyOf F)) := low_key hLf
    have hr := hlow (l.length - 1) (by omega)
    generalize hre : F.getD (l.length - 1) 0 = root at hr
    have e1 : ((l.length : Int) - 1).toNat = l.length - 1 := by omega
    rw [inb_ok (n := F.length) (by omega) (by omega), e1, hre, inb_ok (n := (List.replicate l.length false).length) hr.1 (by simp; omega)]
    simp only [cond_true]
    have hml : (l.map (keyOf F)).length = l.length := by simp
    have hmf : (l.map (fstT F)).length = l.length := by simp
    have h1 := least_l0 (nf := 20) (l := l) hLk (by omega) hml.symm l.length 20 ((List.replicate l.length false).set root.toNat true) (by omega) (by omega) (by simp)
    rw [h1]
    have hmk := marks_need hLk hr.1 (by omega)
    rw [hml] at hmk ⊢
    rw [hmk]
    have hnd : (need (l.map (keyOf F)) root).length = l.length := by simp [need]
    have hget : ∀ j : Nat, j < l.length → ((need (l.map (keyOf F)) root).getD j false = true ↔ Rch (l.map (keyOf F)) root (j : Nat)) := fun j hj => by
      rw [List.getD_eq_getElem?_getD]; simp [need, hj]
    have h2 := least_l2 (nf := 20) (own := l.map (keyOf F)) (by omega) (nd := need (l.map (keyOf F)) root) (by omega) hLk (fun j hj hm c hcc => by
      have := hLk j (by omega) (by omega) c hcc
      rw [hget _ (by omega), show ((c.toNat : Nat) : Int) = c by omega]
      exact .kid ((hget j (by omega)).1 hm) hcc) 20 0 (List.replicate l.length 0) (by omega) (by omega) (by simp) (fun j hj => by omega)
    rw [hml] at h2
    rw [show value_Least_l2 20 (l.map (keyOf F)) 20 (l.map (keyOf F)) (need (l.map (keyOf F)) root) (List.replicate l.length 0) [] 0 = _ from h2]
    simp only [Option.bind_some, beq_self_eq_true, cond_true]
    have hcm := comes_F (nf := 20) (by omega) (l := l.map (fstT F)) (by omega) hLf hr.1 (by omega)
    have hce : comes (l.map (fstT F)) root = outs (fun j => (need (l.map (keyOf F)) root).getD j false) Int.ofNat l.length := by
      rw [comes_eq, List.filter_map, outs_filter]
      have hq : ∀ j : Nat, j < l.length → ((rchB (l.map (fstT F)) root) ∘ Int.ofNat) j = (need (l.map (keyOf F)) root).getD j false := fun j hj => by
        rw [Bool.eq_iff_iff, hget j hj, rch_key hLf hr.1 (by omega), Function.comp, rchB_iff]
        rfl
      rw [← outs_cut (p := (rchB (l.map (fstT F)) root) ∘ Int.ofNat) (f := Int.ofNat) (n := root.toNat + 1) (m := l.length) (by omega) (fun j h1 h2 => by
        have : ¬ Rch (l.map (fstT F)) root (j : Nat) := fun h => by
          have := h.in hLf hr.1 (by omega); omega
        rw [Function.comp]
        cases hb : rchB (l.map (fstT F)) root (Int.ofNat j) with
        | false => rfl
        | true => exact absurd (rchB_iff.1 hb) this)]
      have hpq : ∀ n, n ≤ l.length → ∀ p q : Nat → Bool, (∀ j, j < n → p j = q j) → outs p Int.ofNat n = outs q Int.ofNat n := by
        intro n
        induction n with
        | zero => intros; rfl
        | succ n ih =>
          intro hn p q h
          simp only [outs]
          rw [ih (by omega) p q fun j hj => h j (by omega), h n (by omega)]
      exact hpq _ (Nat.le_refl _) _ _ hq
    have h3 := rleast_l0 (nf := 20) (by omega) hl hp hlen hO (c := comes (l.map (fstT F)) root) (by rw [hre]; exact hcm) l [] 20 0 rfl rfl (by omega)
    rw [show ref_Least_l0 20 l 20 F [] 0 = _ from h3]
    have hcl : (comes (l.map (fstT F)) root).length ≤ 16 := by rw [hce, outs_len]; have := cnt_n (fun j => (need (l.map (keyOf F)) root).getD j false) l.length; omega
    have hcmem : ∀ x ∈ comes (l.map (fstT F)) root, 0 ≤ x ∧ x < (l.map (fstT F)).length := fun x hx => by
      rw [comes_eq] at hx
      obtain ⟨h1, h2⟩ := List.mem_filter.1 hx
      have := (rchB_iff.1 h2).in hLf hr.1 (by omega)
      omega
    have h4 := rleast_l2 (nf := 20) (by omega) (fs := l.map (fstT F)) (by omega) hLf (p := fun j => (need (l.map (keyOf F)) root).getD j false) () (by rw [hmf]; exact hce) hcmem hcl 20 0 [] (by omega) (by omega) rfl
    rw [show ref_Least_l2 20 (comes (l.map (fstT F)) root, ()) 20 (l.map (fstT F)) (comes (l.map (fstT F)) root) [] 0 = _ from h4]
    simp only [Option.bind_some, List.drop_zero, List.nil_append]
    have he : ((comes (l.map (fstT F)) root).map fun x => refT (fun j => (need (l.map (keyOf F)) root).getD j false) ((l.map (fstT F)).getD x.toNat (0, 0, 0, 0, ()))) = outs (fun j => (need (l.map (keyOf F)) root).getD j false) (fun j => renT (fun j => (need (l.map (keyOf F)) root).getD j false) ((l.map (keyOf F)).getD j (0, 0, 0, 0, ()))) l.length := by
      rw [hce, outs_map]
      refine outs_congr fun j hj _ => ?_
      show refT _ ((l.map (fstT F)).getD (Int.ofNat j).toNat _) = _
      rw [show (Int.ofNat j).toNat = j from rfl, getD_map hj, getD_map hj]
      refine (ren_ref _ fun ho => ?_).symm
      obtain ⟨a, b, c, d⟩ := hO j hj ho
      exact ⟨(hlow _ (by omega)).1, (hlow _ (by omega)).1⟩
    have hco : (outs (fun j => (need (l.map (keyOf F)) root).getD j false) (fun j => renT (fun j => (need (l.map (keyOf F)) root).getD j false) ((l.map (keyOf F)).getD j (0, 0, 0, 0, ()))) l.length).length ≤ 16 := by
      rw [outs_len]; exact Nat.le_trans (cnt_n _ _) hl
    rw [he, sameTerms (nf := 20) _ (Nat.le_trans hco (by decide)) (by omega)]
    rfl
  · simp [bne_t hc]

theorem valueLeasts_law (x : denPs (lawPs [.int .i64, .sl (.pair (.int .i64) (.pair (.int .i64) (.pair (.int .i64) (.pair (.int .i64) .unit))))])) (_ : wfPs [.int .i64, .sl (.pair (.int .i64) (.pair (.int .i64) (.pair (.int .i64) (.pair (.int .i64) .unit))))] x) : ∃ n, law_ValueLeasts_F n x = some (true, ()) := by
  obtain ⟨vars, l, _⟩ := x
  exact ⟨20, valueLeasts_main vars l⟩
end Go.Proofs.Ytpnganfbonlphaa
