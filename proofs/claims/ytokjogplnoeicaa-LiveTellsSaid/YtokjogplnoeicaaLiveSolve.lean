/- What is live, as long as more is. -/
import Derived.Test.YtokjogplnoeicaaLive
namespace Go.Proofs.Ytokjogplnoeicaa
open Go Go.Ab S

variable {nf : Nat} {n want v : Int} {p : List Blk}

/-! ahead of a step -/
def aheadW (s : Step6) (w : Int) : Int :=
  if s.1 = 1 then not32 w (shlI .u32 1 s.2.1) else if s.1 = 2 then or32 (not32 w (shlI .u32 1 s.2.1)) (shlI .u32 1 s.2.2.2.2.1)
  else or32 (or32 (not32 w (shlI .u32 1 s.2.1)) (shlI .u32 1 s.2.2.1)) (shlI .u32 1 s.2.2.2.1)
theorem to_in {s : Step6} (hs : stepCode n n s = 0) : 0 ≤ s.2.1 ∧ s.2.1 < n := (stepCode_ok (op := s.1) (to := s.2.1) (a := s.2.2.1) (b := s.2.2.2.1) (k := s.2.2.2.2.1) (u := ()) hs).2.2.2.2.1
theorem ahead_F {s : Step6} (hs : stepCode n n s = 0) (w : Int) : live_ahead_f nf s w = some (aheadW s w, ()) := by
  have hr := rd_in hs
  have ht := to_in hs
  simp only [live_ahead_f, live_ahead_p]
  unfold rd at hr
  unfold aheadW
  simp only [ht.1, decide_true, cond_true]
  by_cases h1 : s.1 = 1
  · simp only [h1, beq_self_eq_true, cond_true, if_true]; rfl
  · rw [if_neg h1] at hr ⊢
    rw [beq_f h1, cond_false]
    by_cases h2 : s.1 = 2
    · rw [if_pos h2] at hr ⊢
      have := hr s.2.2.2.2.1 (by simp)
      simp only [h2, beq_self_eq_true, cond_true, this.1, decide_true]; rfl
    · rw [if_neg h2] at hr ⊢
      have ha := hr s.2.2.1 (by simp)
      have hb := hr s.2.2.2.1 (by simp)
      simp only [beq_f h2, cond_false, ha.1, hb.1, decide_true, cond_true]; rfl
theorem ahead_w (s : Step6) (w : Int) : W32 (aheadW s w) := by
  unfold aheadW
  split
  · exact not32_w _ _
  · split
    · exact or32_w _ _
    · exact or32_w _ _
theorem ahead_bt (hn6 : n ≤ 6) {s : Step6} (hs : stepCode n n s = 0) {w : Int} (hw : W32 w) (i : Nat) : bt (aheadW s w) i = (decide ((i : Int) ∈ rd s) || (bt w i && !decide (i = s.2.1.toNat))) := by
  have hr := rd_in hs
  have ht := to_in hs
  have h1t := one_w ht.1 (by omega : s.2.1 < 32)
  have hnb : bt (not32 w (shlI .u32 1 s.2.1)) i = (bt w i && !decide (i = s.2.1.toNat)) := by rw [not32_bt hw h1t, one_bt ht.1 (by omega)]
  unfold aheadW
  unfold rd at hr ⊢
  by_cases h1 : s.1 = 1
  · rw [if_pos h1, if_pos h1, hnb]; simp
  · rw [if_neg h1] at hr ⊢
    rw [if_neg h1]
    by_cases h2 : s.1 = 2
    · rw [if_pos h2] at hr ⊢
      rw [if_pos h2]
      have hk := hr s.2.2.2.2.1 (by simp)
      rw [or32_bt (not32_w _ _) (one_w hk.1 (by omega)), hnb, one_bt hk.1 (by omega), Bool.or_comm]
      congr 1
      have : (i = s.2.2.2.2.1.toNat) ↔ ((i : Int) ∈ [s.2.2.2.2.1]) := by simp only [List.mem_singleton]; omega
      exact decide_eq_decide.2 this
    · rw [if_neg h2] at hr ⊢
      rw [if_neg h2]
      have ha := hr s.2.2.1 (by simp)
      have hb := hr s.2.2.2.1 (by simp)
      rw [or32_bt (or32_w _ _) (one_w hb.1 (by omega)), or32_bt (not32_w _ _) (one_w ha.1 (by omega)), hnb, one_bt ha.1 (by omega), one_bt hb.1 (by omega)]
      have : decide ((i : Int) ∈ [s.2.2.1, s.2.2.2.1]) = (decide (i = s.2.2.1.toNat) || decide (i = s.2.2.2.1.toNat)) := by
        rw [← Bool.decide_or]
        refine decide_eq_decide.2 ?_
        simp only [List.mem_cons, List.not_mem_nil, or_false]; omega
      rw [this]
      cases bt w i <;> cases decide (i = s.2.1.toNat) <;> cases decide (i = s.2.2.1.toNat) <;> cases decide (i = s.2.2.2.1.toNat) <;> rfl

/-! behind a block, ahead of its test -/
def orsW (in' : List Int) (l : List Int) (w : Int) : Int := l.foldl (fun w j => or32 w (in'.getD j.toNat 0)) w
def baseW (b : Blk) (want : Int) : Int := if nextOf b = [] then want else if 0 ≤ b.2.1 then shlI .u32 1 b.2.1 else 0
def behindW (b : Blk) (want : Int) (in' : List Int) : Int := orsW in' (nextOf b) (baseW b want)
def Ws (m : Nat) (in' : List Int) : Prop := in'.length = m ∧ ∀ w ∈ in', W32 w
theorem Ws.get {m : Nat} {in' : List Int} (h : Ws m in') (i : Nat) : W32 (in'.getD i 0) := by
  by_cases hi : i < in'.length
  · have : in'.getD i 0 = in'[i] := by simp [List.getD, hi]
    rw [this]; exact h.2 _ (List.getElem_mem hi)
  · have : in'.getD i 0 = 0 := by simp [List.getD, hi]
    rw [this]; exact W32_zero
theorem Ws.set {m : Nat} {in' : List Int} (h : Ws m in') (i : Nat) {w : Int} (hw : W32 w) : Ws m (in'.set i w) := by
  refine ⟨by rw [List.length_set]; exact h.1, fun x hx => ?_⟩
  rcases List.mem_or_eq_of_mem_set hx with h1 | h1
  · exact h.2 _ h1
  · rw [h1]; exact hw
theorem ors_w {in' : List Int} {m : Nat} (h : Ws m in') : ∀ (l : List Int) (w : Int), W32 w → W32 (orsW in' l w) ∧ ∀ i : Nat, (bt (orsW in' l w) i = true ↔ bt w i = true ∨ ∃ j ∈ l, bt (in'.getD j.toNat 0) i = true)
  | [], w, hw => ⟨hw, fun i => by simp [orsW]⟩
  | j :: l, w, hw => by
    obtain ⟨h1, h2⟩ := ors_w h l (or32 w (in'.getD j.toNat 0)) (or32_w _ _)
    refine ⟨h1, fun i => ?_⟩
    show bt (orsW in' l (or32 w (in'.getD j.toNat 0))) i = true ↔ _
    rw [h2 i, or32_bt hw (h.get _), Bool.or_eq_true]
    constructor
    · rintro ((h3 | h3) | ⟨k, h3, h4⟩)
      · exact .inl h3
      · exact .inr ⟨j, by simp, h3⟩
      · exact .inr ⟨k, by simp [h3], h4⟩
    · rintro (h3 | ⟨k, h3, h4⟩)
      · exact .inl (.inl h3)
      · rcases List.mem_cons.1 h3 with rfl | h3
        · exact .inl (.inr h4)
        · exact .inr ⟨k, h3, h4⟩
theorem next_nil {m : Int} {b : Blk} (hb : blockCode n m b = 0) : nextOf b = [] ↔ b.2.1 = -1 ∧ b.2.2.1 = -1 := by
  obtain ⟨_, b1, b2, b3, b4⟩ := blockCode_ok hb
  unfold nextOf
  constructor
  · intro h
    rw [List.append_eq_nil_iff] at h
    obtain ⟨h1, h2⟩ := h
    split at h1
    · cases h1
    · rename_i c1
      rcases b3 with b3 | b3
      · omega
      · exact ⟨by omega, b3.1⟩
  · rintro ⟨h1, h2⟩
    rw [h1, h2]; simp
theorem base_w (hn6 : n ≤ 6) {m : Int} {b : Blk} (hb : blockCode n m b = 0) (hw : W32 want) : W32 (baseW b want) := by
  obtain ⟨_, b1, b2, b3, b4⟩ := blockCode_ok hb
  unfold baseW
  split
  · exact hw
  · split
    · rename_i h; exact one_w h (by omega)
    · exact W32_zero
theorem base_bt (hn6 : n ≤ 6) {m : Int} {b : Blk} (hb : blockCode n m b = 0) (i : Nat) : bt (baseW b want) i = true ↔ (b.2.1 = (i : Int)) ∨ (b.2.1 = -1 ∧ b.2.2.1 = -1 ∧ bt want i = true) := by
  obtain ⟨_, b1, b2, b3, b4⟩ := blockCode_ok hb
  unfold baseW
  by_cases h : nextOf b = []
  · rw [if_pos h]
    obtain ⟨h1, h2⟩ := (next_nil hb).1 h
    constructor
    · intro h3; exact .inr ⟨h1, h2, h3⟩
    · rintro (h3 | h3)
      · omega
      · exact h3.2.2
  · rw [if_neg h]
    have hn := fun h1 => h ((next_nil hb).2 h1)
    by_cases h0 : 0 ≤ b.2.1
    · rw [if_pos h0, one_bt h0 (by omega), decide_eq_true_eq]
      constructor
      · intro h3; left; omega
      · rintro (h3 | h3)
        · omega
        · exact absurd ⟨h3.1, h3.2.1⟩ hn
    · rw [if_neg h0, bt_zero]
      constructor
      · intro h3; cases h3
      · rintro (h3 | h3)
        · omega
        · exact absurd ⟨h3.1, h3.2.1⟩ hn
theorem behind_bt (hn6 : n ≤ 6) {m : Int} {b : Blk} (hb : blockCode n m b = 0) (hw : W32 want) {in' : List Int} {k : Nat} (hi : Ws k in') (i : Nat) :
    bt (behindW b want in') i = true ↔ ((b.2.1 = (i : Int)) ∨ (b.2.1 = -1 ∧ b.2.2.1 = -1 ∧ bt want i = true)) ∨ ∃ j ∈ nextOf b, bt (in'.getD j.toNat 0) i = true := by
  unfold behindW
  rw [(ors_w hi _ _ (base_w hn6 hb hw)).2 i, base_bt hn6 hb]
theorem behind_w (hn6 : n ≤ 6) {m : Int} {b : Blk} (hb : blockCode n m b = 0) (hw : W32 want) {in' : List Int} {k : Nat} (hi : Ws k in') : W32 (behindW b want in') := (ors_w hi _ _ (base_w hn6 hb hw)).1
def behindsW (p : List Blk) (want : Int) (in' : List Int) : List Int := p.map fun b => behindW b want in'
theorem behinds_ws (hp : Good n p) (hw : W32 want) {in' : List Int} {k : Nat} (hi : Ws k in') : Ws p.length (behindsW p want in') := by
  refine ⟨by simp [behindsW], fun w hx => ?_⟩
  obtain ⟨b, hb, rfl⟩ := List.mem_map.1 hx
  exact behind_w hp.n6 (hp.ok b hb) hw hi

theorem next_len (b : Blk) : (nextOf b).length ≤ 2 := by
  unfold nextOf
  rw [List.length_append]
  have a1 : (if b.2.2.1 ≥ 0 then [b.2.2.1] else []).length ≤ 1 := by split <;> simp
  have a2 : (if b.2.1 ≥ 0 ∧ b.2.2.2.1 ≠ b.2.2.1 then [b.2.2.2.1] else []).length ≤ 1 := by split <;> simp
  omega

theorem behind_F (hp : Good n p) (hn : 100 ≤ nf) {in' : List Int} (hi : in'.length = p.length) : live_Behind_f nf p want in' = some (behindsW p want in', ()) := by
  have hp8 := hp.p8
  simp only [live_Behind_f, live_Behind_p, next_F (nf := nf) hp8 (by omega), Option.bind_some]
  obtain ⟨fu', q, ⟨q1, q2⟩, e⟩ := loop_inv (n := (p.length : Int)) (F := fun fu t (q : List Int × List (List Int)) => live_Behind_l0 nf p want in' (p.map nextOf, ()) fu q.1 q.2 t) (fun t q => q.1 = behindsW (p.take t.toNat) want in' ∧ q.2 = p.map nextOf) (fun fu t q h0 ht hI => by
    obtain ⟨out, T⟩ := q
    obtain ⟨i1, i2⟩ := hI
    simp only at i1 i2
    subst i1 i2
    refine ⟨(behindsW (p.take (t + 1).toNat) want in', p.map nextOf), ?_, rfl, rfl⟩
    have hb := blk_mem h0 ht
    have hok := hp.ok _ hb
    obtain ⟨_, b1, b2, b3, b4⟩ := blockCode_ok hok
    have hg : (p.map nextOf).getD t.toNat [] = nextOf (blk p t) := by
      have : t.toNat < p.length := by omega
      simp [List.getD, blk, this]
    have hB : p.getD t.toNat ([], 0, 0, 0, ()) = blk p t := rfl
    have hw : IntKind.i64.wrap (t + 1) = t + 1 := wrap_nn (by omega) (by omega)
    have hout : (behindsW (p.take t.toNat) want in').length ≤ 8 := by simp [behindsW]; omega
    have hob : Nat.ble ((behindsW (p.take t.toNat) want in').length + 1) lim = true := ble_ok (by omega)
    have hsucc : behindsW (p.take (t + 1).toNat) want in' = behindsW (p.take t.toNat) want in' ++ [behindW (blk p t) want in'] := by
      have htn : t.toNat < p.length := by omega
      have hbe : blk p t = p[t.toNat] := by simp [blk, List.getD, htn]
      rw [show (t + 1).toNat = t.toNat + 1 by omega, List.take_add_one, List.getElem?_eq_getElem htn, hbe]
      unfold behindsW
      rw [List.map_append]
      rfl
    have inner : ∀ s0, live_Behind_l2 nf p want in' (p.map nextOf) t (p.map nextOf, ()) (fun out t14 t16 => live_Behind_l0 nf p want in' (p.map nextOf, ()) fu out t14 t16) nf (behindsW (p.take t.toNat) want in') s0 (p.map nextOf) 0 =
        live_Behind_l0 nf p want in' (p.map nextOf, ()) fu (behindsW (p.take t.toNat) want in' ++ [orsW in' (nextOf (blk p t)) s0]) (p.map nextOf) (t + 1) := by
      intro s0
      have h2 := next_len (blk p t)
      obtain ⟨fu2, w, hw2, e2⟩ := loop_inv (n := ((nextOf (blk p t)).length : Int)) (F := fun fu2 k (w : Int) => live_Behind_l2 nf p want in' (p.map nextOf) t (p.map nextOf, ()) (fun out t14 t16 => live_Behind_l0 nf p want in' (p.map nextOf, ()) fu out t14 t16) fu2 (behindsW (p.take t.toNat) want in') w (p.map nextOf) k) (fun k w => w = orsW in' ((nextOf (blk p t)).take k.toNat) s0) (fun fu2 k w k0 k1 hw1 => by
        refine ⟨_, ?_, rfl⟩
        have hj := nextOf_in hok _ (getD_mem (d := 0) k0 k1)
        rw [live_Behind_l2, live_Behind_b2, hg, inb_ok k0 k1, wrap_nn (x := k + 1) (by omega) (by omega)]
        simp only [k1, decide_true, cond_true]
        rw [inb_ok hj.1 (by rw [hi]; exact hj.2), cond_true]
        subst hw1
        unfold orsW
        rw [take_fold (d := 0) _ s0 k0 k1]
        rfl) nf 0 s0 (by omega) (by omega) (by omega) (by simp [orsW])
      rw [e2, live_Behind_l2, live_Behind_b2, hg, hw2, Int.toNat_natCast, List.take_length]
      simp only [Int.lt_irrefl, decide_false, cond_false, bimp, List.isEmpty_cons, Bool.not_false, Bool.true_and, List.length_cons, List.length_nil, Nat.zero_add, hob, cond_true, hw]
    simp only
    rw [live_Behind_l0, live_Behind_b0, hsucc, hg, hB]
    simp only [List.length_map, ht, decide_true, cond_true, inb_ok h0 ht]
    unfold behindW baseW
    by_cases c1 : (blk p t).2.1 ≥ 0
    · have hne : nextOf (blk p t) ≠ [] := fun h => by have := (next_nil hok).1 h; omega
      have hl0 : ((nextOf (blk p t)).length : Int) ≠ 0 := by
        intro h
        exact hne (List.length_eq_zero_iff.1 (by omega))
      have c1' : 0 ≤ (blk p t).2.1 := c1
      simp only [c1, decide_true, cond_true, c1', beq_f hl0, cond_false, if_neg hne, if_true]
      exact inner _
    · have c1' : ¬ 0 ≤ (blk p t).2.1 := c1
      simp only [c1, decide_false, cond_false, c1', if_false]
      by_cases c2 : nextOf (blk p t) = []
      · have hl0 : ((nextOf (blk p t)).length : Int) = 0 := by rw [c2]; rfl
        rw [hl0, if_pos c2]
        simp only [beq_self_eq_true, cond_true]
        exact inner _
      · have hl0 : ((nextOf (blk p t)).length : Int) ≠ 0 := by
          intro h
          exact c2 (List.length_eq_zero_iff.1 (by omega))
        rw [beq_f hl0, if_neg c2]
        simp only [cond_false]
        exact inner _) nf 0 ([], p.map nextOf) (by omega) (by omega) (by omega) ⟨by simp [behindsW], rfl⟩
  simp only at e q1 q2
  rw [e, live_Behind_l0, live_Behind_b0, q1, Int.toNat_natCast, List.take_length]
  simp

/-! a round -/
def stepsW (c : List Step6) (w : Int) : Int := c.foldr aheadW w
theorem steps_w : ∀ (c : List Step6) {w : Int}, W32 w → W32 (stepsW c w)
  | [], _, h => h
  | s :: c, _, _ => ahead_w s _
def roundW (p : List Blk) (want : Int) (in' : List Int) : List Int := p.map fun b => stepsW b.1 (behindW b want in')
theorem round_ws (hp : Good n p) (hw : W32 want) {in' : List Int} {k : Nat} (hi : Ws k in') : Ws p.length (roundW p want in') := by
  refine ⟨by simp [roundW], fun w hx => ?_⟩
  obtain ⟨b, hb, rfl⟩ := List.mem_map.1 hx
  exact steps_w _ (behind_w hp.n6 (hp.ok b hb) hw hi)

theorem equal_F {a b : List Int} (ha : a.length ≤ 100) (hn : 110 ≤ nf) : slices_Equal_f nf a b = some (decide (a = b), ()) := by
  simp only [slices_Equal_f, slices_Equal_p]
  by_cases hl : a.length = b.length
  · have h0 : ((a.length : Int) != (b.length : Int)) = false := by simp [hl]
    rw [h0, cond_false]
    have key := loop_chk (n := (a.length : Int)) (F := fun fu t => slices_Equal_l0 nf a b fu t) (yes := some (true, ())) (no := some (false, ())) (fun t => decide (a.getD t.toNat 0 = b.getD t.toNat 0)) (fun fu t h0 ht => by
      rw [slices_Equal_l0, slices_Equal_b0, inb_ok h0 ht, inb_ok h0 (by omega : t < (b.length : Int)), wrap_nn (x := t + 1) (by omega) (by omega)]
      simp only [ht, decide_true, cond_true]
      by_cases h : a.getD t.toNat 0 = b.getD t.toNat 0
      · rw [h, bne_self_eq_false]; simp
      · rw [bne_t h, cond_true, decide_eq_false h, cond_false]) (fun fu => by
      rw [slices_Equal_l0, slices_Equal_b0]
      simp only [Int.lt_irrefl, decide_false, cond_false]) nf 0 (by omega) (by omega) (by omega)
    rw [key, show ((a.length : Int) - 0).toNat = a.length by omega]
    have : chk (fun t => decide (a.getD t.toNat 0 = b.getD t.toNat 0)) a.length 0 = decide (a = b) := by
      by_cases h : a = b
      · subst h; rw [decide_eq_true rfl]; exact chk_iff.2 fun i _ _ => by simp
      · rw [decide_eq_false h]
        cases hc : chk (fun t => decide (a.getD t.toNat 0 = b.getD t.toNat 0)) a.length 0 with
        | false => rfl
        | true =>
          exfalso
          refine h (List.ext_getElem hl fun i h1 h2 => ?_)
          have := chk_iff.1 hc i (by omega) (by omega)
          rw [decide_eq_true_eq, Int.toNat_natCast] at this
          simpa [List.getD, h1, h2] using this
    rw [this]
    cases decide (a = b) <;> rfl
  · rw [bne_t (show ¬ (a.length : Int) = (b.length : Int) by omega), cond_true, decide_eq_false (fun h => hl (by rw [h]))]

/-- a block's steps, from the last one on -/
theorem solve_l4 {t : Int} {g2 : List Int → List Int → Int → Option (List Int × Unit)} {g0 : List Int → Option (List Int × Unit)} {in' : List Int} (hp : Good n p) (h0 : 0 ≤ t) (h1 : t < (p.length : Int)) :
    ∀ (k : Nat) (nx : List Int) (fu : Nat), k ≤ (blk p t).1.length → k < fu → nx.length = p.length → live_solve_l4 nf p want t g2 g0 fu in' nx t (k : Int) = g2 in' (nx.set t.toNat (stepsW ((blk p t).1.take k) (nx.getD t.toNat 0))) (t + 1)
  | _, _, 0, _, h, _ => by omega
  | 0, nx, fu + 1, _, _, hl => by
    have hw : IntKind.i64.wrap (t + 1) = t + 1 := wrap_nn (by omega) (by have := hp.p8; omega)
    have hset : nx.set t.toNat (nx.getD t.toNat 0) = nx := by
      have : t.toNat < nx.length := by omega
      simp [List.getD, this]
    rw [live_solve_l4, live_solve_b4]
    simp only [stepsW, List.take_zero, List.foldr_nil, hset, hw]
    simp
  | k + 1, nx, fu + 1, hk, hf, hl => by
    have hb := hp.ok _ (blk_mem h0 h1)
    obtain ⟨hsg, _⟩ := blockCode_ok hb
    have ht : t < (nx.length : Int) := by omega
    have hs := stepsGo_all hsg _ (getD_mem (d := S0) (t := (k : Int)) (by omega) (by omega))
    have ih := solve_l4 (g2 := g2) (g0 := g0) (in' := in') hp h0 h1 k (nx.set t.toNat (aheadW ((blk p t).1.getD k S0) (nx.getD t.toNat 0))) fu (by omega) (by omega) (by rw [List.length_set]; exact hl)
    have hB : p.getD t.toNat ([], 0, 0, 0, ()) = blk p t := rfl
    have hk1 : ((k + 1 : Nat) : Int) - 1 = (k : Int) := by omega
    have hset : (nx.set t.toNat (aheadW ((blk p t).1.getD k S0) (nx.getD t.toNat 0))).getD t.toNat 0 = aheadW ((blk p t).1.getD k S0) (nx.getD t.toNat 0) := by
      have : t.toNat < nx.length := by omega
      simp [List.getD, this]
    rw [live_solve_l4, live_solve_b4, hk1, hB, inb_ok (by omega : (0 : Int) ≤ (k : Int)) (by omega), inb_ok h0 ht]
    simp only [show ¬ (((k + 1 : Nat) : Int) ≤ 0) by omega, decide_false, cond_false, cond_true]
    rw [show live_ahead_f nf (List.getD (blk p t).1 (Int.toNat (k : Int)) (0, 0, 0, 0, 0, ())) (nx.getD t.toNat 0) = some (aheadW ((blk p t).1.getD k S0) (nx.getD t.toNat 0), ()) by
      rw [Int.toNat_natCast] at hs ⊢; exact ahead_F hs _, Option.bind_some, ih, hset, List.set_set]
    have : (blk p t).1.take (k + 1) = (blk p t).1.take k ++ [(blk p t).1.getD k S0] := by
      rw [List.take_add_one]
      have : k < (blk p t).1.length := by omega
      simp [List.getD, this]
    rw [this]
    simp [stepsW]

theorem solve_l2 (hp : Good n p) (hn : 200 ≤ nf) {g0 : List Int → Option (List Int × Unit)} {in' : List Int} : live_solve_l2 nf p want g0 nf in' (behindsW p want in') 0 = if roundW p want in' = in' then some (in', ()) else g0 (roundW p want in') := by
  have hp8 := hp.p8
  obtain ⟨fu', q, ⟨q1, q2⟩, e⟩ := loop_inv (n := (p.length : Int)) (F := fun fu t (q : List Int × List Int) => live_solve_l2 nf p want g0 fu q.1 q.2 t) (fun t q => q.1 = in' ∧ q.2 = (p.take t.toNat).map (fun b => stepsW b.1 (behindW b want in')) ++ (p.drop t.toNat).map (fun b => behindW b want in')) (fun fu t q h0 ht hI => by
    obtain ⟨i', nx⟩ := q
    obtain ⟨i1, i2⟩ := hI
    simp only at i1 i2
    subst i1
    have hlen : nx.length = p.length := by rw [i2]; simp; omega
    have htn : t.toNat < p.length := by omega
    have hsh := hp.short _ (blk_mem h0 ht)
    have hB : p.getD t.toNat ([], 0, 0, 0, ()) = blk p t := rfl
    have hbe : blk p t = p[t.toNat] := by simp [blk, List.getD, htn]
    refine ⟨(i', nx.set t.toNat (stepsW (blk p t).1 (nx.getD t.toNat 0))), ?_, rfl, ?_⟩
    · simp only
      rw [live_solve_l2, live_solve_b2, hB, inb_ok h0 ht]
      have hb : Nat.ble (blk p t).1.length lim = true := ble_ok (by omega)
      simp only [ht, decide_true, cond_true, hb]
      have := solve_l4 (nf := nf) (want := want) (g2 := fun a b c => live_solve_l2 nf p want g0 fu a b c) (g0 := g0) (in' := i') hp h0 ht (blk p t).1.length nx nf (Nat.le_refl _) (by omega) hlen
      rw [List.take_length] at this
      exact this
    · simp only
      have hgd : nx.getD t.toNat 0 = behindW (blk p t) want i' := by
        rw [i2, List.getD_eq_getElem?_getD, List.getElem?_append_right (by simp; omega)]
        simp [htn, hbe, Nat.min_eq_left (Nat.le_of_lt htn)]
      rw [hgd, i2, show (t + 1).toNat = t.toNat + 1 by omega, List.take_add_one, List.getElem?_eq_getElem htn]
      rw [List.set_append_right _ _ (by simp; omega)]
      simp only [List.length_map, List.length_take, Nat.min_eq_left (Nat.le_of_lt htn), Nat.sub_self]
      rw [List.drop_eq_getElem_cons htn, List.map_cons, List.set_cons_zero, hbe]
      simp only [Option.toList, List.map_append, List.map_cons, List.map_nil, List.append_assoc, List.cons_append, List.nil_append]) nf 0 (in', behindsW p want in') (by omega) (by omega) (by omega) ⟨rfl, by simp [behindsW]⟩
  simp only at e q1 q2
  rw [e, live_solve_l2, live_solve_b2, q1, q2, Int.toNat_natCast, List.take_length, List.drop_length]
  simp only [Int.lt_irrefl, decide_false, cond_false, List.map_nil, List.append_nil]
  have hr : p.map (fun b => stepsW b.1 (behindW b want in')) = roundW p want in' := rfl
  rw [hr, equal_F (by simp [roundW]; omega) (by omega), Option.bind_some]
  by_cases h : roundW p want in' = in'
  · rw [if_pos h, decide_eq_true h, cond_true]
  · rw [if_neg h, decide_eq_false h, cond_false]

/-! what is so of all rounds -/
def Leb (x y : Int) : Prop := ∀ i : Nat, bt x i = true → bt y i = true
def Les (a b : List Int) : Prop := ∀ i : Nat, Leb (a.getD i 0) (b.getD i 0)
theorem steps_mono (hn6 : n ≤ 6) : ∀ (c : List Step6), (∀ s ∈ c, stepCode n n s = 0) → ∀ {x y : Int}, W32 x → W32 y → Leb x y → Leb (stepsW c x) (stepsW c y)
  | [], _, _, _, _, _, h => h
  | s :: c, hc, x, y, hx, hy, h => by
    have ih := steps_mono hn6 c (fun s hs => hc s (by simp [hs])) hx hy h
    intro i hi
    have hs := hc s (by simp)
    show bt (aheadW s (stepsW c y)) i = true
    have hi : bt (aheadW s (stepsW c x)) i = true := hi
    rw [ahead_bt hn6 hs (steps_w c hx), Bool.or_eq_true, Bool.and_eq_true] at hi
    rw [ahead_bt hn6 hs (steps_w c hy), Bool.or_eq_true, Bool.and_eq_true]
    exact hi.imp id fun h => ⟨ih i h.1, h.2⟩
theorem round_get {i : Nat} (hi : i < p.length) (in' : List Int) : (roundW p want in').getD i 0 = stepsW (blk p i).1 (behindW (blk p i) want in') := by
  simp [roundW, List.getD, hi, blk]
theorem round_mono (hp : Good n p) (hw : W32 want) {a b : List Int} {k : Nat} (ha : Ws k a) (hb : Ws k b) (h : Les a b) : Les (roundW p want a) (roundW p want b) := by
  intro i
  by_cases hi : i < p.length
  · rw [round_get hi, round_get hi]
    have hok := hp.ok _ (blk_mem (p := p) (i := (i : Int)) (by omega) (by omega))
    obtain ⟨hsg, _⟩ := blockCode_ok hok
    refine steps_mono hp.n6 _ (stepsGo_all hsg) (behind_w hp.n6 hok hw ha) (behind_w hp.n6 hok hw hb) fun v hv => ?_
    rw [behind_bt hp.n6 hok hw ha] at hv
    rw [behind_bt hp.n6 hok hw hb]
    exact hv.imp id fun ⟨j, h1, h2⟩ => ⟨j, h1, h _ v h2⟩
  · have : (roundW p want a).getD i 0 = 0 := by simp [roundW, List.getD, hi]
    rw [this]
    intro v hv
    rw [bt_zero] at hv; cases hv

/-- only what is live is told -/
def SoundL (p : List Blk) (want : Int) (in' : List Int) : Prop := ∀ i : Nat, i < p.length → ∀ v : Nat, bt (in'.getD i 0) v = true → LiveP p want v ((i : Int), 0, ())
theorem steps_sound (hp : Good n p) (hw : W32 want) {in' : List Int} {k : Nat} (hi : Ws k in') (hS : SoundL p want in') {i : Nat} (hil : i < p.length) (v : Nat) : ∀ (rest don : List Step6), don ++ rest = (blk p i).1 → bt (stepsW rest (behindW (blk p i) want in')) v = true → LiveP p want v ((i : Int), (don.length : Int), ())
  | [], don, hd, h => by
    have hok := hp.ok _ (blk_mem (p := p) (i := (i : Int)) (by omega) (by omega))
    rw [List.append_nil] at hd
    have hc : ¬ ((don.length : Int) < codeLen p i) := by unfold codeLen; rw [hd]; omega
    have h : bt (behindW (blk p i) want in') v = true := h
    rw [behind_bt hp.n6 hok hw hi] at h
    rcases h with h | ⟨j, h1, h2⟩
    · refine .hit (.inr ⟨hc, ?_⟩)
      rw [Int.toNat_natCast]
      exact h
    · have hj := nextOf_in hok j h1
      refine .step (y := (j, 0, ())) ?_ ?_
      · unfold succ
        rw [if_neg hc]
        exact List.mem_map.2 ⟨j, h1, rfl⟩
      · have := hS j.toNat (by omega) v h2
        rwa [show ((j.toNat : Nat) : Int) = j by omega] at this
  | s :: rest, don, hd, h => by
    have hok := hp.ok _ (blk_mem (p := p) (i := (i : Int)) (by omega) (by omega))
    obtain ⟨hsg, _⟩ := blockCode_ok hok
    have hs := stepsGo_all hsg s (by rw [← hd]; simp)
    have hc : (don.length : Int) < codeLen p i := by unfold codeLen; rw [← hd]; simp; omega
    have hst : stp p ((i : Int), (don.length : Int), ()) = s := by
      unfold stp
      simp only
      rw [← hd]
      simp [List.getD]
    have h : bt (aheadW s (stepsW rest (behindW (blk p i) want in'))) v = true := h
    rw [ahead_bt hp.n6 hs (steps_w _ (behind_w hp.n6 hok hw hi)), Bool.or_eq_true, Bool.and_eq_true] at h
    rcases h with h | ⟨h1, h2⟩
    · rw [decide_eq_true_eq] at h
      exact .hit (.inl ⟨hc, by rw [hst]; exact h⟩)
    · have ht := to_in hs
      have hne : s.2.1 ≠ (v : Int) := by
        intro e
        simp [e] at h2
      have := steps_sound hp hw hi hS hil v rest (don ++ [s]) (by rw [List.append_assoc]; exact hd) h1
      refine .step (y := ((i : Int), (don.length : Int) + 1, ())) ?_ (by simpa using this)
      unfold succ
      rw [if_pos hc, hst, if_pos hne]
      simp
theorem round_sound (hp : Good n p) (hw : W32 want) {in' : List Int} {k : Nat} (hi : Ws k in') (hS : SoundL p want in') : SoundL p want (roundW p want in') := fun i hil v hv => by
  rw [round_get hil] at hv
  exact steps_sound hp hw hi hS hil v _ [] rfl hv

/-- where nothing changes, all that is live is told -/
theorem fixed_all (hp : Good n p) (hw : W32 want) {in' : List Int} (hi : Ws p.length in') (hF : roundW p want in' = in') {v : Nat} {x : Spot} (h : LiveP p want v x) : Place p x → bt (stepsW ((blk p x.1).1.drop x.2.1.toNat) (behindW (blk p x.1) want in')) v = true := by
  have hvt : ((v : Int)).toNat = v := Int.toNat_natCast v
  induction h with
  | hit hh =>
    rename_i x
    intro hx
    obtain ⟨⟨x0, x1⟩, y0, y1⟩ := hx
    have hok := hp.ok _ (blk_mem x0 x1)
    obtain ⟨hsg, _⟩ := blockCode_ok hok
    rcases hh with ⟨h1, h2⟩ | ⟨h1, h2⟩
    · have h1' : x.2.1 < ((blk p x.1).1.length : Int) := h1
      rw [drop_step _ _ S0 y0 h1']
      have hs := stepsGo_all hsg _ (getD_mem (d := S0) y0 h1')
      show bt (aheadW _ (stepsW _ _)) v = true
      rw [ahead_bt hp.n6 hs (steps_w _ (behind_w hp.n6 hok hw hi)), Bool.or_eq_true]
      exact .inl (decide_eq_true h2)
    · have : (blk p x.1).1.drop x.2.1.toNat = [] := List.drop_eq_nil_of_le (by unfold codeLen at h1; omega)
      rw [this]
      show bt (behindW _ _ _) v = true
      rw [behind_bt hp.n6 hok hw hi]
      rw [hvt] at h2
      exact .inl h2
  | step hy hl ih =>
    rename_i x y
    intro hx
    have hyp := succ_place hp hx y hy
    have ih := ih hyp
    obtain ⟨⟨x0, x1⟩, y0, y1⟩ := hx
    have hok := hp.ok _ (blk_mem x0 x1)
    obtain ⟨hsg, _⟩ := blockCode_ok hok
    unfold succ at hy
    split at hy
    · rename_i hc
      split at hy
      · rename_i hne
        simp only [List.mem_singleton] at hy
        subst hy
        have h1' : x.2.1 < ((blk p x.1).1.length : Int) := hc
        rw [drop_step _ _ S0 y0 h1']
        have hs := stepsGo_all hsg _ (getD_mem (d := S0) y0 h1')
        show bt (aheadW _ (stepsW _ _)) v = true
        rw [ahead_bt hp.n6 hs (steps_w _ (behind_w hp.n6 hok hw hi)), Bool.or_eq_true, Bool.and_eq_true]
        refine .inr ⟨ih, ?_⟩
        have ht := to_in hs
        have hne' : ((blk p x.1).1.getD x.2.1.toNat S0).2.1 ≠ (v : Int) := hne
        have : ¬ v = ((blk p x.1).1.getD x.2.1.toNat S0).2.1.toNat := by omega
        rw [decide_eq_false this]; rfl
      · cases hy
    · rename_i hc
      obtain ⟨j, hj, rfl⟩ := List.mem_map.1 hy
      have hji := nextOf_in hok j hj
      have : (blk p x.1).1.drop x.2.1.toNat = [] := List.drop_eq_nil_of_le (by unfold codeLen at hc; omega)
      rw [this]
      show bt (behindW _ _ _) v = true
      rw [behind_bt hp.n6 hok hw hi]
      refine .inr ⟨j, hj, ?_⟩
      have ih : bt (stepsW ((blk p j).1.drop (0 : Int).toNat) (behindW (blk p j) want in')) v = true := ih
      rw [show ((0 : Int)).toNat = 0 from rfl, List.drop_zero] at ih
      have hr := round_get (p := p) (want := want) (i := j.toNat) (by omega) in'
      rw [hF, show ((j.toNat : Nat) : Int) = j by omega] at hr
      rw [hr]; exact ih

/-! how many are told -/
def rankW (w : Int) : Nat := cnt (fun i => bt w i) 32
def rankL (l : List Int) : Nat := l.foldr (fun w a => rankW w + a) 0
theorem rankW_le (w : Int) : rankW w ≤ 32 := cnt_n _ _
theorem rankL_le : ∀ l : List Int, rankL l ≤ 32 * l.length
  | [] => Nat.le_refl _
  | w :: l => by have := rankL_le l; have := rankW_le w; simp only [rankL, List.foldr_cons, List.length_cons] at *; omega
theorem rank_le : ∀ {a b : List Int}, a.length = b.length → (∀ w ∈ a, W32 w) → (∀ w ∈ b, W32 w) → Les a b → rankL a ≤ rankL b ∧ (rankL a = rankL b → a = b)
  | [], [], _, _, _, _ => ⟨Nat.le_refl _, fun _ => rfl⟩
  | x :: a, y :: b, hl, ha, hb, h => by
    obtain ⟨h1, h2⟩ := rank_le (a := a) (b := b) (by simpa using hl) (fun w hw => ha w (by simp [hw])) (fun w hw => hb w (by simp [hw])) fun i => by simpa using h (i + 1)
    have h0 : Leb x y := by simpa using h 0
    have h3 : rankW x ≤ rankW y := cnt_le fun k _ hk => h0 k hk
    refine ⟨by simp only [rankL, List.foldr_cons] at *; omega, fun he => ?_⟩
    have e1 : rankW x = rankW y := by simp only [rankL, List.foldr_cons] at *; omega
    have e2 : rankL a = rankL b := by simp only [rankL, List.foldr_cons] at *; omega
    have : x = y := by
      refine bt_ext (ha x (by simp)) (hb y (by simp)) fun i hi => ?_
      cases hx : bt x i with
      | true => rw [h0 i hx]
      | false =>
        cases hy : bt y i with
        | false => rfl
        | true =>
          have : rankW x < rankW y := cnt_lt (fun k _ hk => h0 k hk) ⟨i, hi, hx, hy⟩
          omega
    rw [this, h2 e2]

theorem solve_l0 (hp : Good n p) (hw : W32 want) (hn : 200 ≤ nf) : ∀ (fu : Nat) (in' : List Int), Ws p.length in' → SoundL p want in' → Les in' (roundW p want in') → 257 ≤ fu + rankL in' →
    ∃ R, live_solve_l0 nf p want fu in' = some (R, ()) ∧ Ws p.length R ∧ SoundL p want R ∧ roundW p want R = R
  | 0, in', hi, _, _, hf => by
    have := rankL_le in'
    have := hi.1
    have := hp.p8
    omega
  | fu + 1, in', hi, hS, hL, hf => by
    rw [live_solve_l0, live_solve_b0, behind_F hp (by omega) hi.1, Option.bind_some]
    have := solve_l2 (nf := nf) (want := want) hp hn (g0 := fun in' => live_solve_l0 nf p want fu in') (in' := in')
    rw [this]
    by_cases h : roundW p want in' = in'
    · rw [if_pos h]
      exact ⟨in', rfl, hi, hS, h⟩
    · rw [if_neg h]
      have hr := round_ws hp hw hi
      have hrk := rank_le (hi.1.trans hr.1.symm) hi.2 hr.2 hL
      have hlt : rankL in' < rankL (roundW p want in') := Nat.lt_of_le_of_ne hrk.1 fun e => h (hrk.2 e).symm
      exact solve_l0 hp hw hn fu _ hr (round_sound hp hw hi hS) (round_mono hp hw hi hr hL) (by omega)

/-- each variable that is live ahead of a block, and no other -/
theorem solve_F (hp : Good n p) (hw : W32 want) (hn : 300 ≤ nf) : ∃ R, live_solve_f nf p want = some (R, ()) ∧ Ws p.length R ∧ roundW p want R = R ∧ ∀ i : Nat, i < p.length → ∀ v : Nat, (bt (R.getD i 0) v = true ↔ LiveP p want v ((i : Int), 0, ())) := by
  have h0 : Ws p.length (List.replicate p.length (0 : Int)) := ⟨by simp, fun w hw => by rw [List.eq_of_mem_replicate hw]; exact W32_zero⟩
  have hz : ∀ i : Nat, (List.replicate p.length (0 : Int)).getD i 0 = 0 := fun i => by
    by_cases hi : i < p.length <;> simp [List.getD, hi]
  obtain ⟨R, r1, r2, r3, r4⟩ := solve_l0 hp hw (by omega : 200 ≤ nf) nf (List.replicate p.length 0) h0 (fun i _ v hv => by rw [hz, bt_zero] at hv; cases hv) (fun i v hv => by rw [hz, bt_zero] at hv; cases hv) (by omega)
  have hp8 := hp.p8
  refine ⟨R, ?_, r2, r4, fun i hi v => ⟨r3 i hi v, fun h => ?_⟩⟩
  · simp only [live_solve_f, live_solve_p]
    have h1 : ((p.length : Int) ≤ ((lim : Nat) : Int)) := by unfold lim; omega
    simp only [Int.natCast_nonneg, Int.le_refl, h1, decide_true, Bool.and_self, cond_true, Int.toNat_natCast]
    exact r1
  · have := fixed_all hp hw r2 r4 h ⟨⟨by omega, by omega⟩, Int.le_refl _, by simp [codeLen]⟩
    simp only [Int.toNat_zero, List.drop_zero] at this
    rw [← r4, round_get hi]
    exact this
end Go.Proofs.Ytokjogplnoeicaa
