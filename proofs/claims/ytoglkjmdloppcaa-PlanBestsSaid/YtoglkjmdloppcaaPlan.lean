/- Tasks: those ahead of each, those that may be done next; none is ahead of itself. -/
import Derived.Test.YtoglkjmdloppcaaPlanReach
namespace Go.Proofs.Ytoglkjmdloppcaa
open Go Go.Ab S

abbrev Pr := Int × Int × Unit
abbrev P0 : Pr := (0, 0, ())
variable {n : Int} {pairs : List Pr} {nf : Nat}

/-- by a pair, j is ahead of i -/
def pre (pairs : List Pr) (j i : Int) : Prop := ∃ p ∈ pairs, p.1 = j ∧ p.2.1 = i
instance (j i : Int) : Decidable (pre pairs j i) := by unfold pre; infer_instance
structure PairsOK (n : Int) (pairs : List Pr) : Prop where
  pos : 1 ≤ n
  few : n ≤ 8
  len : pairs.length ≤ 28
  inn : ∀ p ∈ pairs, (0 ≤ p.1 ∧ p.1 < n) ∧ (0 ≤ p.2.1 ∧ p.2.1 < n)
theorem PairsOK.pre (h : PairsOK n pairs) {j i : Int} (hp : pre pairs j i) : (0 ≤ j ∧ j < n) ∧ (0 ≤ i ∧ i < n) := by
  obtain ⟨p, h1, rfl, rfl⟩ := hp
  exact h.inn p h1
/-- ahead of it, over some -/
inductive Tr (pairs : List Pr) (a : Int) : Int → Prop where
  | one {b : Int} : pre pairs a b → Tr pairs a b
  | step {m b : Int} : Tr pairs a m → pre pairs m b → Tr pairs a b
theorem Tr.trans {a b c : Int} (h1 : Tr pairs a b) (h2 : Tr pairs b c) : Tr pairs a c := by
  induction h2 with
  | one h => exact .step h1 h
  | step _ h ih => exact .step ih h
theorem Tr.rng (h : PairsOK n pairs) {a b : Int} (ht : Tr pairs a b) : (0 ≤ a ∧ a < n) ∧ (0 ≤ b ∧ b < n) := by
  induction ht with
  | one hp => exact h.pre hp
  | step _ hp ih => exact ⟨ih.1, (h.pre hp).2⟩
def Acyc (pairs : List Pr) : Prop := ∀ i, ¬ Tr pairs i i

/-! those that may be done next -/
open Classical in
noncomputable def rdy (n : Int) (pairs : List Pr) (D : Nat → Bool) (i : Nat) : Bool := decide ((i : Int) < n) && !D i && decide (∀ j : Nat, pre pairs j i → D j = true)
noncomputable def rounds (n : Int) (pairs : List Pr) : Nat → Nat → Bool
  | 0, _ => false
  | k + 1, i => rounds n pairs k i || rdy n pairs (rounds n pairs k) i
theorem rdy_iff {D : Nat → Bool} {i : Nat} : rdy n pairs D i = true ↔ (i : Int) < n ∧ D i = false ∧ ∀ j : Nat, pre pairs j i → D j = true := by
  simp [rdy, and_assoc]
theorem rounds_lt : ∀ (k i : Nat), rounds n pairs k i = true → (i : Int) < n
  | 0, _, h => by simp [rounds] at h
  | k + 1, i, h => by
    simp only [rounds, Bool.or_eq_true] at h
    rcases h with h | h
    · exact rounds_lt k i h
    · exact (rdy_iff.1 h).1

/-- what is done has nothing ahead of itself that is not -/
theorem rounds_clean (h : PairsOK n pairs) : ∀ (k i : Nat), rounds n pairs k i = true → (∀ j : Nat, Tr pairs j i → rounds n pairs k j = true) ∧ ¬ Tr pairs i i
  | 0, _, hi => by simp [rounds] at hi
  | k + 1, i, hi => by
    simp only [rounds, Bool.or_eq_true] at hi
    by_cases ho : rounds n pairs k i = true
    · obtain ⟨h1, h2⟩ := rounds_clean h k i ho
      exact ⟨fun j hj => by simp only [rounds, h1 j hj, Bool.true_or], h2⟩
    · obtain ⟨g1, g2, g3⟩ := rdy_iff.1 (hi.resolve_left ho)
      have key : ∀ j : Nat, Tr pairs j i → rounds n pairs k j = true := by
        intro j hj
        cases hj with
        | one hp => exact g3 j hp
        | @step m _ hj hp =>
          have hm := h.pre hp
          have := g3 m.toNat (by rw [show ((m.toNat : Nat) : Int) = m by omega]; exact hp)
          exact (rounds_clean h k m.toNat this).1 j (by rw [show ((m.toNat : Nat) : Int) = m by omega]; exact hj)
      exact ⟨fun j hj => by simp only [rounds, key j hj, Bool.true_or], fun hc => by rw [key i hc] at g2; exact Bool.noConfusion g2⟩

open Classical in
/-- where not all is done, and none is ahead of itself, some may be done -/
theorem some_rdy (h : PairsOK n pairs) (ha : Acyc pairs) {D : Nat → Bool} : ∀ (k : Nat) (i : Nat), (i : Int) < n → D i = false → cnt (fun j => decide (Tr pairs j i)) n.toNat < k → ∃ i, rdy n pairs D i = true
  | 0, i, _, _, hk => by omega
  | k + 1, i, hi, hd, hk => by
    by_cases hr : rdy n pairs D i = true
    · exact ⟨i, hr⟩
    · have : ¬ ∀ j : Nat, pre pairs j i → D j = true := fun hall => hr (rdy_iff.2 ⟨hi, hd, hall⟩)
      obtain ⟨j, hj⟩ := Classical.not_forall.1 this
      obtain ⟨hp, hdj⟩ := Classical.not_imp.1 hj
      have hjr := h.pre hp
      refine some_rdy h ha k j (by omega) (by simpa using hdj) ?_
      have := cnt_lt (p := fun x => decide (Tr pairs x j)) (q := fun x => decide (Tr pairs x i)) (n := n.toNat) (fun x _ hx => by
        simp only [decide_eq_true_eq] at hx ⊢
        exact .step hx hp) ⟨j, by omega, by simpa using ha j, by simpa using Tr.one hp⟩
      omega
theorem cnt_full {p : Nat → Bool} {m : Nat} (h : cnt p m = m) : ∀ k, k < m → p k = true := by
  intro k hk
  cases hp : p k with
  | true => rfl
  | false =>
    have h1 := cnt_lt (p := p) (q := fun _ => true) (n := m) (fun _ _ _ => rfl) ⟨k, hk, hp, rfl⟩
    have h2 := cnt_n (fun _ => true) m
    omega
theorem rounds_cnt (h : PairsOK n pairs) (ha : Acyc pairs) : ∀ k : Nat, k ≤ n.toNat → k ≤ cnt (rounds n pairs k) n.toNat
  | 0, _ => Nat.zero_le _
  | k + 1, hk => by
    have ih := rounds_cnt h ha k (by omega)
    have hm : ∀ i, i < n.toNat → rounds n pairs k i = true → rounds n pairs (k + 1) i = true := fun i _ hi => by simp only [rounds, hi, Bool.true_or]
    by_cases hf : ∃ i : Nat, (i : Int) < n ∧ rounds n pairs k i = false
    · obtain ⟨i, hi, hd⟩ := hf
      obtain ⟨j, hj⟩ := some_rdy h ha (D := rounds n pairs k) _ i hi hd (Nat.lt_succ_self _)
      obtain ⟨g1, g2, _⟩ := rdy_iff.1 hj
      have := cnt_lt hm ⟨j, by omega, g2, by simp only [rounds, hj, Bool.or_true]⟩
      omega
    · have hall : ∀ i, i < n.toNat → true = true → rounds n pairs (k + 1) i = true := fun i hi _ => by
        refine hm i hi ?_
        cases hc : rounds n pairs k i with
        | true => rfl
        | false => exact absurd ⟨i, by omega, hc⟩ hf
      have h1 := cnt_le (p := fun _ => true) (q := rounds n pairs (k + 1)) hall
      have h2 : cnt (fun _ => true) n.toNat = n.toNat := by
        have : ∀ m, cnt (fun _ => true) m = m := fun m => by induction m with
          | zero => rfl
          | succ m ih => simp [cnt, ih]
        exact this _
      omega
theorem full_iff (h : PairsOK n pairs) : (∀ i : Nat, (i : Int) < n → rounds n pairs n.toNat i = true) ↔ Acyc pairs := by
  constructor
  · intro hf i hi
    have hr := hi.rng h
    have := (rounds_clean h n.toNat i.toNat (hf i.toNat (by omega))).2
    rw [show ((i.toNat : Nat) : Int) = i by omega] at this
    exact this hi
  · intro ha i hi
    have h1 := rounds_cnt h ha n.toNat (Nat.le_refl _)
    have h2 := cnt_n (rounds n pairs n.toNat) n.toNat
    exact cnt_full (m := n.toNat) (by omega) i (by omega)

/-! by lists -/
def putB (o : List (List Int)) (p : Pr) : List (List Int) := o.set p.1.toNat (o.getD p.1.toNat [] ++ [p.2.1])
def behinds (n : Int) (pairs : List Pr) : List (List Int) := pairs.foldl putB (List.replicate n.toNat [])
theorem putB_len : ∀ (ps : List Pr) (o : List (List Int)), (ps.foldl putB o).length = o.length
  | [], _ => rfl
  | p :: ps, o => by rw [List.foldl_cons, putB_len ps]; simp [putB]
theorem putB_at : ∀ (ps : List Pr) (o : List (List Int)), (∀ p ∈ ps, 0 ≤ p.1 ∧ p.1 < o.length) → ∀ i : Int, 0 ≤ i → i < o.length → nexts (ps.foldl putB o) i = nexts o i ++ (ps.filter fun p => p.1 == i).map fun p => p.2.1
  | [], o, _, i, _, _ => by simp
  | p :: ps, o, h, i, h0, h1 => by
    have hp := h p (by simp)
    have hl : (putB o p).length = o.length := by simp [putB]
    rw [List.foldl_cons, putB_at ps (putB o p) (fun q hq => by rw [hl]; exact h q (by simp [hq])) i h0 (by rw [hl]; exact h1)]
    simp only [nexts, putB]
    rw [getD_upd (by omega)]
    by_cases c : p.1 = i
    · subst c; simp
    · rw [if_neg (by omega), List.filter_cons, if_neg (by simpa using c)]
theorem behinds_len (n : Int) (pairs : List Pr) : (behinds n pairs).length = n.toNat := by simp [behinds, putB_len]
theorem behinds_at (h : PairsOK n pairs) {i : Int} (h0 : 0 ≤ i) (h1 : i < n) : nexts (behinds n pairs) i = (pairs.filter fun p => p.1 == i).map fun p => p.2.1 := by
  rw [behinds, putB_at pairs _ (fun p hp => by have := (h.inn p hp).1; simp; omega) i h0 (by simp; omega)]
  simp [nexts, List.getD_eq_getElem?_getD, show i.toNat < n.toNat by omega]
theorem mem_behinds (h : PairsOK n pairs) {i j : Int} (h0 : 0 ≤ i) (h1 : i < n) : j ∈ nexts (behinds n pairs) i ↔ pre pairs i j := by
  rw [behinds_at h h0 h1]
  simp only [List.mem_map, List.mem_filter, beq_iff_eq, pre]
  constructor
  · rintro ⟨p, ⟨a, b⟩, c⟩; exact ⟨p, a, b, c⟩
  · rintro ⟨p, a, b, c⟩; exact ⟨p, ⟨a, b⟩, c⟩
theorem behinds_ok (h : PairsOK n pairs) : WayOK (behinds n pairs) := by
  have hl := behinds_len n pairs
  have hn := h.few
  have at' : ∀ l ∈ behinds n pairs, ∃ i : Int, 0 ≤ i ∧ i < n ∧ l = nexts (behinds n pairs) i := fun l hm => by
    obtain ⟨k, hk, rfl⟩ := List.mem_iff_getElem.1 hm
    refine ⟨k, by omega, by omega, ?_⟩
    simp only [nexts, Int.toNat_natCast, List.getD_eq_getElem?_getD, List.getElem?_eq_getElem hk]
    rfl
  refine ⟨by omega, fun l hm => ?_, fun l hm j hj => ?_⟩
  · obtain ⟨i, h0, h1, rfl⟩ := at' l hm
    rw [behinds_at h h0 h1, List.length_map]
    exact Nat.le_trans (List.length_filter_le _ _) h.len
  · obtain ⟨i, h0, h1, rfl⟩ := at' l hm
    have := h.pre ((mem_behinds h h0 h1).1 hj)
    omega
theorem path_iff (h : PairsOK n pairs) {a b : Int} (ha : 0 ≤ a) (ha1 : a < n) : (∃ m ∈ nexts (behinds n pairs) a, Path (behinds n pairs) (-1) m b) ↔ Tr pairs a b := by
  constructor
  · rintro ⟨m, hm, hp⟩
    have hm := (mem_behinds h ha ha1).1 hm
    induction hp with
    | here _ => exact .one hm
    | step _ h2 _ ih =>
      have := ih.rng h
      exact .step ih ((mem_behinds h this.2.1 this.2.2).1 h2)
  · intro ht
    induction ht with
    | @one b hp =>
      have := h.pre hp
      exact ⟨b, (mem_behinds h ha ha1).2 hp, .here (by omega)⟩
    | step _ hp ih =>
      obtain ⟨m, h1, h2⟩ := ih
      have := h.pre hp
      exact ⟨m, h1, .step h2 ((mem_behinds h this.1.1 this.1.2).2 hp) (by omega)⟩

theorem behinds_F (h : PairsOK n pairs) (hn : 60 ≤ nf) : ref_Behinds_f nf n pairs = some (behinds n pairs, ()) := by
  have h1 := h.pos
  have h8 := h.few
  have hlen := h.len
  have hlim : decide (n ≤ (lim : Int)) = true := decide_eq_true (by show n ≤ 4294967296; omega)
  have key : ∀ (fu : Nat) (t : Int) (o : List (List Int)), 0 ≤ t → t ≤ pairs.length → pairs.length < t + fu → o.length = n.toNat → (∀ i : Nat, (o.getD i []).length ≤ t) → ref_Behinds_l0 nf pairs fu o t = some ((pairs.drop t.toNat).foldl putB o, ()) := by
    intro fu
    induction fu with
    | zero => intro t o a b c; omega
    | succ fu ih =>
      intro t o a b c ho hi
      rw [ref_Behinds_l0, ref_Behinds_b0]
      by_cases ht : t < pairs.length
      · rw [drop_step pairs t P0 a ht]
        have hp := h.inn _ (getD_mem (d := P0) a ht)
        simp only [ht, decide_true, cond_true, inb_ok a ht, wrap_step (n := pairs.length) a ht (Nat.le_trans hlen (by decide)), List.foldl_cons]
        generalize pairs.getD t.toNat (0, 0, ()) = p at hp ⊢
        have hip := hi p.1.toNat
        have hb : Nat.ble ((o.getD p.1.toNat []).length + [p.2.1].length) lim = true := ble_ok (by simp only [List.length_cons, List.length_nil]; omega)
        have hin : inb p.1 o.length = true := inb_ok hp.1.1 (by omega)
        simp only [hin, cond_true, hb, List.nil_append, decide_true, List.isEmpty_cons, Bool.not_false, Bool.true_and]
        refine ih (t + 1) (putB o p) (by omega) (by omega) (by omega) (by simp [putB, ho]) fun i => ?_
        simp only [putB]
        rw [getD_upd (by omega)]
        have := hi i
        split
        · simp only [List.length_append, List.length_cons, List.length_nil]; omega
        · omega
      · have he : pairs.drop t.toNat = [] := List.drop_eq_nil_of_le (by omega)
        simp [ht, he]
  have k0 := key nf 0 (List.replicate n.toNat []) (by omega) (by omega) (by omega) (by simp) fun i => by
    simp only [List.getD_eq_getElem?_getD, List.getElem?_replicate]
    split <;> simp
  simp only [ref_Behinds_f, ref_Behinds_p, decide_eq_true (show (0 : Int) ≤ n by omega), Int.le_refl, decide_true, hlim, Bool.and_self, cond_true, k0]
  rfl

/-! what is wrong -/
def inN (n : Int) (p : Pr) : Bool := decide (0 ≤ p.1) && decide (p.1 < n) && (decide (0 ≤ p.2.1) && decide (p.2.1 < n))
def pairsCode (n : Int) (pairs : List Pr) : Int := if n < 1 ∨ n > 8 ∨ pairs.length > 28 then 1 else if pairs.all (inN n) = true then 0 else 2
theorem pairsCode_ok (h : pairsCode n pairs = 0) : PairsOK n pairs := by
  unfold pairsCode at h
  split at h
  · omega
  · split at h
    · rename_i h2
      refine ⟨by omega, by omega, by omega, fun p hp => ?_⟩
      have := List.all_eq_true.1 h2 p hp
      simp only [inN, Bool.and_eq_true, decide_eq_true_eq] at this
      omega
    · omega
open Classical in
noncomputable def taskCode (n : Int) (pairs : List Pr) : Int := if pairsCode n pairs = 0 then (if Acyc pairs then 0 else 3) else pairsCode n pairs
theorem inside2_F (hn : 60 ≤ nf) (a b : Int) : ref_Inside_f nf n [a, b] = some (inN n (a, b, ()), ()) := by
  obtain ⟨m, rfl⟩ : ∃ m, nf = m + 3 := ⟨nf - 3, by omega⟩
  simp only [ref_Inside_f, ref_Inside_p]
  have hlen : (([a, b] : List Int).length : Int) = 2 := rfl
  have i0 : inb 0 ([a, b] : List Int).length = true := inb_ok (by omega) (by simp)
  have i1 : inb 1 ([a, b] : List Int).length = true := inb_ok (by omega) (by simp)
  have e1 : ([a, b] : List Int).getD (1 : Int).toNat 0 = b := rfl
  have w0 : IntKind.i64.wrap (0 + 1) = 1 := by decide
  have w1 : IntKind.i64.wrap (1 + 1) = 2 := by decide
  rw [ref_Inside_l0, ref_Inside_b0, ref_Inside_l0, ref_Inside_b0, ref_Inside_l0, ref_Inside_b0]
  simp only [hlen, show decide ((0 : Int) < 2) = true from rfl, w0, w1, show decide ((1 : Int) < 2) = true from rfl, show decide ((2 : Int) < 2) = false from rfl, i0, i1, cond_true, cond_false, Int.toNat_zero, List.getD_cons_zero, e1, inN]
  by_cases c1 : a < 0
  · simp [c1, show ¬ 0 ≤ a by omega]
  · by_cases c2 : a ≥ n
    · simp [c1, c2, show ¬ a < n by omega]
    · by_cases c3 : b < 0
      · simp [c1, c2, c3, show ¬ 0 ≤ b by omega]
      · by_cases c4 : b ≥ n
        · simp [c1, c2, c3, c4, show ¬ b < n by omega]
        · simp [c1, c2, c3, c4, show 0 ≤ a by omega, show a < n by omega, show 0 ≤ b by omega, show b < n by omega]
/-! of each those ahead, by words -/
structure AheadOK (n : Int) (pairs : List Pr) (l : List Int) : Prop where
  len : l.length = n.toNat
  w : ∀ i : Nat, W32 (l.getD i 0)
  bit : ∀ i k : Nat, (i : Int) < n → bt (l.getD i 0) k = decide (pre pairs k i)

theorem not32_zero {x d : Int} (hx : W32 x) (hd : W32 d) : (not32 x d == 0) = true ↔ ∀ k : Nat, bt x k = true → bt d k = true := by
  rw [beq_iff_eq]
  constructor
  · intro h k hk
    have := not32_bt hx hd k
    rw [h, bt_zero, hk] at this
    cases hb : bt d k with
    | true => rfl
    | false => rw [hb] at this; exact absurd this (by decide)
  · intro h
    refine bt_ext (not32_w _ _) W32_zero fun i _ => ?_
    rw [not32_bt hx hd, bt_zero]
    cases hb : bt x i with
    | false => rfl
    | true => rw [h i hb]; rfl

theorem ready_F (h : PairsOK n pairs) (hn : 60 ≤ nf) {l : List Int} (hl : AheadOK n pairs l) {d : Int} (hd : W32 d) : ∃ w, plan_ready_f nf l d = some (w, ()) ∧ W32 w ∧ ∀ i : Nat, bt w i = rdy n pairs (bt d) i := by
  have h1 := h.pos
  have h8 := h.few
  have hlen := hl.len
  have key : ∀ (fu : Nat) (t s : Int), 0 ≤ t → t ≤ n → n < t + fu → W32 s → (∀ i : Nat, bt s i = (decide ((i : Int) < t) && rdy n pairs (bt d) i)) →
      ∃ w, plan_ready_l0 nf l d fu s t = some (w, ()) ∧ W32 w ∧ ∀ i : Nat, bt w i = rdy n pairs (bt d) i := by
    intro fu
    induction fu with
    | zero => intro t s a b c; omega
    | succ fu ih =>
      intro t s a b c hs hb
      rw [plan_ready_l0, plan_ready_b0]
      by_cases ht : t < n
      · have ht' : t < (l.length : Int) := by omega
        have e1 := shr_and_beq0 hd a (show t < 32 by omega)
        have e2 := not32_zero (hl.w t.toNat) hd
        have hbit := hl.bit t.toNat
        simp only [show ((t.toNat : Nat) : Int) = t by omega] at hbit
        simp only [and32] at e1
        simp only [not32] at e2
        have hr : rdy n pairs (bt d) t.toNat = true ↔ bt d t.toNat = false ∧ ∀ k : Nat, bt (l.getD t.toNat 0) k = true → bt d k = true := by
          rw [rdy_iff, show ((t.toNat : Nat) : Int) = t by omega]
          constructor
          · rintro ⟨_, g2, g3⟩
            exact ⟨g2, fun k hk => g3 k (by rw [hbit k ht] at hk; exact of_decide_eq_true hk)⟩
          · rintro ⟨g2, g3⟩
            exact ⟨ht, g2, fun k hk => g3 k (by rw [hbit k ht]; exact decide_eq_true hk)⟩
        have no : rdy n pairs (bt d) t.toNat = false → ∀ i : Nat, bt s i = (decide ((i : Int) < t + 1) && rdy n pairs (bt d) i) := fun hno i => by
          rw [hb i]
          by_cases c1 : (i : Int) = t
          · have : i = t.toNat := by omega
            rw [this, hno]; simp
          · have : ((i : Int) < t + 1) ↔ ((i : Int) < t) := by omega
            simp only [this]
        simp only [ht', decide_true, cond_true, inb_ok a ht', decide_eq_true a, e1, wrap_step (n := l.length) a ht' (by rw [hlen]; exact Nat.le_trans (show n.toNat ≤ 8 by omega) (by decide))]
        cases c1 : bt d t.toNat with
        | true =>
          simp only [Bool.not_true, cond_false]
          refine ih (t + 1) s (by omega) (by omega) (by omega) hs (no ?_)
          cases hc : rdy n pairs (bt d) t.toNat with
          | false => rfl
          | true => have := (hr.1 hc).1; rw [c1] at this; cases this
        | false =>
          simp only [Bool.not_false, cond_true]
          cases c2 : (IntKind.u32.wrap ((BitVec.ofInt IntKind.u32.bits (l.getD t.toNat 0) &&& ~~~BitVec.ofInt IntKind.u32.bits d).toNat : Int) == 0) with
          | true =>
            have hy : rdy n pairs (bt d) t.toNat = true := hr.2 ⟨c1, e2.1 c2⟩
            simp only [cond_true]
            refine ih (t + 1) (or32 s (shlI .u32 1 t)) (by omega) (by omega) (by omega) (or32_w _ _) fun i => ?_
            rw [or32_bt hs (one_w a (by omega)), one_bt a (by omega), hb i]
            by_cases c3 : i = t.toNat
            · subst c3
              have e : ((t.toNat : Nat) : Int) < t + 1 := by omega
              rw [hy, decide_eq_true e, decide_eq_true rfl]; simp
            · have : ((i : Int) < t + 1) ↔ ((i : Int) < t) := by omega
              simp only [this, c3, decide_false, Bool.or_false]
          | false =>
            simp only [cond_false]
            refine ih (t + 1) s (by omega) (by omega) (by omega) hs (no ?_)
            cases hc : rdy n pairs (bt d) t.toNat with
            | false => rfl
            | true => have := e2.2 (hr.1 hc).2; rw [c2] at this; cases this
      · have : t = n := by omega
        subst this
        have ht' : ¬ t < (l.length : Int) := by omega
        simp only [ht', decide_false, cond_false]
        refine ⟨s, rfl, hs, fun i => ?_⟩
        rw [hb i]
        cases hc : rdy t pairs (bt d) i with
        | false => simp
        | true => have := (rdy_iff.1 hc).1; simp [this]
  obtain ⟨w, g1, g2⟩ := key nf 0 0 (by omega) (by omega) (by omega) W32_zero fun i => by
    rw [bt_zero, show decide ((i : Int) < 0) = false from decide_eq_false (by omega)]; rfl
  exact ⟨w, g1, g2⟩

theorem full_w (h0 : 1 ≤ n) (h1 : n ≤ 8) : W32 (IntKind.u32.wrap (shlI .u32 1 n - 1)) ∧ ∀ k : Nat, bt (IntKind.u32.wrap (shlI .u32 1 n - 1)) k = decide ((k : Int) < n) := by
  obtain ⟨m, rfl⟩ : ∃ m : Nat, n = m := ⟨n.toNat, by omega⟩
  have e : IntKind.u32.wrap (shlI .u32 1 (m : Int) - 1) = ((2 ^ m - 1 : Nat) : Int) := by
    have : ∀ m : Fin 9, IntKind.u32.wrap (shlI .u32 1 ((m.val : Nat) : Int) - 1) = ((2 ^ m.val - 1 : Nat) : Int) := by decide +kernel
    exact this ⟨m, by omega⟩
  rw [e]
  have hp : 2 ^ m ≤ 2 ^ 8 := Nat.pow_le_pow_right (by omega) (by omega)
  refine ⟨W32.of_nat (by have : (2 : Nat) ^ 8 < 2 ^ 32 := by decide
                         omega), fun k => ?_⟩
  simp only [bt, Int.toNat_natCast, Nat.testBit_two_pow_sub_one]
  simp

theorem rounds_F (h : PairsOK n pairs) (hn : 60 ≤ nf) {l : List Int} (hl : AheadOK n pairs l) : ∀ (fu k : Nat) (d : Int), (k : Int) ≤ n → n < k + fu → W32 d → (∀ i : Nat, bt d i = rounds n pairs k i) →
    (Acyc pairs → plan_ahead_l2 nf n fu l d k = some (l, 0, ())) ∧ (¬ Acyc pairs → plan_ahead_l2 nf n fu l d k = some ([], 3, ()))
  | 0, k, d, a, b, _, _ => by omega
  | fu + 1, k, d, a, b, hd, hb => by
    have h1 := h.pos
    have h8 := h.few
    rw [plan_ahead_l2, plan_ahead_b2]
    by_cases hk : (k : Int) < n
    · obtain ⟨w, g1, g2, g3⟩ := ready_F h hn hl hd
      have hw : IntKind.i64.wrap ((k : Int) + 1) = ((k + 1 : Nat) : Int) := by rw [wrap_step (n := 9) (by omega) (by omega) (by decide)]; omega
      simp only [hk, decide_true, cond_true, g1, Option.bind_some, hw]
      refine rounds_F h hn hl fu (k + 1) (or32 d w) (by omega) (by omega) (or32_w _ _) fun i => ?_
      rw [or32_bt hd g2, hb i, g3 i]
      have : bt d = rounds n pairs k := funext hb
      rw [this, rounds]
    · have : (k : Int) = n := by omega
      subst this
      obtain ⟨f1, f2⟩ := full_w h1 h8
      have hfull : (d = IntKind.u32.wrap (shlI .u32 1 (k : Int) - 1)) ↔ Acyc pairs := by
        rw [← full_iff h]
        constructor
        · intro he i hi
          have := hb i
          rw [he, f2 i, decide_eq_true hi] at this
          simpa using this.symm
        · intro hall
          refine bt_ext hd f1 fun i _ => ?_
          rw [hb i, f2 i]
          by_cases hi : (i : Int) < (k : Int)
          · have := hall i hi
            rw [decide_eq_true hi]; simpa using this
          · rw [decide_eq_false hi]
            cases hc : rounds (k : Int) pairs k i with
            | false => rfl
            | true => exact absurd (rounds_lt _ _ hc) hi
      have c0 : decide ((0 : Int) ≤ (k : Int)) = true := decide_eq_true (by omega)
      simp only [Int.lt_irrefl, decide_false, cond_false, c0, cond_true]
      refine ⟨fun ha => ?_, fun ha => ?_⟩
      · rw [hfull.2 ha]; simp
      · rw [bne_t (fun he => ha (hfull.1 he))]; rfl

theorem pre_take {t : Int} (h0 : 0 ≤ t) (h1 : t < pairs.length) (j i : Int) : pre (pairs.take (t + 1).toNat) j i ↔ pre (pairs.take t.toNat) j i ∨ ((pairs.getD t.toNat P0).1 = j ∧ (pairs.getD t.toNat P0).2.1 = i) := by
  rw [show (t + 1).toNat = t.toNat + 1 by omega, List.take_succ_eq_append_getElem (by omega), getD_nat pairs t P0 h0 h1]
  simp only [pre, List.mem_append, List.mem_singleton]
  constructor
  · rintro ⟨p, h1 | rfl, h2⟩
    · exact .inl ⟨p, h1, h2⟩
    · exact .inr h2
  · rintro (⟨p, h1, h2⟩ | h2)
    · exact ⟨p, .inl h1, h2⟩
    · exact ⟨_, .inr rfl, h2⟩
theorem inN_min (n : Int) (p : Pr) : inN n p = true ↔ ¬ (if p.2.1 < p.1 then p.2.1 else p.1) < 0 ∧ ¬ (if p.2.1 > p.1 then p.2.1 else p.1) ≥ n := by
  simp only [inN, Bool.and_eq_true, decide_eq_true_eq]
  split <;> split <;> omega

theorem ahead_l0 (hn : 60 ≤ nf) (h1 : 1 ≤ n) (h8 : n ≤ 8) (hlen : pairs.length ≤ 28) : ∀ (fu : Nat) (t : Int) (l : List Int), 0 ≤ t → t ≤ pairs.length → pairs.length < t + fu → AheadOK n (pairs.take t.toNat) l →
    ((pairs.drop t.toNat).all (inN n) = true → ∃ l', AheadOK n pairs l' ∧ plan_ahead_l0 nf n pairs fu l t = plan_ahead_l2 nf n nf l' 0 0) ∧ ((pairs.drop t.toNat).all (inN n) = false → plan_ahead_l0 nf n pairs fu l t = some ([], 2, ())) := by
  intro fu
  induction fu with
  | zero => intro t l a b c; omega
  | succ fu ih =>
    intro t l a b c hl
    rw [plan_ahead_l0, plan_ahead_b0]
    by_cases ht : t < pairs.length
    · rw [drop_step pairs t P0 a ht]
      have hpt := pre_take (pairs := pairs) a ht
      simp only [ht, decide_true, cond_true, inb_ok a ht, wrap_step (n := pairs.length) a ht (Nat.le_trans hlen (by decide)), List.all_cons]
      generalize pairs.getD t.toNat (0, 0, ()) = p at hpt ⊢
      have hm := inN_min n p
      cases hin : inN n p with
      | false =>
        refine ⟨fun h => by simp at h, fun _ => ?_⟩
        by_cases c1 : (if p.2.1 < p.1 then p.2.1 else p.1) < 0
        · simp [c1]
        · by_cases c2 : (if p.2.1 > p.1 then p.2.1 else p.1) ≥ n
          · simp [c1, c2]
          · have := hm.2 ⟨c1, c2⟩; rw [hin] at this; cases this
      | true =>
        obtain ⟨c1, c2⟩ := hm.1 hin
        simp only [inN, Bool.and_eq_true, decide_eq_true_eq] at hin
        have hl2 := hl.len
        have i2 : inb p.2.1 l.length = true := inb_ok hin.2.1 (by omega)
        simp only [c1, c2, decide_false, cond_false, i2, cond_true, decide_eq_true hin.1.1, Bool.true_and]
        refine ih (t + 1) _ (by omega) (by omega) (by omega) ⟨by simp [hl2], fun i => ?_, fun i k hi => ?_⟩
        · rw [getD_upd (by omega)]
          split
          · exact or32_w _ _
          · exact hl.w i
        · rw [getD_upd (by omega), Bool.eq_iff_iff, decide_eq_true_eq, hpt]
          by_cases c3 : i = p.2.1.toNat
          · rw [if_pos c3]
            show bt (or32 (l.getD p.2.1.toNat 0) (shlI .u32 1 p.1)) k = true ↔ _
            rw [or32_bt (hl.w _) (one_w hin.1.1 (by omega)), one_bt hin.1.1 (by omega), hl.bit p.2.1.toNat k (by omega), show ((p.2.1.toNat : Nat) : Int) = (i : Int) by omega]
            simp only [Bool.or_eq_true, decide_eq_true_eq]
            constructor
            · rintro (h | h)
              · exact .inl h
              · exact .inr ⟨by omega, by omega⟩
            · rintro (h | h)
              · exact .inl h
              · exact .inr (by omega)
          · rw [if_neg c3, hl.bit i k hi, decide_eq_true_eq]
            constructor
            · exact .inl
            · rintro (h | h)
              · exact h
              · omega
    · have he : pairs.drop t.toNat = [] := List.drop_eq_nil_of_le (by omega)
      have : pairs.take t.toNat = pairs := List.take_of_length_le (by omega)
      rw [this] at hl
      simp only [ht, decide_false, cond_false, he]
      exact ⟨fun _ => ⟨l, hl, rfl⟩, fun h => by simp at h⟩

theorem ahead_F (hn : 60 ≤ nf) : ∃ l, (taskCode n pairs = 0 → AheadOK n pairs l) ∧ (taskCode n pairs ≠ 0 → l = []) ∧ plan_ahead_f nf n pairs = some (l, taskCode n pairs, ()) := by
  simp only [plan_ahead_f, plan_ahead_p, taskCode, pairsCode]
  by_cases c1 : n < 1
  · exact ⟨[], by simp [c1], by simp, by simp [c1]⟩
  · by_cases c2 : n > 8
    · exact ⟨[], by simp [c2], by simp, by simp [c1, c2]⟩
    · by_cases c3 : pairs.length > 28
      · have c3' : (pairs.length : Int) > 28 := by omega
        exact ⟨[], by simp [c3], by simp, by simp [c1, c2, c3, c3']⟩
      · have c3' : ¬ (pairs.length : Int) > 28 := by omega
        have hlim : decide (n ≤ (lim : Int)) = true := decide_eq_true (by show n ≤ 4294967296; omega)
        have c0 : ¬ (n < 1 ∨ n > 8 ∨ pairs.length > 28) := by omega
        simp only [c1, c2, c3, c3', or_self, decide_false, cond_false, if_false, decide_eq_true (show (0 : Int) ≤ n by omega), Int.le_refl, decide_true, hlim, Bool.and_self, cond_true]
        obtain ⟨g1, g2⟩ := ahead_l0 (nf := nf) (n := n) (pairs := pairs) hn (by omega) (by omega) (by omega) nf 0 (List.replicate n.toNat 0) (by omega) (by omega) (by omega) ⟨by simp, fun i => by
            simp only [List.getD_eq_getElem?_getD, List.getElem?_replicate]
            split <;> exact W32_zero, fun i k _ => by
            have : (List.replicate n.toNat (0 : Int)).getD i 0 = 0 := by
              simp only [List.getD_eq_getElem?_getD, List.getElem?_replicate]
              split <;> rfl
            rw [this, bt_zero]
            simp [pre]⟩
        simp only [Int.toNat_zero, List.drop_zero] at g1 g2
        cases hall : pairs.all (inN n) with
        | false => exact ⟨[], by simp, by simp, by simpa using g2 hall⟩
        | true =>
          have hok : PairsOK n pairs := pairsCode_ok (by simp only [pairsCode, c0, hall, if_false, if_true])
          obtain ⟨l, hl, e⟩ := g1 hall
          obtain ⟨r1, r2⟩ := rounds_F hok hn hl nf 0 0 (by omega) (by omega) W32_zero fun i => by rw [bt_zero]; rfl
          by_cases ha : Acyc pairs
          · exact ⟨l, fun _ => hl, by simp [ha], by simp only [if_true, ha, e]; exact r1 ha⟩
          · exact ⟨[], by simp [ha], by simp, by simp only [if_true, ha, if_false, e]; exact r2 ha⟩

variable {next : List (List Int)}
theorem tasks_l4 (hW : WayOK next) (hn : 60 ≤ nf) {i : Int} {g2 : List (List Int) → Int → Option (Int × Unit)} (h0 : 0 ≤ i) (h1 : i < next.length) : ∀ (fu : Nat) (t : Int), 0 ≤ t → t ≤ (nexts next i).length → (nexts next i).length < t + fu →
    ref_TasksCheck_l4 nf n i next g2 fu next t = if ((nexts next i).drop t.toNat).all (fun j => !decide (i ∈ reach nf next j (-1))) = true then g2 next (IntKind.i64.wrap (i + 1)) else some (3, ()) := by
  intro fu
  induction fu with
  | zero => intro t a b c; omega
  | succ fu ih =>
    intro t a b c
    have hthin := hW.thin _ (nexts_mem h0 h1)
    have hgood := hW.good _ (nexts_mem h0 h1)
    have hfew := hW.few
    rw [ref_TasksCheck_l4, ref_TasksCheck_b4]
    by_cases ht : t < (nexts next i).length
    · have hx := hgood _ (getD_mem (d := 0) a ht)
      have hlen := (reach_nodes (nf := nf) (wo := -1) hW hx).len
      have e := reach_F (wo := -1) hW hn hx
      have eh := has_F (nf := nf) (reach nf next ((nexts next i).getD t.toNat 0) (-1)) i (Nat.le_trans hlen (Nat.le_trans hfew (by decide))) (by omega)
      have fold : next.getD i.toNat [] = nexts next i := rfl
      rw [drop_step (nexts next i) t 0 a ht, List.all_cons]
      simp only [fold, ht, decide_true, cond_true, inb_ok a ht, e, Option.bind_some, eh, wrap_step (n := (nexts next i).length) a ht (Nat.le_trans hthin (by decide)), ih (t + 1) (by omega) (by omega) (by omega)]
      cases decide (i ∈ reach nf next ((nexts next i).getD t.toNat 0) (-1)) with
      | true => simp only [Bool.not_true, Bool.false_and, cond_true, Bool.false_eq_true, if_false]
      | false => simp only [Bool.not_false, Bool.true_and, cond_false]
    · have he : (nexts next i).drop t.toNat = [] := List.drop_eq_nil_of_le (by omega)
      have ht' : ¬ t < ((next.getD i.toNat []).length : Int) := ht
      simp only [ht', decide_false, cond_false, he, List.all_nil, if_true]
theorem tasks_l2 (hW : WayOK next) (hn : 60 ≤ nf) (hl : (next.length : Int) = n) : ∀ (fu : Nat) (i : Int), 0 ≤ i → i ≤ n → n < i + fu →
    ref_TasksCheck_l2 nf n fu next i = if chk (fun i => (nexts next i).all fun j => !decide (i ∈ reach nf next j (-1))) (n - i).toNat i = true then some (0, ()) else some (3, ()) := by
  intro fu
  induction fu with
  | zero => intro i a b c; omega
  | succ fu ih =>
    intro i a b c
    have hfew := hW.few
    rw [ref_TasksCheck_l2, ref_TasksCheck_b2]
    by_cases hi : i < n
    · have hthin := hW.thin _ (nexts_mem a (show i < (next.length : Int) by omega))
      simp only [hi, decide_true, cond_true, inb_ok a (show i < (next.length : Int) by omega)]
      rw [tasks_l4 hW hn a (by omega) nf 0 (by omega) (by omega) (by omega), Int.toNat_zero, List.drop_zero, wrap_step (n := 9) a (by omega) (by decide)]
      simp only [ih (i + 1) (by omega) (by omega) (by omega)]
      rw [show (n - i).toNat = (n - (i + 1)).toNat + 1 by omega, chk]
      cases (nexts next i).all fun j => !decide (i ∈ reach nf next j (-1)) with
      | true => simp
      | false => simp
    · have : i = n := by omega
      subst this
      simp [chk]
theorem tasks_F (hn : 60 ≤ nf) : ref_TasksCheck_f nf n pairs = some (taskCode n pairs, ()) := by
  simp only [ref_TasksCheck_f, ref_TasksCheck_p, taskCode, pairsCode]
  by_cases c1 : n < 1
  · simp [c1]
  · by_cases c2 : n > 8
    · simp [c1, c2]
    · by_cases c3 : pairs.length > 28
      · have c3' : (pairs.length : Int) > 28 := by omega
        simp [c1, c2, c3, c3']
      · have c3' : ¬ (pairs.length : Int) > 28 := by omega
        have c0 : ¬ (n < 1 ∨ n > 8 ∨ pairs.length > 28) := by omega
        simp only [c1, c2, c3, c3', or_self, decide_false, cond_false, if_false]
        have key : ∀ (fu : Nat) (t : Int), 0 ≤ t → t ≤ pairs.length → pairs.length < t + fu → ref_TasksCheck_l0 nf n pairs fu t = if (pairs.drop t.toNat).all (inN n) = true then (Option.bind (ref_Behinds_f nf n pairs) fun r2 => ref_TasksCheck_l2 nf n nf r2.1 0) else some (2, ()) := by
          intro fu
          induction fu with
          | zero => intro t a b c; omega
          | succ fu ih =>
            intro t a b c
            rw [ref_TasksCheck_l0, ref_TasksCheck_b0]
            by_cases ht : t < pairs.length
            · rw [drop_step pairs t P0 a ht, List.all_cons]
              simp only [ht, decide_true, cond_true, inb_ok a ht, wrap_step (n := pairs.length) a ht (Nat.le_trans (show pairs.length ≤ 28 by omega) (by decide)), inside2_F hn, Option.bind_some, ih (t + 1) (by omega) (by omega) (by omega)]
              generalize pairs.getD t.toNat (0, 0, ()) = p
              obtain ⟨x, y, u⟩ := p
              cases hin : inN n (x, y, u) with
              | true => simp only [Bool.not_true, cond_false, Bool.true_and]
              | false => simp
            · have he : pairs.drop t.toNat = [] := List.drop_eq_nil_of_le (by omega)
              simp [ht, he]
        have k0 := key nf 0 (by omega) (by omega) (by omega)
        rw [k0, Int.toNat_zero, List.drop_zero]
        cases hall : pairs.all (inN n) with
        | false => simp
        | true =>
          have hok : PairsOK n pairs := pairsCode_ok (by simp only [pairsCode, c0, hall, if_false, if_true])
          have hbl := behinds_len n pairs
          simp only [if_true, behinds_F hok hn, Option.bind_some]
          rw [tasks_l2 (behinds_ok hok) hn (by omega) nf 0 (by omega) (by omega) (by omega)]
          have : chk (fun i => (nexts (behinds n pairs) i).all fun j => !decide (i ∈ reach nf (behinds n pairs) j (-1))) (n - 0).toNat 0 = true ↔ Acyc pairs := by
            rw [chk_iff]
            constructor
            · intro hc i hi
              have hr := (hi.rng hok).1
              obtain ⟨m, hm, hp⟩ := (path_iff hok hr.1 hr.2).2 hi
              have h1 := List.all_eq_true.1 (hc i hr.1 (by omega)) m hm
              have hmr := hok.pre ((mem_behinds hok hr.1 hr.2).1 hm)
              have h2 := (mem_reach (nf := nf) (behinds_ok hok) hn (i := m) (wo := -1) (by omega) i).2 hp
              simp [h2] at h1
            · intro ha i h0 h1
              refine List.all_eq_true.2 fun m hm => ?_
              have hmr := hok.pre ((mem_behinds hok h0 (by omega)).1 hm)
              have h2 : ¬ i ∈ reach nf (behinds n pairs) m (-1) := fun hr => ha i ((path_iff hok h0 (by omega)).1 ⟨m, hm, (mem_reach (nf := nf) (behinds_ok hok) hn (i := m) (wo := -1) (by omega) i).1 hr⟩)
              simp [h2]
          by_cases ha : Acyc pairs
          · rw [if_pos (this.2 ha), if_pos ha]
          · rw [if_neg (fun hc => ha (this.1 hc)), if_neg ha]
end Go.Proofs.Ytoglkjmdloppcaa
