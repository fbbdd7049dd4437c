/- Classes of variables: the document's rounds. -/
import Derived.Test.YtmndifhjmbiodaaJoinMap
namespace Go.Proofs.Ytmndifhjmbiodaa
open Go Go.Ab S

variable {nf n : Nat} {vars : Int} {l : List Stm}

theorem rjoin_l10 (h8 : n ≤ 8) (hn : 20 ≤ nf) {s : SM} (o1 : OKt n s.1) (o2 : OKt n s.2) (hs : SndJ vars l (rm s)) {x : Int} (hx : 0 ≤ x ∧ x < n) {a b : List Int} {u : Int} (hu : 0 ≤ a.getD u.toNat 0 ∧ a.getD u.toNat 0 < n) (hb : b.length ≤ 8) (hb2 : ∀ j ∈ b, 0 ≤ j ∧ j < n)
    (hij : ∀ j ∈ b, ∀ z, Jn vars l false (a.getD u.toNat 0) z ↔ Jn vars l false j z) (w1 w2 : M2) (t41 t85 : Int) (p : Stm) (g8 : M2 → M2 → Stm → List Int → List Int → Int → Int → Option (List Int × Unit)) (g6 : M2 → M2 → Stm → Int → Option (List Int × Unit)) (g4 : M2 → M2 → Int → Option (List Int × Unit)) (g2 : M2 → M2 → Option (List Int × Unit)) :
    ∃ s', SpJ vars l n (fun R => ∀ j ∈ b, R false (a.getD u.toNat 0) x = true ↔ R false j x = true) s s' ∧ ref_Joined_l10 nf vars l w1 w2 x a u t41 t85 b g8 g6 g4 g2 nf s.1 s.2 p a b 0 = g8 s'.1 s'.2 p a b t85 (IntKind.i64.wrap (u + 1)) := by
  obtain ⟨fu', s', q, e⟩ := loop_sp (vars := vars) (l := l) (n := n) (s := s) (N := (b.length : Int)) (F := fun fu t (s : SM) => ref_Joined_l10 nf vars l w1 w2 x a u t41 t85 b g8 g6 g4 g2 fu s.1 s.2 p a b t)
    (fun t R => R false (a.getD u.toNat 0) x = true ↔ R false (b.getD t.toNat 0) x = true) o1 o2 hs (fun fu t s h0 ht o1 o2 hs => by
      have hj := getD_mem (d := (0 : Int)) h0 ht
      have hjr := hb2 _ hj
      have hjn := hij _ hj
      have m1 := addIf_J h8 o1 o2 hs false (tm s.2 (a.getD u.toNat 0) x) (a := b.getD t.toNat 0) (b := x) (fun hc => ⟨(hjn x).1 (hs false _ _ hc), hjr, hx⟩)
      have m2 := addIf_J h8 m1.ok1 m1.ok2 m1.snd false (tm (bif tm s.2 (a.getD u.toNat 0) x then addS false s (b.getD t.toNat 0) x else s).2 (b.getD t.toNat 0) x) (a := a.getD u.toNat 0) (b := x) (fun hc => ⟨(hjn x).2 (m1.snd false _ _ hc), hu, hx⟩)
      refine ⟨_, ?_, ((m1.weak (D := fun R => R false (a.getD u.toNat 0) x = true → R false (b.getD t.toNat 0) x = true) fun h hc => h hc).trans (m2.weak (D := fun R => R false (b.getD t.toNat 0) x = true → R false (a.getD u.toNat 0) x = true) fun h hc => h hc)).weak fun hc => ⟨hc.1, hc.2⟩⟩
      rw [ref_Joined_l10, ref_Joined_b10, inb_ok h0 ht, wrap_step h0 ht (Nat.le_trans hb (by decide))]
      simp only [ht, decide_true, cond_true]
      cases c1 : tm s.2 (a.getD u.toNat 0) x with
      | true =>
        have c1' := c1
        unfold tm at c1'
        simp only [c1', cond_true]
        cases c2 : tm (addS false s (b.getD t.toNat 0) x).2 (b.getD t.toNat 0) x with
        | true =>
          have c2' := c2
          unfold tm at c2'
          simp only [addS] at c2'
          simp only [c2', cond_true]; rfl
        | false =>
          have c2' := c2
          unfold tm at c2'
          simp only [addS] at c2'
          simp only [c2', cond_false]; rfl
      | false =>
        have c1' := c1
        unfold tm at c1'
        simp only [c1', cond_false]
        cases c2 : tm s.2 (b.getD t.toNat 0) x with
        | true =>
          have c2' := c2
          unfold tm at c2'
          simp only [c2', cond_true]; rfl
        | false =>
          have c2' := c2
          unfold tm at c2'
          simp only [c2', cond_false]) nf (by omega) (by omega)
  refine ⟨s', q.weak fun hc j hj => ?_, ?_⟩
  · obtain ⟨k, hk, rfl⟩ := List.mem_iff_getElem.1 hj
    have := hc k (by omega) (by omega)
    rw [Int.toNat_natCast] at this
    simpa [List.getD, hk] using this
  · rw [e, ref_Joined_l10, ref_Joined_b10]
    simp only [Int.lt_irrefl, decide_false, cond_false]

theorem rjoin_l8 (h8 : n ≤ 8) (hn : 20 ≤ nf) {s : SM} (o1 : OKt n s.1) (o2 : OKt n s.2) (hs : SndJ vars l (rm s)) {x : Int} (hx : 0 ≤ x ∧ x < n) {a b : List Int} (ha : a.length ≤ 8) (ha2 : ∀ i ∈ a, 0 ≤ i ∧ i < n) (hb : b.length ≤ 8) (hb2 : ∀ j ∈ b, 0 ≤ j ∧ j < n)
    (hij : ∀ i ∈ a, ∀ j ∈ b, ∀ z, Jn vars l false i z ↔ Jn vars l false j z) (w1 w2 : M2) (t41 : Int) (p : Stm) (g6 : M2 → M2 → Stm → Int → Option (List Int × Unit)) (g4 : M2 → M2 → Int → Option (List Int × Unit)) (g2 : M2 → M2 → Option (List Int × Unit)) :
    ∃ s', SpJ vars l n (fun R => ∀ i ∈ a, ∀ j ∈ b, R false i x = true ↔ R false j x = true) s s' ∧ ref_Joined_l8 nf vars l w1 w2 x t41 g6 g4 g2 nf s.1 s.2 p a b (a.length : Int) 0 = g6 s'.1 s'.2 p (IntKind.i64.wrap (x + 1)) := by
  obtain ⟨fu', s', q, e⟩ := loop_sp (vars := vars) (l := l) (n := n) (s := s) (N := (a.length : Int)) (F := fun fu t (s : SM) => ref_Joined_l8 nf vars l w1 w2 x t41 g6 g4 g2 fu s.1 s.2 p a b (a.length : Int) t)
    (fun t R => ∀ j ∈ b, R false (a.getD t.toNat 0) x = true ↔ R false j x = true) o1 o2 hs (fun fu t s h0 ht o1 o2 hs => by
      have hi := getD_mem (d := (0 : Int)) h0 ht
      obtain ⟨s', r1, r2⟩ := rjoin_l10 (nf := nf) h8 hn o1 o2 hs hx (a := a) (b := b) (u := t) (ha2 _ hi) hb hb2 (hij _ hi) w1 w2 t41 (a.length : Int) p (fun one5 to'5 p2 a b t85 t86 => ref_Joined_l8 nf vars l w1 w2 x t41 g6 g4 g2 fu one5 to'5 p2 a b t85 t86) g6 g4 g2
      refine ⟨s', ?_, r1⟩
      rw [wrap_step h0 ht (Nat.le_trans ha (by decide))] at r2
      rw [← r2, ref_Joined_l8, ref_Joined_b8, inb_ok h0 ht]
      simp only [ht, decide_true, cond_true]) nf (by omega) (by omega)
  refine ⟨s', q.weak fun hc i hi => ?_, ?_⟩
  · obtain ⟨k, hk, rfl⟩ := List.mem_iff_getElem.1 hi
    have := hc k (by omega) (by omega)
    rw [Int.toNat_natCast] at this
    simpa [List.getD, hk] using this
  · rw [e, ref_Joined_l8, ref_Joined_b8]
    simp only [Int.lt_irrefl, decide_false, cond_false]

theorem pointees_F (hv : vars = n) (h8 : n ≤ 8) (hn : 20 ≤ nf) {t : M2} (ho : OKt n t) (i : Int) : ∃ r : List Int, r.length ≤ 8 ∧ (∀ j, j ∈ r ↔ tm t i j = true) ∧ ref_pointees_f nf vars t i = some (r, ()) := by
  obtain ⟨fu', q, ⟨q1, q2⟩, e⟩ := loop_inv (n := (n : Int)) (F := fun fu u (q : List Int) => ref_pointees_l0 nf vars t i fu q u) (fun u q => (q.length : Int) ≤ u ∧ ∀ j, j ∈ q ↔ (j < u ∧ tm t i j = true)) (fun fu u q u0 u1 hI => by
    obtain ⟨i1, i2⟩ := hI
    have hble : (q.length + [u].length).ble lim = true := ble_ok (by simp; omega)
    have hst : ref_pointees_l0 nf vars t i (fu + 1) q u = ref_pointees_b0 nf vars t i (ref_pointees_l0 nf vars t i fu) q u := rfl
    unfold ref_pointees_b0 at hst
    simp only [show u < vars by omega, decide_true, cond_true, wrap_step u0 u1 (Nat.le_trans h8 (by decide)), hble, bimp] at hst
    cases hc : tm t i u with
    | true =>
      have hc' := hc
      unfold tm at hc'
      rw [hc', cond_true] at hst
      refine ⟨q ++ [u], by rw [hst]; rfl, by simp; omega, fun j => ?_⟩
      rw [List.mem_append, List.mem_singleton, i2]
      constructor
      · rintro (⟨a, b⟩ | a)
        · exact ⟨by omega, b⟩
        · subst a; exact ⟨by omega, hc⟩
      · rintro ⟨a, b⟩
        by_cases hju : j = u
        · exact .inr hju
        · exact .inl ⟨by omega, b⟩
    | false =>
      have hc' := hc
      unfold tm at hc'
      rw [hc', cond_false] at hst
      refine ⟨q, hst, by omega, fun j => ?_⟩
      rw [i2]
      constructor
      · rintro ⟨a, b⟩; exact ⟨by omega, b⟩
      · rintro ⟨a, b⟩
        refine ⟨?_, b⟩
        by_cases hju : j = u
        · subst hju; rw [hc] at b; cases b
        · omega) nf 0 [] (by omega) (by omega) (by omega) ⟨by simp, fun j => by
    constructor
    · intro h; cases h
    · rintro ⟨a, b⟩; have := (ho.in b).2; omega⟩
  refine ⟨q, by omega, fun j => ?_, ?_⟩
  · rw [q2]
    exact ⟨fun h => h.2, fun h => ⟨(ho.in h).2.2, h⟩⟩
  · simp only [ref_pointees_f, ref_pointees_p]
    rw [show ref_pointees_l0 nf vars t i nf [] 0 = _ from e, ref_pointees_l0, ref_pointees_b0, show decide ((n : Int) < vars) = false by rw [decide_eq_false_iff_not]; omega]
    rfl

/-- what a step says of x -/
def RX (p : Stm) (x : Int) (R : R2) : Prop := (p.1 = 2 → (R false p.2.1 x = true ↔ R false p.2.2.1 x = true)) ∧ (p.1 = 3 → ∀ j, R false p.2.2.1 j = true → (R false p.2.1 x = true ↔ R false j x = true)) ∧ (p.1 = 4 → ∀ i, R false p.2.1 i = true → (R false i x = true ↔ R false p.2.2.1 x = true))

theorem rjoin_l6 (hv : vars = n) (h8 : n ≤ 8) (hn : 20 ≤ nf) (hg : GoodJ vars l) {s : SM} (o1 : OKt n s.1) (o2 : OKt n s.2) (hs : SndJ vars l (rm s)) {p : Stm} (hp : p ∈ l) (w1 w2 : M2) (t41 : Int) (g4 : M2 → M2 → Int → Option (List Int × Unit)) (g2 : M2 → M2 → Option (List Int × Unit)) :
    ∃ s', SpJ vars l n (fun R => ∀ x : Int, 0 ≤ x → x < n → RX p x R) s s' ∧ ref_Joined_l6 nf vars l w1 w2 t41 g4 g2 nf s.1 s.2 p 0 = g4 s'.1 s'.2 (IntKind.i64.wrap (t41 + 1)) := by
  obtain ⟨k1, k4, a0, a1, b0, b1⟩ := hg p hp
  rw [hv] at a1 b1
  obtain ⟨fu', s', q, e⟩ := loop_sp (vars := vars) (l := l) (n := n) (s := s) (N := (n : Int)) (F := fun fu t (s : SM) => ref_Joined_l6 nf vars l w1 w2 t41 g4 g2 fu s.1 s.2 p t)
    (fun x R => RX p x R) o1 o2 hs (fun fu x s h0 ht o1 o2 hs => by
      have hw := wrap_step h0 ht (Nat.le_trans h8 (by decide))
      have hst : ref_Joined_l6 nf vars l w1 w2 t41 g4 g2 (fu + 1) s.1 s.2 p x = ref_Joined_b6 nf (fun _ _ _ _ p4 _ v0 v1 v2 v3 v4 v5 v6 => ref_Joined_l8 nf vars l w1 w2 p4 t41 (fun one4 to'4 p x => ref_Joined_l6 nf vars l w1 w2 t41 g4 g2 fu one4 to'4 p x) g4 g2 nf v0 v1 v2 v3 v4 v5 v6) vars l w1 w2 t41 g4 g2 (ref_Joined_l6 nf vars l w1 w2 t41 g4 g2 fu) s.1 s.2 p x := rfl
      unfold ref_Joined_b6 at hst
      simp only [show x < vars by omega, decide_true, cond_true, hw] at hst
      have l8 := fun (a b : List Int) ha ha2 hb hb2 hij => rjoin_l8 (nf := nf) h8 hn o1 o2 hs ⟨h0, ht⟩ (a := a) (b := b) ha ha2 hb hb2 hij w1 w2 t41 p (fun one4 to'4 p x => ref_Joined_l6 nf vars l w1 w2 t41 g4 g2 fu one4 to'4 p x) g4 g2
      by_cases c3 : p.1 = 3
      · obtain ⟨r, r1, r2, r3⟩ := pointees_F (nf := nf) (vars := vars) hv h8 hn o2 p.2.2.1
        rw [c3] at hst
        simp only [r3, beq_self_eq_true, cond_true, Option.bind_some, show ((3 : Int) == 4) = false from rfl, show ((3 : Int) == 1) = false from rfl, cond_false] at hst
        obtain ⟨s', m1, m2⟩ := l8 [p.2.1] r (by simp) (fun i hi => by rw [List.mem_singleton] at hi; subst hi; exact ⟨a0, a1⟩) r1 (fun j hj => (o2.in ((r2 j).1 hj)).2) (fun i hi j hj z => by
          rw [List.mem_singleton] at hi; subst hi
          have := hs false _ _ ((r2 j).1 hj)
          exact ⟨fun hz => .load1 hp c3 this hz, fun hz => .load2 hp c3 this hz⟩)
        rw [hw] at m2
        exact ⟨s', hst.trans m2, m1.weak fun hc => ⟨fun h => by omega, fun _ j hj => hc _ (by simp) j ((r2 j).2 hj), fun h => by omega⟩⟩
      · rw [beq_f c3, cond_false] at hst
        by_cases c4 : p.1 = 4
        · obtain ⟨r, r1, r2, r3⟩ := pointees_F (nf := nf) (vars := vars) hv h8 hn o2 p.2.1
          rw [c4] at hst
          simp only [r3, beq_self_eq_true, cond_true, Option.bind_some, show ((4 : Int) == 1) = false from rfl, cond_false] at hst
          obtain ⟨s', m1, m2⟩ := l8 r [p.2.2.1] r1 (fun j hj => (o2.in ((r2 j).1 hj)).2) (by simp) (fun i hi => by rw [List.mem_singleton] at hi; subst hi; exact ⟨b0, b1⟩) (fun i hi j hj z => by
            rw [List.mem_singleton] at hj; subst hj
            have := hs false _ _ ((r2 i).1 hi)
            exact ⟨fun hz => .stor1 hp c4 this hz, fun hz => .stor2 hp c4 this hz⟩)
          rw [hw] at m2
          exact ⟨s', hst.trans m2, m1.weak fun hc => ⟨fun h => by omega, fun h => by omega, fun _ i hi => hc i ((r2 i).2 hi) _ (by simp)⟩⟩
        · rw [beq_f c4, cond_false] at hst
          by_cases c1 : p.1 = 1
          · rw [c1] at hst
            simp only [beq_self_eq_true, cond_true] at hst
            exact ⟨s, hst, SpJ.same o1 o2 hs ⟨fun h => by omega, fun h => by omega, fun h => by omega⟩⟩
          · rw [beq_f c1, cond_false] at hst
            have c2 : p.1 = 2 := by omega
            obtain ⟨s', m1, m2⟩ := l8 [p.2.1] [p.2.2.1] (by simp) (fun i hi => by rw [List.mem_singleton] at hi; subst hi; exact ⟨a0, a1⟩) (by simp) (fun i hi => by rw [List.mem_singleton] at hi; subst hi; exact ⟨b0, b1⟩) (fun i hi j hj z => by
              rw [List.mem_singleton] at hi hj; subst hi; subst hj
              exact ⟨fun hz => .copy1 hp c2 hz, fun hz => .copy2 hp c2 hz⟩)
            rw [hw] at m2
            exact ⟨s', hst.trans m2, m1.weak fun hc => ⟨fun _ => hc _ (by simp) _ (by simp), fun h => by omega, fun h => by omega⟩⟩) nf (by omega) (by omega)
  refine ⟨s', q, ?_⟩
  rw [e, ref_Joined_l6, ref_Joined_b6, show decide ((n : Int) < vars) = false by rw [decide_eq_false_iff_not]; omega]
  rfl

theorem rjoin_l4 (hv : vars = n) (h8 : n ≤ 8) (hn : 20 ≤ nf) (hg : GoodJ vars l) (hl : l.length ≤ 12) {s : SM} (o1 : OKt n s.1) (o2 : OKt n s.2) (hs : SndJ vars l (rm s)) (w1 w2 : M2) (g2 : M2 → M2 → Option (List Int × Unit)) :
    ∃ s', SpJ vars l n (fun R => ∀ p ∈ l, (p.1 = 1 → R false p.2.1 p.2.2.1 = true) ∧ ∀ x : Int, 0 ≤ x → x < n → RX p x R) s s' ∧ ref_Joined_l4 nf vars l w1 w2 g2 nf s.1 s.2 0 = ref_Joined_l12 nf vars l w1 w2 g2 nf s'.1 s'.2 0 := by
  obtain ⟨fu', s', q, e⟩ := loop_sp (vars := vars) (l := l) (n := n) (s := s) (N := (l.length : Int)) (F := fun fu t (s : SM) => ref_Joined_l4 nf vars l w1 w2 g2 fu s.1 s.2 t)
    (fun t R => ((l.getD t.toNat (0, 0, 0, ())).1 = 1 → R false (l.getD t.toNat (0, 0, 0, ())).2.1 (l.getD t.toNat (0, 0, 0, ())).2.2.1 = true) ∧ ∀ x : Int, 0 ≤ x → x < n → RX (l.getD t.toNat (0, 0, 0, ())) x R) o1 o2 hs (fun fu t s h0 ht o1 o2 hs => by
      have hp := getD_mem (d := ((0, 0, 0, ()) : Stm)) h0 ht
      obtain ⟨k1, k4, a0, a1, b0, b1⟩ := hg _ hp
      rw [hv] at a1 b1
      have hw := wrap_step h0 ht (Nat.le_trans hl (by decide))
      have m1 := addIf_J h8 o1 o2 hs false ((l.getD t.toNat (0, 0, 0, ())).1 == 1) (a := (l.getD t.toNat (0, 0, 0, ())).2.1) (b := (l.getD t.toNat (0, 0, 0, ())).2.2.1) (fun hc => ⟨.addr hp (by simpa using hc), ⟨a0, a1⟩, ⟨b0, b1⟩⟩)
      obtain ⟨s', m2, m3⟩ := rjoin_l6 (nf := nf) hv h8 hn hg m1.ok1 m1.ok2 m1.snd hp w1 w2 t (fun one3 to'3 t41 => ref_Joined_l4 nf vars l w1 w2 g2 fu one3 to'3 t41) g2
      refine ⟨s', ?_, (m1.trans m2).weak fun hc => ⟨fun h1 => hc.1 (by simpa using h1), hc.2⟩⟩
      rw [hw] at m3
      rw [← m3, ref_Joined_l4, ref_Joined_b4, inb_ok h0 ht]
      simp only [ht, decide_true, cond_true]
      cases (l.getD t.toNat (0, 0, 0, ())).1 == 1 <;> rfl) nf (by omega) (by omega)
  refine ⟨s', q.weak fun hc p hp => ?_, ?_⟩
  · obtain ⟨k, hk, rfl⟩ := List.mem_iff_getElem.1 hp
    have := hc k (by omega) (by omega)
    rw [Int.toNat_natCast] at this
    simpa [List.getD, hk] using this
  · rw [e, ref_Joined_l4, ref_Joined_b4]
    simp only [Int.lt_irrefl, decide_false, cond_false]

/-- what is always so, of i, j and k -/
def B4 (i j k : Int) (R : R2) : Prop := (R false i j = true → R false i k = true → R true j k = true) ∧ (R true i j = true → R true j k = true → R true i k = true) ∧ (R false i j = true → R true j k = true → R false i k = true) ∧ (R true i j = true → R false j k = true → R false i k = true)

theorem rjoin_l16 (hv : vars = n) (h8 : n ≤ 8) (hn : 20 ≤ nf) {s : SM} (o1 : OKt n s.1) (o2 : OKt n s.2) (hs : SndJ vars l (rm s)) {i j : Int} (hi : 0 ≤ i ∧ i < n) (hj : 0 ≤ j ∧ j < n) (w1 w2 : M2) (g14 g12 : M2 → M2 → Int → Option (List Int × Unit)) (g2 : M2 → M2 → Option (List Int × Unit)) :
    ∃ s', SpJ vars l n (fun R => ∀ k : Int, 0 ≤ k → k < n → B4 i j k R) s s' ∧ ref_Joined_l16 nf vars l w1 w2 i j g14 g12 g2 nf s.1 s.2 0 = g14 s'.1 s'.2 (IntKind.i64.wrap (j + 1)) := by
  obtain ⟨fu', s', q, e⟩ := loop_sp (vars := vars) (l := l) (n := n) (s := s) (N := (n : Int)) (F := fun fu t (s : SM) => ref_Joined_l16 nf vars l w1 w2 i j g14 g12 g2 fu s.1 s.2 t)
    (fun k R => B4 i j k R) o1 o2 hs (fun fu k s h0 ht o1 o2 hs => by
      have m1 := (addIf_J h8 o1 o2 hs true (tm s.2 i j && tm s.2 i k) (a := j) (b := k) (fun hc => by
        rw [Bool.and_eq_true] at hc
        exact ⟨.both (hs false _ _ hc.1) (hs false _ _ hc.2), hj, h0, ht⟩)).weak (D := fun R => R false i j = true → R false i k = true → R true j k = true) fun h a b => h (by rw [Bool.and_eq_true]; exact ⟨a, b⟩)
      obtain ⟨s1, e1⟩ : ∃ s1, s1 = (bif (tm s.2 i j && tm s.2 i k) then addS true s j k else s) := ⟨_, rfl⟩
      rw [← e1] at m1
      have m2 := (addIf_J h8 m1.ok1 m1.ok2 m1.snd true (tm s1.1 i j && tm s1.1 j k) (a := i) (b := k) (fun hc => by
        rw [Bool.and_eq_true] at hc
        exact ⟨.trans (m1.snd true _ _ hc.1) (m1.snd true _ _ hc.2), hi, h0, ht⟩)).weak (D := fun R => R true i j = true → R true j k = true → R true i k = true) fun h a b => h (by rw [Bool.and_eq_true]; exact ⟨a, b⟩)
      obtain ⟨s2, e2⟩ : ∃ s2, s2 = (bif (tm s1.1 i j && tm s1.1 j k) then addS true s1 i k else s1) := ⟨_, rfl⟩
      rw [← e2] at m2
      have m3 := (addIf_J h8 m2.ok1 m2.ok2 m2.snd false (tm s2.2 i j && tm s2.1 j k) (a := i) (b := k) (fun hc => by
        rw [Bool.and_eq_true] at hc
        exact ⟨.to1 (m2.snd false _ _ hc.1) (m2.snd true _ _ hc.2), hi, h0, ht⟩)).weak (D := fun R => R false i j = true → R true j k = true → R false i k = true) fun h a b => h (by rw [Bool.and_eq_true]; exact ⟨a, b⟩)
      obtain ⟨s3, e3⟩ : ∃ s3, s3 = (bif (tm s2.2 i j && tm s2.1 j k) then addS false s2 i k else s2) := ⟨_, rfl⟩
      rw [← e3] at m3
      have m4 := (addIf_J h8 m3.ok1 m3.ok2 m3.snd false (tm s3.1 i j && tm s3.2 j k) (a := i) (b := k) (fun hc => by
        rw [Bool.and_eq_true] at hc
        exact ⟨.to2 (m3.snd true _ _ hc.1) (m3.snd false _ _ hc.2), hi, h0, ht⟩)).weak (D := fun R => R true i j = true → R false j k = true → R false i k = true) fun h a b => h (by rw [Bool.and_eq_true]; exact ⟨a, b⟩)
      refine ⟨_, ?_, (((m1.trans m2).trans m3).trans m4).weak fun hc => ⟨hc.1.1.1, hc.1.1.2, hc.1.2, hc.2⟩⟩
      have hst : ref_Joined_l16 nf vars l w1 w2 i j g14 g12 g2 (fu + 1) s.1 s.2 k = ref_Joined_b16 nf vars l w1 w2 i j g14 g12 g2 (ref_Joined_l16 nf vars l w1 w2 i j g14 g12 g2 fu) s.1 s.2 k := rfl
      rw [hst]
      unfold ref_Joined_b16
      rw [show decide (k < vars) = true by rw [decide_eq_true_eq]; omega, cond_true, wrap_step h0 ht (Nat.le_trans h8 (by decide))]
      clear hst m1 m2 m3 m4 o1 o2 hs
      obtain ⟨one, to⟩ := s
      generalize ref_Joined_l16 nf vars l w1 w2 i j g14 g12 g2 fu = G
      have c2 : ∀ {α β : Type} (c d : Bool) (A : α → β) (x y : α), (bif c then bif d then A x else A y else A y) = A (bif c && d then x else y) := fun c d A x y => by cases c <;> cases d <;> rfl
      obtain ⟨F4, hF4⟩ : ∃ F4 : M2 → M2 → Option (List Int × Unit), F4 = fun o2 t2 => bif tm o2 i j then (bif tm t2 j k then G o2 (insM K2 Ty.bool t2 (i, k, ()) true) (k + 1) else G o2 t2 (k + 1)) else G o2 t2 (k + 1) := ⟨_, rfl⟩
      obtain ⟨F3, hF3⟩ : ∃ F3 : M2 → Option (List Int × Unit), F3 = fun o2 => bif tm to i j then (bif tm o2 j k then F4 o2 (insM K2 Ty.bool to (i, k, ()) true) else F4 o2 to) else F4 o2 to := ⟨_, rfl⟩
      obtain ⟨F2, hF2⟩ : ∃ F2 : M2 → Option (List Int × Unit), F2 = fun o1 => bif tm o1 i j then (bif tm o1 j k then F3 (insM K2 Ty.bool o1 (i, k, ()) true) else F3 o1) else F3 o1 := ⟨_, rfl⟩
      have f4 : ∀ o2 t2, F4 o2 t2 = G o2 (bif (tm o2 i j && tm t2 j k) then insM K2 Ty.bool t2 (i, k, ()) true else t2) (k + 1) := fun o2 t2 => by rw [hF4]; exact c2 _ _ (fun t => G o2 t (k + 1)) _ _
      have f3 : ∀ o2, F3 o2 = F4 o2 (bif (tm to i j && tm o2 j k) then insM K2 Ty.bool to (i, k, ()) true else to) := fun o2 => by rw [hF3]; exact c2 _ _ (fun t => F4 o2 t) _ _
      have f2 : ∀ o1, F2 o1 = F3 (bif (tm o1 i j && tm o1 j k) then insM K2 Ty.bool o1 (i, k, ()) true else o1) := fun o1 => by rw [hF2]; exact c2 _ _ F3 _ _
      have f1 : (bif tm to i j then (bif tm to i k then F2 (insM K2 Ty.bool one (j, k, ()) true) else F2 one) else F2 one) = F2 (bif (tm to i j && tm to i k) then insM K2 Ty.bool one (j, k, ()) true else one) := c2 _ _ F2 _ _
      have pF : ∀ (c : Bool) (s : SM) (a b : Int), (bif c then addS false s a b else s) = (s.1, bif c then insM K2 Ty.bool s.2 (a, b, ()) true else s.2) := fun c s a b => by cases c <;> rfl
      have pT : ∀ (c : Bool) (s : SM) (a b : Int), (bif c then addS true s a b else s) = (bif c then insM K2 Ty.bool s.1 (a, b, ()) true else s.1, s.2) := fun c s a b => by cases c <;> rfl
      rw [pT] at e1 e2
      rw [pF] at e3
      rw [pF, e3, e2, e1]
      show _ = G _ _ _
      rw [← f4, ← f3, ← f2, ← f1, hF2, hF3, hF4]
      rfl) nf (by omega) (by omega)
  refine ⟨s', q, ?_⟩
  rw [e, ref_Joined_l16, ref_Joined_b16, show decide ((n : Int) < vars) = false by rw [decide_eq_false_iff_not]; omega]
  rfl

theorem rjoin_l14 (hv : vars = n) (h8 : n ≤ 8) (hn : 20 ≤ nf) {s : SM} (o1 : OKt n s.1) (o2 : OKt n s.2) (hs : SndJ vars l (rm s)) {i : Int} (hi : 0 ≤ i ∧ i < n) (w1 w2 : M2) (g12 : M2 → M2 → Int → Option (List Int × Unit)) (g2 : M2 → M2 → Option (List Int × Unit)) :
    ∃ s', SpJ vars l n (fun R => ∀ j : Int, 0 ≤ j → j < n → ∀ k : Int, 0 ≤ k → k < n → B4 i j k R) s s' ∧ ref_Joined_l14 nf vars l w1 w2 i g12 g2 nf s.1 s.2 0 = g12 s'.1 s'.2 (IntKind.i64.wrap (i + 1)) := by
  obtain ⟨fu', s', q, e⟩ := loop_sp (vars := vars) (l := l) (n := n) (s := s) (N := (n : Int)) (F := fun fu t (s : SM) => ref_Joined_l14 nf vars l w1 w2 i g12 g2 fu s.1 s.2 t)
    (fun j R => ∀ k : Int, 0 ≤ k → k < n → B4 i j k R) o1 o2 hs (fun fu j s h0 ht o1 o2 hs => by
      obtain ⟨s', r1, r2⟩ := rjoin_l16 (nf := nf) hv h8 hn o1 o2 hs hi ⟨h0, ht⟩ w1 w2 (fun one8 to'8 j => ref_Joined_l14 nf vars l w1 w2 i g12 g2 fu one8 to'8 j) g12 g2
      rw [wrap_step h0 ht (Nat.le_trans h8 (by decide))] at r2
      refine ⟨s', ?_, r1⟩
      rw [← r2, ref_Joined_l14, ref_Joined_b14, show decide (j < vars) = true by rw [decide_eq_true_eq]; omega]
      rfl) nf (by omega) (by omega)
  refine ⟨s', q, ?_⟩
  rw [e, ref_Joined_l14, ref_Joined_b14, show decide ((n : Int) < vars) = false by rw [decide_eq_false_iff_not]; omega]
  rfl

theorem rjoin_l12 (hv : vars = n) (h8 : n ≤ 8) (hn : 20 ≤ nf) {s : SM} (o1 : OKt n s.1) (o2 : OKt n s.2) (hs : SndJ vars l (rm s)) (w : SM) (hw1 : OKt n w.1) (hw2 : OKt n w.2) (g2 : M2 → M2 → Option (List Int × Unit)) :
    ∃ s', SpJ vars l n (fun R => ∀ i : Int, 0 ≤ i → i < n → ∀ j : Int, 0 ≤ j → j < n → ∀ k : Int, 0 ≤ k → k < n → B4 i j k R) s s' ∧ ref_Joined_l12 nf vars l w.1 w.2 g2 nf s.1 s.2 0 = if many2 s' = many2 w then ref_Joined_l18 nf vars nf s'.2 [] 0 else g2 s'.1 s'.2 := by
  obtain ⟨fu', s', q, e⟩ := loop_sp (vars := vars) (l := l) (n := n) (s := s) (N := (n : Int)) (F := fun fu t (s : SM) => ref_Joined_l12 nf vars l w.1 w.2 g2 fu s.1 s.2 t)
    (fun i R => ∀ j : Int, 0 ≤ j → j < n → ∀ k : Int, 0 ≤ k → k < n → B4 i j k R) o1 o2 hs (fun fu i s h0 ht o1 o2 hs => by
      obtain ⟨s', r1, r2⟩ := rjoin_l14 (nf := nf) hv h8 hn o1 o2 hs ⟨h0, ht⟩ w.1 w.2 (fun one7 to'7 i2 => ref_Joined_l12 nf vars l w.1 w.2 g2 fu one7 to'7 i2) g2
      rw [wrap_step h0 ht (Nat.le_trans h8 (by decide))] at r2
      refine ⟨s', ?_, r1⟩
      rw [← r2, ref_Joined_l12, ref_Joined_b12, show decide (i < vars) = true by rw [decide_eq_true_eq]; omega]
      rfl) nf (by omega) (by omega)
  refine ⟨s', q, ?_⟩
  have f1 := q.ok1.few h8
  have f2 := q.ok2.few h8
  have f3 := hw1.few h8
  have f4 := hw2.few h8
  rw [e, ref_Joined_l12, ref_Joined_b12, show decide ((n : Int) < vars) = false by rw [decide_eq_false_iff_not]; omega, cond_false, Go.IntWalk.i64_in _ (show _ by omega), Go.IntWalk.i64_in _ (show _ by omega)]
  unfold many2
  by_cases hc : s'.1.length + s'.2.length = w.1.length + w.2.length
  · rw [if_pos hc, show ((s'.1.length : Int) + (s'.2.length : Int) == (w.1.length : Int) + (w.2.length : Int)) = true by rw [beq_iff_eq]; omega]; rfl
  · rw [if_neg hc, beq_f (by omega)]; rfl

/-- the words of what each points to -/
def OutR (n : Nat) (P : Int → Int → Prop) (out : List Int) : Prop := out.length = n ∧ ∀ i : Nat, i < n → W32 (out.getD i 0) ∧ ∀ j : Nat, bt (out.getD i 0) j = true ↔ (j < n ∧ P i j)

theorem rjoin_l18 (hv : vars = n) (h8 : n ≤ 8) (hn : 20 ≤ nf) {t : M2} (ho : OKt n t) : ∃ out, OutR n (fun i j => tm t i j = true) out ∧ ref_Joined_l18 nf vars nf t [] 0 = some (out, ()) := by
  obtain ⟨fu', q, ⟨q1, q2, q3⟩, e⟩ := loop_inv (n := (n : Int)) (F := fun fu u (q : M2 × List Int) => ref_Joined_l18 nf vars fu q.1 q.2 u)
    (fun u q => q.1 = t ∧ (q.2.length : Int) = u ∧ ∀ i : Nat, (i : Int) < u → W32 (q.2.getD i 0) ∧ ∀ j : Nat, bt (q.2.getD i 0) j = true ↔ (j < n ∧ tm t i j = true)) (fun fu u q u0 u1 hI => by
      obtain ⟨i1, i2, i3⟩ := hI
      obtain ⟨r, r1, r2, r3⟩ := pointees_F (nf := nf) hv h8 hn ho u
      have hr : ∀ x ∈ r, 0 ≤ x ∧ x < 32 := fun x hx => by have := (ho.in ((r2 x).1 hx)).2; omega
      have hset := set_F (nf := nf) r (Nat.le_trans r1 (by decide)) (by omega) hr
      have hble : (q.2.length + [wd r].length).ble lim = true := ble_ok (by simp; omega)
      refine ⟨(t, q.2 ++ [wd r]), ?_, rfl, by simp; omega, fun i hi => ?_⟩
      · rw [ref_Joined_l18, ref_Joined_b18, show decide (u < vars) = true by rw [decide_eq_true_eq]; omega, cond_true, i1, r3, wrap_step u0 u1 (Nat.le_trans h8 (by decide))]
        simp only [Option.bind_some, hset, hble, bimp]
        rfl
      · show W32 ((q.2 ++ [wd r]).getD i 0) ∧ _
        by_cases hiu : (i : Int) < u
        · have e1 : (q.2 ++ [wd r]).getD i 0 = q.2.getD i 0 := by
            rw [List.getD_eq_getElem?_getD, List.getD_eq_getElem?_getD, List.getElem?_append_left (by omega)]
          rw [e1]; exact i3 i hiu
        · have e1 : (q.2 ++ [wd r]).getD i 0 = wd r := by
            rw [List.getD_eq_getElem?_getD, List.getElem?_append_right (by omega), show i - q.2.length = 0 by omega]; rfl
          rw [e1]
          refine ⟨wd_w hr, fun j => ?_⟩
          rw [wd_bt hr, decide_eq_true_eq, r2, show (i : Int) = u by omega]
          exact ⟨fun h => ⟨by have := (ho.in h).2; omega, h⟩, fun h => h.2⟩) nf 0 (t, []) (by omega) (by omega) (by omega) ⟨rfl, rfl, fun i hi => by omega⟩
  refine ⟨q.2, ⟨by omega, fun i hi => q3 i (by omega)⟩, ?_⟩
  rw [show ref_Joined_l18 nf vars nf t [] 0 = _ from e, ref_Joined_l18, ref_Joined_b18, show decide ((n : Int) < vars) = false by rw [decide_eq_false_iff_not]; omega]
  rfl

theorem rjoin_l2 (hv : vars = n) (h8 : n ≤ 8) (hn : 20 ≤ nf) (hg : GoodJ vars l) (hl : l.length ≤ 12) : ∀ (fu : Nat) (s : SM), OKt n s.1 → OKt n s.2 → SndJ vars l (rm s) → (∀ i : Int, 0 ≤ i → i < n → tm s.1 i i = true) → 130 ≤ fu + many2 s →
    ∃ out, OutR n (fun i j => Jn vars l false i j) out ∧ ref_Joined_l2 nf vars l fu s.1 s.2 = some (out, ())
  | 0, s, o1, o2, _, _, hfu => by
    have f1 := o1.few h8
    have f2 := o2.few h8
    unfold many2 at hfu
    omega
  | fu + 1, s, o1, o2, hs, hid, hfu => by
    obtain ⟨s1, m1, e1⟩ := rjoin_l4 (nf := nf) hv h8 hn hg hl o1 o2 hs s.1 s.2 (fun one2 to'2 => ref_Joined_l2 nf vars l fu one2 to'2)
    obtain ⟨s2, m2, e2⟩ := rjoin_l12 (nf := nf) (vars := vars) (l := l) hv h8 hn m1.ok1 m1.ok2 m1.snd s o1 o2 (fun one2 to'2 => ref_Joined_l2 nf vars l fu one2 to'2)
    have m := m1.trans m2
    have hst : ref_Joined_l2 nf vars l (fu + 1) s.1 s.2 = if many2 s2 = many2 s then ref_Joined_l18 nf vars nf s2.2 [] 0 else ref_Joined_l2 nf vars l fu s2.1 s2.2 := by
      rw [← e2, ← e1, ref_Joined_l2, ref_Joined_b2]
    rw [hst]
    by_cases hc : many2 s2 = many2 s
    · rw [if_pos hc]
      have he : s2 = s := by
        rcases m.grow with a | a
        · exact a
        · omega
      obtain ⟨cl1, cl2⟩ := m.cl he
      subst he
      have rng1 : ∀ i j : Int, rm s2 true i j = true → (0 ≤ i ∧ i < n) ∧ (0 ≤ j ∧ j < n) := fun i j h => o1.in h
      have rng2 : ∀ i j : Int, rm s2 false i j = true → (0 ≤ i ∧ i < n) ∧ (0 ≤ j ∧ j < n) := fun i j h => o2.in h
      have hB : Base vars (rm s2) := by
        refine ⟨fun i a b => hid i a (by omega), fun i j k h1 h2 => ?_, fun i j k h1 h2 => ?_, fun i j k h1 h2 => ?_, fun i j k h1 h2 => ?_⟩
        · obtain ⟨a, b⟩ := rng2 _ _ h1
          obtain ⟨_, c⟩ := rng2 _ _ h2
          exact (cl2 i a.1 a.2 j b.1 b.2 k c.1 c.2).1 h1 h2
        · obtain ⟨a, b⟩ := rng1 _ _ h1
          obtain ⟨_, c⟩ := rng1 _ _ h2
          exact (cl2 i a.1 a.2 j b.1 b.2 k c.1 c.2).2.1 h1 h2
        · obtain ⟨a, b⟩ := rng2 _ _ h1
          obtain ⟨_, c⟩ := rng1 _ _ h2
          exact (cl2 i a.1 a.2 j b.1 b.2 k c.1 c.2).2.2.1 h1 h2
        · obtain ⟨a, b⟩ := rng1 _ _ h1
          obtain ⟨_, c⟩ := rng2 _ _ h2
          exact (cl2 i a.1 a.2 j b.1 b.2 k c.1 c.2).2.2.2 h1 h2
      have hR : ∀ p ∈ l, RuleJ p (rm s2) := fun p hp => by
        obtain ⟨a, b⟩ := cl1 p hp
        have out : ∀ (i x : Int), ¬ (0 ≤ x ∧ x < n) → ¬ rm s2 false i x = true := fun i x hx h => hx (rng2 _ _ h).2
        refine ⟨a, fun h x => ?_, fun h j hj x => ?_, fun h i hi x => ?_⟩
        · by_cases hx : 0 ≤ x ∧ x < n
          · exact (b x hx.1 hx.2).1 h
          · exact ⟨fun h => absurd h (out _ _ hx), fun h => absurd h (out _ _ hx)⟩
        · by_cases hx : 0 ≤ x ∧ x < n
          · exact (b x hx.1 hx.2).2.1 h j hj
          · exact ⟨fun h => absurd h (out _ _ hx), fun h => absurd h (out _ _ hx)⟩
        · by_cases hx : 0 ≤ x ∧ x < n
          · exact (b x hx.1 hx.2).2.2 h i hi
          · exact ⟨fun h => absurd h (out _ _ hx), fun h => absurd h (out _ _ hx)⟩
      have hjn := jn_iff hB hR hs
      obtain ⟨out, p1, p2⟩ := rjoin_l18 (nf := nf) hv h8 hn o2
      refine ⟨out, ⟨p1.1, fun i hi => ⟨(p1.2 i hi).1, fun j => ?_⟩⟩, p2⟩
      rw [(p1.2 i hi).2 j]
      show _ ∧ rm s2 false i j = true ↔ _ ∧ Jn vars l false i j
      rw [hjn]
    · rw [if_neg hc]
      have hlt : many2 s < many2 s2 := by
        rcases m.grow with a | a
        · rw [a] at hc; exact absurd rfl hc
        · exact a
      exact rjoin_l2 hv h8 hn hg hl fu s2 m.ok1 m.ok2 m.snd (fun i a b => m.le true i i (hid i a b)) (by omega)

theorem rjoined_F (hv : vars = n) (h8 : n ≤ 8) (hn : 200 ≤ nf) (hg : GoodJ vars l) (hl : l.length ≤ 12) : ∃ out, OutR n (fun i j => Jn vars l false i j) out ∧ ref_Joined_f nf vars l = some (out, ()) := by
  have hz : OKt n ([] : M2) := ⟨by simp, fun p hp => by cases hp⟩
  have hs0 : SndJ vars l (rm (([], []) : SM)) := fun t i j h => by
    cases t <;> simp [rm, tm, getM] at h
  obtain ⟨fu', s', q, e⟩ := loop_sp (vars := vars) (l := l) (n := n) (s := ([], [])) (N := (n : Int)) (F := fun fu t (s : SM) => ref_Joined_l0 nf vars l fu s.1 s.2 t)
    (fun _ _ => True) hz hz hs0 (fun fu i s h0 ht o1 o2 hs => by
      refine ⟨addS true s i i, ?_, (add_J h8 o1 o2 hs true ⟨h0, ht⟩ ⟨h0, ht⟩ (.refl h0 (by omega))).weak fun _ => trivial⟩
      rw [ref_Joined_l0, ref_Joined_b0, show decide (i < vars) = true by rw [decide_eq_true_eq]; omega, wrap_step h0 ht (Nat.le_trans h8 (by decide))]
      rfl) nf (by omega) (by omega)
  obtain ⟨fu2, s2, ⟨q2, q3⟩, e2⟩ := loop_inv (n := (n : Int)) (F := fun fu t (s : SM) => ref_Joined_l0 nf vars l fu s.1 s.2 t) (fun t s => (SpJ vars l n (fun _ => True) ([], []) s) ∧ ∀ i : Int, 0 ≤ i → i < t → tm s.1 i i = true) (fun fu i s h0 ht hI => by
      obtain ⟨i1, i2⟩ := hI
      refine ⟨addS true s i i, ?_, (i1.trans (add_J h8 i1.ok1 i1.ok2 i1.snd true ⟨h0, ht⟩ ⟨h0, ht⟩ (.refl h0 (by omega)))).weak fun _ => trivial, fun j j0 j1 => ?_⟩
      · rw [ref_Joined_l0, ref_Joined_b0, show decide (i < vars) = true by rw [decide_eq_true_eq]; omega, wrap_step h0 ht (Nat.le_trans h8 (by decide))]
        rfl
      · show tm (insM K2 Ty.bool s.1 (i, i, ()) true) j j = true
        rw [tm_ins]
        split
        · rfl
        · exact i2 j j0 (by omega)) nf 0 ([], []) (by omega) (by omega) (by omega) ⟨SpJ.same hz hz hs0 trivial, fun i a b => by omega⟩
  obtain ⟨out, r1, r2⟩ := rjoin_l2 (nf := nf) hv h8 (by omega) hg hl nf s2 q2.ok1 q2.ok2 q2.snd q3 (by omega)
  refine ⟨out, r1, ?_⟩
  simp only [ref_Joined_f, ref_Joined_p]
  rw [show ref_Joined_l0 nf vars l nf [] [] 0 = _ from e2, ref_Joined_l0, ref_Joined_b0, show decide ((n : Int) < vars) = false by rw [decide_eq_false_iff_not]; omega]
  exact r2
end Go.Proofs.Ytmndifhjmbiodaa
