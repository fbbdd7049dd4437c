/- Nodes put into others: the end does not depend on the order. -/
import Derived.Test.YtccbcbhiblohgaaLib
namespace Go.Ab

/-- the nodes that are left, and the edges among them -/
abbrev Gr := (Int → Prop) × (Int → Int → Prop)
/-- i is put into j -/
def Gr.fold (g : Gr) (i j : Int) : Gr := (fun a => g.1 a ∧ a ≠ i, fun a b => a ≠ i ∧ b ≠ i ∧ a ≠ b ∧ (g.2 a b ∨ (a = j ∧ g.2 i b)))
/-- only j leads to i -/
def Gr.only (g : Gr) (i j : Int) : Prop := g.2 j i ∧ ∀ a, g.2 a i → a = j
def Gr.step (g h : Gr) : Prop := ∃ i j, i ≠ 0 ∧ g.only i j ∧ h = g.fold i j

inductive ComesE (E : Int → Int → Prop) : Int → Prop where
  | zero : ComesE E 0
  | next {a b : Int} : ComesE E a → E a b → ComesE E b

structure Gr.Good (g : Gr) : Prop where
  zero : g.1 0
  mem : ∀ a b, g.2 a b → g.1 a ∧ g.1 b ∧ a ≠ b
  comes : ∀ a, g.1 a → ComesE g.2 a

theorem Gr.Good.fold {g : Gr} (hg : g.Good) {i j : Int} (hi : i ≠ 0) (h : g.only i j) : (g.fold i j).Good := by
  refine ⟨⟨hg.zero, fun e => hi e.symm⟩, fun a b he => ?_, fun a ha => ?_⟩
  · obtain ⟨h1, h2, h3, h4 | ⟨h4, h5⟩⟩ := he
    · exact ⟨⟨(hg.mem a b h4).1, h1⟩, ⟨(hg.mem a b h4).2.1, h2⟩, h3⟩
    · subst h4
      exact ⟨⟨(hg.mem _ _ h.1).1, h1⟩, ⟨(hg.mem _ _ h5).2.1, h2⟩, h3⟩
  · have hji := (hg.mem _ _ h.1).2.2
    have key : ∀ v, ComesE g.2 v → (v ≠ i → ComesE (g.fold i j).2 v) ∧ (v = i → ComesE (g.fold i j).2 j) := by
      intro v hv
      induction hv with
      | zero => exact ⟨fun _ => .zero, fun e => absurd e.symm hi⟩
      | @next a b ha hab ih =>
        constructor
        · intro hb
          by_cases hai : a = i
          · have hj := ih.2 hai
            by_cases hjb : j = b
            · rw [← hjb]; exact hj
            · exact .next hj ⟨hji, hb, hjb, .inr ⟨rfl, hai ▸ hab⟩⟩
          · exact .next (ih.1 hai) ⟨hai, hb, (hg.mem _ _ hab).2.2, .inl hab⟩
        · intro hb
          have : a = j := h.2 a (hb ▸ hab)
          have h3 := ih.1 (fun e => hji (this ▸ e))
          rw [this] at h3
          exact h3
    exact (key a (hg.comes a ha.1)).1 ha.2

theorem Gr.Good.step {g h : Gr} (hg : g.Good) (hs : g.step h) : h.Good := by
  obtain ⟨i, j, hi, ho, rfl⟩ := hs
  exact hg.fold hi ho

/-- two nodes do not lead only to each other -/
theorem Gr.Good.no_two {g : Gr} (hg : g.Good) {i j : Int} (hi : i ≠ 0) (hj : j ≠ 0) (h1 : g.only i j) (h2 : g.only j i) : False := by
  have key : ∀ v, ComesE g.2 v → v ≠ i ∧ v ≠ j := by
    intro v hv
    induction hv with
    | zero => exact ⟨fun e => hi e.symm, fun e => hj e.symm⟩
    | @next a b _ hab ih =>
      exact ⟨fun e => ih.2 (h1.2 a (e ▸ hab)), fun e => ih.1 (h2.2 a (e ▸ hab))⟩
  exact (key i (hg.comes i (hg.mem _ _ h1.1).2.1)).1 rfl

theorem Gr.only.fold {g : Gr} (hg : g.Good) {i j k l : Int} (hik : i ≠ k) (hi : i ≠ 0) (hk : k ≠ 0) (h1 : g.only i j) (h2 : g.only k l) : (g.fold i j).only k (open Classical in if l = i then j else l) := by
  have hji := (hg.mem _ _ h1.1).2.2
  have hlk := (hg.mem _ _ h2.1).2.2
  by_cases hl : l = i
  · rw [if_pos hl]
    have hjk : j ≠ k := fun e => by
      subst e; subst hl
      exact hg.no_two hi hk h1 h2
    refine ⟨⟨hji, fun e => hik e.symm, hjk, .inr ⟨rfl, hl ▸ h2.1⟩⟩, fun a ha => ?_⟩
    obtain ⟨a1, a2, a3, a4 | ⟨a4, a5⟩⟩ := ha
    · exact absurd ((h2.2 a a4).trans hl) a1
    · exact a4
  · rw [if_neg hl]
    refine ⟨⟨hl, fun e => hik e.symm, hlk, .inl h2.1⟩, fun a ha => ?_⟩
    obtain ⟨a1, a2, a3, a4 | ⟨a4, a5⟩⟩ := ha
    · exact h2.2 a a4
    · exact absurd (h2.2 i a5).symm hl

theorem Gr.fold_comm {g : Gr} (hg : g.Good) {i j k l : Int} (hik : i ≠ k) (hi : i ≠ 0) (hk : k ≠ 0) (h1 : g.only i j) (h2 : g.only k l) :
    (g.fold i j).fold k (open Classical in if l = i then j else l) = (g.fold k l).fold i (open Classical in if j = k then l else j) := by
  have hji := (hg.mem _ _ h1.1).2.2
  have hlk := (hg.mem _ _ h2.1).2.2
  have hno : ¬ (l = i ∧ j = k) := fun ⟨a, b⟩ => by
    subst a; subst b
    exact hg.no_two hi hk h1 h2
  refine Prod.ext ?_ ?_
  · funext a
    apply propext
    exact ⟨fun ⟨⟨a, b⟩, c⟩ => ⟨⟨a, c⟩, b⟩, fun ⟨⟨a, b⟩, c⟩ => ⟨⟨a, c⟩, b⟩⟩
  · funext a b
    apply propext
    show (a ≠ k ∧ b ≠ k ∧ a ≠ b ∧ ((a ≠ i ∧ b ≠ i ∧ a ≠ b ∧ (g.2 a b ∨ (a = j ∧ g.2 i b))) ∨ (a = (open Classical in if l = i then j else l) ∧ (k ≠ i ∧ b ≠ i ∧ k ≠ b ∧ (g.2 k b ∨ (k = j ∧ g.2 i b)))))) ↔
      (a ≠ i ∧ b ≠ i ∧ a ≠ b ∧ ((a ≠ k ∧ b ≠ k ∧ a ≠ b ∧ (g.2 a b ∨ (a = l ∧ g.2 k b))) ∨ (a = (open Classical in if j = k then l else j) ∧ (i ≠ k ∧ b ≠ k ∧ i ≠ b ∧ (g.2 i b ∨ (i = l ∧ g.2 k b))))))
    have hki : k ≠ i := fun e => hik e.symm
    by_cases hl : l = i
    · have hj : j ≠ k := fun e => hno ⟨hl, e⟩
      rw [if_pos hl, if_neg hj]
      constructor
      · rintro ⟨a1, a2, a3, ⟨b1, b2, _, b4 | ⟨b4, b5⟩⟩ | ⟨c1, c2, c3, c4, c5 | ⟨c5, c6⟩⟩⟩
        · exact ⟨b1, b2, a3, .inl ⟨a1, a2, a3, .inl b4⟩⟩
        · exact ⟨b1, b2, a3, .inr ⟨b4, hik, a2, fun e => b2 e.symm, .inl b5⟩⟩
        · exact ⟨fun e => hji (c1 ▸ e), c3, a3, .inr ⟨c1, hik, a2, fun e => c3 e.symm, .inr ⟨hl.symm, c5⟩⟩⟩
        · exact absurd c5.symm hj
      · rintro ⟨a1, a2, a3, ⟨b1, b2, _, b4 | ⟨b4, b5⟩⟩ | ⟨c1, c2, c3, c4, c5 | ⟨c5, c6⟩⟩⟩
        · exact ⟨b1, b2, a3, .inl ⟨a1, a2, a3, .inl b4⟩⟩
        · exact absurd (b4.trans hl) a1
        · exact ⟨fun e => hj (c1 ▸ e), c3, a3, .inl ⟨a1, a2, a3, .inr ⟨c1, c5⟩⟩⟩
        · exact ⟨fun e => hj (c1 ▸ e), c3, a3, .inr ⟨c1, hki, a2, fun e => c3 e.symm, .inl c6⟩⟩
    · rw [if_neg hl]
      by_cases hj : j = k
      · rw [if_pos hj]
        constructor
        · rintro ⟨a1, a2, a3, ⟨b1, b2, _, b4 | ⟨b4, b5⟩⟩ | ⟨c1, c2, c3, c4, c5 | ⟨c5, c6⟩⟩⟩
          · exact ⟨b1, b2, a3, .inl ⟨a1, a2, a3, .inl b4⟩⟩
          · exact absurd (b4.trans hj) a1
          · exact ⟨fun e => hl (c1 ▸ e), c3, a3, .inl ⟨a1, a2, a3, .inr ⟨c1, c5⟩⟩⟩
          · exact ⟨fun e => hl (c1 ▸ e), c3, a3, .inr ⟨c1, hik, a2, fun e => c3 e.symm, .inl c6⟩⟩
        · rintro ⟨a1, a2, a3, ⟨b1, b2, _, b4 | ⟨b4, b5⟩⟩ | ⟨c1, c2, c3, c4, c5 | ⟨c5, c6⟩⟩⟩
          · exact ⟨b1, b2, a3, .inl ⟨a1, a2, a3, .inl b4⟩⟩
          · exact ⟨b1, b2, a3, .inr ⟨b4, hki, a2, fun e => b2 e.symm, .inl b5⟩⟩
          · exact ⟨fun e => hlk (c1 ▸ e), c3, a3, .inr ⟨c1, hki, a2, fun e => c3 e.symm, .inr ⟨hj.symm, c5⟩⟩⟩
          · exact absurd c5.symm hl
      · rw [if_neg hj]
        constructor
        · rintro ⟨a1, a2, a3, ⟨b1, b2, _, b4 | ⟨b4, b5⟩⟩ | ⟨c1, c2, c3, c4, c5 | ⟨c5, c6⟩⟩⟩
          · exact ⟨b1, b2, a3, .inl ⟨a1, a2, a3, .inl b4⟩⟩
          · exact ⟨b1, b2, a3, .inr ⟨b4, hik, a2, fun e => b2 e.symm, .inl b5⟩⟩
          · exact ⟨fun e => hl (c1 ▸ e), c3, a3, .inl ⟨a1, a2, a3, .inr ⟨c1, c5⟩⟩⟩
          · exact absurd c5.symm hj
        · rintro ⟨a1, a2, a3, ⟨b1, b2, _, b4 | ⟨b4, b5⟩⟩ | ⟨c1, c2, c3, c4, c5 | ⟨c5, c6⟩⟩⟩
          · exact ⟨b1, b2, a3, .inl ⟨a1, a2, a3, .inl b4⟩⟩
          · exact ⟨b1, b2, a3, .inr ⟨b4, hki, a2, fun e => b2 e.symm, .inl b5⟩⟩
          · exact ⟨fun e => hj (c1 ▸ e), c3, a3, .inl ⟨a1, a2, a3, .inr ⟨c1, c5⟩⟩⟩
          · exact absurd c5.symm hl

/-- two ways meet again -/
theorem Gr.Good.meet {g g1 g2 : Gr} (hg : g.Good) (h1 : g.step g1) (h2 : g.step g2) : g1 = g2 ∨ ∃ d, g1.step d ∧ g2.step d := by
  obtain ⟨i, j, hi, oi, rfl⟩ := h1
  obtain ⟨k, l, hk, ok, rfl⟩ := h2
  by_cases hik : i = k
  · subst hik
    left
    rw [ok.2 j oi.1]
  · right
    exact ⟨_, ⟨k, _, hk, Gr.only.fold hg hik hi hk oi ok, rfl⟩, ⟨i, _, hi, Gr.only.fold hg (fun e => hik e.symm) hk hi ok oi, Gr.fold_comm hg hik hi hk oi ok⟩⟩

/-- k steps -/
inductive Redu : Gr → Nat → Gr → Prop where
  | none (g : Gr) : Redu g 0 g
  | more {g h e : Gr} {k : Nat} : g.step h → Redu h k e → Redu g (k + 1) e
theorem Redu.snoc {g h e : Gr} {k : Nat} (h1 : Redu g k h) (h2 : h.step e) : Redu g (k + 1) e := by
  induction h1 with
  | none g => exact .more h2 (.none _)
  | more hs _ ih => exact .more hs (ih h2)
theorem Redu.trans {g h e : Gr} {k k' : Nat} (h1 : Redu g k h) (h2 : Redu h k' e) : Redu g (k + k') e := by
  induction h1 with
  | none g => rw [Nat.zero_add]; exact h2
  | @more a b c k hs hr ih =>
    have := Redu.more hs (ih h2)
    rwa [show k + 1 + k' = k + k' + 1 by omega]
theorem Redu.good {g h : Gr} {k : Nat} (h1 : Redu g k h) (hg : g.Good) : h.Good := by
  induction h1 with
  | none g => exact hg
  | more hs _ ih => exact ih (hg.step hs)
/-- nothing can be put into another one -/
def Gr.Stuck (g : Gr) : Prop := ∀ h, ¬ g.step h

theorem Redu.strip {g h : Gr} {k : Nat} (h1 : Redu g k h) (hg : g.Good) (hs : h.Stuck) {g1 : Gr} (h2 : g.step g1) : ∃ k', k = k' + 1 ∧ Redu g1 k' h := by
  induction h1 generalizing g1 with
  | none g => exact absurd h2 (hs _)
  | @more g a e k hst hr ih =>
    refine ⟨k, rfl, ?_⟩
    rcases hg.meet hst h2 with e1 | ⟨d, d1, d2⟩
    · rw [← e1]; exact hr
    · obtain ⟨k', rfl, hr'⟩ := ih (hg.step hst) hs d1
      exact .more d2 hr'

/-- the end is one -/
theorem Redu.one {g h h' : Gr} {k k' : Nat} (h1 : Redu g k h) (hg : g.Good) (hs : h.Stuck) (h2 : Redu g k' h') (hs' : h'.Stuck) : h = h' := by
  induction h2 generalizing k with
  | none g =>
    cases h1 with
    | none => rfl
    | more hst _ => exact absurd hst (hs' _)
  | @more g a e k hst hr ih =>
    obtain ⟨m, rfl, hr'⟩ := h1.strip hg hs hst
    exact ih hr' (hg.step hst) hs'
theorem cnt_flip {p q : Nat → Bool} {i : Nat} (hp : p i = true) (hq : q i = false) : ∀ {n : Nat}, (∀ j, j < n → j ≠ i → p j = q j) → i < n → cnt p n = cnt q n + 1
  | 0, _, h => by omega
  | n + 1, h, hi => by
    simp only [cnt]
    by_cases hin : i = n
    · subst hin
      rw [cnt_congr (p := p) (q := q) fun k hk => h k (by omega) (by omega), hp, hq]; simp
    · rw [cnt_flip hp hq (n := n) (fun j hj hne => h j (by omega) hne) (by omega), h n (by omega) (by omega)]; omega
theorem cnt_zero (n : Nat) : cnt (fun _ => false) n = 0 := by
  induction n with
  | zero => rfl
  | succ n ih => simp [cnt, ih]
theorem cnt_one {p : Nat → Bool} {n a : Nat} (ha : a < n) (hp : p a = true) (hu : ∀ b, b < n → p b = true → b = a) : cnt p n = 1 := by
  rw [cnt_flip (q := fun _ => false) hp rfl (fun j hj hne => by
    cases h : p j with
    | false => rfl
    | true => exact absurd (hu j hj h) hne) ha, cnt_zero]
theorem cnt_uniq {p : Nat → Bool} {n a b : Nat} (h : cnt p n ≤ 1) (ha : a < n) (hb : b < n) (hpa : p a = true) (hpb : p b = true) : b = a := Classical.byContradiction fun hne => by
  have h1 := cnt_flip (p := p) (q := fun j => p j && decide (j ≠ a)) (i := a) (n := n) hpa (by simp) (fun j hj hja => by simp [hja]) ha
  have h2 := cnt_lt (p := fun _ => false) (q := fun j => p j && decide (j ≠ a)) (n := n) (fun _ _ h => by cases h) ⟨b, hb, rfl, by simp [hpb, hne]⟩
  omega
theorem cnt_pos {p : Nat → Bool} : ∀ {n : Nat}, 0 < cnt p n → ∃ j, j < n ∧ p j = true
  | 0, h => by simp [cnt] at h
  | n + 1, h => by
    simp only [cnt] at h
    cases hp : p n with
    | true => exact ⟨n, by omega, hp⟩
    | false =>
      rw [hp] at h
      obtain ⟨j, h1, h2⟩ := cnt_pos (n := n) (by simpa using h)
      exact ⟨j, by omega, h2⟩
/-- as many as in a list -/
theorem cnt_list : ∀ (l : List Int) (n : Nat), l.Nodup → (∀ x ∈ l, 0 ≤ x ∧ x < n) → cnt (fun k => decide ((k : Int) ∈ l)) n = l.length
  | [], n, _, _ => by rw [cnt_congr (q := fun _ => false) (fun k _ => by simp), cnt_zero]; rfl
  | x :: l, n, hn, h => by
    obtain ⟨h1, h2⟩ := List.nodup_cons.1 hn
    obtain ⟨x0, x1⟩ := h x (by simp)
    have ih := cnt_list l n h2 fun y hy => h y (by simp [hy])
    rw [cnt_flip (q := fun k => decide ((k : Int) ∈ l)) (i := x.toNat) (by simp; omega) (by rw [decide_eq_false_iff_not, show ((x.toNat : Nat) : Int) = x by omega]; exact h1) (fun j hj hne => by
      rw [decide_eq_decide, List.mem_cons]
      constructor
      · rintro (h | h)
        · omega
        · exact h
      · exact .inr) (by omega), ih]; rfl
end Go.Ab
