/- Belady: to let the one go that is asked for again last is as good as any choice. -/
import Derived.Test.YtoglkjmdloppcaaLib
namespace Go.Ab

abbrev Sset := Nat → Bool
def addS (s : Sset) (b : Nat) : Sset := fun j => s j || decide (j = b)
def delS (s : Sset) (b : Nat) : Sset := fun j => s j && !decide (j = b)
def dif (d c : Sset) : Sset := fun j => d j && !c j
theorem add_t {s : Sset} {b j : Nat} : addS s b j = true ↔ s j = true ∨ j = b := by simp [addS]
theorem del_t {s : Sset} {b j : Nat} : delS s b j = true ↔ s j = true ∧ j ≠ b := by simp [delS]
theorem dif_t {d c : Sset} {j : Nat} : dif d c j = true ↔ d j = true ∧ c j = false := by simp [dif]
theorem add_ne {s : Sset} {b j : Nat} (h : j ≠ b) : addS s b j = s j := by simp [addS, h]
theorem del_ne {s : Sset} {b j : Nat} (h : j ≠ b) : delS s b j = s j := by simp [delS, h]
theorem add_eq (s : Sset) (b : Nat) : addS s b b = true := by simp [addS]
theorem del_eq (s : Sset) (b : Nat) : delS s b b = false := by simp [delS]
theorem f_of {b : Bool} (h : ¬ b = true) : b = false := by cases b; rfl; exact absurd rfl h

theorem cnt_flp {p q : Nat → Bool} {i : Nat} (hp : p i = true) (hq : q i = false) : ∀ {n : Nat}, (∀ j, j < n → j ≠ i → p j = q j) → i < n → cnt p n = cnt q n + 1
  | 0, _, h => by omega
  | n + 1, h, hi => by
    simp only [cnt]
    by_cases hin : i = n
    · subst hin
      rw [cnt_congr (p := p) (q := q) fun k hk => h k (by omega) (by omega), hp, hq]; simp
    · rw [cnt_flp hp hq (n := n) (fun j hj hne => h j (by omega) hne) (by omega), h n (by omega) (by omega)]; omega

variable {p N : Nat}
/-- one request: what is there behind it, and whether it was a miss -/
def Req (p N : Nat) (r : Nat) (s s' : Sset) (c : Nat) : Prop :=
  (s r = true ∧ s' = s ∧ c = 0) ∨ (s r = false ∧ cnt s N < p ∧ s' = addS s r ∧ c = 1) ∨ (s r = false ∧ ¬ cnt s N < p ∧ ∃ i, s i = true ∧ s' = addS (delS s i) r ∧ c = 1)
def Pl (p N : Nat) : List Nat → Sset → Nat → Prop
  | [], _, m => m = 0
  | r :: rs, s, m => ∃ s' c m1, Req p N r s s' c ∧ Pl p N rs s' m1 ∧ m = m1 + c
structure SOK (p N : Nat) (s : Sset) : Prop where
  few : cnt s N ≤ p
  inn : ∀ i, s i = true → i < N
theorem stp_ok {r : Nat} {s s' : Sset} {c : Nat} (hr : r < N) (h : SOK p N s) (hs : Req p N r s s' c) : SOK p N s' := by
  rcases hs with ⟨_, rfl, _⟩ | ⟨h1, h2, rfl, _⟩ | ⟨h1, h2, i, h3, rfl, _⟩
  · exact h
  · refine ⟨?_, fun i hi => ?_⟩
    · rw [cnt_flp (q := s) (i := r) (add_eq s r) h1 (fun j _ hj => add_ne hj) hr]; omega
    · rcases add_t.1 hi with hi | rfl
      · exact h.inn i hi
      · exact hr
  · refine ⟨?_, fun j hj => ?_⟩
    · have hir : r ≠ i := fun e => by rw [e, h3] at h1; cases h1
      have e1 := cnt_flp (p := addS (delS s i) r) (q := delS s i) (i := r) (add_eq _ r) (by rw [del_ne hir, h1]) (fun j _ hj => add_ne hj) hr
      have e2 := cnt_flp (p := s) (q := delS s i) (i := i) h3 (del_eq s i) (fun j _ hj => (del_ne hj).symm) (h.inn i h3)
      have := h.few
      omega
    · rcases add_t.1 hj with hj | rfl
      · exact h.inn j (del_t.1 hj).1
      · exact hr
theorem spare {c d : Sset} (hc : SOK p N c) (hd : SOK p N d) (h : cnt d N < cnt c N ∨ (cnt d N ≤ cnt c N ∧ ∃ x, d x = true ∧ c x = false)) : ∃ w, c w = true ∧ d w = false := by
  apply Classical.byContradiction
  intro hn
  have hsub : ∀ k, k < N → c k = true → d k = true := fun k _ hk => by
    cases hdk : d k with
    | true => rfl
    | false => exact absurd ⟨k, hk, hdk⟩ hn
  rcases h with h | ⟨h, x, hx, hxc⟩
  · have := cnt_le hsub; omega
  · have := cnt_lt hsub ⟨x, hd.inn x hx, hxc, hx⟩; omega
theorem dif_le {c d c' d' : Sset} (h : ∀ j, d' j = true → c' j = false → d j = true ∧ c j = false) : cnt (dif d' c') N ≤ cnt (dif d c) N := cnt_le fun k _ hk => by
  rw [dif_t] at hk ⊢; exact h k hk.1 hk.2

/-- what one has beyond the other is worth no more than its number -/
theorem cover : ∀ (rs : List Nat) (c d : Sset) (m : Nat), (∀ r ∈ rs, r < N) → SOK p N c → SOK p N d → Pl p N rs d m → ∃ m', m' ≤ m + cnt (dif d c) N ∧ Pl p N rs c m'
  | [], c, d, m, _, _, _, _ => ⟨0, Nat.zero_le _, rfl⟩
  | r :: rs, c, d, m, hr, hc, hd, ⟨d', k, m1, hs, hp, hm⟩ => by
    have hrN := hr r (by simp)
    have hrs : ∀ x ∈ rs, x < N := fun x hx => hr x (by simp [hx])
    have hd' := stp_ok hrN hd hs
    -- a step of c, and what is beyond then
    have go : ∀ (c' : Sset) (k' : Nat), Req p N r c c' k' → k' + cnt (dif d' c') N ≤ k + cnt (dif d c) N → ∃ m', m' ≤ m + cnt (dif d c) N ∧ Pl p N (r :: rs) c m' := by
      intro c' k' h1 h2
      obtain ⟨m', a, b⟩ := cover rs c' d' m1 hrs (stp_ok hrN hc h1) hd' hp
      exact ⟨m' + k', by omega, c', k', m', h1, b, rfl⟩
    cases hcr : c r with
    | true =>
      refine go c 0 (.inl ⟨hcr, rfl, rfl⟩) ?_
      have : cnt (dif d' c) N ≤ cnt (dif d c) N := dif_le fun j h1 h2 => by
        refine ⟨?_, h2⟩
        have hjr : j ≠ r := fun e => by rw [e, hcr] at h2; cases h2
        rcases hs with ⟨_, rfl, _⟩ | ⟨_, _, rfl, _⟩ | ⟨_, _, i, _, rfl, _⟩
        · exact h1
        · exact (add_t.1 h1).resolve_right hjr
        · exact (del_t.1 ((add_t.1 h1).resolve_right hjr)).1
      omega
    | false =>
      rcases hs with ⟨hdr, rfl, rfl⟩ | ⟨hdr, hdp, rfl, rfl⟩ | ⟨hdr, hdp, z, hz, rfl, rfl⟩
      · -- d has it
        have less : ∀ c', c' r = true → (∀ j, j ≠ r → d' j = true → c' j = c j) → 1 + cnt (dif d' c') N ≤ 0 + cnt (dif d' c) N := fun c' h1 h2 => by
          have : cnt (dif d' c) N = cnt (delS (dif d' c) r) N + 1 := cnt_flp (i := r) (by rw [dif_t]; exact ⟨hdr, hcr⟩) (del_eq _ r) (fun j _ hj => (del_ne hj).symm) hrN
          have h3 : cnt (dif d' c') N ≤ cnt (delS (dif d' c) r) N := cnt_le fun j _ hj => by
            rw [dif_t] at hj
            have hjr : j ≠ r := fun e => by rw [e, h1] at hj; cases hj.2
            rw [del_t, dif_t]
            exact ⟨⟨hj.1, by rw [← h2 j hjr hj.1]; exact hj.2⟩, hjr⟩
          omega
        by_cases hcp : cnt c N < p
        · exact go _ 1 (.inr (.inl ⟨hcr, hcp, rfl, rfl⟩)) (less _ (add_eq _ _) fun j hj _ => add_ne hj)
        · obtain ⟨w, w1, w2⟩ := spare hc hd (.inr ⟨by have := hd.few; omega, r, hdr, hcr⟩)
          refine go _ 1 (.inr (.inr ⟨hcr, hcp, w, w1, rfl, rfl⟩)) (less _ (add_eq _ _) fun j hj hdj => ?_)
          rw [add_ne hj, del_ne]
          rintro rfl
          rw [w2] at hdj; cases hdj
      · by_cases hcp : cnt c N < p
        · refine go _ 1 (.inr (.inl ⟨hcr, hcp, rfl, rfl⟩)) ?_
          have : cnt (dif (addS d r) (addS c r)) N ≤ cnt (dif d c) N := dif_le fun j h1 h2 => by
            have hjr : j ≠ r := fun e => by rw [e, add_eq] at h2; cases h2
            rw [add_ne hjr] at h1 h2
            exact ⟨h1, h2⟩
          omega
        · obtain ⟨w, w1, w2⟩ := spare hc hd (.inl (by omega))
          refine go _ 1 (.inr (.inr ⟨hcr, hcp, w, w1, rfl, rfl⟩)) ?_
          have : cnt (dif (addS d r) (addS (delS c w) r)) N ≤ cnt (dif d c) N := dif_le fun j h1 h2 => by
            have hjr : j ≠ r := fun e => by rw [e, add_eq] at h2; cases h2
            rw [add_ne hjr] at h1 h2
            have hjw : j ≠ w := fun e => by rw [e, w2] at h1; cases h1
            rw [del_ne hjw] at h2
            exact ⟨h1, h2⟩
          omega
      · by_cases hcp : cnt c N < p
        · refine go _ 1 (.inr (.inl ⟨hcr, hcp, rfl, rfl⟩)) ?_
          have : cnt (dif (addS (delS d z) r) (addS c r)) N ≤ cnt (dif d c) N := dif_le fun j h1 h2 => by
            have hjr : j ≠ r := fun e => by rw [e, add_eq] at h2; cases h2
            rw [add_ne hjr] at h1 h2
            exact ⟨(del_t.1 h1).1, h2⟩
          omega
        · have hw : ∃ w, c w = true ∧ ∀ j, delS d z j = true → j ≠ w := by
            cases hcz : c z with
            | true => exact ⟨z, hcz, fun j hj => (del_t.1 hj).2⟩
            | false =>
              obtain ⟨w, w1, w2⟩ := spare hc hd (.inr ⟨by have := hd.few; omega, z, hz, hcz⟩)
              refine ⟨w, w1, fun j hj e => ?_⟩
              have := (del_t.1 hj).1
              rw [e, w2] at this; cases this
          obtain ⟨w, w1, w2⟩ := hw
          refine go _ 1 (.inr (.inr ⟨hcr, hcp, w, w1, rfl, rfl⟩)) ?_
          have : cnt (dif (addS (delS d z) r) (addS (delS c w) r)) N ≤ cnt (dif d c) N := dif_le fun j h1 h2 => by
            have hjr : j ≠ r := fun e => by rw [e, add_eq] at h2; cases h2
            rw [add_ne hjr] at h1 h2
            rw [del_ne (w2 j h1)] at h2
            exact ⟨(del_t.1 h1).1, h2⟩
          omega

/-- how soon it is asked for -/
def soon (a : Nat) : List Nat → Nat
  | [] => 0
  | r :: rs => if r = a then 0 else soon a rs + 1
/-- the one asked for sooner is worth no less -/
theorem sooner : ∀ (rs : List Nat) (c d : Sset) (a b m : Nat), (∀ r ∈ rs, r < N) → SOK p N c → SOK p N d → a ≠ b → c a = true → c b = false → d b = true → d a = false → (∀ j, j ≠ a → j ≠ b → c j = d j) → soon a rs ≤ soon b rs → Pl p N rs d m → ∃ m', m' ≤ m ∧ Pl p N rs c m'
  | [], c, d, a, b, m, _, _, _, _, _, _, _, _, _, _, _ => ⟨0, Nat.zero_le _, rfl⟩
  | r :: rs, c, d, a, b, m, hr, hc, hd, hab, ca, cb, db, da, hs, hn, ⟨d', k, m1, hst, hp, hm⟩ => by
    have hrN := hr r (by simp)
    have hrs : ∀ x ∈ rs, x < N := fun x hx => hr x (by simp [hx])
    have hd' := stp_ok hrN hd hst
    by_cases hra : r = a
    · subst hra
      have hk : k = 1 ∧ ∀ j, d' j = true → j ≠ r → d j = true := by
        rcases hst with ⟨h1, _, _⟩ | ⟨_, _, rfl, h2⟩ | ⟨_, _, i, _, rfl, h2⟩
        · rw [da] at h1; cases h1
        · exact ⟨h2, fun j hj hjr => (add_t.1 hj).resolve_right hjr⟩
        · exact ⟨h2, fun j hj hjr => (del_t.1 ((add_t.1 hj).resolve_right hjr)).1⟩
      obtain ⟨m', h1, h2⟩ := cover rs c d' m1 hrs hc hd' hp
      have hone : cnt (dif d' c) N ≤ 1 := by
        have h3 : cnt (dif d' c) N ≤ cnt (addS (fun _ => false) b) N := cnt_le fun j _ hj => by
          rw [dif_t] at hj
          rw [add_t]
          right
          apply Classical.byContradiction
          intro hjb
          have hja : j ≠ r := fun e => by rw [e, ca] at hj; cases hj.2
          have := hk.2 j hj.1 hja
          rw [← hs j hja hjb, hj.2] at this
          cases this
        have hbN := hd.inn b db
        have h4 : cnt (addS (fun _ => false) b) N = cnt (fun _ => false) N + 1 := cnt_flp (i := b) (add_eq _ b) rfl (fun j _ hj => add_ne hj) hbN
        have h5 : ∀ n, cnt (fun _ => false) n = 0 := fun n => by
          induction n with
          | zero => rfl
          | succ n ih => simp [cnt, ih]
        rw [h4, h5] at h3
        exact h3
      exact ⟨m', by have := hk.1; omega, c, 0, m', .inl ⟨ca, rfl, rfl⟩, h2, rfl⟩
    · by_cases hrb : r = b
      · subst hrb
        simp only [soon, if_true, hra, if_false] at hn
        omega
      · simp only [soon, hra, hrb, if_false] at hn
        have hn' : soon a rs ≤ soon b rs := by omega
        have hcr := hs r hra hrb
        have hcnt : cnt c N = cnt d N := by
          have e1 := cnt_flp (p := c) (q := delS c a) (i := a) (n := N) ca (del_eq c a) (fun j _ hj => (del_ne hj).symm) (hc.inn a ca)
          have e2 := cnt_flp (p := d) (q := delS d b) (i := b) (n := N) db (del_eq d b) (fun j _ hj => (del_ne hj).symm) (hd.inn b db)
          have e3 : delS c a = delS d b := by
            funext j
            by_cases hja : j = a
            · rw [hja, del_eq, del_ne hab, da]
            · by_cases hjb : j = b
              · rw [hjb, del_eq, del_ne (fun e => hab e.symm), cb]
              · rw [del_ne hja, del_ne hjb, hs j hja hjb]
          rw [e1, e2, e3]
        have go : ∀ (c' : Sset) (k' : Nat), Req p N r c c' k' → k' ≤ k → c' a = true → c' b = false → d' b = true → d' a = false → (∀ j, j ≠ a → j ≠ b → c' j = d' j) → ∃ m', m' ≤ m ∧ Pl p N (r :: rs) c m' := by
          intro c' k' h1 h2 g1 g2 g3 g4 g5
          obtain ⟨m', x, y⟩ := sooner rs c' d' a b m1 hrs (stp_ok hrN hc h1) hd' hab g1 g2 g3 g4 g5 hn' hp
          exact ⟨m' + k', by omega, c', k', m', h1, y, rfl⟩
        rcases hst with ⟨h1, rfl, rfl⟩ | ⟨h1, h2, rfl, rfl⟩ | ⟨h1, h2, z, hz, rfl, rfl⟩
        · exact go c 0 (.inl ⟨by rw [hcr]; exact h1, rfl, rfl⟩) (Nat.le_refl _) ca cb db da hs
        · refine go _ 1 (.inr (.inl ⟨by rw [hcr]; exact h1, by omega, rfl, rfl⟩)) (Nat.le_refl _) ?_ ?_ ?_ ?_ fun j ja jb => ?_
          · rw [add_ne (Ne.symm hra)]; exact ca
          · rw [add_ne (Ne.symm hrb)]; exact cb
          · rw [add_ne (Ne.symm hrb)]; exact db
          · rw [add_ne (Ne.symm hra)]; exact da
          · unfold addS; rw [hs j ja jb]
        · by_cases hzb : z = b
          · subst hzb
            have he : addS (delS c a) r = addS (delS d z) r := by
              have e3 : delS c a = delS d z := by
                funext j
                by_cases hja : j = a
                · rw [hja, del_eq, del_ne hab, da]
                · by_cases hjb : j = z
                  · rw [hjb, del_eq, del_ne (fun e => hab e.symm), cb]
                  · rw [del_ne hja, del_ne hjb, hs j hja hjb]
              rw [e3]
            exact ⟨m, Nat.le_refl _, _, 1, m1, .inr (.inr ⟨by rw [hcr]; exact h1, by omega, a, ca, rfl, rfl⟩), he ▸ hp, hm⟩
          · have hza : z ≠ a := fun e => by rw [e, da] at hz; cases hz
            refine go _ 1 (.inr (.inr ⟨by rw [hcr]; exact h1, by omega, z, by rw [hs z hza hzb]; exact hz, rfl, rfl⟩)) (Nat.le_refl _) ?_ ?_ ?_ ?_ fun j ja jb => ?_
            · rw [add_ne (Ne.symm hra), del_ne (Ne.symm hza)]; exact ca
            · rw [add_ne (Ne.symm hrb), del_ne (Ne.symm hzb)]; exact cb
            · rw [add_ne (Ne.symm hrb), del_ne (Ne.symm hzb)]; exact db
            · rw [add_ne (Ne.symm hra), del_ne (Ne.symm hza)]; exact da
            · unfold addS delS; rw [hs j ja jb]

/-- the least -/
def Least (p N : Nat) (rs : List Nat) (s : Sset) (g : Nat) : Prop := Pl p N rs s g ∧ ∀ m, Pl p N rs s m → g ≤ m
theorem least_nil (s : Sset) : Least p N [] s 0 := ⟨rfl, fun m _ => Nat.zero_le _⟩
theorem least_hit {r : Nat} {rs : List Nat} {s : Sset} {g : Nat} (h : s r = true) (hg : Least p N rs s g) : Least p N (r :: rs) s g := by
  refine ⟨⟨s, 0, g, .inl ⟨h, rfl, rfl⟩, hg.1, rfl⟩, ?_⟩
  rintro m ⟨s', k, m1, hs, hp, rfl⟩
  rcases hs with ⟨_, rfl, rfl⟩ | ⟨h1, _⟩ | ⟨h1, _⟩
  · exact hg.2 _ hp
  · rw [h] at h1; cases h1
  · rw [h] at h1; cases h1
theorem least_room {r : Nat} {rs : List Nat} {s : Sset} {g : Nat} (h : s r = false) (hc : cnt s N < p) (hg : Least p N rs (addS s r) g) : Least p N (r :: rs) s (g + 1) := by
  refine ⟨⟨_, 1, g, .inr (.inl ⟨h, hc, rfl, rfl⟩), hg.1, rfl⟩, ?_⟩
  rintro m ⟨s', k, m1, hs, hp, rfl⟩
  rcases hs with ⟨h1, _⟩ | ⟨_, _, rfl, rfl⟩ | ⟨_, h1, _⟩
  · rw [h] at h1; cases h1
  · have := hg.2 _ hp; omega
  · exact absurd hc h1
theorem least_out {r : Nat} {rs : List Nat} {s : Sset} {g x : Nat} (hr : ∀ y ∈ r :: rs, y < N) (hS : SOK p N s) (h : s r = false) (hc : ¬ cnt s N < p) (hx : s x = true) (hf : ∀ y, s y = true → soon y rs ≤ soon x rs)
    (hg : Least p N rs (addS (delS s x) r) g) : Least p N (r :: rs) s (g + 1) := by
  have hrN := hr r (by simp)
  have hrs : ∀ y ∈ rs, y < N := fun y hy => hr y (by simp [hy])
  refine ⟨⟨_, 1, g, .inr (.inr ⟨h, hc, x, hx, rfl, rfl⟩), hg.1, rfl⟩, ?_⟩
  rintro m ⟨s', k, m1, hs, hp, rfl⟩
  have hs0 := hs
  rcases hs with ⟨h1, _⟩ | ⟨_, h1, _⟩ | ⟨_, _, y, hy, rfl, rfl⟩
  · rw [h] at h1; cases h1
  · exact absurd h1 hc
  · by_cases hxy : y = x
    · subst hxy
      have := hg.2 _ hp; omega
    · have hrx : r ≠ x := fun e => by rw [e, hx] at h; cases h
      have hry : r ≠ y := fun e => by rw [e, hy] at h; cases h
      obtain ⟨m', a, b⟩ := sooner rs (addS (delS s x) r) (addS (delS s y) r) y x m1 hrs (stp_ok hrN hS (.inr (.inr ⟨h, hc, x, hx, rfl, rfl⟩))) (stp_ok hrN hS hs0) hxy
        (by rw [add_ne (Ne.symm hry), del_ne hxy]; exact hy) (by rw [add_ne (Ne.symm hrx), del_eq]) (by rw [add_ne (Ne.symm hrx), del_ne (Ne.symm hxy)]; exact hx) (by rw [add_ne (Ne.symm hry), del_eq])
        (fun j jy jx => by
          by_cases hjr : j = r
          · rw [hjr, add_eq, add_eq]
          · rw [add_ne hjr, add_ne hjr, del_ne jx, del_ne jy]) (hf y hy) hp
      have := hg.2 _ b; omega

/-! the other way round: what is reached from the beginning on -/
def Rc (p N : Nat) (rs : List Nat) : Nat → Sset → Nat → Prop
  | 0, s, m => s = (fun _ => false) ∧ m = 0
  | t + 1, s', m' => ∃ s c m, Rc p N rs t s m ∧ Req p N (rs.getD t 0) s s' c ∧ m' = m + c
theorem drop_get {rs : List Nat} {t : Nat} (h : t < rs.length) : rs.drop t = rs.getD t 0 :: rs.drop (t + 1) := by
  rw [List.drop_eq_getElem_cons h]; simp [List.getD, h]
theorem pl_of_rc {rs : List Nat} : ∀ (t : Nat) (s : Sset) (m m' : Nat), t ≤ rs.length → Rc p N rs t s m → Pl p N (rs.drop t) s m' → Pl p N rs (fun _ => false) (m + m')
  | 0, s, m, m', _, h, hp => by
    obtain ⟨rfl, rfl⟩ := h
    rw [Nat.zero_add]; exact hp
  | t + 1, s, m, m', ht, ⟨s0, c, m0, h1, h2, h3⟩, hp => by
    have := pl_of_rc t s0 m0 (m' + c) (by omega) h1 (by rw [drop_get (by omega)]; exact ⟨s, c, m', h2, hp, rfl⟩)
    rw [h3, show m0 + c + m' = m0 + (m' + c) by omega]; exact this
theorem rc_of_pl {rs : List Nat} : ∀ (k t : Nat) (s : Sset) (m m' : Nat), t + k = rs.length → Rc p N rs t s m → Pl p N (rs.drop t) s m' → ∃ s', Rc p N rs rs.length s' (m + m')
  | 0, t, s, m, m', ht, h, hp => by
    have : t = rs.length := by omega
    subst this
    rw [List.drop_length] at hp
    have hp : m' = 0 := hp
    exact ⟨s, by rw [hp, Nat.add_zero]; exact h⟩
  | k + 1, t, s, m, m', ht, h, hp => by
    rw [drop_get (by omega)] at hp
    obtain ⟨s', c, m1, h1, h2, h3⟩ := hp
    obtain ⟨e, he⟩ := rc_of_pl k (t + 1) s' (m + c) m1 (by omega) ⟨s, c, m, h, h1, rfl⟩ h2
    exact ⟨e, by rw [h3, show m + (m1 + c) = m + c + m1 by omega]; exact he⟩
theorem rc_ok {rs : List Nat} (hr : ∀ y ∈ rs, y < N) : ∀ (t : Nat) (s : Sset) (m : Nat), t ≤ rs.length → Rc p N rs t s m → SOK p N s ∧ m ≤ t
  | 0, s, m, _, h => by
    obtain ⟨rfl, rfl⟩ := h
    have h5 : ∀ n, cnt (fun _ => false) n = 0 := fun n => by
      induction n with
      | zero => rfl
      | succ n ih => simp [cnt, ih]
    exact ⟨⟨by rw [h5]; exact Nat.zero_le _, fun i hi => by cases hi⟩, Nat.le_refl _⟩
  | t + 1, s, m, ht, ⟨s0, c, m0, h1, h2, h3⟩ => by
    obtain ⟨a, b⟩ := rc_ok hr t s0 m0 (by omega) h1
    have hm : rs.getD t 0 ∈ rs := by rw [show rs.getD t 0 = rs[t]'(by omega) by simp [List.getD, show t < rs.length by omega]]; exact List.getElem_mem _
    refine ⟨stp_ok (hr _ hm) a h2, ?_⟩
    have : c ≤ 1 := by rcases h2 with ⟨_, _, h⟩ | ⟨_, _, _, h⟩ | ⟨_, _, _, _, _, h⟩ <;> omega
    omega
end Go.Ab
