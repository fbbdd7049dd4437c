/- Registers that are freed one after the other: what stays are pure circles. -/
import Derived.Test.YtmndifhjmbiodaaLib
namespace Go.Ab

theorem sub_all : ∀ (l r : List Int), l.Nodup → (∀ x ∈ l, x ∈ r) → r.length ≤ l.length → ∀ x ∈ r, x ∈ l
  | [], r, _, _, h, x, hx => by
    cases r with
    | nil => cases hx
    | cons y r => simp at h
  | a :: l, r, hn, hs, h, x, hx => by
    have hm : a ∈ r := hs a (by simp)
    have hn' := List.nodup_cons.1 hn
    by_cases hxa : x = a
    · subst hxa; simp
    · have hl : (r.erase a).length ≤ l.length := by rw [List.length_erase_of_mem hm]; simp at h; omega
      have := sub_all l (r.erase a) hn'.2 (fun y hy => by
        have hya : y ≠ a := fun he => by subst he; exact hn'.1 hy
        exact (List.mem_erase_of_ne hya).2 (hs y (by simp [hy]))) hl x ((List.mem_erase_of_ne hxa).2 hx)
      simp [this]

/-- each of R is met from R: then R goes into R, and one meets each -/
theorem onto_self {R : List Int} (hR : R.Nodup) {F : Int → Int} (h : ∀ c ∈ R, ∃ j ∈ R, F j = c) : (∀ j ∈ R, F j ∈ R) ∧ ∀ j ∈ R, ∀ k ∈ R, F j = F k → j = k := by
  have : ∃ g : Int → Int, ∀ c ∈ R, g c ∈ R ∧ F (g c) = c := by
    refine ⟨fun c => open Classical in if hc : c ∈ R then Classical.choose (h c hc) else 0, fun c hc => ?_⟩
    simp only [dif_pos hc]
    exact Classical.choose_spec (h c hc)
  obtain ⟨g, hg⟩ := this
  have hgn : (R.map g).Nodup := by
    rw [List.nodup_iff_pairwise_ne, List.pairwise_map]
    exact (List.nodup_iff_pairwise_ne.1 hR).imp_of_mem fun ha hb hab he => hab (by rw [← (hg _ ha).2, ← (hg _ hb).2, he])
  have hsub := sub_all (R.map g) R hgn (fun x hx => by
    obtain ⟨c, hc, rfl⟩ := List.mem_map.1 hx
    exact (hg c hc).1) (by simp)
  constructor
  · intro j hj
    obtain ⟨c, hc, rfl⟩ := List.mem_map.1 (hsub j hj)
    rw [(hg c hc).2]; exact hc
  · intro j hj k hk he
    obtain ⟨c, hc, rfl⟩ := List.mem_map.1 (hsub j hj)
    obtain ⟨d, hd, rfl⟩ := List.mem_map.1 (hsub k hk)
    rw [(hg c hc).2, (hg d hd).2] at he
    rw [he]

def it (f : Int → Int) : Nat → Int → Int
  | 0, x => x
  | k + 1, x => it f k (f x)
theorem it_succ (f : Int → Int) : ∀ k x, it f (k + 1) x = f (it f k x)
  | 0, _ => rfl
  | k + 1, x => it_succ f k (f x)
theorem it_add (f : Int → Int) : ∀ a b x, it f (a + b) x = it f a (it f b x)
  | a, 0, x => rfl
  | a, b + 1, x => by rw [show a + (b + 1) = (a + b) + 1 from rfl]; exact it_add f a b (f x)

/-- how many others read a register -/
def readers (F : List Int) (c : Int) : Nat := cnt (fun j => decide ((j : Int) ≠ c ∧ F.getD j 0 = c)) F.length
theorem readers_pos {F : List Int} {c : Int} (h : 0 < readers F c) : ∃ j : Nat, j < F.length ∧ (j : Int) ≠ c ∧ F.getD j 0 = c := by
  have key : ∀ (p : Nat → Bool) (n : Nat), 0 < cnt p n → ∃ j, j < n ∧ p j = true := by
    intro p n
    induction n with
    | zero => intro h; simp [cnt] at h
    | succ n ih =>
      intro h
      simp only [cnt] at h
      cases hp : p n with
      | true => exact ⟨n, by omega, hp⟩
      | false =>
        rw [hp] at h
        obtain ⟨j, h1, h2⟩ := ih (by simpa using h)
        exact ⟨j, by omega, h2⟩
  obtain ⟨j, h1, h2⟩ := key _ _ h
  have := of_decide_eq_true h2
  exact ⟨j, h1, this.1, this.2⟩
theorem readers_none {F : List Int} {c : Int} (h : ∀ j : Nat, j < F.length → (j : Int) ≠ c → F.getD j 0 ≠ c) : readers F c = 0 := by
  have := cnt_le (p := fun j => decide ((j : Int) ≠ c ∧ F.getD j 0 = c)) (q := fun _ => false) (n := F.length) fun k hk hp => by
    have := of_decide_eq_true hp
    exact absurd this.2 (h k hk this.1)
  have hz : ∀ n, cnt (fun _ => false) n = 0 := by
    intro n; induction n with
    | zero => rfl
    | succ n ih => simp [cnt, ih]
  rw [hz] at this
  unfold readers; omega

/-- a register on a pure circle: each on it is read once -/
structure Circ (n : Nat) (f : Int → Int) (c : Int) : Prop where
  inn : ∀ m, 0 ≤ it f m c ∧ it f m c < n
  move : ∀ m, f (it f m c) ≠ it f m c
  back : ∃ k, 0 < k ∧ it f k c = c
  one : ∀ m (s : Int), 0 ≤ s → s < n → f s = it f (m + 1) c → s = it f m c

theorem Circ.shift {n : Nat} {f : Int → Int} {c : Int} (h : Circ n f c) : Circ n f (f c) := by
  refine ⟨fun m => h.inn (m + 1), fun m => h.move (m + 1), ?_, fun m s s0 s1 hs => h.one (m + 1) s s0 s1 hs⟩
  obtain ⟨k, hk, hb⟩ := h.back
  exact ⟨k, hk, by show it f (k + 1) c = f c; rw [it_succ, hb]⟩
theorem Circ.shifts {n : Nat} {f : Int → Int} {c : Int} (h : Circ n f c) : ∀ k, Circ n f (it f k c)
  | 0 => h
  | k + 1 => by rw [it_succ]; exact (h.shifts k).shift

/-- what is so of the registers while they are freed -/
structure Freed (n : Nat) (f : Int → Int) (F U : List Int) : Prop where
  lenF : F.length = n
  lenU : U.length = n
  rng : ∀ i : Nat, i < n → 0 ≤ F.getD i 0 ∧ F.getD i 0 < n
  keep : ∀ i : Nat, i < n → F.getD i 0 ≠ i → F.getD i 0 = f i ∨ F.getD (F.getD i 0).toNat 0 = F.getD i 0
  uses : ∀ c : Nat, c < n → F.getD c 0 ≠ c → U.getD c 0 = (readers F c : Nat)
  lone : ∀ (s c : Nat), s < n → c < n → F.getD c 0 ≠ c → f s = c → s ≠ c → F.getD s 0 ≠ c → ∀ j : Nat, j < n → j ≠ c → F.getD j 0 ≠ c
  pure : ∀ c : Nat, c < n → Circ n f c → F.getD c 0 = f c

/-- the registers that are not done -/
def undone (F : List Int) : List Int := ((List.range F.length).map Int.ofNat).filter fun i => decide (F.getD i.toNat 0 ≠ i)
theorem undone_mem {F : List Int} {i : Int} : i ∈ undone F ↔ 0 ≤ i ∧ i < F.length ∧ F.getD i.toNat 0 ≠ i := by
  unfold undone
  rw [List.mem_filter, List.mem_map]
  constructor
  · rintro ⟨⟨k, hk, rfl⟩, h⟩
    have := List.mem_range.1 hk
    have h := of_decide_eq_true h
    exact ⟨Int.natCast_nonneg k, by simpa using this, h⟩
  · rintro ⟨h0, h1, h2⟩
    exact ⟨⟨i.toNat, List.mem_range.2 (by omega), by show ((i.toNat : Nat) : Int) = i; omega⟩, decide_eq_true h2⟩
theorem undone_nodup (F : List Int) : (undone F).Nodup := by
  unfold undone
  refine List.Nodup.sublist List.filter_sublist ?_
  rw [List.nodup_iff_pairwise_ne, List.pairwise_map]
  exact (List.nodup_iff_pairwise_ne.1 List.nodup_range).imp fun h he => h (Int.ofNat.inj he)

/-- at the end: one goes round among the registers that are not done -/
theorem Freed.rounds {n : Nat} {f : Int → Int} {F U : List Int} (h : Freed n f F U) (he : ∀ i : Nat, i < n → F.getD i 0 ≠ i → U.getD i 0 ≠ 0) :
    (∀ j ∈ undone F, F.getD j.toNat 0 ∈ undone F) ∧ ∀ j ∈ undone F, ∀ k ∈ undone F, F.getD j.toNat 0 = F.getD k.toNat 0 → j = k := by
  have hl := h.lenF
  refine onto_self (undone_nodup F) (F := fun j => F.getD j.toNat 0) fun c hc => ?_
  obtain ⟨h0, h1, h2⟩ := undone_mem.1 hc
  have hu := h.uses c.toNat (by omega) (by rw [show ((c.toNat : Nat) : Int) = c by omega]; exact h2)
  have hne := he c.toNat (by omega) (by rw [show ((c.toNat : Nat) : Int) = c by omega]; exact h2)
  rw [show ((c.toNat : Nat) : Int) = c by omega] at hu
  obtain ⟨j, j1, j2, j3⟩ := readers_pos (F := F) (c := c) (by omega)
  exact ⟨j, undone_mem.2 ⟨by omega, by omega, by rw [Int.toNat_natCast, j3]; exact fun e => j2 e.symm⟩, by rw [Int.toNat_natCast]; exact j3⟩

theorem two_alike {n : Nat} {g : Nat → Int} (h : ∀ k, 0 ≤ g k ∧ g k < n) : ∃ a b, a < b ∧ g a = g b := Classical.byContradiction fun hno => by
  have hn : ((List.range (n + 1)).map g).Nodup := by
    rw [List.nodup_iff_pairwise_ne, List.pairwise_map]
    refine List.pairwise_lt_range.imp fun {a b} hab he => hno ⟨a, b, hab, he⟩
  have := nodup_fit n _ hn fun x hx => by
    obtain ⟨k, _, rfl⟩ := List.mem_map.1 hx
    exact h k
  simp at this
  omega

theorem Freed.end_pure {n : Nat} {f : Int → Int} {F U : List Int} (h : Freed n f F U) (he : ∀ i : Nat, i < n → F.getD i 0 ≠ i → U.getD i 0 ≠ 0) {c : Int} (hc : c ∈ undone F) : Circ n f c := by
  have hl := h.lenF
  obtain ⟨r1, r2⟩ := h.rounds he
  have hf : ∀ d ∈ undone F, F.getD d.toNat 0 = f d := fun d hd => by
    obtain ⟨d0, d1, d2⟩ := undone_mem.1 hd
    have e : ((d.toNat : Nat) : Int) = d := by omega
    have := h.keep d.toNat (by omega) (by rw [e]; exact d2)
    rw [e] at this
    rcases this with h1 | h1
    · exact h1
    · exact absurd h1 (undone_mem.1 (r1 d hd)).2.2
  have hin : ∀ m, it f m c ∈ undone F := fun m => by
    induction m with
    | zero => exact hc
    | succ m ih => rw [it_succ, ← hf _ ih]; exact r1 _ ih
  have inj : ∀ a ∈ undone F, ∀ b ∈ undone F, f a = f b → a = b := fun a ha b hb e => r2 a ha b hb (by rw [hf a ha, hf b hb, e])
  refine ⟨fun m => ?_, fun m => ?_, ?_, fun m s s0 s1 hs => ?_⟩
  · obtain ⟨a, b, _⟩ := undone_mem.1 (hin m); omega
  · have := undone_mem.1 (hin m)
    rw [← hf _ (hin m)]; exact this.2.2
  · obtain ⟨a, b, hab, e⟩ := two_alike (n := n) (g := fun k => it f k c) fun k => by
      obtain ⟨a, b, _⟩ := undone_mem.1 (hin k); omega
    have key : ∀ a b, a < b → it f a c = it f b c → it f (b - a) c = c := by
      intro a
      induction a with
      | zero => intro b _ e; simpa [it] using e.symm
      | succ a ih =>
        intro b hb e
        obtain ⟨b', rfl⟩ : ∃ b', b = b' + 1 := ⟨b - 1, by omega⟩
        rw [it_succ, it_succ] at e
        have := ih b' (by omega) (inj _ (hin a) _ (hin b') e)
        rwa [show b' + 1 - (a + 1) = b' - a by omega]
    exact ⟨b - a, by omega, key a b hab e⟩
  · rw [it_succ] at hs
    by_cases hsu : s ∈ undone F
    · exact inj s hsu _ (hin m) hs
    · exfalso
      have hE := hin (m + 1)
      rw [it_succ] at hE
      obtain ⟨d0, d1, d2⟩ := undone_mem.1 (hin m)
      obtain ⟨e0, e1, e2⟩ := undone_mem.1 hE
      have hse : s ≠ f (it f m c) := fun e => hsu (by rw [e]; exact hE)
      have hFs : F.getD s.toNat 0 = s := Classical.byContradiction fun hne => hsu (undone_mem.2 ⟨s0, by omega, hne⟩)
      have := h.lone s.toNat (f (it f m c)).toNat (by omega) (by omega) (by rw [show (((f (it f m c)).toNat : Nat) : Int) = f (it f m c) by omega]; exact e2) (by rw [show ((s.toNat : Nat) : Int) = s by omega, hs]; omega) (by omega) (by rw [hFs]; omega) (it f m c).toNat (by omega) (fun e => by
        have := hf _ (hin m)
        have h3 : it f m c = f (it f m c) := by omega
        rw [this, ← h3] at d2; exact d2 rfl)
      rw [hf _ (hin m)] at this
      omega

theorem readers_congr {F G : List Int} {c : Int} (hl : F.length = G.length) (h : ∀ j : Nat, j < F.length → (j : Int) ≠ c → (F.getD j 0 = c ↔ G.getD j 0 = c)) : readers F c = readers G c := by
  unfold readers
  rw [← hl]
  refine cnt_congr fun j hj => ?_
  rw [decide_eq_decide]
  constructor
  · rintro ⟨a, b⟩; exact ⟨a, (h j hj a).1 b⟩
  · rintro ⟨a, b⟩; exact ⟨a, (h j hj a).2 b⟩

/-- one register is freed: those that read what it read now read it -/
theorem Freed.step {n : Nat} {f : Int → Int} {F U F' U' : List Int} (h : Freed n f F U) {i : Nat} (hi : i < n) (hm : F.getD i 0 ≠ i) (hu : U.getD i 0 = 0) (lF : F'.length = n) (lU : U'.length = n)
    (e1 : F'.getD i 0 = i) (e2 : ∀ t : Nat, t < n → t ≠ i → F'.getD t 0 = if F.getD t 0 = F.getD i 0 ∧ (t : Int) ≠ F.getD i 0 then (i : Int) else F.getD t 0)
    (u1 : ∀ c : Nat, c < n → (c : Int) ≠ F.getD i 0 → U'.getD c 0 = U.getD c 0) (u2 : F.getD (F.getD i 0).toNat 0 ≠ F.getD i 0 → U'.getD (F.getD i 0).toNat 0 = 0) : Freed n f F' U' := by
  have hr := h.rng
  have hl := h.lenF
  have hri := hr i hi
  have hno : ∀ j : Nat, j < n → j ≠ i → F.getD j 0 ≠ i := fun j hj hji e => by
    have h1 := h.uses i hi hm
    have : 0 < readers F i := by
      have h2 := cnt_lt (p := fun _ => false) (q := fun j => decide ((j : Int) ≠ i ∧ F.getD j 0 = i)) (n := F.length) (fun _ _ h => by cases h) ⟨j, by omega, rfl, decide_eq_true ⟨by omega, e⟩⟩
      unfold readers; omega
    omega
  -- who is not done after is not done before
  have back : ∀ t : Nat, t < n → F'.getD t 0 ≠ t → t ≠ i ∧ F.getD t 0 ≠ t := fun t ht hne => by
    have hti : t ≠ i := fun e => by subst e; exact hne e1
    refine ⟨hti, fun e => ?_⟩
    have := e2 t ht hti
    rw [if_neg (by rw [e]; exact fun hc => hc.2 hc.1), e] at this
    exact hne this
  -- for one that is not done after, the readers are as before, or none
  have rd : ∀ c : Nat, c < n → F'.getD c 0 ≠ c → (c : Int) ≠ F.getD i 0 → ∀ j : Nat, j < n → j ≠ c → (F'.getD j 0 = c ↔ F.getD j 0 = c) := fun c hc hcn hco j hj hjc => by
    obtain ⟨hci, _⟩ := back c hc hcn
    by_cases hji : j = i
    · subst hji; rw [e1]; constructor
      · intro e; omega
      · intro e; exact absurd e.symm hco
    · rw [e2 j hj hji]
      split
      · rename_i hcond
        constructor
        · intro e; omega
        · intro e; exact absurd (e.symm.trans hcond.1) hco
      · rfl
  have rd0 : ∀ c : Nat, c < n → F'.getD c 0 ≠ c → (c : Int) = F.getD i 0 → ∀ j : Nat, j < n → j ≠ c → F'.getD j 0 ≠ c := fun c hc hcn hco j hj hjc e => by
    obtain ⟨hci, _⟩ := back c hc hcn
    by_cases hji : j = i
    · subst hji; rw [e1] at e; omega
    · rw [e2 j hj hji] at e
      split at e
      · omega
      · rename_i hcond
        exact hcond ⟨by omega, by omega⟩
  refine ⟨lF, lU, fun t ht => ?_, fun t ht hne => ?_, fun c hc hne => ?_, fun s c hs hc hcn hfs hsc hsn j hj hjc => ?_, fun c hc hp => ?_⟩
  · by_cases hti : t = i
    · subst hti; rw [e1]; omega
    · rw [e2 t ht hti]; split
      · omega
      · exact hr t ht
  · obtain ⟨hti, htn⟩ := back t ht hne
    rw [e2 t ht hti]
    split
    · exact .inr (by rw [Int.toNat_natCast]; exact e1)
    · have hk := h.keep t ht htn
      rcases hk with hk | hk
      · exact .inl hk
      · have hb := hr t ht
        by_cases hdi : (F.getD t 0).toNat = i
        · exact .inr (by rw [hdi, e1]; omega)
        · have h3 := e2 (F.getD t 0).toNat (by omega) hdi
          rw [if_neg (by rw [hk]; intro hc; exact hc.2 (by omega)), hk] at h3
          exact .inr h3
  · by_cases hco : (c : Int) = F.getD i 0
    · have hz : readers F' c = 0 := readers_none fun j hj hjc => rd0 c hc hne hco j (by omega) (by omega)
      have := u2 (by rw [← hco, Int.toNat_natCast]; exact (back c hc hne).2)
      rw [← hco, Int.toNat_natCast] at this
      rw [this, hz]; rfl
    · rw [u1 c hc hco, h.uses c hc (back c hc hne).2, readers_congr (F := F') (G := F) (by omega) fun j hj hjc => rd c hc hne hco j (by omega) (by omega)]
  · by_cases hco : (c : Int) = F.getD i 0
    · exact rd0 c hc hcn hco j hj hjc
    · have hk := rd c hc hcn hco
      intro e
      exact h.lone s c hs hc (back c hc hcn).2 hfs hsc (fun e2 => hsn ((hk s hs hsc).2 e2)) j hj hjc ((hk j hj hjc).1 e)
  · have h0 := h.pure c hc hp
    by_cases hci : c = i
    · subst hci
      obtain ⟨k, hk, hb⟩ := hp.back
      obtain ⟨k', rfl⟩ : ∃ k', k = k' + 1 := ⟨k - 1, by omega⟩
      rw [it_succ] at hb
      have hin := hp.inn k'
      have hmv := hp.move k'
      rw [hb] at hmv
      have h1 := h.pure (it f k' c).toNat (by omega) (by rw [show (((it f k' c).toNat : Nat) : Int) = it f k' c by omega]; exact hp.shifts k')
      rw [show (((it f k' c).toNat : Nat) : Int) = it f k' c by omega, hb] at h1
      exact absurd h1 (hno (it f k' c).toNat (by omega) (by omega))
    · rw [e2 c hc hci]
      split
      · rename_i hcond
        exfalso
        have h1 := hp.inn 1
        have hd := h.pure (f c).toNat (by have : it f 1 c = f c := rfl; omega) (by have : it f 1 c = f c := rfl; rw [show (((f c).toNat : Nat) : Int) = f c by omega]; exact hp.shifts 1)
        have e : it f 1 c = f c := rfl
        rw [show (((f c).toNat : Nat) : Int) = f c by omega] at hd
        have hmv := hp.move 1
        rw [e] at hmv
        rcases h.keep i hi hm with hk | hk
        · have := hp.one 0 i (by omega) (by omega) (by show f i = f c; rw [← hk, ← hcond.1, h0])
          have e0 : it f 0 (c : Int) = c := rfl
          omega
        · rw [← hcond.1, h0] at hk
          rw [hd] at hk
          exact hmv hk
      · exact h0

theorem it_back {f : Int → Int} {p : Nat} {c : Int} (h : it f p c = c) : ∀ q, it f (p * q) c = c
  | 0 => rfl
  | q + 1 => by rw [Nat.mul_succ, it_add, h, it_back h q]

theorem it_ret {f : Int → Int} {p : Nat} {c : Int} (hp : 0 < p) (h : it f p c = c) (k : Nat) : ∃ m, it f m (it f k c) = c := by
  refine ⟨p * k - k, ?_⟩
  have := Nat.le_mul_of_pos_left k hp
  rw [← it_add, Nat.sub_add_cancel this, it_back h]

theorem Circ.ret {n : Nat} {f : Int → Int} {c : Int} (h : Circ n f c) (k : Nat) : ∃ m, it f m (it f k c) = c := by
  obtain ⟨p, hp, hb⟩ := h.back
  exact it_ret hp hb k

/-- the least one of a pure circle -/
def Head (n : Nat) (f : Int → Int) (r : Int) : Prop := Circ n f r ∧ ∀ m, r ≤ it f m r
/-- on a pure circle with none below t -/
def Above (n : Nat) (f : Int → Int) (t c : Int) : Prop := Circ n f c ∧ ∀ m, t ≤ it f m c

theorem Above.shift {n : Nat} {f : Int → Int} {t c : Int} (h : Above n f t c) : Above n f t (f c) := ⟨h.1.shift, fun m => h.2 (m + 1)⟩
theorem Above.shifts {n : Nat} {f : Int → Int} {t c : Int} (h : Above n f t c) : ∀ m, Above n f t (it f m c)
  | 0 => h
  | m + 1 => by rw [it_succ]; exact (h.shifts m).shift

theorem Above.next {n : Nat} {f : Int → Int} {t c : Int} : Above n f (t + 1) c ↔ Above n f t c ∧ ∀ m, it f m c ≠ t := by
  constructor
  · intro h
    refine ⟨⟨h.1, fun m => ?_⟩, fun m => ?_⟩
    · have := h.2 m; omega
    · have := h.2 m; omega
  · intro h
    refine ⟨h.1.1, fun m => ?_⟩
    have := h.1.2 m
    have := h.2 m
    omega

/-- the registers from which one comes to t lie on its circle -/
theorem Above.on {n : Nat} {f : Int → Int} {t c : Int} (h : Above n f t c) {m : Nat} (hm : it f m c = t) : Above n f t t ∧ ∃ k, c = it f k t := by
  constructor
  · have := h.shifts m
    rwa [hm] at this
  · obtain ⟨k, hk⟩ := h.1.ret m
    rw [hm] at hk
    exact ⟨k, hk.symm⟩

theorem Above.head {n : Nat} {f : Int → Int} {t : Int} : Above n f t t ↔ Head n f t := Iff.rfl

/-- the way back to r is no longer than there are registers -/
theorem back_short {n : Nat} {f : Int → Int} {r : Int} (hin : ∀ m, 0 ≤ it f m r ∧ it f m r < n) {p : Nat} (hp : 0 < p) (hb : it f p r = r) (hl : ∀ q, 0 < q → q < p → it f q r ≠ r) : p ≤ n := Classical.byContradiction fun hno => by
  have hn : ((List.range (n + 1)).map fun k => it f k r).Nodup := by
    rw [List.nodup_iff_pairwise_ne, List.pairwise_map]
    refine (List.nodup_iff_pairwise_ne.1 List.nodup_range).imp_of_mem fun {a b} ha hb' hab he => ?_
    have ha := List.mem_range.1 ha
    have hb' := List.mem_range.1 hb'
    have key : ∀ a b, a < b → b < n + 1 → it f a r = it f b r → False := fun a b hab hbn he => by
      have h1 : it f (p - a) (it f a r) = r := by rw [← it_add, show p - a + a = p by omega, hb]
      rw [he, ← it_add, show p - a + b = (b - a) + p by omega, it_add, hb] at h1
      exact hl (b - a) (by omega) (by omega) h1
    rcases Nat.lt_or_gt_of_ne hab with h | h
    · exact key a b h hb' he
    · exact key b a h ha he.symm
  have := nodup_fit n _ hn fun x hx => by
    obtain ⟨k, _, rfl⟩ := List.mem_map.1 hx
    exact hin k
  simp at this
  omega

theorem it_dist {f : Int → Int} {r : Int} {p : Nat} (hb : it f p r = r) (hl : ∀ q, 0 < q → q < p → it f q r ≠ r) {a b : Nat} (hab : a < b) (hbp : b < p) : it f a r ≠ it f b r := fun he => by
  have h1 : it f (p - b) (it f b r) = r := by rw [← it_add, show p - b + b = p by omega, hb]
  rw [← he, ← it_add] at h1
  exact hl (p - b + a) (by omega) (by omega) h1

/-- a least way back -/
theorem back_least {f : Int → Int} {r : Int} : ∀ (p : Nat), 0 < p → it f p r = r → ∃ q, 0 < q ∧ it f q r = r ∧ ∀ s, 0 < s → s < q → it f s r ≠ r := by
  intro p
  induction p using Nat.strongRecOn with
  | _ p ih =>
    intro hp hb
    by_cases h : ∃ s, 0 < s ∧ s < p ∧ it f s r = r
    · obtain ⟨s, s0, s1, s2⟩ := h
      exact ih s s1 s0 s2
    · exact ⟨p, hp, hb, fun s s0 s1 he => h ⟨s, s0, s1, he⟩⟩

/-- in a circle each is met early -/
theorem it_mod {f : Int → Int} {p : Nat} {r : Int} (hp : 0 < p) (hb : it f p r = r) (m : Nat) : it f m r = it f (m % p) r := by
  conv => lhs; rw [← Nat.mod_add_div m p]
  rw [it_add, it_back hb]

theorem cnt_flip {p q : Nat → Bool} {i : Nat} (hp : p i = true) (hq : q i = false) : ∀ {n : Nat}, (∀ j, j < n → j ≠ i → p j = q j) → i < n → cnt p n = cnt q n + 1
  | 0, _, h => by omega
  | n + 1, h, hi => by
    simp only [cnt]
    by_cases hin : i = n
    · subst hin
      rw [cnt_congr (p := p) (q := q) fun k hk => h k (by omega) (by omega), hp, hq]; simp
    · rw [cnt_flip hp hq (n := n) (fun j hj hne => h j (by omega) hne) (by omega), h n (by omega) (by omega)]; omega
theorem cnt_zero (n : Nat) : cnt (fun _ => false) n = 0 := by
  induction n with
  | zero => rfl
  | succ n ih => simp [cnt, ih]
theorem cnt_one {p : Nat → Bool} {n a : Nat} (ha : a < n) (hp : p a = true) (hu : ∀ b, b < n → p b = true → b = a) : cnt p n = 1 := by
  rw [cnt_flip (q := fun _ => false) hp rfl (fun j hj hne => by
    cases h : p j with
    | false => rfl
    | true => exact absurd (hu j hj h) hne) ha, cnt_zero]
theorem cnt_uniq {p : Nat → Bool} {n a b : Nat} (h : cnt p n ≤ 1) (ha : a < n) (hb : b < n) (hpa : p a = true) (hpb : p b = true) : b = a := Classical.byContradiction fun hne => by
  have h1 := cnt_flip (p := p) (q := fun j => p j && decide (j ≠ a)) (i := a) (n := n) hpa (by simp) (fun j hj hja => by simp [hja]) ha
  have h2 := cnt_lt (p := fun _ => false) (q := fun j => p j && decide (j ≠ a)) (n := n) (fun _ _ h => by cases h) ⟨b, hb, rfl, by simp [hpb, hne]⟩
  omega

/-- how many read a register, itself too -/
def users (f : Int → Int) (n : Nat) (c : Int) : Nat := cnt (fun s => decide (f s = c)) n

theorem head_iff {n : Nat} {f : Int → Int} {r : Int} (hin : ∀ m, 0 ≤ it f m r ∧ it f m r < n) {p : Nat} (hp : 0 < p) (hb : it f p r = r) (hl : ∀ q, 0 < q → q < p → it f q r ≠ r) :
    Head n f r ↔ (∀ m, 0 < m → m < p → r < it f m r) ∧ f r ≠ r ∧ ∀ m, m < n → users f n (it f m r) = 1 := by
  have hpn := back_short hin hp hb hl
  constructor
  · rintro ⟨hc, hm⟩
    refine ⟨fun m h0 h1 => ?_, hc.move 0, fun m _ => ?_⟩
    · have := hm m
      have := hl m h0 h1
      omega
    · have e : it f m r = it f (m + p - 1 + 1) r := by rw [show m + p - 1 + 1 = m + p by omega, it_add, hb]
      have hi := hc.inn (m + p - 1)
      rw [e]
      refine cnt_one (a := (it f (m + p - 1) r).toNat) (by omega) (decide_eq_true ?_) fun b hb2 h => ?_
      · rw [show (((it f (m + p - 1) r).toNat : Nat) : Int) = it f (m + p - 1) r by omega, it_succ]
      · have := hc.one (m + p - 1) b (by omega) (by omega) (of_decide_eq_true h)
        omega
  · rintro ⟨h1, h2, h3⟩
    refine ⟨⟨hin, fun m he => ?_, ⟨p, hp, hb⟩, fun m s s0 s1 hs => ?_⟩, fun m => ?_⟩
    · obtain ⟨j, hj⟩ := it_ret hp hb m
      have fix : ∀ j, it f j (it f m r) = it f m r := fun j => by
        induction j with
        | zero => rfl
        | succ j ih => rw [it_succ, ih, he]
      rw [fix j] at hj
      rw [hj] at he
      exact h2 he
    · have hu := h3 ((m + 1) % p) (Nat.lt_of_lt_of_le (Nat.mod_lt _ hp) hpn)
      rw [← it_mod hp hb] at hu
      have hi := hin m
      have := cnt_uniq (p := fun s : Nat => decide (f s = it f (m + 1) r)) (n := n) (a := (it f m r).toNat) (b := s.toNat) (Nat.le_of_eq hu) (by omega) (by omega) (decide_eq_true (by rw [show (((it f m r).toNat : Nat) : Int) = it f m r by omega, it_succ])) (decide_eq_true (by rw [show ((s.toNat : Nat) : Int) = s by omega, hs]))
      omega
    · rw [it_mod hp hb m]
      by_cases hz : m % p = 0
      · rw [hz]; exact Int.le_refl _
      · have := h1 (m % p) (by omega) (Nat.mod_lt _ hp)
        omega

theorem no_back {n : Nat} {f : Int → Int} {r : Int} (h : ∀ p, 0 < p → p ≤ n → it f p r ≠ r) (hin : ∀ m, 0 ≤ it f m r ∧ it f m r < n) : ¬ Head n f r := fun hh => by
  obtain ⟨p, hp, hb⟩ := hh.1.back
  obtain ⟨q, q0, q1, q2⟩ := back_least p hp hb
  exact h q q0 (back_short hin q0 q1 q2) q1

open Classical in
/-- how many pure circles there are whose least register is below t -/
noncomputable def heads (n : Nat) (f : Int → Int) (t : Nat) : Nat := cnt (fun r => decide (Head n f r)) t
theorem heads_yes {n : Nat} {f : Int → Int} {t : Nat} (h : Head n f t) : heads n f (t + 1) = heads n f t + 1 := by
  unfold heads; simp [cnt, h]
theorem heads_no {n : Nat} {f : Int → Int} {t : Nat} (h : ¬ Head n f t) : heads n f (t + 1) = heads n f t := by
  unfold heads; simp [cnt, h]
theorem heads_n (n : Nat) (f : Int → Int) (t : Nat) : heads n f t ≤ t := cnt_n _ _
/-- the circles whose registers are all at or above t are left -/
structure RestC (n : Nat) (f : Int → Int) (t : Int) (F : List Int) : Prop where
  len : F.length = n
  yes : ∀ c : Nat, c < n → Above n f t c → F.getD c 0 = f c
  no : ∀ c : Nat, c < n → ¬ Above n f t c → F.getD c 0 = c

theorem RestC.skip {n : Nat} {f : Int → Int} {t : Nat} {F : List Int} (h : RestC n f t F) (ht : t < n) (he : F.getD t 0 = t) : ¬ Head n f t ∧ RestC n f ((t : Int) + 1) F := by
  have hno : ¬ Above n f t t := fun ha => by
    have h1 := h.yes t ht ha
    have h2 := ha.1.move 0
    have e : it f 0 (t : Int) = t := rfl
    rw [e] at h2
    exact h2 (by omega)
  have hiff : ∀ c : Int, Above n f ((t : Int) + 1) c ↔ Above n f t c := fun c => by
    rw [Above.next]
    exact ⟨fun h => h.1, fun h => ⟨h, fun m hm => hno (h.on hm).1⟩⟩
  exact ⟨hno, h.len, fun c hc ha => h.yes c hc ((hiff c).1 ha), fun c hc ha => h.no c hc (fun h2 => ha ((hiff c).2 h2))⟩

theorem RestC.head {n : Nat} {f : Int → Int} {t : Nat} {F : List Int} (h : RestC n f t F) (ht : t < n) (he : F.getD t 0 ≠ t) : Head n f t :=
  Classical.byContradiction fun hno => he (h.no t ht hno)

theorem RestC.off {n : Nat} {f : Int → Int} {t : Nat} {F G : List Int} (h : RestC n f t F) (hh : Head n f t) {p : Nat} (hp : 0 < p) (hb : it f p t = t) (hl : G.length = n)
    (g1 : ∀ c : Nat, c < n → (∃ m, m < p ∧ (c : Int) = it f m t) → G.getD c 0 = c) (g2 : ∀ c : Nat, c < n → ¬ (∃ m, m < p ∧ (c : Int) = it f m t) → G.getD c 0 = F.getD c 0) : RestC n f ((t : Int) + 1) G := by
  refine ⟨hl, fun c hc ha => ?_, fun c hc ha => ?_⟩
  · have hn := Above.next.1 ha
    rw [g2 c hc ?_]
    · exact h.yes c hc hn.1
    · rintro ⟨m, _, e⟩
      obtain ⟨k, hk⟩ := it_ret hp hb m
      rw [← e] at hk
      exact hn.2 k hk
  · by_cases hon : ∃ m, m < p ∧ (c : Int) = it f m t
    · exact g1 c hc hon
    · rw [g2 c hc hon]
      refine h.no c hc fun h2 => ha (Above.next.2 ⟨h2, fun m hm => hon ?_⟩)
      obtain ⟨k, hk⟩ := (h2.on hm).2
      exact ⟨k % p, Nat.mod_lt _ hp, by rw [hk, it_mod hp hb k]⟩

end Go.Ab
