/- Turn by turn, all sets that may be done: the program's maps of them. -/
import Derived.Test.YtoglkjmdloppcaaPlan
import Derived.Test.YtoglkjmdloppcaaOnes
import Derived.Test.YtoglkjmdloppcaaMaps
namespace Go.Proofs.Ytoglkjmdloppcaa
open Go Go.Ab S

variable {n hands : Int} {pairs : List Pr} {nf : Nat}

/-! sets as words -/
def sz (w : Int) : Nat := cnt (bt w) 32
def Sub (a b : Int) : Prop := ∀ i, bt a i = true → bt b i = true
theorem sub_sz {a b : Int} (h : Sub a b) : sz a ≤ sz b := cnt_le fun k _ hk => h k hk
theorem sub_eq {a b : Int} (ha : W32 a) (hb : W32 b) (h : Sub a b) (hs : sz a = sz b) : a = b := bt_ext ha hb fun i hi => by
  cases h1 : bt a i with
  | true => exact (h i h1).symm
  | false =>
    cases h2 : bt b i with
    | false => rfl
    | true =>
      have : sz a < sz b := cnt_lt (fun k _ hk => h k hk) ⟨i, hi, h1, h2⟩
      omega
theorem some_bt {a : Int} (ha : W32 a) (h : a ≠ 0) : ∃ i, i < 32 ∧ bt a i = true := Classical.byContradiction fun hc => h (bt_ext ha W32_zero fun i hi => by
  rw [bt_zero]
  cases h1 : bt a i with
  | false => rfl
  | true => exact absurd ⟨i, hi, h1⟩ hc)
theorem and32_nat {x y : Int} (hx : W32 x) (hy : W32 y) : (and32 x y).toNat = x.toNat &&& y.toNat := Nat.eq_of_testBit_eq fun i => by
  rw [Nat.testBit_and]
  exact and32_bt hx hy i
theorem sub_nat {a b : Int} : Sub a b ↔ a.toNat &&& b.toNat = a.toNat := by
  constructor
  · intro h
    refine Nat.eq_of_testBit_eq fun i => ?_
    rw [Nat.testBit_and]
    have := h i
    unfold bt at this
    cases h1 : a.toNat.testBit i with
    | false => rfl
    | true => rw [this h1]; rfl
  · intro h i hi
    unfold bt at hi ⊢
    rw [← h, Nat.testBit_and, Bool.and_eq_true] at hi
    exact hi.2
theorem sub_le {a b : Int} (ha : W32 a) (hb : W32 b) (h : Sub a b) : a ≤ b := by
  have h1 := sub_nat.1 h
  have h2 : a.toNat &&& b.toNat ≤ b.toNat := Nat.and_le_right
  have := ha.1; have := hb.1
  omega
theorem cnt_flip {p q : Nat → Bool} {i : Nat} (hp : p i = true) (hq : q i = false) : ∀ {n : Nat}, (∀ j, j < n → j ≠ i → p j = q j) → i < n → cnt p n = cnt q n + 1
  | 0, _, h => by omega
  | n + 1, h, hi => by
    simp only [cnt]
    by_cases hin : i = n
    · subst hin
      rw [cnt_congr (p := p) (q := q) fun k hk => h k (by omega) (by omega), hp, hq]; simp
    · rw [cnt_flip hp hq (n := n) (fun j hj hne => h j (by omega) hne) (by omega), h n (by omega) (by omega)]; omega
/-- a part of each size -/
theorem part {w : Int} (hw : W32 w) : ∀ k, k ≤ sz w → ∃ s, W32 s ∧ Sub s w ∧ sz s = k
  | 0, _ => ⟨0, W32_zero, fun i h => (by rw [bt_zero] at h; cases h), (by
      have : ∀ n, cnt (bt 0) n = 0 := fun n => by
        induction n with
        | zero => rfl
        | succ n ih => simp only [cnt, ih, bt_zero]; rfl
      exact this 32)⟩
  | k + 1, hk => by
    obtain ⟨s, h1, h2, h3⟩ := part hw k (by omega)
    have : ∃ i, i < 32 ∧ bt w i = true ∧ bt s i = false := Classical.byContradiction fun hc => by
      have : w = s := bt_ext hw h1 fun i hi => by
        cases a : bt s i with
        | true => exact h2 i a
        | false =>
          cases b : bt w i with
          | false => rfl
          | true => exact absurd ⟨i, hi, b, a⟩ hc
      rw [this] at hk; omega
    obtain ⟨i, hi, a, b⟩ := this
    have hob : ∀ j : Nat, bt (or32 s (shlI .u32 1 (i : Int))) j = (bt s j || decide (j = i)) := fun j => by
      rw [or32_bt h1 (one_w (by omega) (by omega)), one_bt (by omega) (by omega), Int.toNat_natCast]
    refine ⟨or32 s (shlI .u32 1 (i : Int)), or32_w _ _, fun j hj => ?_, ?_⟩
    · rw [hob, Bool.or_eq_true, decide_eq_true_eq] at hj
      rcases hj with hj | rfl
      · exact h2 j hj
      · exact a
    · unfold sz at h3 ⊢
      rw [cnt_flip (q := bt s) (i := i) (by rw [hob]; simp) b (fun j _ hne => by rw [hob]; simp [hne]) hi, h3]

theorem submask (m s t : Nat) (hs : s &&& m = s) (h0 : s ≠ 0) (ht : t &&& m = t) (hlt : t < s) : t ≤ (s - 1) &&& m := by
  induction s using Nat.strongRecOn generalizing m t with
  | _ s ih =>
    have p0 : ∀ x y : Nat, (x &&& y) % 2 = 1 ↔ x % 2 = 1 ∧ y % 2 = 1 := fun x y => by simp
    have d : ∀ x y : Nat, (x &&& y) / 2 = x / 2 &&& y / 2 := fun x y => Nat.and_div_two
    have d1 : (s / 2) &&& (m / 2) = s / 2 := by rw [← d, hs]
    have d2 : (t / 2) &&& (m / 2) = t / 2 := by rw [← d, ht]
    have e := d (s - 1) m
    by_cases hp : s % 2 = 1
    · have : (s - 1) / 2 = s / 2 := by omega
      rw [this, d1] at e
      omega
    · have e1 : (s - 1) / 2 = s / 2 - 1 := by omega
      rw [e1] at e
      by_cases hq : t / 2 < s / 2
      · have := ih (s / 2) (by omega) (m / 2) (t / 2) d1 (by omega) d2 hq
        by_cases hr : t % 2 = 1
        · have h1 : m % 2 = 1 := ((p0 t m).1 (by rw [ht]; exact hr)).2
          have h2 := (p0 (s - 1) m).2 ⟨by omega, h1⟩
          omega
        · omega
      · omega

/-! a turn -/
def IsMay (n : Int) (pairs : List Pr) (d w : Int) : Prop := W32 w ∧ ∀ i, bt w i = rdy n pairs (bt d) i
def Pick (hands : Int) (w s : Int) : Prop := W32 s ∧ s ≠ 0 ∧ Sub s w ∧ ((sz s : Int) = hands ∨ ((sz s : Int) < hands ∧ s = w))
def St (n : Int) (pairs : List Pr) (hands d e : Int) : Prop := ∃ w s, IsMay n pairs d w ∧ Pick hands w s ∧ e = or32 d s
def Lev (n : Int) (pairs : List Pr) (hands : Int) : Nat → Int → Prop
  | 0, d => d = 0
  | t + 1, e => ∃ d, Lev n pairs hands t d ∧ St n pairs hands d e
def FU (n : Int) : Int := IntKind.u32.wrap (shlI .u32 1 n - 1)
def InN (n d : Int) : Prop := W32 d ∧ ∀ i : Nat, bt d i = true → (i : Int) < n
theorem may_uniq {d w v : Int} (hw : IsMay n pairs d w) (hv : IsMay n pairs d v) : w = v := bt_ext hw.1 hv.1 fun i _ => by rw [hw.2, hv.2]
theorem may_in {d w : Int} (hw : IsMay n pairs d w) {i : Nat} (h : bt w i = true) : (i : Int) < n ∧ bt d i = false := by
  rw [hw.2, rdy_iff] at h; exact ⟨h.1, h.2.1⟩
theorem st_in {d e : Int} (hd : InN n d) (h : St n pairs hands d e) : InN n e ∧ sz d < sz e ∧ (sz e : Int) ≤ sz d + hands := by
  obtain ⟨w, s, h1, ⟨h2, h3, h4, h5⟩, rfl⟩ := h
  have hob : ∀ j, bt (or32 d s) j = (bt d j || bt s j) := fun j => or32_bt hd.1 h2 j
  refine ⟨⟨or32_w _ _, fun i hi => ?_⟩, ?_, ?_⟩
  · rw [hob, Bool.or_eq_true] at hi
    rcases hi with hi | hi
    · exact hd.2 i hi
    · exact (may_in h1 (h4 i hi)).1
  · obtain ⟨i, hi, hb⟩ := some_bt h2 h3
    exact cnt_lt (fun k _ hk => by rw [hob, hk]; rfl) ⟨i, hi, (may_in h1 (h4 i hb)).2, by rw [hob, hb]; simp⟩
  · have hor : ∀ m, cnt (bt (or32 d s)) m ≤ cnt (bt d) m + cnt (bt s) m := fun m => by
      induction m with
      | zero => exact Nat.le_refl _
      | succ m ih =>
        simp only [cnt, hob]
        cases bt d m <;> cases bt s m <;> simp <;> omega
    have h6 : sz (or32 d s) ≤ sz d + sz s := hor 32
    have : (sz s : Int) ≤ hands := by rcases h5 with h5 | h5 <;> omega
    omega
theorem lev_in (hp : 1 ≤ n) : ∀ {t : Nat} {d : Int}, Lev n pairs hands t d → InN n d ∧ t ≤ sz d
  | 0, d, h => by
    have h : d = 0 := h
    subst h
    exact ⟨⟨W32_zero, fun i hi => by rw [bt_zero] at hi; cases hi⟩, Nat.zero_le _⟩
  | t + 1, e, h => by
    obtain ⟨d, h1, h2⟩ := h
    obtain ⟨h3, h4⟩ := lev_in hp h1
    obtain ⟨h5, h6, _⟩ := st_in h3 h2
    exact ⟨h5, by omega⟩
theorem sz_n (h0 : 1 ≤ n) (h8 : n ≤ 8) {d : Int} (hd : InN n d) : sz d = cnt (bt d) n.toNat := by
  unfold sz
  have := cnt_cut (p := bt d) (n := n.toNat) (fun k hk => by
    cases h : bt d k with
    | false => rfl
    | true => have := hd.2 k h; omega) (32 - n.toNat)
  rw [← this, show n.toNat + (32 - n.toNat) = 32 by omega]
theorem full_of (h0 : 1 ≤ n) (h8 : n ≤ 8) {d : Int} (hd : InN n d) (hs : n.toNat ≤ sz d) : d = FU n := by
  rw [sz_n h0 h8 hd] at hs
  have h1 := cnt_n (bt d) n.toNat
  have h2 := cnt_full (p := bt d) (m := n.toNat) (by omega)
  obtain ⟨f1, f2⟩ := full_w h0 h8
  refine bt_ext hd.1 f1 fun i _ => ?_
  refine Eq.trans ?_ (f2 i).symm
  by_cases hi : (i : Int) < n
  · rw [decide_eq_true hi]; exact h2 i (by omega)
  · rw [decide_eq_false hi]
    cases h : bt d i with
    | false => rfl
    | true => exact absurd (hd.2 i h) hi
theorem fu_in (h0 : 1 ≤ n) (h8 : n ≤ 8) : InN n (FU n) ∧ FU n ≠ 0 ∧ sz (FU n) = n.toNat := by
  obtain ⟨f1, f2⟩ := full_w h0 h8
  have hin : InN n (FU n) := ⟨f1, fun i hi => by unfold FU at hi; rw [f2, decide_eq_true_eq] at hi; exact hi⟩
  refine ⟨hin, fun h => ?_, ?_⟩
  · have := f2 0
    unfold FU at h
    rw [h, bt_zero, decide_eq_true (by omega)] at this
    cases this
  · rw [sz_n h0 h8 hin]
    have : ∀ m : Nat, (m : Int) ≤ n → cnt (bt (FU n)) m = m := fun m => by
      induction m with
      | zero => intro _; rfl
      | succ m ih =>
        intro hm
        have hb : bt (FU n) m = true := by unfold FU; rw [f2, decide_eq_true (by omega)]
        simp only [cnt, ih (by omega), hb, if_true]
    exact this n.toNat (by omega)
/-- one that is not all goes on -/
theorem st_some (h : PairsOK n pairs) (ha : Acyc pairs) (hh : 1 ≤ hands) {l : List Int} (hl : AheadOK n pairs l) {d : Int} (hd : InN n d) (hne : d ≠ FU n) : ∃ e, St n pairs hands d e := by
  have h1 := h.pos
  have h8 := h.few
  obtain ⟨w, _, hw, hb⟩ := ready_F h (nf := 60) (Nat.le_refl _) hl hd.1
  have hm : IsMay n pairs d w := ⟨hw, hb⟩
  have : ∃ i : Nat, (i : Int) < n ∧ bt d i = false := Classical.byContradiction fun hc => hne (by
    obtain ⟨f1, f2⟩ := full_w h1 h8
    refine bt_ext hd.1 f1 fun i _ => ?_
    refine Eq.trans ?_ (f2 i).symm
    by_cases hi : (i : Int) < n
    · rw [decide_eq_true hi]
      cases hb : bt d i with
      | true => rfl
      | false => exact absurd ⟨i, hi, hb⟩ hc
    · rw [decide_eq_false hi]
      cases hb : bt d i with
      | false => rfl
      | true => exact absurd (hd.2 i hb) hi)
  obtain ⟨i, i1, i2⟩ := this
  obtain ⟨j, hj⟩ := some_rdy h ha _ i i1 i2 (Nat.lt_succ_self _)
  have hj32 : j < 32 := by have := (rdy_iff.1 hj).1; omega
  have hwj : bt w j = true := by rw [hb]; exact hj
  have hw0 : w ≠ 0 := fun e => by rw [e, bt_zero] at hwj; cases hwj
  have hs1 : 1 ≤ sz w := by
    have := cnt_lt (p := fun _ => false) (q := bt w) (n := 32) (fun k _ hk => by cases hk) ⟨j, hj32, rfl, hwj⟩
    unfold sz; omega
  by_cases hc : (sz w : Int) < hands
  · exact ⟨_, w, w, hm, ⟨hw, hw0, fun i h => h, .inr ⟨hc, rfl⟩⟩, rfl⟩
  · obtain ⟨s, s1, s2, s3⟩ := part hw hands.toNat (by omega)
    refine ⟨_, w, s, hm, ⟨s1, fun e => ?_, s2, .inl (by omega)⟩, rfl⟩
    rw [e] at s3
    have : sz 0 = 0 := by
      have : ∀ n, cnt (bt 0) n = 0 := fun n => by
        induction n with
        | zero => rfl
        | succ n ih => simp only [cnt, ih, bt_zero]; rfl
      exact this 32
    omega
theorem least (P : Nat → Prop) : ∀ k, P k → ∃ m, m ≤ k ∧ P m ∧ ∀ j, j < m → ¬ P j
  | k, h => by
    by_cases hc : ∃ j, j < k ∧ P j
    · obtain ⟨j, hj, hp⟩ := hc
      obtain ⟨m, a, b, c⟩ := least P j hp
      exact ⟨m, by omega, b, c⟩
    · exact ⟨k, Nat.le_refl _, h, fun j hj hp => hc ⟨j, hj, hp⟩⟩
theorem lev_some (h : PairsOK n pairs) (ha : Acyc pairs) (hh : 1 ≤ hands) {l : List Int} (hl : AheadOK n pairs l) : ∃ K : Nat, (1 ≤ K ∧ (K : Int) ≤ n) ∧ Lev n pairs hands K (FU n) ∧ ∀ m, m < K → ¬ Lev n pairs hands m (FU n) := by
  have h1 := h.pos
  have h8 := h.few
  have key : ∀ t : Nat, (∃ m, m ≤ t ∧ Lev n pairs hands m (FU n)) ∨ ∃ d, Lev n pairs hands t d := fun t => by
    induction t with
    | zero => exact .inr ⟨0, rfl⟩
    | succ t ih =>
      rcases ih with ⟨m, a, b⟩ | ⟨d, hd⟩
      · exact .inl ⟨m, by omega, b⟩
      · by_cases hf : d = FU n
        · exact .inl ⟨t, by omega, hf ▸ hd⟩
        · obtain ⟨e, he⟩ := st_some h ha hh hl (lev_in h1 hd).1 hf
          exact .inr ⟨e, d, hd, he⟩
  have : ∃ m, m ≤ n.toNat ∧ Lev n pairs hands m (FU n) := by
    rcases key n.toNat with h2 | ⟨d, hd⟩
    · exact h2
    · obtain ⟨a, b⟩ := lev_in h1 hd
      exact ⟨n.toNat, Nat.le_refl _, full_of h1 h8 a b ▸ hd⟩
  obtain ⟨m, hm, hL⟩ := this
  obtain ⟨K, a, b, c⟩ := least (fun m => Lev n pairs hands m (FU n)) m hL
  refine ⟨K, ⟨?_, by omega⟩, b, c⟩
  cases K with
  | zero => exact absurd b (fu_in h1 h8).2.1
  | succ K => omega

/-! the maps -/
structure MOK (m : List (Int × Bool)) (S : Int → Prop) : Prop where
  nod : (m.map Prod.fst).Nodup
  tr : ∀ e ∈ m, e.2 = true
  ks : ∀ x, x ∈ m.map Prod.fst ↔ S x
theorem MOK.congr {m : List (Int × Bool)} {S S' : Int → Prop} (h : MOK m S) (hs : ∀ x, S x ↔ S' x) : MOK m S' := ⟨h.nod, h.tr, fun x => (h.ks x).trans (hs x)⟩
theorem ins_keys : ∀ (m : List (Int × Bool)) (y : Int), ((insM (.int .u32) .bool m y true : List (Int × Bool)).map Prod.fst = if y ∈ m.map Prod.fst then m.map Prod.fst else m.map Prod.fst ++ [y]) ∧ ((∀ e ∈ m, e.2 = true) → ∀ e ∈ (insM (.int .u32) .bool m y true : List (Int × Bool)), e.2 = true)
  | [], y => ⟨by simp [insM], fun _ e he => by simp [insM] at he; rw [he]⟩
  | p :: r, y => by
    obtain ⟨h1, h2⟩ := ins_keys r y
    simp only [insM]
    cases hq : eqD (.int .u32) p.1 y with
    | true =>
      have e : p.1 = y := (eqD_iff (k := .int .u32) rfl _ _).1 hq
      simp only
      refine ⟨by rw [List.map_cons, List.map_cons, if_pos (by rw [e]; simp), e], fun h x hx => ?_⟩
      rcases List.mem_cons.1 hx with rfl | hx
      · rfl
      · exact h x (by simp [hx])
    | false =>
      have e : p.1 ≠ y := fun h => by rw [(eqD_iff (k := .int .u32) rfl _ _).2 h] at hq; cases hq
      simp only
      refine ⟨?_, fun h x hx => ?_⟩
      · rw [List.map_cons, List.map_cons, h1]
        by_cases hm : y ∈ r.map Prod.fst
        · rw [if_pos hm, if_pos (by simp only [List.mem_cons]; exact .inr hm)]
        · rw [if_neg hm, if_neg (by simp only [List.mem_cons]; rintro (h | h); exact e h.symm; exact hm h)]; rfl
      · rcases List.mem_cons.1 hx with rfl | hx
        · exact h _ (by simp)
        · exact h2 (fun e he => h e (by simp [he])) x hx
theorem MOK.ins {m : List (Int × Bool)} {S : Int → Prop} (h : MOK m S) (y : Int) : MOK (insM (.int .u32) .bool m y true) (fun x => S x ∨ x = y) := by
  obtain ⟨h1, h2⟩ := ins_keys m y
  refine ⟨?_, h2 h.tr, fun x => ?_⟩
  · rw [h1]
    split
    · exact h.nod
    · rename_i hn
      refine List.nodup_append.2 ⟨h.nod, by simp, fun a ha b hb e => ?_⟩
      rw [List.mem_singleton] at hb
      subst hb e
      exact hn ha
  · rw [h1]
    split
    · rename_i hy
      rw [h.ks]
      exact ⟨.inl, fun hx => hx.elim id fun e => e ▸ (h.ks y).1 hy⟩
    · rw [List.mem_append, List.mem_singleton, h.ks]
theorem get_keys : ∀ (m : List (Int × Bool)) (y : Int), (∀ e ∈ m, e.2 = true) → (((getM (.int .u32) .bool m y : Option Bool).getD false = true) ↔ y ∈ m.map Prod.fst)
  | [], y, _ => by simp [getM]
  | p :: r, y, h => by
    have ih := get_keys r y fun e he => h e (by simp [he])
    simp only [getM]
    cases hq : eqD (.int .u32) p.1 y with
    | true =>
      have e : p.1 = y := (eqD_iff (k := .int .u32) rfl _ _).1 hq
      have := h p (by simp)
      simp only
      rw [List.map_cons, List.mem_cons]
      exact ⟨fun _ => .inl e.symm, fun _ => this⟩
    | false =>
      have e : p.1 ≠ y := fun h => by rw [(eqD_iff (k := .int .u32) rfl _ _).2 h] at hq; cases hq
      simp only
      rw [ih, List.map_cons, List.mem_cons]
      exact ⟨.inr, fun h => h.resolve_left fun h => e h.symm⟩
theorem in_small (h8 : n ≤ 8) {d : Int} (hd : InN n d) : 0 ≤ d ∧ d < 256 := by
  have h1 : Sub d 255 := fun i hi => by have := hd.2 i hi; rw [bt_255, decide_eq_true (by omega)]
  have := sub_le hd.1 W32_255 h1
  have := hd.1.1
  omega

/-! the parts of what may be done, one by one -/
theorem best_l4 {nf : Nat} {n hands : Int} {w d : Int} (hw : W32 w) (hd : W32 d) {turn : Int} {rem : List (Int × Bool)} {i : Nat} (hi : (rem.getD i (0, false)).1 = d) {l : List Int} {now : List (Int × Bool)}
    {g2 : List Int → List (Int × Bool) → List (Int × Bool) → List (Int × Bool) → Option (Int × Int × Unit)} {g0 : List Int → List (Int × Bool) → Int → Option (Int × Int × Unit)} {S0 : Int → Prop} :
    ∀ (fu : Nat) (s : Int) (next : List (Int × Bool)), W32 s → Sub s w → MOK next (fun x => S0 x ∨ ∃ t, Pick hands w t ∧ s < t ∧ x = or32 d t) → s.toNat < fu →
    ∃ next', MOK next' (fun x => S0 x ∨ ∃ t, Pick hands w t ∧ x = or32 d t) ∧ plan_Best_l4 nf n hands turn rem i (w, ()) g2 g0 fu l now next s = g2 l now next' (rem.eraseIdx i)
  | 0, _, _, _, _, _, h => by omega
  | fu + 1, s, next, hs, hsw, hM, hfu => by
    by_cases h0 : s = 0
    · subst h0
      refine ⟨next, hM.congr fun x => ?_, ?_⟩
      · constructor
        · rintro (h | ⟨t, a, _, b⟩)
          · exact .inl h
          · exact .inr ⟨t, a, b⟩
        · rintro (h | ⟨t, a, b⟩)
          · exact .inl h
          · exact .inr ⟨t, a, by have := a.1.1; have := a.2.1; omega, b⟩
      · rw [plan_Best_l4, plan_Best_b4]
        simp only [bne_self_eq_false, cond_false]
    · have hs0 := hs.1
      have hs1 := hs.2
      have hw1 : IntKind.u32.wrap (s - 1) = s - 1 := W32.wrap ⟨by omega, by omega⟩
      have hwm : W32 (s - 1) := ⟨by omega, by omega⟩
      have hnat := and32_nat hwm hw
      have hs' : W32 (and32 (s - 1) w) := and32_w _ _
      have hsub' : Sub (and32 (s - 1) w) w := fun k hk => by rw [and32_bt hwm hw, Bool.and_eq_true] at hk; exact hk.2
      have hle : (and32 (s - 1) w).toNat ≤ (s - 1).toNat := by rw [hnat]; exact Nat.and_le_left
      have hmax : ∀ t, W32 t → Sub t w → t < s → t ≤ and32 (s - 1) w := fun t h1 h2 h3 => by
        have := submask w.toNat s.toNat t.toNat (sub_nat.1 hsw) (by omega) (sub_nat.1 h2) (by have := h1.1; omega)
        rw [show s.toNat - 1 = (s - 1).toNat by omega, ← hnat] at this
        have := h1.1; have := hs'.1
        omega
      by_cases hc : (sz s : Int) = hands ∨ ((sz s : Int) < hands ∧ s = w)
      · have hP : Pick hands w s := ⟨hs, h0, hsw, hc⟩
        obtain ⟨next', a, b⟩ := best_l4 (nf := nf) (n := n) (hands := hands) hw hd hi (turn := turn) (l := l) (now := now) (g2 := g2) (g0 := g0) (S0 := S0) fu (and32 (s - 1) w) (insM (.int .u32) .bool next (or32 d s) true) hs' hsub' ((hM.ins (or32 d s)).congr fun x => by
          constructor
          · rintro ((h | ⟨t, h1, h2, h3⟩) | h)
            · exact .inl h
            · exact .inr ⟨t, h1, by have := hs'.1; omega, h3⟩
            · exact .inr ⟨s, hP, by have := hs'.1; omega, h⟩
          · rintro (h | ⟨t, h1, h2, h3⟩)
            · exact .inl (.inl h)
            · by_cases hts : t < s
              · have := hmax t h1.1 h1.2.2.1 hts; omega
              · by_cases hte : t = s
                · subst hte; exact .inr h3
                · exact .inl (.inr ⟨t, h1, by omega, h3⟩)) (by omega)
        refine ⟨next', a, ?_⟩
        rw [← b, plan_Best_l4, plan_Best_b4, bne_t h0, cond_true, ones_F nf hs, hi, hw1]
        simp only [Option.bind_some]
        have hc' : ((cnt (bt s) 32 : Nat) : Int) = hands ∨ (((cnt (bt s) 32 : Nat) : Int) < hands ∧ s = w) := hc
        by_cases c1 : ((cnt (bt s) 32 : Nat) : Int) = hands
        · rw [c1, beq_self_eq_true, cond_true]; rfl
        · obtain ⟨c2, c3⟩ := hc'.resolve_left c1
          rw [beq_f c1, decide_eq_true c2, cond_false, cond_true, c3, beq_self_eq_true, cond_true]; rfl
      · obtain ⟨next', a, b⟩ := best_l4 (nf := nf) (n := n) (hands := hands) hw hd hi (turn := turn) (l := l) (now := now) (g2 := g2) (g0 := g0) (S0 := S0) fu (and32 (s - 1) w) next hs' hsub' (hM.congr fun x => by
          constructor
          · rintro (h | ⟨t, h1, h2, h3⟩)
            · exact .inl h
            · exact .inr ⟨t, h1, by have := hs'.1; omega, h3⟩
          · rintro (h | ⟨t, h1, h2, h3⟩)
            · exact .inl h
            · by_cases hts : t < s
              · have := hmax t h1.1 h1.2.2.1 hts; omega
              · by_cases hte : t = s
                · subst hte; exact absurd h1.2.2.2 hc
                · exact .inr ⟨t, h1, by omega, h3⟩) (by omega)
        refine ⟨next', a, ?_⟩
        rw [← b, plan_Best_l4, plan_Best_b4, bne_t h0, cond_true, ones_F nf hs, hi, hw1]
        simp only [Option.bind_some]
        have hc' : ¬ (((cnt (bt s) 32 : Nat) : Int) = hands ∨ (((cnt (bt s) 32 : Nat) : Int) < hands ∧ s = w)) := hc
        have c1 : ¬ ((cnt (bt s) 32 : Nat) : Int) = hands := fun h => hc' (.inl h)
        rw [beq_f c1, cond_false]
        by_cases c2 : ((cnt (bt s) 32 : Nat) : Int) < hands
        · have c3 : ¬ s = w := fun h => hc' (.inr ⟨c2, h⟩)
          rw [decide_eq_true c2, beq_f c3, cond_true, cond_false]; rfl
        · rw [decide_eq_false c2, cond_false]; rfl

theorem getD_elP (l : List (Int × Bool)) {k : Nat} (hk : k < l.length) : l.getD k (0, false) = l[k] := by simp [List.getD, hk]
theorem best_l2 (h : PairsOK n pairs) (hf : 300 ≤ nf) {l : List Int} (hl : AheadOK n pairs l) {now : List (Int × Bool)} {T : Int → Prop} (hT : ∀ x, T x → InN n x) {turn : Int} {g0 : List Int → List (Int × Bool) → Int → Option (Int × Int × Unit)} {r : Int × Int × Unit}
    (hg : ∀ next, MOK next (fun e => ∃ d, T d ∧ St n pairs hands d e) → g0 l next (IntKind.i64.wrap (turn + 1)) = some r) :
    ∀ (fu : Nat) (rem next : List (Int × Bool)) (dn : List Int), (∀ x, T x ↔ x ∈ dn ∨ x ∈ rem.map Prod.fst) → MOK next (fun e => ∃ d, d ∈ dn ∧ St n pairs hands d e) → rem.length < fu → plan_Best_l2 nf n hands turn g0 fu l now next rem = some r
  | 0, _, _, _, _, _, hfu => by omega
  | fu + 1, rem, next, dn, hD, hM, hfu => by
    have h8 := h.few
    rw [plan_Best_l2, plan_Best_b2]
    cases rem with
    | nil =>
      simp only [List.isEmpty_nil, cond_true]
      refine hg next (hM.congr fun e => ?_)
      constructor
      · rintro ⟨d, a, b⟩; exact ⟨d, (hD d).2 (.inl a), b⟩
      · rintro ⟨d, a, b⟩
        rcases (hD d).1 a with a | a
        · exact ⟨d, a, b⟩
        · cases a
    | cons p rest =>
      simp only [List.isEmpty_cons, cond_false]
      refine agree_of (by simp) fun i hi => ?_
      have hmem : (p :: rest)[i] ∈ p :: rest := List.getElem_mem hi
      have hge : (p :: rest).getD i (0, false) = (p :: rest)[i] := getD_elP _ hi
      generalize hd : ((p :: rest).getD i (0, false)).1 = d
      have hdm : d ∈ (p :: rest).map Prod.fst := by rw [← hd, hge]; exact List.mem_map_of_mem hmem
      have hdi := hT d ((hD d).2 (.inr hdm))
      obtain ⟨w, a1, a2, a3⟩ := ready_F h (nf := nf) (by omega) hl hdi.1
      have hmay : IsMay n pairs d w := ⟨a2, a3⟩
      have hws : 0 ≤ w ∧ w < 256 := in_small h8 ⟨a2, fun i hi => (may_in hmay hi).1⟩
      rw [a1, Option.bind_some]
      obtain ⟨next', b1, b2⟩ := best_l4 a2 hdi.1 hd (nf := nf) (n := n) (hands := hands) (turn := turn) (l := l) (now := now) (g2 := fun l'2 now2 next t44 => plan_Best_l2 nf n hands turn g0 fu l'2 now2 next t44) (g0 := g0) (S0 := fun e => ∃ d, d ∈ dn ∧ St n pairs hands d e) nf w next a2 (fun i hi => hi) (hM.congr fun x => by
        constructor
        · exact .inl
        · rintro (h1 | ⟨t, h1, h2, h3⟩)
          · exact h1
          · have := sub_le h1.1 a2 h1.2.2.1; omega) (by omega)
      simp only
      rw [b2]
      refine best_l2 h hf hl hT hg fu _ next' (d :: dn) (fun x => ?_) (b1.congr fun e => ?_) (by rw [List.length_eraseIdx]; split <;> omega)
      · rw [hD, List.mem_cons]
        constructor
        · rintro (h1 | h1)
          · exact .inl (.inr h1)
          · obtain ⟨q, hq, rfl⟩ := List.mem_map.1 h1
            obtain ⟨j, hj, rfl⟩ := List.mem_iff_getElem.1 hq
            by_cases hji : j = i
            · subst hji
              rw [← hge, hd]; exact .inl (.inl rfl)
            · exact .inr (List.mem_map_of_mem (List.mem_eraseIdx_iff_getElem.2 ⟨j, hj, hji, rfl⟩))
        · rintro ((rfl | h1) | h1)
          · exact .inr hdm
          · exact .inl h1
          · obtain ⟨q, hq, rfl⟩ := List.mem_map.1 h1
            exact .inr (List.mem_map_of_mem (List.mem_of_mem_eraseIdx hq))
      · constructor
        · rintro (⟨d', h1, h2⟩ | ⟨t, h1, h2⟩)
          · exact ⟨d', by simp [h1], h2⟩
          · exact ⟨d, by simp, w, t, hmay, h1, h2⟩
        · rintro ⟨d', h1, h2⟩
          rcases List.mem_cons.1 h1 with rfl | h1
          · obtain ⟨v, s, e1, e2, e3⟩ := h2
            rw [may_uniq e1 hmay] at e2
            exact .inr ⟨s, e2, e3⟩
          · exact .inl ⟨d', h1, h2⟩

theorem best_l0 (h : PairsOK n pairs) (hf : 300 ≤ nf) {l : List Int} (hl : AheadOK n pairs l) {K : Nat} (hKn : (K : Int) ≤ n) (hK : Lev n pairs hands K (FU n)) (hm : ∀ m, m < K → ¬ Lev n pairs hands m (FU n)) :
    ∀ (fu turn : Nat) (now : List (Int × Bool)), MOK now (Lev n pairs hands turn) → turn ≤ K → K < turn + fu → plan_Best_l0 nf n hands fu l now turn = some ((K : Int), 0, ())
  | 0, turn, now, hM, h1, h2 => by omega
  | fu + 1, turn, now, hM, h1, h2 => by
    have hp := h.pos
    have h8 := h.few
    have hg := get_keys now (FU n) hM.tr
    rw [hM.ks] at hg
    rw [plan_Best_l0, plan_Best_b0, decide_eq_true (show 0 ≤ n by omega), cond_true]
    have hg' : (getM (.int .u32) .bool now (IntKind.u32.wrap (shlI .u32 1 n - 1)) : Option Bool).getD false = true ↔ Lev n pairs hands turn (FU n) := hg
    by_cases he : turn = K
    · subst he
      rw [hg'.2 hK, cond_true]
    · have : (getM (.int .u32) .bool now (IntKind.u32.wrap (shlI .u32 1 n - 1)) : Option Bool).getD false = false := by
        cases hq : (getM (.int .u32) .bool now (IntKind.u32.wrap (shlI .u32 1 n - 1)) : Option Bool).getD false with
        | false => rfl
        | true => exact absurd (hg'.1 hq) (hm turn (by omega))
      rw [this, cond_false]
      have hlen : now.length ≤ 256 := by
        have := nodup_len 256 (now.map Prod.fst) hM.nod fun x hx => in_small h8 (lev_in hp ((hM.ks x).1 hx)).1
        rwa [List.length_map] at this
      refine best_l2 h hf hl (T := Lev n pairs hands turn) (fun x hx => (lev_in hp hx).1) (fun next hN => ?_) nf now [] [] (fun x => by rw [hM.ks]; simp) ⟨by simp, by simp, fun x => by simp⟩ (by omega)
      have hw : IntKind.i64.wrap ((turn : Int) + 1) = ((turn + 1 : Nat) : Int) := by rw [wrap_step (n := 100) (by omega) (by omega) (by decide)]; rfl
      rw [hw]
      exact best_l0 h hf hl hKn hK hm fu (turn + 1) next hN (by omega) (by omega)
end Go.Proofs.Ytoglkjmdloppcaa
