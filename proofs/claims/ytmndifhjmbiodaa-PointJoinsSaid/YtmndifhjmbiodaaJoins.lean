/- Classes of variables that point alike: the least ones. -/
import Derived.Test.YtmndifhjmbiodaaLib
namespace Go.Ab

abbrev Stp4 := Int × Int × Int × Unit
/-- what is one (true), what points to what (false): the least such -/
inductive Jn (vars : Int) (l : List Stp4) : Bool → Int → Int → Prop where
  | refl {i : Int} : 0 ≤ i → i < vars → Jn vars l true i i
  | addr {p : Stp4} : p ∈ l → p.1 = 1 → Jn vars l false p.2.1 p.2.2.1
  | copy1 {p : Stp4} {x : Int} : p ∈ l → p.1 = 2 → Jn vars l false p.2.1 x → Jn vars l false p.2.2.1 x
  | copy2 {p : Stp4} {x : Int} : p ∈ l → p.1 = 2 → Jn vars l false p.2.2.1 x → Jn vars l false p.2.1 x
  | load1 {p : Stp4} {j x : Int} : p ∈ l → p.1 = 3 → Jn vars l false p.2.2.1 j → Jn vars l false p.2.1 x → Jn vars l false j x
  | load2 {p : Stp4} {j x : Int} : p ∈ l → p.1 = 3 → Jn vars l false p.2.2.1 j → Jn vars l false j x → Jn vars l false p.2.1 x
  | stor1 {p : Stp4} {i x : Int} : p ∈ l → p.1 = 4 → Jn vars l false p.2.1 i → Jn vars l false i x → Jn vars l false p.2.2.1 x
  | stor2 {p : Stp4} {i x : Int} : p ∈ l → p.1 = 4 → Jn vars l false p.2.1 i → Jn vars l false p.2.2.1 x → Jn vars l false i x
  | both {i j k : Int} : Jn vars l false i j → Jn vars l false i k → Jn vars l true j k
  | trans {i j k : Int} : Jn vars l true i j → Jn vars l true j k → Jn vars l true i k
  | to1 {i j k : Int} : Jn vars l false i j → Jn vars l true j k → Jn vars l false i k
  | to2 {i j k : Int} : Jn vars l true i j → Jn vars l false j k → Jn vars l false i k

def GoodJ (vars : Int) (l : List Stp4) : Prop := ∀ p ∈ l, 1 ≤ p.1 ∧ p.1 ≤ 4 ∧ 0 ≤ p.2.1 ∧ p.2.1 < vars ∧ 0 ≤ p.2.2.1 ∧ p.2.2.1 < vars

theorem Jn.range {vars : Int} {l : List Stp4} (hg : GoodJ vars l) {t : Bool} {i j : Int} (h : Jn vars l t i j) : (0 ≤ i ∧ i < vars) ∧ (0 ≤ j ∧ j < vars) := by
  induction h with
  | refl h0 h1 => exact ⟨⟨h0, h1⟩, h0, h1⟩
  | addr hp _ => obtain ⟨_, _, a, b, c, d⟩ := hg _ hp; exact ⟨⟨a, b⟩, c, d⟩
  | copy1 hp _ _ ih => obtain ⟨_, _, a, b, c, d⟩ := hg _ hp; exact ⟨⟨c, d⟩, ih.2⟩
  | copy2 hp _ _ ih => obtain ⟨_, _, a, b, c, d⟩ := hg _ hp; exact ⟨⟨a, b⟩, ih.2⟩
  | load1 hp _ _ _ ih1 ih2 => exact ⟨ih1.2, ih2.2⟩
  | load2 hp _ _ _ ih1 ih2 => obtain ⟨_, _, a, b, c, d⟩ := hg _ hp; exact ⟨⟨a, b⟩, ih2.2⟩
  | stor1 hp _ _ _ ih1 ih2 => obtain ⟨_, _, a, b, c, d⟩ := hg _ hp; exact ⟨⟨c, d⟩, ih2.2⟩
  | stor2 hp _ _ _ ih1 ih2 => exact ⟨ih1.2, ih2.2⟩
  | both _ _ ih1 ih2 => exact ⟨ih1.2, ih2.2⟩
  | trans _ _ ih1 ih2 => exact ⟨ih1.1, ih2.2⟩
  | to1 _ _ ih1 ih2 => exact ⟨ih1.1, ih2.2⟩
  | to2 _ _ ih1 ih2 => exact ⟨ih1.1, ih2.2⟩

theorem Jn.symm {vars : Int} {l : List Stp4} {t : Bool} {i j : Int} (h : Jn vars l t i j) : t = true → Jn vars l true j i := by
  induction h with
  | refl h0 h1 => exact fun _ => .refl h0 h1
  | both h1 h2 _ _ => exact fun _ => .both h2 h1
  | trans _ _ ih1 ih2 => exact fun _ => .trans (ih2 rfl) (ih1 rfl)
  | _ => intro h; cases h

/-- a relation for each of the two -/
abbrev R2 := Bool → Int → Int → Bool
/-- what a step says -/
def RuleJ (p : Stp4) (R : R2) : Prop :=
  (p.1 = 1 → R false p.2.1 p.2.2.1 = true) ∧ (p.1 = 2 → ∀ x, R false p.2.1 x = true ↔ R false p.2.2.1 x = true) ∧
  (p.1 = 3 → ∀ j, R false p.2.2.1 j = true → ∀ x, R false p.2.1 x = true ↔ R false j x = true) ∧ (p.1 = 4 → ∀ i, R false p.2.1 i = true → ∀ x, R false i x = true ↔ R false p.2.2.1 x = true)
/-- what is always so -/
structure Base (vars : Int) (R : R2) : Prop where
  refl : ∀ i, 0 ≤ i → i < vars → R true i i = true
  both : ∀ i j k, R false i j = true → R false i k = true → R true j k = true
  trans : ∀ i j k, R true i j = true → R true j k = true → R true i k = true
  to1 : ∀ i j k, R false i j = true → R true j k = true → R false i k = true
  to2 : ∀ i j k, R true i j = true → R false j k = true → R false i k = true

/-- sound relations -/
def SndJ (vars : Int) (l : List Stp4) (R : R2) : Prop := ∀ t i j, R t i j = true → Jn vars l t i j

theorem Jn.le {vars : Int} {l : List Stp4} {R : R2} (hb : Base vars R) (hr : ∀ p ∈ l, RuleJ p R) {t : Bool} {i j : Int} (h : Jn vars l t i j) : R t i j = true := by
  induction h with
  | refl h0 h1 => exact hb.refl _ h0 h1
  | addr hp hk => exact (hr _ hp).1 hk
  | copy1 hp hk _ ih => exact ((hr _ hp).2.1 hk _).1 ih
  | copy2 hp hk _ ih => exact ((hr _ hp).2.1 hk _).2 ih
  | load1 hp hk _ _ ih1 ih2 => exact ((hr _ hp).2.2.1 hk _ ih1 _).1 ih2
  | load2 hp hk _ _ ih1 ih2 => exact ((hr _ hp).2.2.1 hk _ ih1 _).2 ih2
  | stor1 hp hk _ _ ih1 ih2 => exact ((hr _ hp).2.2.2 hk _ ih1 _).1 ih2
  | stor2 hp hk _ _ ih1 ih2 => exact ((hr _ hp).2.2.2 hk _ ih1 _).2 ih2
  | both _ _ ih1 ih2 => exact hb.both _ _ _ ih1 ih2
  | trans _ _ ih1 ih2 => exact hb.trans _ _ _ ih1 ih2
  | to1 _ _ ih1 ih2 => exact hb.to1 _ _ _ ih1 ih2
  | to2 _ _ ih1 ih2 => exact hb.to2 _ _ _ ih1 ih2

theorem jn_iff {vars : Int} {l : List Stp4} {R : R2} (hb : Base vars R) (hr : ∀ p ∈ l, RuleJ p R) (hs : SndJ vars l R) (t : Bool) (i j : Int) : R t i j = true ↔ Jn vars l t i j := ⟨hs t i j, Jn.le hb hr⟩

/-! Classes by their names -/

def gt (F : List Int) (i : Int) : Int := F.getD i.toNat 0
structure WF (n : Nat) (F T : List Int) : Prop where
  lenF : F.length = n
  lenT : T.length = n
  of : ∀ i : Int, 0 ≤ i → i < n → (0 ≤ gt F i ∧ gt F i < n) ∧ gt F (gt F i) = gt F i
  to : ∀ i : Int, 0 ≤ i → i < n → gt T i = -1 ∨ ((0 ≤ gt T i ∧ gt T i < n) ∧ gt F (gt T i) = gt T i)

/-- the relations of classes -/
def rl (n : Nat) (F T : List Int) : R2 := fun t i j => decide (0 ≤ i ∧ i < n ∧ 0 ≤ j ∧ j < n) && match t with
  | true => decide (gt F i = gt F j)
  | false => decide (0 ≤ gt T (gt F i) ∧ gt F j = gt T (gt F i))
theorem rl_one {n : Nat} {F T : List Int} {i j : Int} : rl n F T true i j = true ↔ (0 ≤ i ∧ i < n) ∧ (0 ≤ j ∧ j < n) ∧ gt F i = gt F j := by
  simp only [rl, Bool.and_eq_true, decide_eq_true_eq]
  constructor
  · rintro ⟨⟨a, b, c, d⟩, e⟩; exact ⟨⟨a, b⟩, ⟨c, d⟩, e⟩
  · rintro ⟨⟨a, b⟩, ⟨c, d⟩, e⟩; exact ⟨⟨a, b, c, d⟩, e⟩
theorem rl_to {n : Nat} {F T : List Int} {i j : Int} : rl n F T false i j = true ↔ (0 ≤ i ∧ i < n) ∧ (0 ≤ j ∧ j < n) ∧ 0 ≤ gt T (gt F i) ∧ gt F j = gt T (gt F i) := by
  simp only [rl, Bool.and_eq_true, decide_eq_true_eq]
  constructor
  · rintro ⟨⟨a, b, c, d⟩, e, f⟩; exact ⟨⟨a, b⟩, ⟨c, d⟩, e, f⟩
  · rintro ⟨⟨a, b⟩, ⟨c, d⟩, e, f⟩; exact ⟨⟨a, b, c, d⟩, e, f⟩

theorem WF.base {n : Nat} {F T : List Int} (h : WF n F T) : Base n (rl n F T) := by
  refine ⟨fun i a b => rl_one.2 ⟨⟨a, b⟩, ⟨a, b⟩, rfl⟩, fun i j k h1 h2 => ?_, fun i j k h1 h2 => ?_, fun i j k h1 h2 => ?_, fun i j k h1 h2 => ?_⟩
  · obtain ⟨a, b, c, d⟩ := rl_to.1 h1
    obtain ⟨a', b', c', d'⟩ := rl_to.1 h2
    exact rl_one.2 ⟨b, b', d.trans d'.symm⟩
  · obtain ⟨a, b, c⟩ := rl_one.1 h1
    obtain ⟨a', b', c'⟩ := rl_one.1 h2
    exact rl_one.2 ⟨a, b', c.trans c'⟩
  · obtain ⟨a, b, c, d⟩ := rl_to.1 h1
    obtain ⟨a', b', c'⟩ := rl_one.1 h2
    exact rl_to.2 ⟨a, b', c, c'.symm.trans d⟩
  · obtain ⟨a, b, c⟩ := rl_one.1 h1
    obtain ⟨a', b', c', d'⟩ := rl_to.1 h2
    exact rl_to.2 ⟨a, b', by rw [c]; exact c', by rw [c]; exact d'⟩

def leJ (R S : R2) : Prop := ∀ t i j, R t i j = true → S t i j = true

/-- how many names are in use; how many point to nothing -/
def names (F : List Int) : Nat := cnt (fun j => decide (gt F j = j)) F.length
def unset (T : List Int) : Nat := cnt (fun j => decide (gt T j < 0)) T.length
def meas (F T : List Int) : Nat := names F * 20 + unset T

/-- from one state to another -/
structure MoveJ (vars : Int) (l : List Stp4) (n : Nat) (F T F' T' : List Int) : Prop where
  wf : WF n F' T'
  le : leJ (rl n F T) (rl n F' T')
  snd : SndJ vars l (rl n F' T')
  less : (F' = F ∧ T' = T) ∨ meas F' T' < meas F T
theorem MoveJ.same {vars : Int} {l : List Stp4} {n : Nat} {F T : List Int} (h : WF n F T) (hs : SndJ vars l (rl n F T)) : MoveJ vars l n F T F T := ⟨h, fun _ _ _ h => h, hs, .inl ⟨rfl, rfl⟩⟩
theorem MoveJ.trans {vars : Int} {l : List Stp4} {n : Nat} {F T F1 T1 F2 T2 : List Int} (h1 : MoveJ vars l n F T F1 T1) (h2 : MoveJ vars l n F1 T1 F2 T2) : MoveJ vars l n F T F2 T2 := by
  refine ⟨h2.wf, fun t i j h => h2.le t i j (h1.le t i j h), h2.snd, ?_⟩
  rcases h1.less with ⟨rfl, rfl⟩ | a
  · exact h2.less
  · rcases h2.less with ⟨rfl, rfl⟩ | b
    · exact .inr a
    · exact .inr (by omega)

/-- a name instead of another one -/
def sub (a b z : Int) : Int := if z = b then a else z
/-- b is made one with a -/
structure Merged (n : Nat) (a b : Int) (F T F' T' : List Int) : Prop where
  lenF : F'.length = n
  lenT : T'.length = n
  of : ∀ i : Int, 0 ≤ i → i < n → gt F' i = sub a b (gt F i)
  to : ∀ i : Int, 0 ≤ i → i < n → gt T' i = if i = a then sub a b (if gt T a < 0 then gt T b else gt T a) else sub a b (gt T i)

theorem gt_set {F : List Int} {n : Nat} (hl : F.length = n) {a : Int} (h0 : 0 ≤ a) (h1 : a < n) (x : Int) {i : Int} (i0 : 0 ≤ i) : gt (F.set a.toNat x) i = if i = a then x else gt F i := by
  unfold gt
  rw [getD_upd (by omega)]
  by_cases h : i = a
  · subst h; rw [if_pos rfl, if_pos rfl]
  · rw [if_neg (by omega), if_neg h]

section
variable {vars : Int} {l : List Stp4} {n : Nat} {a b : Int} {F T F' T' : List Int}

theorem Merged.wf (h : WF n F T) (ha : 0 ≤ a ∧ a < n) (hb : 0 ≤ b ∧ b < n) (hab : a ≠ b) (ra : gt F a = a) (rb : gt F b = b) (m : Merged n a b F T F' T') : WF n F' T' := by
  have key : ∀ z : Int, 0 ≤ z → z < n → gt F z = z → (0 ≤ sub a b z ∧ sub a b z < n) ∧ gt F' (sub a b z) = sub a b z := fun z z0 z1 hz => by
    by_cases hzb : z = b
    · rw [sub, if_pos hzb]
      exact ⟨ha, by rw [m.of a ha.1 ha.2, ra, sub, if_neg hab]⟩
    · rw [sub, if_neg hzb]
      exact ⟨⟨z0, z1⟩, by rw [m.of z z0 z1, hz, sub, if_neg hzb]⟩
  have keyT : ∀ z : Int, z = -1 ∨ ((0 ≤ z ∧ z < n) ∧ gt F z = z) → sub a b z = -1 ∨ ((0 ≤ sub a b z ∧ sub a b z < n) ∧ gt F' (sub a b z) = sub a b z) := fun z hz => by
    rcases hz with rfl | ⟨h1, h2⟩
    · exact .inl (by rw [sub, if_neg (by omega)])
    · exact .inr (key z h1.1 h1.2 h2)
  refine ⟨m.lenF, m.lenT, fun i i0 i1 => ?_, fun i i0 i1 => ?_⟩
  · obtain ⟨h1, h2⟩ := h.of i i0 i1
    rw [m.of i i0 i1]
    exact key _ h1.1 h1.2 h2
  · rw [m.to i i0 i1]
    split
    · split
      · exact keyT _ (h.to b hb.1 hb.2)
      · exact keyT _ (h.to a ha.1 ha.2)
    · exact keyT _ (h.to i i0 i1)

theorem Merged.snd (h : WF n F T) (hv : vars = n) (ha : 0 ≤ a ∧ a < n) (hb : 0 ≤ b ∧ b < n) (hab : a ≠ b) (ra : gt F a = a) (rb : gt F b = b) (m : Merged n a b F T F' T') (hs : SndJ vars l (rl n F T)) (ho : Jn vars l true a b) :
    SndJ vars l (rl n F' T') ∧ (0 ≤ gt T a → 0 ≤ gt T b → Jn vars l true (sub a b (gt T a)) (sub a b (gt T b))) := by
  subst hv
  have hsub : ∀ z : Int, 0 ≤ z → z < n → Jn n l true z (sub a b z) := fun z z0 z1 => by
    unfold sub
    split
    · rename_i h; rw [h]; exact ho.symm rfl
    · exact .refl z0 z1
  have hF : ∀ i : Int, 0 ≤ i → i < n → Jn n l true i (gt F' i) := fun i i0 i1 => by
    obtain ⟨h1, h2⟩ := h.of i i0 i1
    rw [m.of i i0 i1]
    exact .trans (hs true i (gt F i) (rl_one.2 ⟨⟨i0, i1⟩, h1, h2.symm⟩)) (hsub _ h1.1 h1.2)
  have hT : ∀ z : Int, 0 ≤ z → z < n → gt F z = z → 0 ≤ gt T z → Jn n l false z (sub a b (gt T z)) := fun z z0 z1 hz ht => by
    rcases h.to z z0 z1 with h1 | ⟨h1, h2⟩
    · omega
    · exact .to1 (hs false z (gt T z) (rl_to.2 ⟨⟨z0, z1⟩, h1, by rw [hz]; exact ht, by rw [hz]; exact h2⟩)) (hsub _ h1.1 h1.2)
  have hneg : ∀ z : Int, 0 ≤ sub a b z → 0 ≤ z := fun z hz => by
    unfold sub at hz
    split at hz
    · omega
    · exact hz
  constructor
  · intro t i j hij
    cases t with
    | true =>
      obtain ⟨h1, h2, h3⟩ := rl_one.1 hij
      have e1 := hF i h1.1 h1.2
      have e2 := hF j h2.1 h2.2
      rw [h3] at e1
      exact .trans e1 (e2.symm rfl)
    | false =>
      obtain ⟨h1, h2, h3, h4⟩ := rl_to.1 hij
      have e1 := hF i h1.1 h1.2
      have e2 := hF j h2.1 h2.2
      obtain ⟨w1, w2⟩ := (m.wf h ha hb hab ra rb).of i h1.1 h1.2
      have hto : Jn n l false (gt F' i) (gt T' (gt F' i)) := by
        -- the name of i was a name before
        have hname : gt F (gt F' i) = gt F' i := by
          rw [m.of i h1.1 h1.2]
          unfold sub
          split
          · exact ra
          · exact (h.of i h1.1 h1.2).2
        rw [m.to _ w1.1 w1.2] at h3 ⊢
        by_cases hia : gt F' i = a
        · rw [if_pos hia] at h3 ⊢
          rw [hia]
          by_cases hx : gt T a < 0
          · rw [if_pos hx] at h3 ⊢
            exact .to2 ho (hT b hb.1 hb.2 rb (hneg _ h3))
          · rw [if_neg hx] at h3 ⊢
            exact hT a ha.1 ha.2 ra (by omega)
        · rw [if_neg hia] at h3 ⊢
          exact hT _ w1.1 w1.2 hname (hneg _ h3)
      rw [h4] at e2
      exact .to2 e1 (.to1 hto (e2.symm rfl))
  · intro hx hy
    exact .both (hT a ha.1 ha.2 ra hx) (.to2 ho (hT b hb.1 hb.2 rb hy))

/-- all is kept, when what two made one pointed to is made one too -/
theorem Merged.le (h : WF n F T) (ha : 0 ≤ a ∧ a < n) (hb : 0 ≤ b ∧ b < n) (hab : a ≠ b) (ra : gt F a = a) (rb : gt F b = b) (m : Merged n a b F T F' T') {R : R2} (hR : Base n R) (hle : leJ (rl n F' T') R)
    (hp : 0 ≤ gt T a → 0 ≤ gt T b → R true (sub a b (gt T a)) (sub a b (gt T b)) = true) : leJ (rl n F T) R := by
  have hw := m.wf h ha hb hab ra rb
  intro t i j hij
  cases t with
  | true =>
    obtain ⟨h1, h2, h3⟩ := rl_one.1 hij
    exact hle true i j (rl_one.2 ⟨h1, h2, by rw [m.of i h1.1 h1.2, m.of j h2.1 h2.2, h3]⟩)
  | false =>
    obtain ⟨h1, h2, h3, h4⟩ := rl_to.1 hij
    have hFj := m.of j h2.1 h2.2
    have hFi := m.of i h1.1 h1.2
    obtain ⟨f1, f2⟩ := h.of i h1.1 h1.2
    have hpos : 0 ≤ sub a b (gt T (gt F i)) := by
      unfold sub; split
      · exact ha.1
      · exact h3
    by_cases hib : gt F i = b
    · rw [sub, if_pos hib] at hFi
      have hTa := m.to a ha.1 ha.2
      rw [if_pos rfl] at hTa
      rw [hib] at h3 h4 hpos
      by_cases hx : gt T a < 0
      · rw [if_pos hx] at hTa
        exact hle false i j (rl_to.2 ⟨h1, h2, by rw [hFi, hTa]; exact hpos, by rw [hFj, hFi, hTa, h4]⟩)
      · rw [if_neg hx] at hTa
        have hpx : 0 ≤ sub a b (gt T a) := by
          unfold sub; split
          · exact ha.1
          · omega
        rcases hw.to a ha.1 ha.2 with q | ⟨q1, q2⟩
        · rw [hTa] at q; omega
        · rw [hTa] at q1 q2
          have e1 : R false i (sub a b (gt T a)) = true := hle false i _ (rl_to.2 ⟨h1, q1, by rw [hFi, hTa]; exact hpx, by rw [hFi, hTa]; exact q2⟩)
          have e2 := hp (by omega) h3
          have hjn : gt F' (sub a b (gt T b)) = sub a b (gt T b) ∧ 0 ≤ sub a b (gt T b) ∧ sub a b (gt T b) < n := by
            obtain ⟨g1, g2⟩ := hw.of j h2.1 h2.2
            rw [hFj, h4] at g1 g2
            exact ⟨g2, g1⟩
          have e3 : R true (sub a b (gt T b)) j = true := hle true _ j (rl_one.2 ⟨hjn.2, h2, by rw [hjn.1, hFj, h4]⟩)
          exact hR.to1 _ _ _ (hR.to1 _ _ _ e1 e2) e3
    · rw [sub, if_neg hib] at hFi
      by_cases hia : gt F i = a
      · have hTa := m.to a ha.1 ha.2
        rw [if_pos rfl] at hTa
        rw [hia] at h3 h4 hpos hFi
        rw [if_neg (by omega)] at hTa
        exact hle false i j (rl_to.2 ⟨h1, h2, by rw [hFi, hTa]; exact hpos, by rw [hFj, hFi, hTa, h4]⟩)
      · have hTi := m.to (gt F i) f1.1 f1.2
        rw [if_neg hia] at hTi
        exact hle false i j (rl_to.2 ⟨h1, h2, by rw [hFi, hTi]; exact hpos, by rw [hFj, hFi, hTi, h4]⟩)

theorem Merged.fewer (h : WF n F T) (ha : 0 ≤ a ∧ a < n) (hb : 0 ≤ b ∧ b < n) (hab : a ≠ b) (ra : gt F a = a) (rb : gt F b = b) (m : Merged n a b F T F' T') : names F' < names F := by
  unfold names
  rw [h.lenF, m.lenF]
  refine cnt_lt (fun k hk hd => ?_) ⟨b.toNat, by omega, ?_, ?_⟩
  · rw [decide_eq_true_eq] at hd ⊢
    rw [m.of k (by omega) (by omega)] at hd
    unfold sub at hd
    split at hd
    · rw [← hd]; exact ra
    · exact hd
  · rw [show ((b.toNat : Nat) : Int) = b by omega, m.of b hb.1 hb.2, rb, sub, if_pos rfl]; simpa using hab
  · rw [show ((b.toNat : Nat) : Int) = b by omega, rb]; simp

theorem Merged.rep (ha : 0 ≤ a ∧ a < n) (hab : a ≠ b) (ra : gt F a = a) (m : Merged n a b F T F' T') {z : Int} (z0 : 0 ≤ z) (z1 : z < n) (hz : gt F z = z) : (0 ≤ sub a b z ∧ sub a b z < n) ∧ gt F' (sub a b z) = sub a b z := by
  by_cases hzb : z = b
  · rw [sub, if_pos hzb]
    exact ⟨ha, by rw [m.of a ha.1 ha.2, ra, sub, if_neg hab]⟩
  · rw [sub, if_neg hzb]
    exact ⟨⟨z0, z1⟩, by rw [m.of z z0 z1, hz, sub, if_neg hzb]⟩

/-- a class that pointed to nothing points to another one -/
theorem set_move (h : WF n F T) (hv : vars = n) (hs : SndJ vars l (rl n F T)) {c v : Int} (hc : 0 ≤ c ∧ c < n) (rc : gt F c = c) (hT : gt T c = -1) (hv2 : v = -1 ∨ ((0 ≤ v ∧ v < n) ∧ gt F v = v)) (hj : 0 ≤ v → Jn vars l false c v) :
    MoveJ vars l n F T F (T.set c.toNat v) ∧ ∀ i : Int, 0 ≤ i → gt (T.set c.toNat v) i = if i = c then v else gt T i := by
  subst hv
  have hg : ∀ i : Int, 0 ≤ i → gt (T.set c.toNat v) i = if i = c then v else gt T i := fun i i0 => gt_set h.lenT hc.1 hc.2 v i0
  refine ⟨⟨⟨h.lenF, by simpa using h.lenT, h.of, fun i i0 i1 => ?_⟩, fun t i j hij => ?_, fun t i j hij => ?_, ?_⟩, hg⟩
  · rw [hg i i0]
    split
    · exact hv2
    · exact h.to i i0 i1
  · cases t with
    | true => exact rl_one.2 (rl_one.1 hij)
    | false =>
      obtain ⟨h1, h2, h3, h4⟩ := rl_to.1 hij
      have hne : gt F i ≠ c := fun e => by rw [e, hT] at h3; omega
      have hfi := (h.of i h1.1 h1.2).1
      exact rl_to.2 ⟨h1, h2, by rw [hg _ hfi.1, if_neg hne]; exact h3, by rw [hg _ hfi.1, if_neg hne]; exact h4⟩
  · cases t with
    | true => exact hs true i j (rl_one.2 (rl_one.1 hij))
    | false =>
      obtain ⟨h1, h2, h3, h4⟩ := rl_to.1 hij
      have hfi := (h.of i h1.1 h1.2)
      rw [hg _ hfi.1.1] at h3 h4
      by_cases he : gt F i = c
      · rw [if_pos he] at h3 h4
        have hvr : (0 ≤ v ∧ v < n) ∧ gt F v = v := by
          rcases hv2 with e | e
          · omega
          · exact e
        have e1 : Jn n l true i c := hs true i c (rl_one.2 ⟨h1, hc, by rw [he, rc]⟩)
        have e2 : Jn n l true v j := hs true v j (rl_one.2 ⟨hvr.1, h2, by rw [h4, hvr.2]⟩)
        exact .to2 e1 (.to1 (hj h3) e2)
      · rw [if_neg he] at h3 h4
        exact hs false i j (rl_to.2 ⟨h1, h2, h3, h4⟩)
  · rcases hv2 with e | e
    · left
      refine ⟨rfl, ?_⟩
      have : T.getD c.toNat 0 = v := by rw [e]; exact hT
      have hl := h.lenT
      rw [getD_nat T c 0 hc.1 (by omega)] at this
      rw [← this, List.set_getElem_self]
    · right
      unfold meas unset
      rw [List.length_set]
      have := cnt_lt (p := fun j => decide (gt (T.set c.toNat v) j < 0)) (q := fun j => decide (gt T j < 0)) (n := T.length) (fun k hk hd => by
        rw [decide_eq_true_eq] at hd ⊢
        rw [hg _ (by omega)] at hd
        split at hd
        · omega
        · exact hd) ⟨c.toNat, by have := h.lenT; omega, by rw [decide_eq_false_iff_not, show ((c.toNat : Nat) : Int) = c by omega, hg c hc.1, if_pos rfl]; omega, by rw [decide_eq_true_eq, show ((c.toNat : Nat) : Int) = c by omega, hT]; omega⟩
      omega
theorem SndJ.self (h : WF n F T) (hv : vars = n) (hs : SndJ vars l (rl n F T)) {i : Int} (i0 : 0 ≤ i) (i1 : i < n) : Jn vars l true i (gt F i) ∧ Jn vars l true (gt F i) i := by
  obtain ⟨h1, h2⟩ := h.of i i0 i1
  have := hs true i (gt F i) (rl_one.2 ⟨⟨i0, i1⟩, h1, h2.symm⟩)
  exact ⟨this, this.symm rfl⟩
theorem rl_symm {i j : Int} (h : rl n F T true i j = true) : rl n F T true j i = true := by
  obtain ⟨a, b, c⟩ := rl_one.1 h
  exact rl_one.2 ⟨b, a, c.symm⟩
theorem unset_le : unset T ≤ T.length := cnt_n _ _
theorem names_le : names F ≤ F.length := cnt_n _ _
end
end Go.Ab
