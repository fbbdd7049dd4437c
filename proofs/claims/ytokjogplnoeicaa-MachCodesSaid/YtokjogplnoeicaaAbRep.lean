/- What abstract values say of a world: the relation, and how it carries over from world to world. -/
import Derived.Test.YtokjogplnoeicaaAbCore
namespace Go.Ab

/-- the colour of blocks that are lent -/
def lentC : Nat × List Stp := (4000000000, [])

/-- Ghosts: who owns a block; the header of the owned slice at a path; the address of a path. -/
structure Gh where
 col : Nat → Option (Nat × List Stp)
 H : Nat → List Stp → Value
 A : Nat → List Stp → Nat × Nat

def shared (col : Nat → Option (Nat × List Stp)) (l : Bool) (b : Nat) : Prop := col b = none ∨ (l = true ∧ col b = some lentC)

theorem shared_imp {col : Nat → Option (Nat × List Stp)} {l l' : Bool} {b : Nat} (h : shared col l b) (hl : bimp l l' = true) : shared col l' b := by
 rcases h with h | ⟨h, h'⟩
 ·exact .inl h
 ·subst h; exact .inr ⟨by simpa [bimp] using hl, h'⟩

/-- the cells of a flat value -/
def litC : (t : Ty) → den t → List Value
 | .int k, x => [.int k x]
 | .bool, x => [.bool x]
 | .pair a b, x => litC a x.1 ++ litC b x.2
 | .unit, _ => []
 | _, _ => [undef]
/-- a flat value -/
def litV (t : Ty) (x : den t) : Value := match isCell t with
 | true => (litC t x).headD undef
 | false => .agg (litC t x).toArray
/-- a map's entries, in the order in which they came -/
def MapR (k e : Ty) (es : Array MapEntry) (clock : Nat) (x : List (den k × den e)) : Prop :=
 es.toList.map (fun en => (en.key, en.val)) = x.map (fun z => (litV k z.1, litV e z.2)) ∧ (es.toList.map (·.born)).Nodup ∧ ∀ en ∈ es.toList, en.born < clock

/-- where a key is, from place i on -/
def findE (k : Ty) (y : den k) : List MapEntry → List (den k) → Nat → Option (Nat × Value)
 | e :: es, x :: xs, i => match eqD k x y with | true => some (i, e.val) | false => findE k y es xs (i + 1)
 | _, _, _ => none
/-- memory that is only read -/
def RO (w : World) (col : Nat → Option (Nat × List Stp)) (l : Bool) : (t : Ty) → (rd : Nat → Option Value) → (k : Nat) → den t → Prop
 | .int kd, rd, k, x => rd k = some (.int kd x)
 | .bool, rd, k, x => rd k = some (.bool x)
 | .sl e, rd, k, x => ∃ a cap, rd k = some (.slice a (List.length x) cap) ∧ List.length x ≤ cap ∧
   match a with
   | none => x = [] ∧ cap = 0
   | some ad => cap = 0 ∨ (ad.spot = none ∧ ad.block < w.heap.size ∧ shared col l ad.block ∧
     ∀ i, i < List.length x → RO w col l e (fun j => w.cell? ⟨ad.block, ad.off + i * sz e + j, none⟩) 0 (List.getD x i (dflt e)))
 | .pair a b, rd, k, x => isCell a = true ∧ isCell b = false ∧ RO w col l a rd k x.1 ∧ RO w col l b rd (k + 1) x.2
 | .unit, _, _, _ => True
 | .mp k e, rd, j, x => ∃ r, rd j = some (.map r) ∧ match r with
   | none => x = []
   | some b => b < w.heap.size ∧ shared col l b ∧ ∃ es c, w.heap[b]? = some (.map es c) ∧ MapR k e es c x
 | .bx e, rd, j, x => ∃ r, rd j = some (.pointer r) ∧ match r, x with
   | none, none => True
   | some ad, some y => ad.spot = none ∧ ad.block < w.heap.size ∧ shared col l ad.block ∧ RO w col l e (fun j => w.cell? ⟨ad.block, ad.off + j, none⟩) 0 y
   | _, _ => False

/-- where cells stand: in memory, or in a value -/
inductive Src where
 | mem (b off : Nat)
 | val (cs : Array Value)

def rdS (w : World) : Src → Nat → Option Value
 | .mem b off, j => w.cell? ⟨b, off + j, none⟩
 | .val cs, j => cs[j]?

/-- what a slot owns, and what it shares -/
def RR (w : World) (g : Gh) (s : Nat) : (t : Ty) → Md → List Stp → Src → Nat → den t → Prop
 | .int kd, _, _, src, k, x => rdS w src k = some (.int kd x)
 | .bool, _, _, src, k, x => rdS w src k = some (.bool x)
 | .sl e, m, p, src, k, x => match m.isOwn with
  | true => ∃ a cap, rdS w src k = some (g.H s p) ∧ g.H s p = .slice a (List.length x) cap ∧ List.length x ≤ cap ∧ (m.nz? = true → x = [] → a = none) ∧
    match a with
    | none => x = [] ∧ cap = 0
    | some ad => ad.spot = none ∧ g.col ad.block = some (s, p) ∧ (∃ c el, w.heap[ad.block]? = some (.cells c el (0, 0)) ∧ ad.off + cap * sz e ≤ c.size) ∧
      ∀ i, i < List.length x → g.A s (p ++ [.el i]) = (ad.block, ad.off + i * sz e) ∧
       RR w g s e m.el (p ++ [.el i]) (.mem ad.block (ad.off + i * sz e)) 0 (List.getD x i (dflt e))
  | false => RO w g.col m.lent? (.sl e) (rdS w src) k x ∧ (m.nz? = true → x = [] → ∃ l c, rdS w src k = some (.slice none l c))
 | .pair a b, m, p, src, k, x => isCell a = true ∧ isCell b = false ∧ (∀ b' off, src = .mem b' off → g.A s (p ++ [.fld k]) = (b', off + k)) ∧
   RR w g s a (fldMd m k) (p ++ [.fld k]) src k x.1 ∧ RR w g s b m p src (k + 1) x.2
 | .unit, _, _, _, _, _ => True
 | .mp k e, m, p, src, j, x => match m.isOwn with
  | true => ∃ r, rdS w src j = some (.map r) ∧ (m.nz? = true → r ≠ none) ∧ match r with
    | none => x = []
    | some b => g.H s p = .map (some b) ∧ g.col b = some (s, p) ∧ ∃ es c, w.heap[b]? = some (.map es c) ∧ MapR k e es c x
  | false => RO w g.col m.lent? (.mp k e) (rdS w src) j x
 | .bx e, m, p, src, j, x => match m.isOwn with
  | true => ∃ r, rdS w src j = some (.pointer r) ∧ match r, x with
    | none, none => True
    | some ad, some y => ad.off = 0 ∧ ad.spot = none ∧ g.col ad.block = some (s, p) ∧ (∃ c el, w.heap[ad.block]? = some (.cells c el (0, 0)) ∧ sz e ≤ c.size) ∧ g.A s (p ++ [.dr]) = (ad.block, 0) ∧
      RR w g s e m.el (p ++ [.dr]) (.mem ad.block 0) 0 y
    | _, _ => False
  | false => RO w g.col m.lent? (.bx e) (rdS w src) j x

theorem cell?_congr {w w' : World} {b o : Nat} (h : w'.heap[b]? = w.heap[b]?) : w'.cell? ⟨b, o, none⟩ = w.cell? ⟨b, o, none⟩ := by
 simp only [World.cell?, h]

theorem RO_conv {w w' : World} {col col' : Nat → Option (Nat × List Stp)} {l l' : Bool} (hl : bimp l l' = true) (hsz : w.heap.size ≤ w'.heap.size)
  (hsh : ∀ b, b < w.heap.size → shared col l b → w'.heap[b]? = w.heap[b]? ∧ shared col' l' b) :
  ∀ (t : Ty) (rd rd' : Nat → Option Value) (k : Nat) (x : den t), RO w col l t rd k x → (∀ j, j < sz t → rd' (k + j) = rd (k + j)) → RO w' col' l' t rd' k x := by
 intro t
 induction t with
 | int kd => intro rd rd' k x h hr; simp only [RO] at *; have := hr 0 (by simp [sz]); simp at this; rw [this]; exact h
 | bool => intro rd rd' k x h hr; simp only [RO] at *; have := hr 0 (by simp [sz]); simp at this; rw [this]; exact h
 | unit => intro rd rd' k x h hr; trivial
 | mp kt et _ _ =>
  intro rd rd' k x h hr
  simp only [RO] at *
  obtain ⟨r, h1, h2⟩ := h
  have := hr 0 (by simp [sz]); simp only [Nat.add_zero] at this
  refine ⟨r, by rw [this]; exact h1, ?_⟩
  cases r with
  | none => exact h2
  | some b =>
   obtain ⟨h3, h4, es, c, h5, h6⟩ := h2
   obtain ⟨h7, h8⟩ := hsh _ h3 h4
   exact ⟨by omega, h8, es, c, by rw [h7]; exact h5, h6⟩
 | bx e ih =>
  intro rd rd' k x h hr
  simp only [RO] at *
  obtain ⟨r, h1, h2⟩ := h
  have := hr 0 (by simp [sz]); simp only [Nat.add_zero] at this
  refine ⟨r, by rw [this]; exact h1, ?_⟩
  match r, x, h2 with
  | none, none, _ => trivial
  | some ad, some y, h2 =>
   obtain ⟨h3, h4, h5, h6⟩ := h2
   obtain ⟨h7, h8⟩ := hsh _ h4 h5
   exact ⟨h3, by omega, h8, ih _ _ _ _ h6 fun j _ => cell?_congr h7⟩
 | pair a b iha ihb =>
  intro rd rd' k x h hr
  simp only [RO] at *
  obtain ⟨hc, hcb, h1, h2⟩ := h
  have hsa : sz a = 1 := by cases a <;> simp_all [isCell, sz]
  refine ⟨hc, hcb, iha _ _ _ _ h1 fun j hj => hr j (by simp [sz]; omega), ihb _ _ _ _ h2 fun j hj => ?_⟩
  have := hr (j + 1) (by simp [sz]; omega)
  rw [show k + 1 + j = k + (j + 1) by omega]; exact this
 | sl e ih =>
  intro rd rd' k x h hr
  simp only [RO] at *
  obtain ⟨a, cap, h1, h2, h3⟩ := h
  have := hr 0 (by simp [sz]); simp at this
  refine ⟨a, cap, by rw [this]; exact h1, h2, ?_⟩
  cases a with
  | none => exact h3
  | some ad =>
   rcases h3 with h3 | ⟨h4, h5, h6, h7⟩
   ·exact .inl h3
   obtain ⟨h8, h9⟩ := hsh _ h5 h6
   exact .inr ⟨h4, by omega, h9, fun i hi => ih _ _ _ _ (h7 i hi) fun j _ => cell?_congr h8⟩

theorem fld_bor (l nz : Bool) : ∀ k, fldMd (.bor l nz) k = .bor l false
 | 0 => rfl
 | k + 1 => by
  have h : ∀ k, fldMd (.bor l false) k = .bor l false := by
   intro k; induction k with
   | zero => rfl
   | succ k ih => exact ih
  exact h k
theorem leM_cell {t : Ty} (h : isCell t = true) (k k' : Nat) (m m' : Md) : leM t k m m' = leM t k' m m' := by cases t <;> first | rfl | cases h
theorem sz_cell {t : Ty} (h : isCell t = true) : sz t = 1 := by cases t <;> first | rfl | cases h

/-- the mode at a path -/
def mdAt : Md → List Stp → Md
 | m, [] => m
 | m, .el _ :: p => mdAt m.el p
 | m, .fld n :: p => mdAt (fldMd m n) p
 | m, .dr :: p => mdAt m.el p
theorem mdAt_bor : ∀ (r : List Stp) (l nz : Bool), ∃ nz', mdAt (.bor l nz) r = .bor l nz'
 | [], l, nz => ⟨nz, rfl⟩
 | .el _ :: r, l, nz => mdAt_bor r l false
 | .fld n :: r, l, nz => by simp only [mdAt, fld_bor]; exact mdAt_bor r l false
 | .dr :: r, l, nz => mdAt_bor r l false
/-- a block's new colour by the mode that it has there -/
def newc (col : Nat → Option (Nat × List Stp)) (m : Md) (c : Nat × List Stp) (b : Nat) : Prop :=
 match m.isOwn with
 | true => col b = some c
 | false => shared col m.lent? b

theorem el_bor {m : Md} (h : m.isOwn = false) : m.el = .bor m.lent? false := by cases m <;> first | rfl | cases h
theorem bimp_trans {a b c : Bool} (h : bimp a b = true) (h' : bimp b c = true) : bimp a c = true := by cases a <;> cases b <;> simp_all [bimp]

theorem cell_lt {w : World} {b : Nat} {o : Obj} (h : w.heap[b]? = some o) : b < w.heap.size := (Array.getElem?_eq_some_iff.1 h).1

/-- what was owned passes as shared -/
theorem RR_toRO {w w' : World} {g : Gh} {col' : Nat → Option (Nat × List Stp)} {s : Nat} {l : Bool} (hsz : w.heap.size ≤ w'.heap.size)
  (hsh : ∀ b l0, b < w.heap.size → shared g.col l0 b → bimp l0 l = true → w'.heap[b]? = w.heap[b]? ∧ shared col' l b) :
  ∀ (t : Ty) (m : Md) (nz : Bool) (p : List Stp) (src : Src) (k : Nat) (x : den t) (rd' : Nat → Option Value), RR w g s t m p src k x → leM t k m (.bor l nz) = true →
   (∀ b r, g.col b = some (s, p ++ r) → w'.heap[b]? = w.heap[b]? ∧ shared col' l b) → (∀ j, j < sz t → rd' (k + j) = rdS w src (k + j)) → RO w' col' l t rd' k x := by
 intro t
 induction t with
 | int kd => intro m nz p src k x rd' h _ _ hr; simp only [RR, RO] at *; have := hr 0 (by simp [sz]); simp at this; rw [this]; exact h
 | bool => intro m nz p src k x rd' h _ _ hr; simp only [RR, RO] at *; have := hr 0 (by simp [sz]); simp at this; rw [this]; exact h
 | unit => intros; trivial
 | mp kt et _ _ =>
  intro m nz p src k x rd' h hl hown hr
  have hr0 := hr 0 (by simp [sz]); simp only [Nat.add_zero] at hr0
  simp only [leM, Bool.and_eq_true] at hl
  simp only [RR] at h
  cases hm : m.isOwn with
  | true =>
   rw [hm] at h
   obtain ⟨r, h1, _, h2⟩ := h
   simp only [RO]
   refine ⟨r, by rw [hr0, h1], ?_⟩
   cases r with
   | none => exact h2
   | some b =>
    obtain ⟨_, h4, es, c, h5, h6⟩ := h2
    obtain ⟨h7, h8⟩ := hown b [] (by simpa using h4)
    have hlt := cell_lt h5
    exact ⟨by omega, h8, es, c, by rw [h7]; exact h5, h6⟩
  | false =>
   rw [hm] at h
   have hb : bimp m.lent? l = true := by simpa [Md.fits, hm] using hl.1
   exact RO_conv hb hsz (fun b' hb1 hb2 => hsh b' _ hb1 hb2 hb) (.mp kt et) _ _ _ _ h hr
 | bx e ih =>
  intro m nz p src k x rd' h hl hown hr
  have hr0 := hr 0 (by simp [sz]); simp only [Nat.add_zero] at hr0
  simp only [leM, Bool.and_eq_true] at hl
  simp only [RR] at h
  cases hm : m.isOwn with
  | true =>
   rw [hm] at h
   obtain ⟨r, h1, h2⟩ := h
   simp only [RO]
   refine ⟨r, by rw [hr0, h1], ?_⟩
   match r, x, h2 with
   | none, none, _ => trivial
   | some ad, some y, h2 =>
    obtain ⟨h3, h4, h5, ⟨c, el, h6, _⟩, h7, h8⟩ := h2
    obtain ⟨h9, h10⟩ := hown ad.block [] (by simpa using h5)
    have hlt := cell_lt h6
    refine ⟨h4, by omega, h10, ih _ false _ _ _ _ _ h8 (by simpa [Md.el] using hl.2) (fun b' r hb' => hown b' (.dr :: r) (by simpa using hb')) fun j _ => ?_⟩
    simp only [rdS, h3]
    exact cell?_congr h9
  | false =>
   rw [hm] at h
   have hb : bimp m.lent? l = true := by simpa [Md.fits, hm] using hl.1
   exact RO_conv hb hsz (fun b' hb1 hb2 => hsh b' _ hb1 hb2 hb) (.bx e) _ _ _ _ h hr
 | pair a b iha ihb =>
  intro m nz p src k x rd' h hl hown hr
  simp only [RR, RO, leM, Bool.and_eq_true, fld_bor] at *
  obtain ⟨hc, hcb, _, h1, h2⟩ := h
  have hsa := sz_cell hc
  refine ⟨hc, hcb, iha _ _ _ _ _ _ _ h1 (by rw [leM_cell hc k 0]; exact hl.1) (fun b' r hb => hown b' (.fld k :: r) (by simpa using hb)) fun j hj => hr j (by simp [sz]; omega),
   ihb _ _ _ _ _ _ _ h2 hl.2 hown fun j hj => ?_⟩
  have := hr (j + 1) (by simp [sz]; omega)
  rw [show k + 1 + j = k + (j + 1) by omega]; exact this
 | sl e ih =>
  intro m nz p src k x rd' h hl hown hr
  have hr0 := hr 0 (by simp [sz]); simp only [Nat.add_zero] at hr0
  simp only [leM, Bool.and_eq_true] at hl
  obtain ⟨⟨hl1, hl2⟩, hl3⟩ := hl
  simp only [RR] at h
  cases hm : m.isOwn with
  | true =>
   rw [hm] at h
   obtain ⟨a, cap, h1, h2, h3, h4, h5⟩ := h
   simp only [RO]
   refine ⟨a, cap, by rw [hr0, h1, h2], h3, ?_⟩
   cases a with
   | none => exact h5
   | some ad =>
    obtain ⟨h6, h7, ⟨c, el, h8, h9⟩, h10⟩ := h5
    have hb := hown ad.block [] (by simpa using h7)
    have hlt := cell_lt h8
    exact .inr ⟨h6, by omega, hb.2, fun i hi => ih _ false _ _ _ _ _ (h10 i hi).2 (by simpa [Md.el] using hl3) (fun b' r hb' => hown b' (.el i :: r) (by simpa using hb'))
     fun j _ => cell?_congr hb.1⟩
  | false =>
   rw [hm] at h
   obtain ⟨h1, _⟩ := h
   have hb : bimp m.lent? l = true := by
    simpa [Md.fits, hm] using hl1
   exact RO_conv hb hsz (fun b' hb1 hb2 => hsh b' _ hb1 hb2 hb) (.sl e) _ _ _ _ h1 hr

/-- what a slot owns and shares carries over: to another world, another owner, a weaker mode -/
theorem RR_conv {w w' : World} {g g' : Gh} {s s' : Nat} (hsz : w.heap.size ≤ w'.heap.size)
  (hsh : ∀ b l0, b < w.heap.size → shared g.col l0 b → w'.heap[b]? = w.heap[b]? ∧ shared g'.col l0 b) :
  ∀ (t : Ty) (m m' : Md) (p p' : List Stp) (src src' : Src) (k : Nat) (x : den t), RR w g s t m p src k x → leM t k m m' = true →
   (∀ b r, g.col b = some (s, p ++ r) → w'.heap[b]? = w.heap[b]? ∧ newc g'.col (mdAt m' r) (s', p' ++ r) b) →
   (∀ r, g'.H s' (p' ++ r) = g.H s (p ++ r)) → (∀ r, r ≠ [] → g'.A s' (p' ++ r) = g.A s (p ++ r)) →
   (∀ b off, src' = .mem b off → src = .mem b off) → (∀ j, j < sz t → rdS w' src' (k + j) = rdS w src (k + j)) → RR w' g' s' t m' p' src' k x := by
 intro t
 induction t with
 | int kd => intro m m' p p' src src' k x h _ _ _ _ _ hr; simp only [RR] at *; have := hr 0 (by simp [sz]); simp at this; rw [this]; exact h
 | bool => intro m m' p p' src src' k x h _ _ _ _ _ hr; simp only [RR] at *; have := hr 0 (by simp [sz]); simp at this; rw [this]; exact h
 | unit => intros; trivial
 | mp kt et _ _ =>
  intro m m' p p' src src' k x h hl hown hH hA hs hr
  have hr0 := hr 0 (by simp [sz]); simp only [Nat.add_zero] at hr0
  have hl' := hl
  simp only [leM, Bool.and_eq_true] at hl
  cases hm' : m'.isOwn with
  | true =>
   have hm : m.isOwn = true := by cases m' <;> first | exact hl.1 | cases hm'
   simp only [RR, hm, hm'] at h ⊢
   obtain ⟨r, h1, h2, h3⟩ := h
   refine ⟨r, by rw [hr0, h1], fun hz => h2 (by cases hq : m.nz? <;> simp_all [bimp]), ?_⟩
   cases r with
   | none => exact h3
   | some b =>
    obtain ⟨h4, h5, es, c, h6, h7⟩ := h3
    have hb := hown b [] (by simpa using h5)
    simp only [mdAt, newc, hm', List.append_nil] at hb
    have hH0 := hH []; simp only [List.append_nil] at hH0
    exact ⟨by rw [hH0]; exact h4, hb.2, es, c, by rw [hb.1]; exact h6, h7⟩
  | false =>
   obtain ⟨l, nz, rfl⟩ : ∃ l nz, m' = .bor l nz := by
    cases m' with
    | bor l nz => exact ⟨l, nz, rfl⟩
    | own => cases hm'
    | pair => simp [Md.fits] at hl
   simp only [RR, Md.isOwn, Md.lent?]
   refine RR_toRO hsz (l := l) ?_ (.mp kt et) m false p src k x _ h (by simp only [leM, Bool.and_eq_true]; exact ⟨hl.1, rfl⟩) ?_ hr
   ·intro b l0 hb h0 h1
    obtain ⟨h2, h3⟩ := hsh b l0 hb h0
    exact ⟨h2, shared_imp h3 h1⟩
   ·intro b r hb
    obtain ⟨h2, h3⟩ := hown b r hb
    refine ⟨h2, ?_⟩
    obtain ⟨nz', h4⟩ := mdAt_bor r l nz
    rw [h4] at h3; exact h3
 | bx e ih =>
  intro m m' p p' src src' k x h hl hown hH hA hs hr
  have hr0 := hr 0 (by simp [sz]); simp only [Nat.add_zero] at hr0
  have hl' := hl
  simp only [leM, Bool.and_eq_true] at hl
  cases hm' : m'.isOwn with
  | true =>
   have hm : m.isOwn = true := by cases m' <;> first | exact hl.1 | cases hm'
   simp only [RR, hm, hm'] at h ⊢
   obtain ⟨r, h1, h3⟩ := h
   refine ⟨r, by rw [hr0, h1], ?_⟩
   match r, x, h3 with
   | none, none, _ => trivial
   | some ad, some y, h3 =>
    obtain ⟨h4, h5, h6, ⟨c, el, h7, h8⟩, h9, h10⟩ := h3
    have hb := hown ad.block [] (by simpa using h6)
    simp only [mdAt, newc, hm', List.append_nil] at hb
    refine ⟨h4, h5, hb.2, ⟨c, el, by rw [hb.1]; exact h7, h8⟩, by rw [hA _ (by simp)]; exact h9,
     ih _ _ _ _ _ _ _ _ h10 hl.2 (fun b' r hb' => by simpa [mdAt] using hown b' (.dr :: r) (by simpa using hb'))
      (fun r => by simpa using hH (.dr :: r)) (fun r _ => by simpa using hA (.dr :: r) (by simp)) (fun _ _ h => h) fun j _ => cell?_congr hb.1⟩
  | false =>
   obtain ⟨l, nz, rfl⟩ : ∃ l nz, m' = .bor l nz := by
    cases m' with
    | bor l nz => exact ⟨l, nz, rfl⟩
    | own => cases hm'
    | pair => simp [Md.fits] at hl
   simp only [RR, Md.isOwn, Md.lent?]
   refine RR_toRO hsz (l := l) ?_ (.bx e) m false p src k x _ h (by simp only [leM, Bool.and_eq_true]; exact ⟨hl.1, hl.2⟩) ?_ hr
   ·intro b l0 hb h0 h1
    obtain ⟨h2, h3⟩ := hsh b l0 hb h0
    exact ⟨h2, shared_imp h3 h1⟩
   ·intro b r hb
    obtain ⟨h2, h3⟩ := hown b r hb
    refine ⟨h2, ?_⟩
    obtain ⟨nz', h4⟩ := mdAt_bor r l nz
    rw [h4] at h3; exact h3
 | pair a b iha ihb =>
  intro m m' p p' src src' k x h hl hown hH hA hs hr
  simp only [RR, leM, Bool.and_eq_true] at *
  obtain ⟨hc, hcb, ha, h1, h2⟩ := h
  have hsa := sz_cell hc
  refine ⟨hc, hcb, fun b' off hb' => by rw [hA _ (by simp)]; exact ha b' off (hs _ _ hb'),
   iha _ _ _ _ _ _ _ _ h1 (by rw [leM_cell hc k 0]; exact hl.1) (fun b' r hb => by simpa [mdAt] using hown b' (.fld k :: r) (by simpa using hb))
    (fun r => by simpa using hH (.fld k :: r)) (fun r _ => by simpa using hA (.fld k :: r) (by simp)) hs fun j hj => hr j (by simp [sz]; omega),
   ihb _ _ _ _ _ _ _ _ h2 hl.2 hown hH hA hs fun j hj => ?_⟩
  have := hr (j + 1) (by simp [sz]; omega)
  rw [show k + 1 + j = k + (j + 1) by omega]; exact this
 | sl e ih =>
  intro m m' p p' src src' k x h hl hown hH hA hs hr
  have hr0 := hr 0 (by simp [sz]); simp only [Nat.add_zero] at hr0
  have hl' := hl
  simp only [leM, Bool.and_eq_true] at hl
  obtain ⟨⟨hl1, hl2⟩, hl3⟩ := hl
  cases hm' : m'.isOwn with
  | true =>
   have hm : m.isOwn = true := by cases m' <;> first | exact hl1 | cases hm'
   simp only [RR, hm, hm'] at h ⊢
   obtain ⟨a, cap, h1, h2, h3, h4, h5⟩ := h
   have hH0 := hH []; simp only [List.append_nil] at hH0
   refine ⟨a, cap, by rw [hr0, h1, hH0], by rw [hH0, h2], h3, fun hz => h4 (by cases hq : m.nz? <;> simp_all [bimp]), ?_⟩
   cases a with
   | none => exact h5
   | some ad =>
    obtain ⟨h6, h7, ⟨c, el, h8, h9⟩, h10⟩ := h5
    have hb := hown ad.block [] (by simpa using h7)
    simp only [mdAt, newc, hm', List.append_nil] at hb
    refine ⟨h6, hb.2, ⟨c, el, by rw [hb.1]; exact h8, h9⟩, fun i hi => ⟨by rw [hA _ (by simp)]; exact (h10 i hi).1,
     ih _ _ _ _ _ _ _ _ (h10 i hi).2 hl3 (fun b' r hb' => by simpa [mdAt] using hown b' (.el i :: r) (by simpa using hb'))
      (fun r => by simpa using hH (.el i :: r)) (fun r _ => by simpa using hA (.el i :: r) (by simp)) (fun _ _ h => h) fun j _ => cell?_congr hb.1⟩⟩
  | false =>
   obtain ⟨l, nz, rfl⟩ : ∃ l nz, m' = .bor l nz := by
    cases m' with
    | bor l nz => exact ⟨l, nz, rfl⟩
    | own => cases hm'
    | pair => simp [Md.fits] at hl1
   have hro : RO w' g'.col l (.sl e) (rdS w' src') k x := by
    have hle : leM (.sl e) k m (.bor l false) = true := by
     simp only [leM, Bool.and_eq_true]
     exact ⟨⟨hl1, rfl⟩, hl3⟩
    cases hm : m.isOwn with
    | true =>
     refine RR_toRO hsz (l := l) ?_ (.sl e) m false p src k x _ h hle ?_ hr
     ·intro b l0 hb h0 h1
      obtain ⟨h2, h3⟩ := hsh b l0 hb h0
      exact ⟨h2, shared_imp h3 h1⟩
     ·intro b r hb
      obtain ⟨h2, h3⟩ := hown b r hb
      refine ⟨h2, ?_⟩
      obtain ⟨nz', h4⟩ := mdAt_bor r l nz
      rw [h4] at h3; exact h3
    | false =>
     rw [RR, hm] at h
     have hb : bimp m.lent? l = true := by simpa [Md.fits, hm] using hl1
     exact RO_conv hb hsz (fun b' hb1 hb2 => by obtain ⟨h2, h3⟩ := hsh b' _ hb1 hb2; exact ⟨h2, shared_imp h3 hb⟩) (.sl e) _ _ _ _ h.1 hr
   simp only [RR, Md.isOwn]
   refine ⟨hro, fun hz hx => ?_⟩
   have hz' : m.nz? = true := by cases hq : m.nz? <;> simp_all [bimp]
   simp only [RR] at h
   cases hm : m.isOwn with
   | true =>
    rw [hm] at h
    obtain ⟨a, cap, h1, h2, h3, h4, h5⟩ := h
    have := h4 hz' hx
    subst this
    exact ⟨_, _, by rw [hr0, h1, h2]⟩
   | false =>
    rw [hm] at h
    obtain ⟨l, c, h1⟩ := h.2 hz' hx
    exact ⟨l, c, by rw [hr0]; exact h1⟩

theorem hasOwn_fld {m : Md} (h : m.hasOwn = false) : ∀ k, (fldMd m k).hasOwn = false := by
 intro k
 induction k generalizing m with
 | zero => cases m <;> simp_all [fldMd, Md.fst, Md.hasOwn]
 | succ k ih => exact ih (by cases m <;> simp_all [Md.snd, Md.hasOwn])
theorem isOwn_hasOwn {m : Md} (h : m.hasOwn = false) : m.isOwn = false := by cases m <;> simp_all [Md.hasOwn, Md.isOwn]

/-- what owns nothing hangs on no slot -/
theorem RR_free {w w' : World} {g g' : Gh} {s s' : Nat} (hsz : w.heap.size ≤ w'.heap.size)
  (hsh : ∀ b l0, b < w.heap.size → shared g.col l0 b → w'.heap[b]? = w.heap[b]? ∧ shared g'.col l0 b) :
  ∀ (t : Ty) (m : Md) (p p' : List Stp) (src : Src) (cs : Array Value) (k k' : Nat) (x : den t), RR w g s t m p src k x → m.hasOwn = false →
   (isCell t = false → k' = k) → (∀ j, j < sz t → cs[k' + j]? = rdS w src (k + j)) → RR w' g' s' t m p' (.val cs) k' x := by
 intro t
 induction t with
 | int kd => intro m p p' src cs k k' x h _ _ hr; have := hr 0 (by simp [sz]); simp at this; simp only [RR, rdS] at *; rw [this]; exact h
 | bool => intro m p p' src cs k k' x h _ _ hr; have := hr 0 (by simp [sz]); simp at this; simp only [RR, rdS] at *; rw [this]; exact h
 | unit => intros; trivial
 | mp kt et _ _ =>
  intro m p p' src cs k k' x h hm _ hr
  have hr0 := hr 0 (by simp [sz]); simp only [Nat.add_zero] at hr0
  have hmo := isOwn_hasOwn hm
  simp only [RR, hmo] at h ⊢
  have h1 := RO_conv (l := m.lent?) (l' := m.lent?) (by cases m.lent? <;> rfl) hsz (fun b hb hs => hsh b _ hb hs) (.mp kt et) (rdS w src) (rdS w src) k x h (fun _ _ => rfl)
  simp only [RO] at h1 ⊢
  obtain ⟨r, h2, h3⟩ := h1
  exact ⟨r, by simp only [rdS]; rw [hr0]; exact h2, h3⟩
 | bx e _ =>
  intro m p p' src cs k k' x h hm _ hr
  have hr0 := hr 0 (by simp [sz]); simp only [Nat.add_zero] at hr0
  have hmo := isOwn_hasOwn hm
  simp only [RR, hmo] at h ⊢
  have h1 := RO_conv (l := m.lent?) (l' := m.lent?) (by cases m.lent? <;> rfl) hsz (fun b hb hs => hsh b _ hb hs) (.bx e) (rdS w src) (rdS w src) k x h (fun _ _ => rfl)
  simp only [RO] at h1 ⊢
  obtain ⟨r, h2, h3⟩ := h1
  exact ⟨r, by simp only [rdS]; rw [hr0]; exact h2, h3⟩
 | pair a b iha ihb =>
  intro m p p' src cs k k' x h hm hk hr
  have hk := hk rfl
  subst hk
  simp only [RR] at *
  obtain ⟨hc, hcb, _, h1, h2⟩ := h
  have hsa := sz_cell hc
  refine ⟨hc, hcb, (fun _ _ h => by cases h), iha _ _ _ _ _ _ _ _ h1 (hasOwn_fld hm _) (fun _ => rfl) fun j hj => hr j (by simp [sz]; omega),
   ihb _ _ _ _ _ _ _ _ h2 hm (fun _ => rfl) fun j hj => ?_⟩
  have := hr (j + 1) (by simp [sz]; omega)
  rw [show k' + 1 + j = k' + (j + 1) by omega]; exact this
 | sl e ih =>
  intro m p p' src cs k k' x h hm _ hr
  have hr0 := hr 0 (by simp [sz]); simp only [Nat.add_zero] at hr0
  have hmo := isOwn_hasOwn hm
  simp only [RR, hmo] at h ⊢
  refine ⟨?_, fun hz hx => by obtain ⟨l, c, h1⟩ := h.2 hz hx; exact ⟨l, c, by simp only [rdS]; rw [hr0]; exact h1⟩⟩
  have h1 := RO_conv (l := m.lent?) (l' := m.lent?) (by cases m.lent? <;> rfl) hsz (fun b hb hs => hsh b _ hb hs) (.sl e) (rdS w src) (rdS w src) k x h.1 (fun _ _ => rfl)
  simp only [RO] at h1 ⊢
  obtain ⟨a, cap, h2, h3⟩ := h1
  exact ⟨a, cap, by simp only [rdS]; rw [hr0]; exact h2, h3⟩

/-- read-only memory, as a value's cells -/
theorem RO_RR {w : World} {g : Gh} {s : Nat} {l : Bool} : ∀ (t : Ty) (p : List Stp) (rd : Nat → Option Value) (cs : Array Value) (k : Nat) (x : den t), RO w g.col l t rd k x →
  (∀ j, j < sz t → cs[k + j]? = rd (k + j)) → RR w g s t (.bor l false) p (.val cs) k x := by
 intro t
 induction t with
 | int kd => intro p rd cs k x h hr; have := hr 0 (by simp [sz]); simp at this; simp only [RR, RO, rdS] at *; rw [this]; exact h
 | bool => intro p rd cs k x h hr; have := hr 0 (by simp [sz]); simp at this; simp only [RR, RO, rdS] at *; rw [this]; exact h
 | unit => intros; trivial
 | mp kt et _ _ =>
  intro p rd cs k x h hr
  have hr0 := hr 0 (by simp [sz]); simp only [Nat.add_zero] at hr0
  simp only [RR, RO, Md.isOwn, Md.lent?] at *
  obtain ⟨r, h2, h3⟩ := h
  exact ⟨r, by simp only [rdS]; rw [hr0]; exact h2, h3⟩
 | bx e _ =>
  intro p rd cs k x h hr
  have hr0 := hr 0 (by simp [sz]); simp only [Nat.add_zero] at hr0
  simp only [RR, RO, Md.isOwn, Md.lent?] at *
  obtain ⟨r, h2, h3⟩ := h
  exact ⟨r, by simp only [rdS]; rw [hr0]; exact h2, h3⟩
 | pair a b iha ihb =>
  intro p rd cs k x h hr
  simp only [RR, RO, fld_bor] at *
  obtain ⟨hc, hcb, h1, h2⟩ := h
  have hsa := sz_cell hc
  refine ⟨hc, hcb, (fun _ _ h => by cases h), iha _ _ _ _ _ h1 fun j hj => hr j (by simp [sz]; omega), ihb _ _ _ _ _ h2 fun j hj => ?_⟩
  have := hr (j + 1) (by simp [sz]; omega)
  rw [show k + 1 + j = k + (j + 1) by omega]; exact this
 | sl e ih =>
  intro p rd cs k x h hr
  have hr0 := hr 0 (by simp [sz]); simp only [Nat.add_zero] at hr0
  simp only [RR, RO, Md.isOwn, Md.lent?, Md.nz?] at *
  obtain ⟨a, cap, h2, h3⟩ := h
  exact ⟨⟨a, cap, by simp only [rdS]; rw [hr0]; exact h2, h3⟩, fun h => by cases h⟩

/-- the path lies within -/
def okP : List Stp → (t : Ty) → Md → den t → Prop
 | [], _, _, _ => True
 | .fld n :: q, t, m, x => ∃ tv, fieldOf t m x n = some tv ∧ okP q tv.t tv.m tv.x
 | .el i :: q, .sl e, m, x => m.isOwn = true ∧ i < List.length x ∧ okP q e m.el (List.getD x i (dflt e))
 | _ :: _, _, _, _ => False

theorem RR_field {w : World} {g : Gh} {s : Nat} {m : Md} {n : Nat} : ∀ (t : Ty) (p : List Stp) (src : Src) (k : Nat) (x : den t) (tv : TV), RR w g s t m p src k x → fieldK m n t x k = some tv →
  RR w g s tv.t tv.m (p ++ [.fld n]) src n tv.x ∧ isCell tv.t = true ∧ tv.m = fldMd m n ∧ (∀ b off, src = .mem b off → g.A s (p ++ [.fld n]) = (b, off + n)) ∧ k ≤ n ∧ n < k + sz t := by
 intro t
 induction t with
 | pair a b iha ihb =>
  intro p src k x tv h hf
  simp only [RR, fieldK] at h hf
  obtain ⟨hc, hcb, ha, h1, h2⟩ := h
  cases hkn : Nat.beq k n with
  | true =>
   rw [hkn] at hf
   have hkn : k = n := Nat.eq_of_beq_eq_true hkn
   subst hkn
   simp only [Option.some.injEq] at hf
   subst hf
   exact ⟨h1, hc, rfl, ha, Nat.le_refl _, by simp [sz]; omega⟩
  | false =>
   rw [hkn] at hf
   obtain ⟨h3, h4, h5, h6, h7, h8⟩ := ihb _ _ _ _ _ h2 hf
   exact ⟨h3, h4, h5, h6, by omega, by simp [sz]; omega⟩
 | _ => intro p src k x tv h hf; simp [fieldK] at hf

/-- a part at a path -/
theorem RR_at {w : World} {g : Gh} {s : Nat} : ∀ (q : List Stp) (t : Ty) (m : Md) (p : List Stp) (src : Src) (k : Nat) (x : den t) (tv : TV), RR w g s t m p src k x → (isCell t = false → k = 0) →
  okP q t m x → walkP q t m x = some tv → (∀ b off, src = .mem b off → g.A s p = (b, off + k)) →
  ∃ src' k', RR w g s tv.t tv.m (p ++ q) src' k' tv.x ∧ (isCell tv.t = false → k' = 0) ∧ (∀ b off, src' = .mem b off → g.A s (p ++ q) = (b, off + k')) ∧
   (q = [] → src' = src ∧ k' = k) ∧ ((∃ b off, src = .mem b off) ∨ (∃ i, Stp.el i ∈ q) → ∃ b off, src' = .mem b off) := by
 intro q
 induction q with
 | nil =>
  intro t m p src k x tv h hk _ hw hA
  simp only [walkP, Option.some.injEq] at hw
  subst hw
  exact ⟨src, k, by simpa using h, hk, by simpa using hA, fun _ => ⟨rfl, rfl⟩, fun h => h.elim id (fun ⟨_, h⟩ => by cases h)⟩
 | cons c q ih =>
  intro t m p src k x tv h hk hok hw hA
  cases c with
  | dr => simp [okP] at hok
  | fld n =>
   simp only [okP, walkP] at hok hw
   obtain ⟨tv', hf, hok⟩ := hok
   rw [hf] at hw
   have hk0 : k = 0 := by
    cases t <;> first | exact hk rfl | (simp [fieldOf, fieldK] at hf)
   subst hk0
   obtain ⟨h1, h2, h3, h4, _, _⟩ := RR_field _ _ _ _ _ _ h hf
   obtain ⟨src', k', h5, h6, h7, h8, h9⟩ := ih _ _ _ _ _ _ _ h1 (fun hc => by rw [h2] at hc; cases hc) hok hw h4
   refine ⟨src', k', by simpa using h5, h6, by simpa using h7, (fun h => by cases h), fun hm => h9 ?_⟩
   rcases hm with hm | ⟨i, hm⟩
   ·exact .inl (by obtain ⟨b, off, hm⟩ := hm; exact ⟨b, off, hm⟩)
   ·exact .inr ⟨i, by simpa using hm⟩
  | el i =>
   cases t with
   | sl e =>
    simp only [okP, walkP] at hok hw
    obtain ⟨hm, hi, hok⟩ := hok
    simp only [RR, hm] at h
    obtain ⟨a, cap, h1, h2, h3, h4, h5⟩ := h
    cases a with
    | none => obtain ⟨hx, _⟩ := h5; subst hx; simp at hi
    | some ad =>
     obtain ⟨h6, h7, h8, h9⟩ := h5
     obtain ⟨h10, h11⟩ := h9 i hi
     obtain ⟨src', k', h12, h13, h14, h15, h16⟩ := ih _ _ _ _ _ _ _ h11 (fun _ => rfl) hok hw (fun b off hs => by cases hs; simpa using h10)
     refine ⟨src', k', by simpa using h12, h13, by simpa using h14, (fun h => by cases h), fun _ => h16 (.inl ⟨_, _, rfl⟩)⟩
   | _ => simp [okP] at hok
end Go.Ab
