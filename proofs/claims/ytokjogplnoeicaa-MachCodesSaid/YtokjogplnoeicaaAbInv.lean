/- The invariant that ties abstract states to the machine's slots and world, and how it is kept. -/
import Derived.Test.YtokjogplnoeicaaAbUpd
namespace Go.Ab

theorem get_set (st : St) (s : Nat) (a : AV) (t : Nat) : (st.set s a).get t = if t = s then a else st.get t := by
 simp only [St.get, St.set, look]
 by_cases h : t = s
 ·subst h; simp [Nat.beq_refl]
 ·have : Nat.beq s t = false := by cases hb : Nat.beq s t with
   | false => rfl
   | true => exact absurd (Nat.eq_of_beq_eq_true hb).symm h
  rw [this]; simp [h]
theorem get_tick (st : St) (c t : Nat) : (st.tick c).get t = st.get t := rfl
theorem c_set (st : St) (s : Nat) (a : AV) : (st.set s a).c = st.c := rfl
theorem c_tick (st : St) (c : Nat) : (st.tick c).c = c + 2 := rfl

theorem rest_get (st : St) (s n c u : Nat) : (st.rest s n c).get u = restA s n c (st.get u) := by
 unfold St.rest St.get
 induction st.l with
 | nil => rfl
 | cons x l ih =>
  simp only [List.map_cons, look]
  cases Nat.beq x.1 u with
  | true => rfl
  | false => exact ih

/-- a value's form: one cell, or as many as its type says -/
def shapeV (t : Ty) (v : Value) : Prop := match isCell t with
 | true => v.cells = #[v]
 | false => ∃ cs, v = .agg cs ∧ cs.size = sz t

def Own.ok (o : Own) (p : List Stp) : Prop := match o.box, p with
 | true, .dr :: q => okP q o.t o.m o.x
 | false, p => okP p o.t o.m o.x
 | _, _ => False
def Own.mem (o : Own) (p : List Stp) : Prop := o.box = true ∨ ∃ i, Stp.el i ∈ p

/-- a slice that is empty only if it is nil -/
def nzP : (t : Ty) → (Nat → Option Value) → den t → Prop
 | .sl _, rd, x => x = [] → ∃ l c, rd 0 = some (.slice none l c)
 | _, _, _ => True

/-- what an abstract value that owns nothing says of a value -/
def VR0 (w : World) (g : Gh) (av : Nat → AV) : AV → Value → Prop
 | .dead, _ => True
 | .undefd, v => v = undef
 | .nilS, v => v = .slice none 0 0
 | .nilP, v => v = .pointer none
 | .v t m x, v => m.hasOwn = false ∧ shapeV t v ∧ RR w g 0 t m [] (.val v.cells) 0 x
 | .al s n p, v => ∀ o, own? (av s) n = some o → v = g.H s p ∧ o.ok p
 | .pl s n p, v => ∀ o, ownP? (av s) n p = some o → v = .pointer (some ⟨(g.A s p).1, (g.A s p).2, none⟩) ∧ o.ok p ∧ o.mem p
 | .sub s n p lo len cp, v => ∀ o, own? (av s) n = some o → o.ok p ∧ ∃ (e : Ty) (m : Md) (x : List (den e)) (a : Option Addr) (c M : Nat),
   o.at p = some ⟨.sl e, m, x⟩ ∧ g.H s p = .slice a x.length c ∧ lo + len ≤ x.length ∧ lo + len ≤ M ∧ M ≤ c ∧ (cp = true → M = lo + len) ∧
   v = .slice (if M = lo then a else a.map (·.add (lo * sz e))) len (M - lo)
 | .rop t m x, v => ∃ l nz, m = .bor l nz ∧ ∃ ad : Addr, v = .pointer (some ad) ∧ ad.spot = none ∧ ad.block < w.heap.size ∧ shared g.col l ad.block ∧
   RO w g.col l t (fun j => w.cell? ⟨ad.block, ad.off + j, none⟩) 0 x ∧ (nz = true → nzP t (fun j => w.cell? ⟨ad.block, ad.off + j, none⟩) x)
 | _, _ => False
def VR (w : World) (g : Gh) (av : Nat → AV) : AV → Value → Prop
 | .clo f caps, v => ∃ vs, v = .func (.func f) #[] vs ∧ vs.size = caps.length ∧ ∀ i, i < caps.length → VR0 w g av (caps.getD i .dead) (vs.getD i undef)
 | .cel s n, v => ∃ b c el u, v = .pointer (some ⟨b, 0, none⟩) ∧ b < w.heap.size ∧ shared g.col false b ∧ w.heap[b]? = some (.cells c el (0, 0)) ∧ c[0]? = some u ∧
  ∀ o, ownP? (av s) n [.dr] = some o → u = .pointer (some ⟨(g.A s [.dr]).1, (g.A s [.dr]).2, none⟩) ∧ o.ok [.dr] ∧ o.mem [.dr]
 | a, v => VR0 w g av a v

def CompR (w : World) (g : Gh) (s i : Nat) : AV → Value → Prop
 | .v t m x, v => m.hasOwn = false ∧ shapeV t v ∧ RR w g 0 t m [] (.val v.cells) 0 x
 | .ow _ t m x, v => shapeV t v ∧ RR w g s t m [.fld i] (.val v.cells) 0 x
 | .dead, _ => True
 | _, _ => False

/-- The slice of an append to the part of slot s at p, in slot d: it lies in a block of d's own, or in that part's room. -/
def AppR (w : World) (g : Gh) (av : Nat → AV) (d s n : Nat) (p : List Stp) (e : Ty) (nz : Bool) (me : Md) (zs : List (den e)) (v : Value) : Prop :=
 ∀ o, own? (av s) n = some o → o.ok p ∧ me.hasOwn = false ∧ ∃ xs : List (den e), o.at p = some ⟨.sl e, .own nz me, xs⟩ ∧
  ((v.cells = #[v] ∧ RR w g d (.sl e) (.own nz me) [] (.val v.cells) 0 zs) ∨
   (∃ (ad : Addr) (cap : Nat), ad.spot = none ∧ g.H s p = .slice (some ad) xs.length cap ∧ g.col ad.block = some (s, p) ∧ v = .slice (some ad) zs.length cap ∧ zs.length ≤ cap ∧ zs ≠ [] ∧
    (∃ c el, w.heap[ad.block]? = some (.cells c el (0, 0)) ∧ ad.off + cap * sz e ≤ c.size) ∧
    ∀ i, i < zs.length → ∃ cs : Array Value, (∀ j, j < sz e → w.cell? ⟨ad.block, ad.off + i * sz e + j, none⟩ = cs[j]?) ∧ RR w g 0 e me [] (.val cs) 0 (zs.getD i (dflt e))))

/-- an entry of the map of slot s at p that is about to get its value: its stamp, or a tuple that has it in the second place -/
def EntR (w : World) (g : Gh) (av : Nat → AV) (s n : Nat) (p : List Stp) (k : Ty) (y : den k) (tup : Bool) (v : Value) : Prop :=
 ∃ (born : Nat) (v2 : Value), (v = match tup with | true => .tuple #[v2, goInt born] | false => goInt born) ∧
  ∀ o, own? (av s) n = some o → o.ok p ∧ ∃ (e : Ty) (m : Md) (x : List (den k × den e)) (B c j : Nat) (es : Array MapEntry) (en : MapEntry) (v1 : Value), o.at p = some ⟨.mp k e, m, x⟩ ∧ g.H s p = .map (some B) ∧ g.col B = some (s, p) ∧
   w.heap[B]? = some (.map es c) ∧ findE k y es.toList (x.map (·.1)) 0 = some (j, v1) ∧ es[j]? = some en ∧ en.born = born

/-- an iterator over the map of slot s at p, in slot d: what is left to come, and what came last -/
def ItR (w : World) (g : Gh) (av : Nat → AV) (d s n : Nat) (p : List Stp) (k e : Ty) (l : List (den k × den e)) (z : Option (den k × den e)) (v : Value) : Prop :=
 ∃ (r B c : Nat) (seen : Array Nat), v = .pointer (some ⟨r, 0, none⟩) ∧ g.col r = some (d, []) ∧ w.heap[r]? = some (.mapIter (some B) c seen c) ∧ (flat k = true ∧ isCell k = true ∧ flat e = true ∧ isCell e = true) ∧
  ∀ o, own? (av s) n = some o → o.ok p ∧ ∃ (m : Md) (x : List (den k × den e)) (es : Array MapEntry), o.at p = some ⟨.mp k e, m, x⟩ ∧ g.H s p = .map (some B) ∧ g.col B = some (s, p) ∧ w.heap[B]? = some (.map es c) ∧
   (es.toList.map (·.born)).Nodup ∧ (∀ en ∈ es.toList, en.born < c) ∧ (leftOf es seen).toList.map (fun en => (en.key, en.val)) = l.map (fun z => (litV k z.1, litV e z.2)) ∧
   (∀ y, z = some y → ∃ en ∈ es.toList, seen.back? = some en.born ∧ en.key = litV k y.1 ∧ en.val = litV e y.2)

/-- what a slot's abstract value says of what it holds -/
def SlotR (w : World) (g : Gh) (av : Nat → AV) (s : Nat) : AV → Value → Prop
 | .ow _ t m x, v => shapeV t v ∧ RR w g s t m [] (.val v.cells) 0 x
 | .box _ _ t m x, v => ∃ b c el, v = .pointer (some ⟨b, 0, none⟩) ∧ g.col b = some (s, []) ∧ w.heap[b]? = some (.cells c el (0, 0)) ∧ sz t ≤ c.size ∧
   g.A s [.dr] = (b, 0) ∧ RR w g s t m [.dr] (.mem b 0) 0 x
 | .tup l, v => ∃ vs, v = .tuple vs ∧ vs.size = l.length ∧ ∀ i, i < l.length → CompR w g s i (l.getD i .dead) (vs.getD i undef)
 | .app s' n p e nz me zs, v => AppR w g av s s' n p e nz me zs v
 | .ent s' n p k y b, v => EntR w g av s' n p k y b v
 | .it s' n p k e l z, v => ItR w g av s s' n p k e l z v
 | a, v => VR w g av a v

/-- U: the stamps in use -/
def stampOK0 (U : Nat → Prop) : AV → Prop
 | .ow n _ _ _ => U n
 | .box n u _ _ _ => U n ∧ U u
 | .al _ n _ | .pl _ n _ | .sub _ n _ _ _ _ | .cel _ n => U n
 | .app _ n _ _ _ _ _ => U n
 | .ent _ n _ _ _ _ => U n
 | .it _ n _ _ _ _ _ => U n
 | _ => True
def stampOK (U : Nat → Prop) : AV → Prop
 | .clo _ l => ∀ a ∈ l, stampOK0 U a
 | a => stampOK0 U a
/-- the stamps in use behind an operation that may lay stamps c and c + 1 -/
def Nw (U : Nat → Prop) (c : Nat) (n : Nat) : Prop := U n ∨ n = c ∨ n = c + 1
theorem Nw_old {U : Nat → Prop} {c n : Nat} (h : U n) : Nw U c n := .inl h
theorem Nw_0 {U : Nat → Prop} {c : Nat} : Nw U c c := .inr (.inl rfl)
theorem Nw_1 {U : Nat → Prop} {c : Nat} : Nw U c (c + 1) := .inr (.inr rfl)
/-- stamps that are not in use -/
def New (U : Nat → Prop) (c : Nat) : Prop := ¬ U c ∧ ¬ U (c + 1)

/-- What a call began with: blocks that were handed over (they may change), blocks that were lent, slots that are not used, slots that keep what they hold. -/
structure Mu where
 h : Nat → Prop
 L : Nat → Prop
 far : Nat → Prop
 hfar : far lentC.1
 pin : Nat → Option Value
theorem Mu.ne {mu : Mu} {s : Nat} (h : ¬ mu.far s) : s ≠ lentC.1 := fun h' => h (h' ▸ mu.hfar)
instance : CoeFun Mu (fun _ => Nat → Prop) := ⟨Mu.h⟩

/-- since a call began at w0 nothing has changed but blocks that were handed over, and new ones -/
structure Fr (w0 : World) (mu : Mu) (w : World) : Prop where
 os : w.os = w0.os
 tape : w.tape = w0.tape
 output : w.output = w0.output
 size : w0.heap.size ≤ w.heap.size
 old : ∀ b, b < w0.heap.size → ¬ mu b → w.heap[b]? = w0.heap[b]?

theorem isApp_look : ∀ (l : List (Nat × AV)) (t : Nat), look l t = .dead ∨ (t, look l t) ∈ l
 | [], _ => .inl rfl
 | (d, v) :: r, t => by
  simp only [look]
  cases hb : Nat.beq d t with
  | true =>
   have := Nat.eq_of_beq_eq_true hb
   subst this
   exact .inr (by simp)
  | false =>
   rcases isApp_look r t with h | h
   ·exact .inl h
   ·exact .inr (List.mem_cons_of_mem _ h)
theorem noApp_get {st : St} {s0 : Nat} (h : noApp st s0 = true) (s : Nat) : appTo s0 (st.get s) = false := by
 rcases isApp_look st.l s with h1 | h1
 ·rw [St.get, h1]; rfl
 ·have := List.all_eq_true.1 h _ h1
  simp only at this
  cases hb : appTo s0 (look st.l s) with
  | false => exact hb
  | true => rw [hb] at this; simp at this

structure Inv (w0 : World) (mu : Mu) (av : Nat → AV) (val : Nat → Value) (U : Nat → Prop) (w : World) (g : Gh) : Prop where
 slots : ∀ s, SlotR w g av s (av s) (val s)
 stamps : ∀ s, stampOK U (av s)
 cols : ∀ b k, g.col b = some k → b < w.heap.size ∧ (k = lentC ∨ w0.heap.size ≤ b ∨ mu b)
 fr : Fr w0 mu w
 far : ∀ s, mu.far s → av s = .dead
 lk : ∀ b, mu.L b → g.col b = some lentC
theorem Inv.lent {w0 : World} {mu : Mu} {av : Nat → AV} {val : Nat → Value} {U : Nat → Prop} {w : World} {g : Gh} (h : Inv w0 mu av val U w g) : av lentC.1 = .dead := h.far _ mu.hfar

theorem VR0_mono {w w' : World} {g g' : Gh} {av av' : Nat → AV} {U : Nat → Prop} (hsz : w.heap.size ≤ w'.heap.size)
  (hsh : ∀ b l0, b < w.heap.size → shared g.col l0 b → w'.heap[b]? = w.heap[b]? ∧ shared g'.col l0 b)
  (hown : ∀ s n, U n → ∀ o', own? (av' s) n = some o' → ∃ o, own? (av s) n = some o ∧
   ∀ p, o.ok p → o'.ok p ∧ g'.H s p = g.H s p ∧ (∀ e m x, o.at p = some ⟨.sl e, m, x⟩ → ∃ m' x', o'.at p = some ⟨.sl e, m', x'⟩ ∧ List.length x' = List.length x))
  (hptr : ∀ s n p, U n → ∀ o', ownP? (av' s) n p = some o' → ∃ o, ownP? (av s) n p = some o ∧ (o.ok p → o.mem p → o'.ok p ∧ o'.mem p ∧ g'.A s p = g.A s p))
  (a : AV) (v : Value) (ha : stampOK0 U a) (h : VR0 w g av a v) : VR0 w' g' av' a v := by
 cases a with
 | v t m x => exact ⟨h.1, h.2.1, RR_free hsz hsh t m [] [] _ _ 0 0 x h.2.2 h.1 (fun _ => rfl) (fun j _ => rfl)⟩
 | al s n p =>
  intro o' ho'
  obtain ⟨o, ho, hp⟩ := hown s n ha o' ho'
  obtain ⟨h1, h2⟩ := h o ho
  obtain ⟨h3, h4, _⟩ := hp p h2
  exact ⟨by rw [h4]; exact h1, h3⟩
 | pl s n p =>
  intro o' ho'
  obtain ⟨o, ho, hp⟩ := hptr s n p ha o' ho'
  obtain ⟨h1, h2, h3⟩ := h o ho
  obtain ⟨h4, h5, h6⟩ := hp h2 h3
  exact ⟨by rw [h6]; exact h1, h4, h5⟩
 | sub s n p lo len cp =>
  intro o' ho'
  obtain ⟨o, ho, hp⟩ := hown s n ha o' ho'
  obtain ⟨h1, e, m, x, a, cc, M, h2, h3, h4, h5, h6, h7, h8⟩ := h o ho
  obtain ⟨h9, h10, h11⟩ := hp p h1
  obtain ⟨m', x', h12, h13⟩ := h11 e m x h2
  exact ⟨h9, e, m', x', a, cc, M, h12, by rw [h10, h13]; exact h3, by rw [h13]; exact h4, h5, h6, h7, h8⟩
 | rop t m x =>
  obtain ⟨l, nz, rfl, ad, h1, h2, h3, h4, h5, h6⟩ := h
  obtain ⟨h7, h8⟩ := hsh _ l h3 h4
  have hc : ∀ j, w'.cell? ⟨ad.block, ad.off + j, none⟩ = w.cell? ⟨ad.block, ad.off + j, none⟩ := fun j => cell?_congr h7
  refine ⟨l, nz, rfl, ad, h1, h2, by omega, h8, RO_conv (by cases l <;> rfl) hsz (fun b hb hs => hsh b l hb hs) t _ _ 0 x h5 (fun j _ => hc _), fun hz => ?_⟩
  have := h6 hz
  cases t <;> first | trivial | (simp only [nzP, hc] at this ⊢; exact this)
 | _ => exact h

theorem VR_mono {w w' : World} {g g' : Gh} {av av' : Nat → AV} {U : Nat → Prop} (hsz : w.heap.size ≤ w'.heap.size)
  (hsh : ∀ b l0, b < w.heap.size → shared g.col l0 b → w'.heap[b]? = w.heap[b]? ∧ shared g'.col l0 b)
  (hown : ∀ s n, U n → ∀ o', own? (av' s) n = some o' → ∃ o, own? (av s) n = some o ∧
   ∀ p, o.ok p → o'.ok p ∧ g'.H s p = g.H s p ∧ (∀ e m x, o.at p = some ⟨.sl e, m, x⟩ → ∃ m' x', o'.at p = some ⟨.sl e, m', x'⟩ ∧ List.length x' = List.length x))
  (hptr : ∀ s n p, U n → ∀ o', ownP? (av' s) n p = some o' → ∃ o, ownP? (av s) n p = some o ∧ (o.ok p → o.mem p → o'.ok p ∧ o'.mem p ∧ g'.A s p = g.A s p))
  (a : AV) (v : Value) (ha : stampOK U a) (h : VR w g av a v) : VR w' g' av' a v := by
 cases h0 : a with
 | clo f caps =>
  rw [h0] at h ha
  obtain ⟨vs, h1, h2, h3⟩ := h
  refine ⟨vs, h1, h2, fun i hi => VR0_mono hsz hsh hown hptr _ _ (ha _ ?_) (h3 i hi)⟩
  rw [List.getD_eq_getElem?_getD, List.getElem?_eq_getElem hi]
  exact List.getElem_mem hi
 | cel s n =>
  rw [h0] at h ha
  obtain ⟨b, c, el, u, h1, h2, h3, h4, h5, h6⟩ := h
  obtain ⟨h7, h8⟩ := hsh _ _ h2 h3
  refine ⟨b, c, el, u, h1, by omega, h8, by rw [h7]; exact h4, h5, fun o' ho' => ?_⟩
  obtain ⟨o, ho, hk⟩ := hptr s n [.dr] ha o' ho'
  obtain ⟨h9, h10, h11⟩ := h6 o ho
  obtain ⟨h12, h13, h14⟩ := hk h10 h11
  exact ⟨by rw [h14]; exact h9, h12, h13⟩
 | _ =>
  have := VR0_mono hsz hsh hown hptr a v (by rw [h0] at ha ⊢; exact ha) (by rw [h0] at h ⊢; exact h)
  rw [h0] at this
  exact this

theorem stampOK0_mono {U U' : Nat → Prop} (hc : ∀ n, U n → U' n) {a : AV} (ha : stampOK0 U a) : stampOK0 U' a := by
 cases a <;> first | trivial | exact hc _ ha | exact ⟨hc _ ha.1, hc _ ha.2⟩
theorem stampOK_mono {U U' : Nat → Prop} (hc : ∀ n, U n → U' n) {a : AV} (ha : stampOK U a) : stampOK U' a := by
 cases h0 : a with
 | clo f l => rw [h0] at ha; exact fun b hb => stampOK0_mono hc (ha b hb)
 | _ =>
  have := stampOK0_mono hc (a := a) (by rw [h0] at ha ⊢; exact ha)
  rw [h0] at this; exact this

theorem Inv.monoU {w0 w : World} {mu : Mu} {av : Nat → AV} {val : Nat → Value} {U U' : Nat → Prop} {g : Gh} (h : Inv w0 mu av val U w g) (hc : ∀ n, U n → U' n) : Inv w0 mu av val U' w g :=
 ⟨h.slots, fun s => stampOK_mono hc (h.stamps s), h.cols, h.fr, h.far, h.lk⟩

/-- The invariant from state to state: outside X slots are as they were, with all that they own and point at. -/
theorem Inv_updG {w0 w w' : World} {mu : Mu} {av av' : Nat → AV} {val val' : Nat → Value} {U U' : Nat → Prop} {g g' : Gh} (h : Inv w0 mu av val U w g) (X : Nat → Prop)
  (hc : ∀ n, U n → U' n) (hsz : w.heap.size ≤ w'.heap.size)
  (hsh : ∀ b l0, b < w.heap.size → shared g.col l0 b → w'.heap[b]? = w.heap[b]? ∧ shared g'.col l0 b)
  (hun : ∀ s, ¬ X s → av' s = av s ∧ val' s = val s ∧ (∀ b r, g.col b = some (s, r) → w'.heap[b]? = w.heap[b]? ∧ g'.col b = g.col b) ∧ (∀ p, g'.H s p = g.H s p) ∧ (∀ p, g'.A s p = g.A s p))
  (hown : ∀ s, X s → ∀ n, U n → ∀ o', own? (av' s) n = some o' → ∃ o, own? (av s) n = some o ∧
   ∀ p, o.ok p → o'.ok p ∧ g'.H s p = g.H s p ∧ (∀ e m x, o.at p = some ⟨.sl e, m, x⟩ → ∃ m' x', o'.at p = some ⟨.sl e, m', x'⟩ ∧ List.length x' = List.length x))
  (hptr : ∀ s, X s → ∀ n p, U n → ∀ o', ownP? (av' s) n p = some o' → ∃ o, ownP? (av s) n p = some o ∧ (o.ok p → o.mem p → o'.ok p ∧ o'.mem p ∧ g'.A s p = g.A s p))
  (hX : ∀ s, X s → SlotR w' g' av' s (av' s) (val' s) ∧ stampOK U' (av' s))
  (hcols : ∀ b k, g'.col b = some k → b < w'.heap.size ∧ (k = lentC ∨ w0.heap.size ≤ b ∨ mu b))
  (hfr : Fr w0 mu w') (hld : ∀ s, mu.far s → av' s = .dead) (hlk : ∀ b, g.col b = some lentC → g'.col b = some lentC)
  (happ : ∀ s, X s → (∀ n, U n → own? (av' s) n = none) ∨ (∀ u, appTo s (av u) = false)) : Inv w0 mu av' val' U' w' g' := by
 have hown' : ∀ s n, U n → ∀ o', own? (av' s) n = some o' → ∃ o, own? (av s) n = some o ∧
   ∀ p, o.ok p → o'.ok p ∧ g'.H s p = g.H s p ∧ (∀ e m x, o.at p = some ⟨.sl e, m, x⟩ → ∃ m' x', o'.at p = some ⟨.sl e, m', x'⟩ ∧ List.length x' = List.length x) := by
  intro s n hn o' ho'
  by_cases hs : X s
  ·exact hown s hs n hn o' ho'
  ·obtain ⟨h1, _, _, h4, _⟩ := hun s hs
   rw [h1] at ho'
   exact ⟨o', ho', fun p hp => ⟨hp, h4 p, fun e m x hx => ⟨m, x, hx, rfl⟩⟩⟩
 have hptr' : ∀ s n p, U n → ∀ o', ownP? (av' s) n p = some o' → ∃ o, ownP? (av s) n p = some o ∧ (o.ok p → o.mem p → o'.ok p ∧ o'.mem p ∧ g'.A s p = g.A s p) := by
  intro s n p hn o' ho'
  by_cases hs : X s
  ·exact hptr s hs n p hn o' ho'
  ·obtain ⟨h1, _, _, _, h5⟩ := hun s hs
   rw [h1] at ho'
   exact ⟨o', ho', fun hp hm => ⟨hp, hm, h5 p⟩⟩
 refine ⟨fun s => ?_, fun s => ?_, hcols, hfr, hld, fun b hb => hlk b (h.lk b hb)⟩
 ·by_cases hs : X s
  ·exact (hX s hs).1
  ·obtain ⟨h1, h2, h3, h4, h5⟩ := hun s hs
   have h0 := h.slots s
   have hst := h.stamps s
   rw [h1, h2]
   generalize ha : av s = a at h0 hst
   generalize val s = v at h0
   cases a with
   | ow n t m x =>
    exact ⟨h0.1, RR_frame hsz hsh t m [] _ 0 x h0.2 (fun b r hb => by simpa using h3 b r (by simpa using hb)) (fun r => h4 _) (fun r _ => h5 _) (fun j _ => rfl)⟩
   | box n u t m x =>
    obtain ⟨b, cc, el, h6, h7, h8, h9, h10, h11⟩ := h0
    obtain ⟨h12, h13⟩ := h3 b [] h7
    exact ⟨b, cc, el, h6, by rw [h13]; exact h7, by rw [h12]; exact h8, h9, by rw [h5]; exact h10,
     RR_frame hsz hsh t m [.dr] _ 0 x h11 (fun b' r hb => h3 b' _ hb) (fun r => h4 _) (fun r _ => h5 _) (fun j _ => by simp only [rdS]; exact cell?_congr h12)⟩
   | tup l =>
    obtain ⟨vs, h6, h7, h8⟩ := h0
    refine ⟨vs, h6, h7, fun i hi => ?_⟩
    have h9 := h8 i hi
    generalize l.getD i .dead = a at h9
    cases a with
    | v t m x => exact ⟨h9.1, h9.2.1, RR_free hsz hsh t m [] [] _ _ 0 0 x h9.2.2 h9.1 (fun _ => rfl) (fun j _ => rfl)⟩
    | ow n t m x => exact ⟨h9.1, RR_frame hsz hsh t m _ _ 0 x h9.2 (fun b r hb => h3 b _ hb) (fun r => h4 _) (fun r _ => h5 _) (fun j _ => rfl)⟩
    | _ => exact h9
   | app s' n p e nz me zs =>
    intro o' ho'
    have hs' : ¬ X s' := fun hX' => by
     rcases happ s' hX' with happ | happ
     ·rw [happ n hst] at ho'; cases ho'
     ·have := happ s; rw [ha] at this; cases this
    obtain ⟨h1', _, h3', h4', _⟩ := hun s' hs'
    rw [h1'] at ho'
    obtain ⟨h6, h7, xs, h8, h9⟩ := h0 o' ho'
    refine ⟨h6, h7, xs, h8, ?_⟩
    rcases h9 with ⟨h9, h10⟩ | ⟨ad, cap, h10, h11, h12, h13, h14, h15, ⟨c, el, h16, h17⟩, h18⟩
    ·exact .inl ⟨h9, RR_frame hsz hsh (.sl e) (.own nz me) [] _ 0 zs h10 (fun b r hb => by simpa using h3 b r (by simpa using hb)) (fun r => h4 _) (fun r _ => h5 _) (fun j _ => rfl)⟩
    ·obtain ⟨h19, h20⟩ := h3' _ _ h12
     refine .inr ⟨ad, cap, h10, by rw [h4']; exact h11, by rw [h20]; exact h12, h13, h14, h15, ⟨c, el, by rw [h19]; exact h16, h17⟩, fun i hi => ?_⟩
     obtain ⟨cs, h21, h22⟩ := h18 i hi
     exact ⟨cs, fun j hj => by rw [← h21 j hj]; exact cell?_congr h19, RR_free hsz hsh e me [] [] _ _ 0 0 _ h22 h7 (fun _ => rfl) (fun _ _ => rfl)⟩
   | ent s' n p kt y b =>
    obtain ⟨born, v2, h0a, h0⟩ := h0
    refine ⟨born, v2, h0a, fun o' ho' => ?_⟩
    have hs' : ¬ X s' := fun hX' => by
     rcases happ s' hX' with happ | happ
     ·rw [happ n hst] at ho'; cases ho'
     ·have := happ s; rw [ha] at this; cases this
    obtain ⟨h1', _, h3', h4', _⟩ := hun s' hs'
    rw [h1'] at ho'
    obtain ⟨h6, e, m, x, B, c, j, es, en, v1, h7, h8, h9, h10, h11⟩ := h0 o' ho'
    obtain ⟨h12, h13⟩ := h3' B p h9
    exact ⟨h6, e, m, x, B, c, j, es, en, v1, h7, by rw [h4']; exact h8, by rw [h13]; exact h9, by rw [h12]; exact h10, h11⟩
   | it s' n p kt et l z =>
    obtain ⟨r, B, c, seen, h6, h7, h8, hk, h0⟩ := h0
    obtain ⟨h9, h10⟩ := h3 r [] h7
    refine ⟨r, B, c, seen, h6, by rw [h10]; exact h7, by rw [h9]; exact h8, hk, fun o' ho' => ?_⟩
    have hs' : ¬ X s' := fun hX' => by
     rcases happ s' hX' with happ | happ
     ·rw [happ n hst] at ho'; cases ho'
     ·have := happ s; rw [ha] at this; simp [appTo] at this
    obtain ⟨h1', _, h3', h4', _⟩ := hun s' hs'
    rw [h1'] at ho'
    obtain ⟨h11, m, x, es, h12, h13, h14, h15, h16⟩ := h0 o' ho'
    obtain ⟨h17, h18⟩ := h3' B p h14
    exact ⟨h11, m, x, es, h12, by rw [h4']; exact h13, by rw [h18]; exact h14, by rw [h17]; exact h15, h16⟩
   | dead => trivial
   | undefd => exact h0
   | nilS => exact h0
   | nilP => exact h0
   | v t m x => exact VR_mono hsz hsh hown' hptr' (.v t m x) v hst h0
   | pl s n p => exact VR_mono hsz hsh hown' hptr' (.pl s n p) v hst h0
   | al s n p => exact VR_mono hsz hsh hown' hptr' (.al s n p) v hst h0
   | sub s n p lo len cp => exact VR_mono hsz hsh hown' hptr' (.sub s n p lo len cp) v hst h0
   | rop t m x => exact VR_mono hsz hsh hown' hptr' (.rop t m x) v hst h0
   | clo f l => exact VR_mono hsz hsh hown' hptr' (.clo f l) v hst h0
   | cel s n => exact VR_mono hsz hsh hown' hptr' (.cel s n) v hst h0
 ·by_cases hs : X s
  ·exact (hX s hs).2
  ·rw [(hun s hs).1]
   have hst := h.stamps s
   exact stampOK_mono hc hst
theorem Inv_upd {w0 w w' : World} {mu : Mu} {av av' : Nat → AV} {val val' : Nat → Value} {U U' : Nat → Prop} {g g' : Gh} (h : Inv w0 mu av val U w g) (X : Nat → Prop)
  (hc : ∀ n, U n → U' n) (hsz : w.heap.size ≤ w'.heap.size)
  (hsh : ∀ b l0, b < w.heap.size → shared g.col l0 b → w'.heap[b]? = w.heap[b]? ∧ shared g'.col l0 b)
  (hun : ∀ s, ¬ X s → av' s = av s ∧ val' s = val s ∧ (∀ b r, g.col b = some (s, r) → w'.heap[b]? = w.heap[b]? ∧ g'.col b = g.col b) ∧ (∀ p, g'.H s p = g.H s p) ∧ (∀ p, g'.A s p = g.A s p))
  (hown : ∀ s, X s → ∀ n, U n → ∀ o', own? (av' s) n = some o' → ∃ o, own? (av s) n = some o ∧
   ∀ p, o.ok p → o'.ok p ∧ g'.H s p = g.H s p ∧ (∀ e m x, o.at p = some ⟨.sl e, m, x⟩ → ∃ m' x', o'.at p = some ⟨.sl e, m', x'⟩ ∧ List.length x' = List.length x))
  (hptr : ∀ s, X s → ∀ n p, U n → ∀ o', ownP? (av' s) n p = some o' → ∃ o, ownP? (av s) n p = some o ∧ (o.ok p → o.mem p → o'.ok p ∧ o'.mem p ∧ g'.A s p = g.A s p))
  (hX : ∀ s, X s → SlotR w' g' av' s (av' s) (val' s) ∧ stampOK U' (av' s))
  (hcols : ∀ b k, g'.col b = some k → b < w'.heap.size ∧ (k = lentC ∨ w0.heap.size ≤ b ∨ mu b))
  (hfr : Fr w0 mu w') (hld : ∀ s, mu.far s → av' s = .dead) (hlk : ∀ b, g.col b = some lentC → g'.col b = some lentC)
  (happ : (∀ s, X s → ∀ n, U n → own? (av' s) n = none) ∨ (∀ s, X s → ∀ u, appTo s (av u) = false)) : Inv w0 mu av' val' U' w' g' :=
 Inv_updG h X hc hsz hsh hun hown hptr hX hcols hfr hld hlk fun s hs => happ.imp (fun h => h s hs) (fun h => h s hs)
end Go.Ab

/-! Owned parts move from slot to slot; a slot gets a new value. -/
namespace Go.Ab

def strip : List Stp → List Stp → Option (List Stp)
 | [], q => some q
 | a :: p, b :: q => if a = b then strip p q else none
 | _ :: _, [] => none
theorem strip_app (p r : List Stp) : strip p (p ++ r) = some r := by
 induction p with
 | nil => rfl
 | cons a p ih => simp [strip, ih]
theorem strip_some : ∀ {p q r : List Stp}, strip p q = some r → q = p ++ r
 | [], q, r, h => by simp [strip] at h; simp [h]
 | a :: p, b :: q, r, h => by
  simp only [strip] at h
  split at h
  ·rename_i hab; subst hab; simp [strip_some h]
  ·cases h
 | _ :: _, [], r, h => by simp [strip] at h

def newCol (m : Md) (c : Nat × List Stp) : Option (Nat × List Stp) := match m with
 | .own _ _ => some c
 | .bor true _ => some lentC
 | _ => none
theorem newCol_newc {col : Nat → Option (Nat × List Stp)} {m : Md} {c : Nat × List Stp} {b : Nat} (h : col b = newCol m c) : newc col m c b := by
 cases m with
 | own => exact h
 | bor l nz => cases l with
  | true => exact .inr ⟨rfl, h⟩
  | false => exact .inl h
 | pair => exact .inl h

/-- what lies at (s0, p0) now lies at (d, p'), in mode m -/
def Gh.move (g : Gh) (s0 : Nat) (p0 : List Stp) (d : Nat) (p' : List Stp) (m : Md) : Gh where
 col b := match g.col b with
  | some (s, q) => if s = s0 then (match strip p0 q with | some r => newCol (mdAt m r) (d, p' ++ r) | none => none) else some (s, q)
  | none => none
 H s q := if s = d then (match strip p' q with | some r => g.H s0 (p0 ++ r) | none => g.H s q) else g.H s q
 A s q := if s = d then (match strip p' q with | some r => if r = [] then g.A s q else g.A s0 (p0 ++ r) | none => g.A s q) else g.A s q

theorem move_shared {g : Gh} {s0 d : Nat} {p0 p' : List Stp} {m : Md} (hs : s0 ≠ lentC.1) {b : Nat} {l : Bool} (h : shared g.col l b) : shared (g.move s0 p0 d p' m).col l b := by
 rcases h with h | ⟨h, h'⟩
 ·left; simp [Gh.move, h]
 ·right; refine ⟨h, ?_⟩
  simp only [Gh.move, h']
  rw [if_neg (fun h => hs h.symm)]

theorem RR_move {w w' : World} {g : Gh} {s0 d : Nat} {p0 p' : List Stp} {t : Ty} {m0 m : Md} {src src' : Src} {k : Nat} {x : den t} (hs : s0 ≠ lentC.1)
  (hsz : w.heap.size ≤ w'.heap.size) (hw : ∀ b, b < w.heap.size → w'.heap[b]? = w.heap[b]?) (hlt : ∀ b k, g.col b = some k → b < w.heap.size)
  (h : RR w g s0 t m0 p0 src k x) (hle : leM t k m0 m = true) (hsrc : ∀ b off, src' = .mem b off → src = .mem b off) (hrd : ∀ j, j < sz t → rdS w' src' (k + j) = rdS w src (k + j)) :
  RR w' (g.move s0 p0 d p' m) d t m p' src' k x := by
 refine RR_conv hsz (fun b l0 hb h => ⟨hw b hb, move_shared hs h⟩) t m0 m p0 p' src src' k x h hle ?_ ?_ ?_ hsrc hrd
 ·intro b r hb
  refine ⟨hw b (hlt _ _ hb), newCol_newc ?_⟩
  simp only [Gh.move, hb, if_true, strip_app]
 ·intro r; simp only [Gh.move, if_true, strip_app]
 ·intro r hr; simp only [Gh.move, if_true, strip_app, hr, if_false]

/-- Slot d gets a new value; slot s0 is dead then (what it owned has gone elsewhere). -/
theorem Inv_put {w0 w w' : World} {mu : Mu} {av : Nat → AV} {val : Nat → Value} {U U' : Nat → Prop} {g g' : Gh} (h : Inv w0 mu av val U w g) (s0 d : Nat) (a : AV) (v : Value)
  (hc : ∀ n, U n → U' n) (hsz : w.heap.size ≤ w'.heap.size)
  (hsh : ∀ b l0, b < w.heap.size → shared g.col l0 b → w'.heap[b]? = w.heap[b]? ∧ shared g'.col l0 b)
  (hun : ∀ b s r, g.col b = some (s, r) → s ≠ d → s ≠ s0 → w'.heap[b]? = w.heap[b]? ∧ g'.col b = g.col b)
  (hH : ∀ s, s ≠ d → s ≠ s0 → ∀ p, g'.H s p = g.H s p) (hA : ∀ s, s ≠ d → s ≠ s0 → ∀ p, g'.A s p = g.A s p)
  (hnew : SlotR w' g' (fun t => if t = d then a else if t = s0 then .dead else av t) d a v) (hst : stampOK U' a)
  (hf : ∀ n, U n → own? a n = none) (hf' : ∀ n p, U n → ownP? a n p = none)
  (hcols : ∀ b k, g'.col b = some k → b < w'.heap.size ∧ (k = lentC ∨ w0.heap.size ≤ b ∨ mu b)) (hfr : Fr w0 mu w') (hd : ¬ mu.far d) (hlk : ∀ b, g.col b = some lentC → g'.col b = some lentC) :
  Inv w0 mu (fun t => if t = d then a else if t = s0 then .dead else av t) (fun t => if t = d then v else val t) U' w' g' := by
 refine Inv_upd h (fun s => s = d ∨ s = s0) hc hsz hsh ?_ ?_ ?_ ?_ hcols hfr (fun s hs => ?_) hlk (.inl fun s hs n hn => by
  by_cases h1 : s = d
  ·subst h1; simpa using hf n hn
  ·have h2 := hs.resolve_left h1
   subst h2; simp [h1, own?])
 case refine_5 =>
  have h1 : s ≠ d := fun h => hd (h ▸ hs)
  simp only [h1, if_false, h.far s hs]
  split <;> rfl
 ·intro s hs
  have hs1 : s ≠ d := fun h => hs (.inl h)
  have hs2 : s ≠ s0 := fun h => hs (.inr h)
  exact ⟨by simp [hs1, hs2], by simp [hs1], fun b r hb => hun b s r hb hs1 hs2, hH s hs1 hs2, hA s hs1 hs2⟩
 ·intro s hs n hn o' ho'
  by_cases h1 : s = d
  ·subst h1; simp only [if_true] at ho'; rw [hf n hn] at ho'; cases ho'
  ·have h2 : s = s0 := hs.resolve_left h1
   subst h2
   simp only [h1, if_false, if_true, own?] at ho'
   cases ho'
 ·intro s hs n p hn o' ho'
  by_cases h1 : s = d
  ·subst h1; simp only [if_true] at ho'; rw [hf' n p hn] at ho'; cases ho'
  ·have h2 : s = s0 := hs.resolve_left h1
   subst h2
   simp only [h1, if_false, if_true, ownP?] at ho'
   cases ho'
 ·intro s hs
  by_cases h1 : s = d
  ·subst h1; simpa using ⟨hnew, hst⟩
  ·have h2 : s = s0 := hs.resolve_left h1
   subst h2
   simp only [h1, if_false, if_true]
   exact ⟨trivial, trivial⟩

theorem move_cols {g : Gh} {s0 d : Nat} {p0 p' : List Stp} {m : Md} {Q R : Nat → Prop} (hs : s0 ≠ lentC.1) (h : ∀ b k, g.col b = some k → Q b ∧ (k = lentC ∨ R b)) :
  ∀ b k, (g.move s0 p0 d p' m).col b = some k → Q b ∧ (k = lentC ∨ R b) := by
 intro b k hk
 simp only [Gh.move] at hk
 cases hb : g.col b with
 | none => rw [hb] at hk; cases hk
 | some c =>
  obtain ⟨s, q⟩ := c
  rw [hb] at hk
  simp only at hk
  split at hk
  ·rename_i hs0
   subst hs0
   obtain ⟨h1, h2⟩ := h b _ hb
   exact ⟨h1, .inr (h2.resolve_left fun h => hs (by rw [← h]))⟩
  ·simp only [Option.some.injEq] at hk; subst hk; exact h b _ hb

theorem move_lk {g : Gh} {s0 d : Nat} {p0 p' : List Stp} {m : Md} (hs : s0 ≠ lentC.1) {b : Nat} (h : g.col b = some lentC) : (g.move s0 p0 d p' m).col b = some lentC := by
 simp only [Gh.move, h]
 rw [if_neg (fun h => hs h.symm)]
end Go.Ab
