/- The invariant that ties abstract states to the machine's slots and world, and how it is kept. -/
import Derived.Test.YtmndifhjmbiodaaAbUpd
namespace Go.Ab

theorem get_set (st : St) (s : Nat) (a : AV) (t : Nat) : (st.set s a).get t = if t = s then a else st.get t := by
  simp only [St.get, St.set, look]
  by_cases h : t = s
  · subst h; simp [Nat.beq_refl]
  · have : Nat.beq s t = false := by cases hb : Nat.beq s t with
      | false => rfl
      | true => exact absurd (Nat.eq_of_beq_eq_true hb).symm h
    rw [this]; simp [h]
theorem get_tick (st : St) (c t : Nat) : (st.tick c).get t = st.get t := rfl
theorem c_set (st : St) (s : Nat) (a : AV) : (st.set s a).c = st.c := rfl
theorem c_tick (st : St) (c : Nat) : (st.tick c).c = c + 2 := rfl

/-- a value's form: one cell, or as many as its type says -/
def shapeV (t : Ty) (v : Value) : Prop := match isCell t with
  | true => v.cells = #[v]
  | false => ∃ cs, v = .agg cs ∧ cs.size = sz t

def Own.ok (o : Own) (p : List Stp) : Prop := match o.box, p with
  | true, .dr :: q => okP q o.t o.m o.x
  | false, p => okP p o.t o.m o.x
  | _, _ => False
def Own.mem (o : Own) (p : List Stp) : Prop := o.box = true ∨ ∃ i, Stp.el i ∈ p

/-- a slice that is empty only if it is nil -/
def nzP : (t : Ty) → (Nat → Option Value) → den t → Prop
  | .sl _, rd, x => x = [] → ∃ l c, rd 0 = some (.slice none l c)
  | _, _, _ => True

/-- what an abstract value that owns nothing says of a value -/
def VR0 (w : World) (g : Gh) (av : Nat → AV) : AV → Value → Prop
  | .dead, _ => True
  | .undefd, v => v = undef
  | .nilS, v => v = .slice none 0 0
  | .nilP, v => v = .pointer none
  | .v t m x, v => m.hasOwn = false ∧ shapeV t v ∧ RR w g 0 t m [] (.val v.cells) 0 x
  | .al s n p, v => ∀ o, own? (av s) n = some o → v = g.H s p ∧ o.ok p
  | .pl s n p, v => ∀ o, ownP? (av s) n p = some o → v = .pointer (some ⟨(g.A s p).1, (g.A s p).2, none⟩) ∧ o.ok p ∧ o.mem p
  | .sub s n p lo len cp, v => ∀ o, own? (av s) n = some o → o.ok p ∧ ∃ (e : Ty) (m : Md) (x : List (den e)) (a : Option Addr) (c M : Nat),
      o.at p = some ⟨.sl e, m, x⟩ ∧ g.H s p = .slice a x.length c ∧ lo + len ≤ x.length ∧ lo + len ≤ M ∧ M ≤ c ∧ (cp = true → M = lo + len) ∧
      v = .slice (if M = lo then a else a.map (·.add (lo * sz e))) len (M - lo)
  | .rop t m x, v => ∃ l nz, m = .bor l nz ∧ ∃ ad : Addr, v = .pointer (some ad) ∧ ad.spot = none ∧ ad.block < w.heap.size ∧ shared g.col l ad.block ∧
      RO w g.col l t (fun j => w.cell? ⟨ad.block, ad.off + j, none⟩) 0 x ∧ (nz = true → nzP t (fun j => w.cell? ⟨ad.block, ad.off + j, none⟩) x)
  | _, _ => False
def VR (w : World) (g : Gh) (av : Nat → AV) : AV → Value → Prop
  | .clo f caps, v => ∃ vs, v = .func (.func f) #[] vs ∧ vs.size = caps.length ∧ ∀ i, i < caps.length → VR0 w g av (caps.getD i .dead) (vs.getD i undef)
  | a, v => VR0 w g av a v

def CompR (w : World) (g : Gh) (s i : Nat) : AV → Value → Prop
  | .v t m x, v => m.hasOwn = false ∧ shapeV t v ∧ RR w g 0 t m [] (.val v.cells) 0 x
  | .ow _ t m x, v => shapeV t v ∧ RR w g s t m [.fld i] (.val v.cells) 0 x
  | .dead, _ => True
  | _, _ => False

/-- The slice of an append to the part of slot s at p, in slot d: it lies in a block of d's own, or in that part's room. -/
def AppR (w : World) (g : Gh) (av : Nat → AV) (d s n : Nat) (p : List Stp) (e : Ty) (nz : Bool) (me : Md) (zs : List (den e)) (v : Value) : Prop :=
  ∀ o, own? (av s) n = some o → o.ok p ∧ me.hasOwn = false ∧ ∃ xs : List (den e), o.at p = some ⟨.sl e, .own nz me, xs⟩ ∧
    ((v.cells = #[v] ∧ RR w g d (.sl e) (.own nz me) [] (.val v.cells) 0 zs) ∨
     (∃ (ad : Addr) (cap : Nat), ad.spot = none ∧ g.H s p = .slice (some ad) xs.length cap ∧ g.col ad.block = some (s, p) ∧ v = .slice (some ad) zs.length cap ∧ zs.length ≤ cap ∧ zs ≠ [] ∧
        (∃ c el, w.heap[ad.block]? = some (.cells c el (0, 0)) ∧ ad.off + cap * sz e ≤ c.size) ∧
        ∀ i, i < zs.length → ∃ cs : Array Value, (∀ j, j < sz e → w.cell? ⟨ad.block, ad.off + i * sz e + j, none⟩ = cs[j]?) ∧ RR w g 0 e me [] (.val cs) 0 (zs.getD i (dflt e))))

/-- an entry of the map of slot s at p that is about to get its value: its stamp, or a tuple that has it in the second place -/
def EntR (w : World) (g : Gh) (av : Nat → AV) (s n : Nat) (p : List Stp) (k : Ty) (y : den k) (tup : Bool) (v : Value) : Prop :=
  ∃ (born : Nat) (v2 : Value), (v = match tup with | true => .tuple #[v2, goInt born] | false => goInt born) ∧
    ∀ o, own? (av s) n = some o → o.ok p ∧ ∃ (e : Ty) (m : Md) (x : List (den k × den e)) (B c j : Nat) (es : Array MapEntry) (en : MapEntry) (v1 : Value), o.at p = some ⟨.mp k e, m, x⟩ ∧ g.H s p = .map (some B) ∧ g.col B = some (s, p) ∧
      w.heap[B]? = some (.map es c) ∧ findE k y es.toList (x.map (·.1)) 0 = some (j, v1) ∧ es[j]? = some en ∧ en.born = born

/-- what a slot's abstract value says of what it holds -/
def SlotR (w : World) (g : Gh) (av : Nat → AV) (s : Nat) : AV → Value → Prop
  | .ow _ t m x, v => shapeV t v ∧ RR w g s t m [] (.val v.cells) 0 x
  | .box _ _ t m x, v => ∃ b c el, v = .pointer (some ⟨b, 0, none⟩) ∧ g.col b = some (s, []) ∧ w.heap[b]? = some (.cells c el (0, 0)) ∧ sz t ≤ c.size ∧
      g.A s [.dr] = (b, 0) ∧ RR w g s t m [.dr] (.mem b 0) 0 x
  | .tup l, v => ∃ vs, v = .tuple vs ∧ vs.size = l.length ∧ ∀ i, i < l.length → CompR w g s i (l.getD i .dead) (vs.getD i undef)
  | .app s' n p e nz me zs, v => AppR w g av s s' n p e nz me zs v
  | .ent s' n p k y b, v => EntR w g av s' n p k y b v
  | a, v => VR w g av a v

/-- U: the stamps in use -/
def stampOK0 (U : Nat → Prop) : AV → Prop
  | .ow n _ _ _ => U n
  | .box n u _ _ _ => U n ∧ U u
  | .al _ n _ | .pl _ n _ | .sub _ n _ _ _ _ => U n
  | .app _ n _ _ _ _ _ => U n
  | .ent _ n _ _ _ _ => U n
  | _ => True
def stampOK (U : Nat → Prop) : AV → Prop
  | .clo _ l => ∀ a ∈ l, stampOK0 U a
  | a => stampOK0 U a
/-- the stamps in use behind an operation that may lay stamps c and c + 1 -/
def Nw (U : Nat → Prop) (c : Nat) (n : Nat) : Prop := U n ∨ n = c ∨ n = c + 1
theorem Nw_old {U : Nat → Prop} {c n : Nat} (h : U n) : Nw U c n := .inl h
theorem Nw_0 {U : Nat → Prop} {c : Nat} : Nw U c c := .inr (.inl rfl)
theorem Nw_1 {U : Nat → Prop} {c : Nat} : Nw U c (c + 1) := .inr (.inr rfl)
/-- stamps that are not in use -/
def New (U : Nat → Prop) (c : Nat) : Prop := ¬ U c ∧ ¬ U (c + 1)

/-- What a call began with: blocks that were handed over (they may change), blocks that were lent, slots that are not used, slots that keep what they hold. -/
structure Mu where
  h : Nat → Prop
  L : Nat → Prop
  far : Nat → Prop
  hfar : far lentC.1
  pin : Nat → Option Value
theorem Mu.ne {mu : Mu} {s : Nat} (h : ¬ mu.far s) : s ≠ lentC.1 := fun h' => h (h' ▸ mu.hfar)
instance : CoeFun Mu (fun _ => Nat → Prop) := ⟨Mu.h⟩

/-- since a call began at w0 nothing has changed but blocks that were handed over, and new ones -/
structure Fr (w0 : World) (mu : Mu) (w : World) : Prop where
  os : w.os = w0.os
  tape : w.tape = w0.tape
  output : w.output = w0.output
  size : w0.heap.size ≤ w.heap.size
  old : ∀ b, b < w0.heap.size → ¬ mu b → w.heap[b]? = w0.heap[b]?

theorem isApp_look : ∀ (l : List (Nat × AV)) (t : Nat), look l t = .dead ∨ (t, look l t) ∈ l
  | [], _ => .inl rfl
  | (d, v) :: r, t => by
    simp only [look]
    cases hb : Nat.beq d t with
    | true =>
      have := Nat.eq_of_beq_eq_true hb
      subst this
      exact .inr (by simp)
    | false =>
      rcases isApp_look r t with h | h
      · exact .inl h
      · exact .inr (List.mem_cons_of_mem _ h)
theorem noApp_get {st : St} (h : noApp st = true) (s : Nat) : isApp (st.get s) = false := by
  rcases isApp_look st.l s with h1 | h1
  · rw [St.get, h1]; rfl
  · have := List.all_eq_true.1 h _ h1
    simp only at this
    cases hb : isApp (look st.l s) with
    | false => exact hb
    | true => rw [hb] at this; simp at this

structure Inv (w0 : World) (mu : Mu) (av : Nat → AV) (val : Nat → Value) (U : Nat → Prop) (w : World) (g : Gh) : Prop where
  slots : ∀ s, SlotR w g av s (av s) (val s)
  stamps : ∀ s, stampOK U (av s)
  cols : ∀ b k, g.col b = some k → b < w.heap.size ∧ (k = lentC ∨ w0.heap.size ≤ b ∨ mu b)
  fr : Fr w0 mu w
  far : ∀ s, mu.far s → av s = .dead
  lk : ∀ b, mu.L b → g.col b = some lentC
theorem Inv.lent {w0 : World} {mu : Mu} {av : Nat → AV} {val : Nat → Value} {U : Nat → Prop} {w : World} {g : Gh} (h : Inv w0 mu av val U w g) : av lentC.1 = .dead := h.far _ mu.hfar

theorem VR0_mono {w w' : World} {g g' : Gh} {av av' : Nat → AV} {U : Nat → Prop} (hsz : w.heap.size ≤ w'.heap.size)
    (hsh : ∀ b l0, b < w.heap.size → shared g.col l0 b → w'.heap[b]? = w.heap[b]? ∧ shared g'.col l0 b)
    (hown : ∀ s n, U n → ∀ o', own? (av' s) n = some o' → ∃ o, own? (av s) n = some o ∧
      ∀ p, o.ok p → o'.ok p ∧ g'.H s p = g.H s p ∧ (∀ e m x, o.at p = some ⟨.sl e, m, x⟩ → ∃ m' x', o'.at p = some ⟨.sl e, m', x'⟩ ∧ List.length x' = List.length x))
    (hptr : ∀ s n p, U n → ∀ o', ownP? (av' s) n p = some o' → ∃ o, ownP? (av s) n p = some o ∧ (o.ok p → o.mem p → o'.ok p ∧ o'.mem p ∧ g'.A s p = g.A s p))
    (a : AV) (v : Value) (ha : stampOK0 U a) (h : VR0 w g av a v) : VR0 w' g' av' a v := by
  cases a with
  | v t m x => exact ⟨h.1, h.2.1, RR_free hsz hsh t m [] [] _ _ 0 0 x h.2.2 h.1 (fun _ => rfl) (fun j _ => rfl)⟩
  | al s n p =>
    intro o' ho'
    obtain ⟨o, ho, hp⟩ := hown s n ha o' ho'
    obtain ⟨h1, h2⟩ := h o ho
    obtain ⟨h3, h4, _⟩ := hp p h2
    exact ⟨by rw [h4]; exact h1, h3⟩
  | pl s n p =>
    intro o' ho'
    obtain ⟨o, ho, hp⟩ := hptr s n p ha o' ho'
    obtain ⟨h1, h2, h3⟩ := h o ho
    obtain ⟨h4, h5, h6⟩ := hp h2 h3
    exact ⟨by rw [h6]; exact h1, h4, h5⟩
  | sub s n p lo len cp =>
    intro o' ho'
    obtain ⟨o, ho, hp⟩ := hown s n ha o' ho'
    obtain ⟨h1, e, m, x, a, cc, M, h2, h3, h4, h5, h6, h7, h8⟩ := h o ho
    obtain ⟨h9, h10, h11⟩ := hp p h1
    obtain ⟨m', x', h12, h13⟩ := h11 e m x h2
    exact ⟨h9, e, m', x', a, cc, M, h12, by rw [h10, h13]; exact h3, by rw [h13]; exact h4, h5, h6, h7, h8⟩
  | rop t m x =>
    obtain ⟨l, nz, rfl, ad, h1, h2, h3, h4, h5, h6⟩ := h
    obtain ⟨h7, h8⟩ := hsh _ l h3 h4
    have hc : ∀ j, w'.cell? ⟨ad.block, ad.off + j, none⟩ = w.cell? ⟨ad.block, ad.off + j, none⟩ := fun j => cell?_congr h7
    refine ⟨l, nz, rfl, ad, h1, h2, by omega, h8, RO_conv (by cases l <;> rfl) hsz (fun b hb hs => hsh b l hb hs) t _ _ 0 x h5 (fun j _ => hc _), fun hz => ?_⟩
    have := h6 hz
    cases t <;> first | trivial | (simp only [nzP, hc] at this ⊢; exact this)
  | _ => exact h

theorem VR_mono {w w' : World} {g g' : Gh} {av av' : Nat → AV} {U : Nat → Prop} (hsz : w.heap.size ≤ w'.heap.size)
    (hsh : ∀ b l0, b < w.heap.size → shared g.col l0 b → w'.heap[b]? = w.heap[b]? ∧ shared g'.col l0 b)
    (hown : ∀ s n, U n → ∀ o', own? (av' s) n = some o' → ∃ o, own? (av s) n = some o ∧
      ∀ p, o.ok p → o'.ok p ∧ g'.H s p = g.H s p ∧ (∀ e m x, o.at p = some ⟨.sl e, m, x⟩ → ∃ m' x', o'.at p = some ⟨.sl e, m', x'⟩ ∧ List.length x' = List.length x))
    (hptr : ∀ s n p, U n → ∀ o', ownP? (av' s) n p = some o' → ∃ o, ownP? (av s) n p = some o ∧ (o.ok p → o.mem p → o'.ok p ∧ o'.mem p ∧ g'.A s p = g.A s p))
    (a : AV) (v : Value) (ha : stampOK U a) (h : VR w g av a v) : VR w' g' av' a v := by
  cases h0 : a with
  | clo f caps =>
    rw [h0] at h ha
    obtain ⟨vs, h1, h2, h3⟩ := h
    refine ⟨vs, h1, h2, fun i hi => VR0_mono hsz hsh hown hptr _ _ (ha _ ?_) (h3 i hi)⟩
    rw [List.getD_eq_getElem?_getD, List.getElem?_eq_getElem hi]
    exact List.getElem_mem hi
  | _ =>
    have := VR0_mono hsz hsh hown hptr a v (by rw [h0] at ha ⊢; exact ha) (by rw [h0] at h ⊢; exact h)
    rw [h0] at this
    exact this

theorem stampOK0_mono {U U' : Nat → Prop} (hc : ∀ n, U n → U' n) {a : AV} (ha : stampOK0 U a) : stampOK0 U' a := by
  cases a <;> first | trivial | exact hc _ ha | exact ⟨hc _ ha.1, hc _ ha.2⟩
theorem stampOK_mono {U U' : Nat → Prop} (hc : ∀ n, U n → U' n) {a : AV} (ha : stampOK U a) : stampOK U' a := by
  cases h0 : a with
  | clo f l => rw [h0] at ha; exact fun b hb => stampOK0_mono hc (ha b hb)
  | _ =>
    have := stampOK0_mono hc (a := a) (by rw [h0] at ha ⊢; exact ha)
    rw [h0] at this; exact this

theorem Inv.monoU {w0 w : World} {mu : Mu} {av : Nat → AV} {val : Nat → Value} {U U' : Nat → Prop} {g : Gh} (h : Inv w0 mu av val U w g) (hc : ∀ n, U n → U' n) : Inv w0 mu av val U' w g :=
  ⟨h.slots, fun s => stampOK_mono hc (h.stamps s), h.cols, h.fr, h.far, h.lk⟩

/-- The invariant from state to state: outside X slots are as they were, with all that they own and point at. -/
theorem Inv_upd {w0 w w' : World} {mu : Mu} {av av' : Nat → AV} {val val' : Nat → Value} {U U' : Nat → Prop} {g g' : Gh} (h : Inv w0 mu av val U w g) (X : Nat → Prop)
    (hc : ∀ n, U n → U' n) (hsz : w.heap.size ≤ w'.heap.size)
    (hsh : ∀ b l0, b < w.heap.size → shared g.col l0 b → w'.heap[b]? = w.heap[b]? ∧ shared g'.col l0 b)
    (hun : ∀ s, ¬ X s → av' s = av s ∧ val' s = val s ∧ (∀ b r, g.col b = some (s, r) → w'.heap[b]? = w.heap[b]? ∧ g'.col b = g.col b) ∧ (∀ p, g'.H s p = g.H s p) ∧ (∀ p, g'.A s p = g.A s p))
    (hown : ∀ s, X s → ∀ n, U n → ∀ o', own? (av' s) n = some o' → ∃ o, own? (av s) n = some o ∧
      ∀ p, o.ok p → o'.ok p ∧ g'.H s p = g.H s p ∧ (∀ e m x, o.at p = some ⟨.sl e, m, x⟩ → ∃ m' x', o'.at p = some ⟨.sl e, m', x'⟩ ∧ List.length x' = List.length x))
    (hptr : ∀ s, X s → ∀ n p, U n → ∀ o', ownP? (av' s) n p = some o' → ∃ o, ownP? (av s) n p = some o ∧ (o.ok p → o.mem p → o'.ok p ∧ o'.mem p ∧ g'.A s p = g.A s p))
    (hX : ∀ s, X s → SlotR w' g' av' s (av' s) (val' s) ∧ stampOK U' (av' s))
    (hcols : ∀ b k, g'.col b = some k → b < w'.heap.size ∧ (k = lentC ∨ w0.heap.size ≤ b ∨ mu b))
    (hfr : Fr w0 mu w') (hld : ∀ s, mu.far s → av' s = .dead) (hlk : ∀ b, g.col b = some lentC → g'.col b = some lentC)
    (happ : (∀ s, X s → ∀ n, U n → own? (av' s) n = none) ∨ (∀ s, isApp (av s) = false)) : Inv w0 mu av' val' U' w' g' := by
  have hown' : ∀ s n, U n → ∀ o', own? (av' s) n = some o' → ∃ o, own? (av s) n = some o ∧
      ∀ p, o.ok p → o'.ok p ∧ g'.H s p = g.H s p ∧ (∀ e m x, o.at p = some ⟨.sl e, m, x⟩ → ∃ m' x', o'.at p = some ⟨.sl e, m', x'⟩ ∧ List.length x' = List.length x) := by
    intro s n hn o' ho'
    by_cases hs : X s
    · exact hown s hs n hn o' ho'
    · obtain ⟨h1, _, _, h4, _⟩ := hun s hs
      rw [h1] at ho'
      exact ⟨o', ho', fun p hp => ⟨hp, h4 p, fun e m x hx => ⟨m, x, hx, rfl⟩⟩⟩
  have hptr' : ∀ s n p, U n → ∀ o', ownP? (av' s) n p = some o' → ∃ o, ownP? (av s) n p = some o ∧ (o.ok p → o.mem p → o'.ok p ∧ o'.mem p ∧ g'.A s p = g.A s p) := by
    intro s n p hn o' ho'
    by_cases hs : X s
    · exact hptr s hs n p hn o' ho'
    · obtain ⟨h1, _, _, _, h5⟩ := hun s hs
      rw [h1] at ho'
      exact ⟨o', ho', fun hp hm => ⟨hp, hm, h5 p⟩⟩
  refine ⟨fun s => ?_, fun s => ?_, hcols, hfr, hld, fun b hb => hlk b (h.lk b hb)⟩
  · by_cases hs : X s
    · exact (hX s hs).1
    · obtain ⟨h1, h2, h3, h4, h5⟩ := hun s hs
      have h0 := h.slots s
      have hst := h.stamps s
      rw [h1, h2]
      generalize ha : av s = a at h0 hst
      generalize val s = v at h0
      cases a with
      | ow n t m x =>
        exact ⟨h0.1, RR_frame hsz hsh t m [] _ 0 x h0.2 (fun b r hb => by simpa using h3 b r (by simpa using hb)) (fun r => h4 _) (fun r _ => h5 _) (fun j _ => rfl)⟩
      | box n u t m x =>
        obtain ⟨b, cc, el, h6, h7, h8, h9, h10, h11⟩ := h0
        obtain ⟨h12, h13⟩ := h3 b [] h7
        exact ⟨b, cc, el, h6, by rw [h13]; exact h7, by rw [h12]; exact h8, h9, by rw [h5]; exact h10,
          RR_frame hsz hsh t m [.dr] _ 0 x h11 (fun b' r hb => h3 b' _ hb) (fun r => h4 _) (fun r _ => h5 _) (fun j _ => by simp only [rdS]; exact cell?_congr h12)⟩
      | tup l =>
        obtain ⟨vs, h6, h7, h8⟩ := h0
        refine ⟨vs, h6, h7, fun i hi => ?_⟩
        have h9 := h8 i hi
        generalize l.getD i .dead = a at h9
        cases a with
        | v t m x => exact ⟨h9.1, h9.2.1, RR_free hsz hsh t m [] [] _ _ 0 0 x h9.2.2 h9.1 (fun _ => rfl) (fun j _ => rfl)⟩
        | ow n t m x => exact ⟨h9.1, RR_frame hsz hsh t m _ _ 0 x h9.2 (fun b r hb => h3 b _ hb) (fun r => h4 _) (fun r _ => h5 _) (fun j _ => rfl)⟩
        | _ => exact h9
      | app s' n p e nz me zs =>
        intro o' ho'
        have hs' : ¬ X s' := fun hX' => by
          rcases happ with happ | happ
          · rw [happ s' hX' n hst] at ho'; cases ho'
          · have := happ s; rw [ha] at this; cases this
        obtain ⟨h1', _, h3', h4', _⟩ := hun s' hs'
        rw [h1'] at ho'
        obtain ⟨h6, h7, xs, h8, h9⟩ := h0 o' ho'
        refine ⟨h6, h7, xs, h8, ?_⟩
        rcases h9 with ⟨h9, h10⟩ | ⟨ad, cap, h10, h11, h12, h13, h14, h15, ⟨c, el, h16, h17⟩, h18⟩
        · exact .inl ⟨h9, RR_frame hsz hsh (.sl e) (.own nz me) [] _ 0 zs h10 (fun b r hb => by simpa using h3 b r (by simpa using hb)) (fun r => h4 _) (fun r _ => h5 _) (fun j _ => rfl)⟩
        · obtain ⟨h19, h20⟩ := h3' _ _ h12
          refine .inr ⟨ad, cap, h10, by rw [h4']; exact h11, by rw [h20]; exact h12, h13, h14, h15, ⟨c, el, by rw [h19]; exact h16, h17⟩, fun i hi => ?_⟩
          obtain ⟨cs, h21, h22⟩ := h18 i hi
          exact ⟨cs, fun j hj => by rw [← h21 j hj]; exact cell?_congr h19, RR_free hsz hsh e me [] [] _ _ 0 0 _ h22 h7 (fun _ => rfl) (fun _ _ => rfl)⟩
      | ent s' n p kt y b =>
        obtain ⟨born, v2, h0a, h0⟩ := h0
        refine ⟨born, v2, h0a, fun o' ho' => ?_⟩
        have hs' : ¬ X s' := fun hX' => by
          rcases happ with happ | happ
          · rw [happ s' hX' n hst] at ho'; cases ho'
          · have := happ s; rw [ha] at this; cases this
        obtain ⟨h1', _, h3', h4', _⟩ := hun s' hs'
        rw [h1'] at ho'
        obtain ⟨h6, e, m, x, B, c, j, es, en, v1, h7, h8, h9, h10, h11⟩ := h0 o' ho'
        obtain ⟨h12, h13⟩ := h3' B p h9
        exact ⟨h6, e, m, x, B, c, j, es, en, v1, h7, by rw [h4']; exact h8, by rw [h13]; exact h9, by rw [h12]; exact h10, h11⟩
      | dead => trivial
      | undefd => exact h0
      | nilS => exact h0
      | nilP => exact h0
      | v t m x => exact VR_mono hsz hsh hown' hptr' (.v t m x) v hst h0
      | pl s n p => exact VR_mono hsz hsh hown' hptr' (.pl s n p) v hst h0
      | al s n p => exact VR_mono hsz hsh hown' hptr' (.al s n p) v hst h0
      | sub s n p lo len cp => exact VR_mono hsz hsh hown' hptr' (.sub s n p lo len cp) v hst h0
      | rop t m x => exact VR_mono hsz hsh hown' hptr' (.rop t m x) v hst h0
      | clo f l => exact VR_mono hsz hsh hown' hptr' (.clo f l) v hst h0
  · by_cases hs : X s
    · exact (hX s hs).2
    · rw [(hun s hs).1]
      have hst := h.stamps s
      exact stampOK_mono hc hst
end Go.Ab
