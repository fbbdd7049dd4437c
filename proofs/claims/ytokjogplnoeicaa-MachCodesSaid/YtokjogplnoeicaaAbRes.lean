/- Contracts of functions; what a call's results are to its caller. -/
import Derived.Test.YtokjogplnoeicaaAbMap
namespace Go.Ab

/-- slots that stand for results, and for parameters that are handed over -/
def resS : Nat := 4100000000
def argS : Nat := 4200000000

theorem noLent_fld : ∀ (k : Nat) {m : Md}, noLent m = true → noLent (fldMd m k) = true
 | 0, m, h => by cases m <;> simp_all [noLent, fldMd, Md.fst]
 | k + 1, m, h => noLent_fld k (by cases m <;> simp_all [noLent, Md.snd])

/-- what a slot owns and shares, under another name; nothing of it is lent -/
theorem RR_movedN {w w' : World} {g g' : Gh} {s s' : Nat} (hsz : w.heap.size ≤ w'.heap.size)
  (hsh : ∀ b, b < w.heap.size → g.col b = none → w'.heap[b]? = w.heap[b]? ∧ g'.col b = none) :
  ∀ (t : Ty) (m : Md) (p p' : List Stp) (src : Src) (k : Nat) (x : den t), noLent m = true → RR w g s t m p src k x →
   (∀ b r, g.col b = some (s, p ++ r) → w'.heap[b]? = w.heap[b]? ∧ g'.col b = some (s', p' ++ r)) →
   (∀ r, g'.H s' (p' ++ r) = g.H s (p ++ r)) → (∀ r, r ≠ [] → g'.A s' (p' ++ r) = g.A s (p ++ r)) →
   (∀ j, j < sz t → rdS w' src (k + j) = rdS w src (k + j)) → RR w' g' s' t m p' src k x := by
 intro t
 induction t with
 | int kd => intro m p p' src k x _ h _ _ _ hr; simp only [RR] at *; have := hr 0 (by simp [sz]); simp at this; rw [this]; exact h
 | bool => intro m p p' src k x _ h _ _ _ hr; simp only [RR] at *; have := hr 0 (by simp [sz]); simp at this; rw [this]; exact h
 | unit => intros; trivial
 | mp kt et _ _ =>
  intro m p p' src k x hn h hown hH hA hr
  have hr0 := hr 0 (by simp [sz]); simp only [Nat.add_zero] at hr0
  cases hm : m.isOwn with
  | true =>
   simp only [RR, hm] at h ⊢
   obtain ⟨r, h1, h2, h3⟩ := h
   refine ⟨r, by rw [hr0, h1], h2, ?_⟩
   cases r with
   | none => exact h3
   | some b =>
    obtain ⟨h4, h5, es, c, h6, h7⟩ := h3
    have hb := hown b [] (by simpa using h5)
    have hH0 := hH []; simp only [List.append_nil] at hH0
    exact ⟨by rw [hH0]; exact h4, by simpa using hb.2, es, c, by rw [hb.1]; exact h6, h7⟩
  | false =>
   have hl : m.lent? = false := by cases m <;> simp_all [noLent, Md.lent?, Md.isOwn]
   simp only [RR, hm] at h ⊢
   rw [hl] at h ⊢
   exact RO_conv (l := false) (l' := false) rfl hsz (fun b hb hs => by
    rcases hs with hs | ⟨hs, _⟩
    ·obtain ⟨h1, h2⟩ := hsh b hb hs; exact ⟨h1, .inl h2⟩
    ·cases hs) (.mp kt et) (rdS w src) (rdS w' src) k x h hr
 | bx e ih =>
  intro m p p' src k x hn h hown hH hA hr
  have hr0 := hr 0 (by simp [sz]); simp only [Nat.add_zero] at hr0
  cases hm : m.isOwn with
  | true =>
   have hne : noLent m.el = true := by cases m <;> simp_all [noLent, Md.isOwn, Md.el]
   simp only [RR, hm] at h ⊢
   obtain ⟨r, h1, h3⟩ := h
   refine ⟨r, by rw [hr0, h1], ?_⟩
   match r, x, h3 with
   | none, none, _ => trivial
   | some ad, some y, h3 =>
    obtain ⟨h4, h5, h6, ⟨c, el, h7, h8⟩, h9, h10⟩ := h3
    have hb := hown ad.block [] (by simpa using h6)
    refine ⟨h4, h5, by simpa using hb.2, ⟨c, el, by rw [hb.1]; exact h7, h8⟩, by rw [hA _ (by simp)]; exact h9,
     ih _ _ (p' ++ [.dr]) _ _ _ hne h10 (fun b' r hb' => by simpa using hown b' (.dr :: r) (by simpa using hb'))
      (fun r => by simpa using hH (.dr :: r)) (fun r _ => by simpa using hA (.dr :: r) (by simp)) fun j _ => cell?_congr hb.1⟩
  | false =>
   have hl : m.lent? = false := by cases m <;> simp_all [noLent, Md.lent?, Md.isOwn]
   simp only [RR, hm] at h ⊢
   rw [hl] at h ⊢
   exact RO_conv (l := false) (l' := false) rfl hsz (fun b hb hs => by
    rcases hs with hs | ⟨hs, _⟩
    ·obtain ⟨h1, h2⟩ := hsh b hb hs; exact ⟨h1, .inl h2⟩
    ·cases hs) (.bx e) (rdS w src) (rdS w' src) k x h hr
 | pair a b iha ihb =>
  intro m p p' src k x hn h hown hH hA hr
  simp only [RR] at *
  obtain ⟨hc, hcb, ha, h1, h2⟩ := h
  have hsa := sz_cell hc
  refine ⟨hc, hcb, fun b' off hb' => by rw [hA _ (by simp)]; exact ha b' off hb',
   iha _ _ (p' ++ [.fld k]) _ _ _ (noLent_fld k hn) h1 (fun b' r hb => by simpa using hown b' (.fld k :: r) (by simpa using hb))
    (fun r => by simpa using hH (.fld k :: r)) (fun r _ => by simpa using hA (.fld k :: r) (by simp)) fun j hj => hr j (by simp [sz]; omega),
   ihb _ _ _ _ _ _ hn h2 hown hH hA fun j hj => ?_⟩
  have := hr (j + 1) (by simp [sz]; omega)
  rw [show k + 1 + j = k + (j + 1) by omega]; exact this
 | sl e ih =>
  intro m p p' src k x hn h hown hH hA hr
  have hr0 := hr 0 (by simp [sz]); simp only [Nat.add_zero] at hr0
  cases hm : m.isOwn with
  | true =>
   simp only [RR, hm] at h ⊢
   have hne : noLent m.el = true := by cases m <;> simp_all [noLent, Md.isOwn, Md.el]
   obtain ⟨a, cap, h1, h2, h3, h4, h5⟩ := h
   have hH0 := hH []; simp only [List.append_nil] at hH0
   refine ⟨a, cap, by rw [hr0, h1, hH0], by rw [hH0, h2], h3, h4, ?_⟩
   cases a with
   | none => exact h5
   | some ad =>
    obtain ⟨h6, h7, ⟨c, el, h8, h9⟩, h10⟩ := h5
    have hb := hown ad.block [] (by simpa using h7)
    refine ⟨h6, by simpa using hb.2, ⟨c, el, by rw [hb.1]; exact h8, h9⟩, fun i hi => ⟨by rw [hA _ (by simp)]; exact (h10 i hi).1,
     ih _ _ (p' ++ [.el i]) _ _ _ hne (h10 i hi).2 (fun b' r hb' => by simpa using hown b' (.el i :: r) (by simpa using hb'))
      (fun r => by simpa using hH (.el i :: r)) (fun r _ => by simpa using hA (.el i :: r) (by simp)) fun j _ => cell?_congr hb.1⟩⟩
  | false =>
   have hl : m.lent? = false := by cases m <;> simp_all [noLent, Md.lent?, Md.isOwn]
   simp only [RR, hm] at h ⊢
   refine ⟨?_, fun hz hx => by obtain ⟨l, c, h1⟩ := h.2 hz hx; exact ⟨l, c, by rw [hr0]; exact h1⟩⟩
   rw [hl] at h ⊢
   exact RO_conv (l := false) (l' := false) rfl hsz (fun b hb hs => by
    rcases hs with hs | ⟨hs, _⟩
    ·obtain ⟨h1, h2⟩ := hsh b hb hs; exact ⟨h1, .inl h2⟩
    ·cases hs) (.sl e) (rdS w src) (rdS w' src) k x h.1 hr

/-- results, each in a slot of its own -/
def ResR (w : World) (g : Gh) : (rs : List (Ty × Md)) → denL rs → Nat → List Value → Prop
 | [], _, _, vs => vs = []
 | (t, m) :: r, x, i, vs => ∃ v vs', vs = v :: vs' ∧ shapeV t v ∧ RR w g (resS + i) t m [] (.val v.cells) 0 x.1 ∧ ResR w g r x.2 (i + 1) vs'

def retV : List Value → Value
 | [v] => v
 | vs => .tuple vs.toArray

/-- what comes back as results -/
def Contract.outV (C : Contract) (vs : List Value) : List Value := vs.drop C.io.length

def Contract.Holds (P : Program) (f : FuncId) (C : Contract) : Prop :=
 ∀ (x : denPs C.ps) (r : denL C.rs), C.fn x = some r → ∀ (args : Array Value) (w : World) (mu : Mu) (g : Gh), args.size = C.ps.length → (∀ s, mu.far s ↔ lentC.1 ≤ s) →
  (∀ s, mu.pin s ≠ none → s ∈ C.io) → (∀ p ∈ C.io, mu.pin p = some (args.getD p undef)) →
  Inv w mu (look (initL C.ps 0 x)) (fun i => args.getD i undef) (· < fresh) w g →
  Calls P f args w fun e w' => ∃ vs g', e = .returned (retV (C.outV vs)) ∧ Fr w mu w' ∧ ResR w' g' C.rs r 0 vs ∧ (∃ vs', vs = C.io.map (fun p => args.getD p undef) ++ vs') ∧
   (∀ b k, g'.col b = some k → b < w'.heap.size ∧ (k = lentC ∨ w.heap.size ≤ b ∨ mu b)) ∧ (∀ b, mu.L b → g'.col b = some lentC)

section
variable {P : Program} {T : Tab} {Φ : Nat → Option Contract} {w0 w : World} {mu : Mu} {st : St} {a : Act} {g : Gh} {R : Type} {o : Oper} {K : AV → St → Option R} {r : R} {val : Nat → Value} {U : Nat → Prop}

/-- a result as the caller has it; c: the stamp of its form -/
def resAV (c : Nat) (rs : List (Ty × Md)) (x : denL rs) : AV := match rs, x with
 | [(t, m)], x => openV c t m x.1
 | rs, x => .tup (comps rs x)
theorem comps_length : ∀ (rs : List (Ty × Md)) (x : denL rs), (comps rs x).length = rs.length
 | [], _ => rfl
 | (_, _) :: r, x => by simp [comps, comps_length r]
theorem ResR_length : ∀ (rs : List (Ty × Md)) (x : denL rs) (i : Nat) (vs : List Value), ResR w g rs x i vs → vs.length = rs.length
 | [], _, _, _, h => by rw [h]; rfl
 | (_, _) :: r, x, i, vs, h => by
  obtain ⟨v, vs', rfl, _, _, h⟩ := h
  simp [ResR_length r _ _ _ h]

theorem ResR_get : ∀ (rs : List (Ty × Md)) (x : denL rs) (i : Nat) (vs : List Value), ResR w g rs x i vs → ∀ j, j < rs.length → ∃ (t : Ty) (m : Md) (y : den t), (t, m) ∈ rs ∧ (comps rs x).getD j .dead = (match m.hasOwn with | true => .ow 0 t m y | false => .v t m y) ∧
  shapeV t (vs.getD j undef) ∧ RR w g (resS + (i + j)) t m [] (.val (vs.getD j undef).cells) 0 y
 | [], _, _, _, _, j, hj => absurd hj (Nat.not_lt_zero j)
 | (t, m) :: r, x, i, vs, h, j, hj => by
  obtain ⟨v, vs', rfl, h1, h2, h⟩ := h
  cases j with
  | zero => exact ⟨t, m, x.1, by simp, by cases hm : m.hasOwn <;> simp [comps, hm], by simpa using h1, by simpa using h2⟩
  | succ j =>
   obtain ⟨t', m', y, h3, h4, h5, h6⟩ := ResR_get r x.2 (i + 1) vs' h j (by simpa using hj)
   exact ⟨t', m', y, List.mem_cons_of_mem _ h3, by simpa [comps] using h4, by simpa using h5, by rw [show i + (j + 1) = i + 1 + j by omega]; simpa using h6⟩

/-- where result i lies in the slot that gets the results -/
def resP (single : Bool) (i : Nat) : List Stp := match single with | true => [] | false => [.fld i]

/-- where a result goes -/
def resE (D : Option Nat) (single : Bool) (i : Nat) : Option (Nat × List Stp) := match D with
 | some d => match single, i with
  | true, _ + 1 => none
  | _, i => some (d, resP single i)
 | none => none
/-- the first ones, of a call that hands slots back, to those -/
def resF (D : Option Nat) (Io : List Nat) (single : Bool) (i : Nat) : Option (Nat × List Stp) := match Io, i with
 | [], i => resE D single i
 | s :: _, 0 => some (s, [])
 | _ :: r, i + 1 => resF D r single i

theorem resP_inj {single : Bool} {i j : Nat} {r r' : List Stp} (hi : single = true → i = 0) (hj : single = true → j = 0) (h : resP single i ++ r = resP single j ++ r') : i = j ∧ r = r' := by
 cases single with
 | true => have := hi rfl; have := hj rfl; subst i j; exact ⟨rfl, by simpa [resP] using h⟩
 | false => simpa [resP] using h

theorem resE_D {D : Option Nat} {single : Bool} {k d : Nat} {p : List Stp} (hk : resE D single k = some (d, p)) : D = some d ∧ p = resP single k ∧ (single = true → k = 0) := by
 cases D with
 | none => cases hk
 | some d' =>
  cases single with
  | true =>
   cases k with
   | zero => simp only [resE, Option.some.injEq, Prod.mk.injEq] at hk; exact ⟨by rw [hk.1], hk.2.symm, fun _ => rfl⟩
   | succ k => cases hk
  | false => simp only [resE, Option.some.injEq, Prod.mk.injEq] at hk; exact ⟨by rw [hk.1], hk.2.symm, fun h => by cases h⟩
theorem resE_at (d : Nat) (single : Bool) (i : Nat) (h : single = true → i = 0) : resE (some d) single i = some (d, resP single i) := by
 cases single with
 | true => have := h rfl; subst i; rfl
 | false => rfl
theorem resF_at (d : Nat) (single : Bool) (i : Nat) (h : single = true → i = 0) : ∀ (Io : List Nat), resF (some d) Io single (Io.length + i) = some (d, resP single i)
 | [] => by rw [List.length_nil, Nat.zero_add]; exact resE_at d single i h
 | s :: r => by rw [show (s :: r).length + i = (r.length + i) + 1 by simp; omega]; exact resF_at d single i h r
theorem resF_lt {D : Option Nat} {single : Bool} : ∀ (Io : List Nat) (i : Nat) (h : i < Io.length), resF D Io single i = some (Io[i], [])
 | [], _, h => absurd h (Nat.not_lt_zero _)
 | s :: _, 0, _ => rfl
 | s :: r, i + 1, h => by
  have := resF_lt (D := D) (single := single) r i (by simpa using h)
  simpa [resF] using this

theorem resF_D {D : Option Nat} {single : Bool} {d : Nat} {p : List Stp} : ∀ (Io : List Nat) (i : Nat), resF D Io single i = some (d, p) →
  (∃ h : i < Io.length, Io[i] = d ∧ p = []) ∨ (D = some d ∧ ∃ k, i = Io.length + k ∧ p = resP single k ∧ (single = true → k = 0))
 | [], i, h => by
  obtain ⟨h1, h2, h3⟩ := resE_D (show resE D single i = some (d, p) from h)
  exact .inr ⟨h1, i, by simp, h2, h3⟩
 | s :: r, 0, h => by
  simp only [resF, Option.some.injEq, Prod.mk.injEq] at h
  exact .inl ⟨by simp, h.1, h.2.symm⟩
 | s :: r, i + 1, h => by
  rcases resF_D r i h with ⟨h1, h2, h3⟩ | ⟨h1, k, h2, h3, h4⟩
  ·exact .inl ⟨by simp; omega, by simpa using h2, h3⟩
  ·exact .inr ⟨h1, k, by simp; omega, h3, h4⟩

theorem resF_inj {D : Option Nat} {Io : List Nat} {single : Bool} (hne : ∀ s ∈ Io, D ≠ some s) (hnd : Io.Nodup) {i j d : Nat} {p p' r r' : List Stp} (hi : resF D Io single i = some (d, p)) (hj : resF D Io single j = some (d, p')) (h : p ++ r = p' ++ r') : i = j ∧ r = r' := by
 rcases resF_D _ _ hi with ⟨h1, h2, h3⟩ | ⟨h1, k, h3, h4, h5⟩
 ·rcases resF_D _ _ hj with ⟨g1, g2, g3⟩ | ⟨g1, _⟩
  ·subst h3 g3
   refine ⟨?_, by simpa using h⟩
   exact (List.getElem_inj hnd (h₀ := h1) (h₁ := g1)).1 (h2.trans g2.symm)
  ·exact absurd g1 (hne d (by rw [← h2]; exact List.getElem_mem _))
 ·rcases resF_D _ _ hj with ⟨g1, g2, _⟩ | ⟨g1, k', g3, g4, g5⟩
  ·exact absurd h1 (hne d (by rw [← g2]; exact List.getElem_mem _))
  ·subst h4 g4
   obtain ⟨h6, h7⟩ := resP_inj h5 g5 h
   exact ⟨by rw [h3, g3, h6], h7⟩

/-- a block's colour that the callee made -/
def mcol (F : Nat → Option (Nat × List Stp)) (k : Option (Nat × List Stp)) : Option (Nat × List Stp) := match k with
 | some (s, q) => if resS ≤ s then (match F (s - resS) with | some (d, p) => some (d, p ++ q) | none => none) else none
 | none => none

open Classical in
/-- the ghost behind a call -/
noncomputable def mgh (g g' : Gh) (F : Nat → Option (Nat × List Stp)) (old : Nat → Prop) : Gh where
 col b := if old b then g.col b else mcol F (g'.col b)
 H s q := if h : ∃ (i : Nat) (p r : List Stp), F i = some (s, p) ∧ q = p ++ r then g'.H (resS + h.choose) h.choose_spec.choose_spec.choose else g.H s q
 A s q := if h : ∃ (i : Nat) (p r : List Stp), F i = some (s, p) ∧ q = p ++ r then g'.A (resS + h.choose) h.choose_spec.choose_spec.choose else g.A s q

/-- The caller behind a call: what the callee made is the caller's, the rest is as it was. Y: the slots that get something. -/
theorem merge (hI : Inv w0 mu st.get val U w g) (hfar : ∀ s, mu.far s ↔ lentC.1 ≤ s) {muC : Mu} (hh : ∀ b, muC b → ∃ s q, g.col b = some (s, q) ∧ argS ≤ s) (hL : ∀ b, g.col b ≠ none → ¬ muC b → muC.L b)
  {w' : World} {g' : Gh} (hFr : Fr w muC w') (hcols : ∀ b k, g'.col b = some k → b < w'.heap.size ∧ (k = lentC ∨ w.heap.size ≤ b ∨ muC b)) (hlk : ∀ b, muC.L b → g'.col b = some lentC)
  {F : Nat → Option (Nat × List Stp)} (hF : ∀ i j d p p' r r', F i = some (d, p) → F j = some (d, p') → p ++ r = p' ++ r' → i = j ∧ r = r') {Y : Nat → Prop} (hY : ∀ i d p, F i = some (d, p) → Y d) (hD : ∀ d, Y d → ¬ mu.far d) {c : Nat} :
  ∃ gN : Gh, (∀ (av' : Nat → AV) (val' : Nat → Value), (∀ u, ¬ Y u → av' u = st.get u) → (∀ u, ¬ Y u → val' u = val u) →
    (∀ d, Y d → SlotR w' gN av' d (av' d) (val' d) ∧ stampOK (Nw U c) (av' d) ∧ (∀ n, U n → own? (av' d) n = none) ∧ ∀ n p, U n → ownP? (av' d) n p = none) → Inv w0 mu av' val' (Nw U c) w' gN) ∧
   ∀ i d p, F i = some (d, p) → ∀ (t : Ty) (m : Md) (v : Value) (y : den t), noLent m = true → RR w' g' (resS + i) t m [] (.val v.cells) 0 y → RR w' gN d t m p (.val v.cells) 0 y := by
 classical
 have hargs : lentC.1 < argS := by decide
 have hres : lentC.1 < resS := by decide
 have hold : ∀ b, b < w.heap.size → ¬ muC b → w'.heap[b]? = w.heap[b]? := hFr.old
 have hlentno : ∀ b, g.col b = some lentC → ¬ muC b := fun b hb hm => by
  obtain ⟨s, q, h1, h2⟩ := hh b hm
  rw [hb] at h1
  simp only [Option.some.injEq] at h1
  have := congrArg Prod.fst h1
  simp only at this
  omega
 let gN : Gh := mgh g g' F (fun b => b < w.heap.size ∧ ¬ muC b)
 have hNc : ∀ b, gN.col b = if b < w.heap.size ∧ ¬ muC b then g.col b else mcol F (g'.col b) := fun b => by
  by_cases h : b < w.heap.size ∧ ¬ muC b
  ·rw [if_pos h]; exact if_pos h
  ·rw [if_neg h]; exact if_neg h
 have hcolold : ∀ b, b < w.heap.size → ¬ muC b → gN.col b = g.col b := fun b hb hm => by rw [hNc, if_pos ⟨hb, hm⟩]
 have hsh : ∀ b l0, b < w.heap.size → shared g.col l0 b → w'.heap[b]? = w.heap[b]? ∧ shared gN.col l0 b := by
  intro b l0 hb hs
  have hm : ¬ muC b := by
   rcases hs with hs | ⟨_, hs⟩
   ·intro hm
    obtain ⟨s, q, h1, _⟩ := hh b hm
    rw [hs] at h1; cases h1
   ·exact hlentno b hs
  refine ⟨hold b hb hm, ?_⟩
  simp only [shared, hcolold b hb hm]; exact hs
 have hHo : ∀ u, ¬ Y u → ∀ q, gN.H u q = g.H u q := fun u hu q => dif_neg fun ⟨i, p, r, h1, _⟩ => hu (hY i u p h1)
 have hAo : ∀ u, ¬ Y u → ∀ q, gN.A u q = g.A u q := fun u hu q => dif_neg fun ⟨i, p, r, h1, _⟩ => hu (hY i u p h1)
 have hHn : ∀ i d p, F i = some (d, p) → ∀ r, gN.H d (p ++ r) = g'.H (resS + i) r := fun i d p hFi r => by
  have hx : ∃ (i : Nat) (p' r' : List Stp), F i = some (d, p') ∧ p ++ r = p' ++ r' := ⟨i, p, r, hFi, rfl⟩
  have e : gN.H d (p ++ r) = g'.H (resS + hx.choose) hx.choose_spec.choose_spec.choose := dif_pos hx
  obtain ⟨e1, e2⟩ := hx.choose_spec.choose_spec.choose_spec
  have key : ∀ (j : Nat) (q : List Stp), i = j ∧ r = q → g'.H (resS + j) q = g'.H (resS + i) r := by rintro j q ⟨rfl, rfl⟩; rfl
  rw [e]; exact key _ _ (hF _ _ _ _ _ _ _ hFi e1 e2)
 have hAn : ∀ i d p, F i = some (d, p) → ∀ r, gN.A d (p ++ r) = g'.A (resS + i) r := fun i d p hFi r => by
  have hx : ∃ (i : Nat) (p' r' : List Stp), F i = some (d, p') ∧ p ++ r = p' ++ r' := ⟨i, p, r, hFi, rfl⟩
  have e : gN.A d (p ++ r) = g'.A (resS + hx.choose) hx.choose_spec.choose_spec.choose := dif_pos hx
  obtain ⟨e1, e2⟩ := hx.choose_spec.choose_spec.choose_spec
  have key : ∀ (j : Nat) (q : List Stp), i = j ∧ r = q → g'.A (resS + j) q = g'.A (resS + i) r := by rintro j q ⟨rfl, rfl⟩; rfl
  rw [e]; exact key _ _ (hF _ _ _ _ _ _ _ hFi e1 e2)
 refine ⟨gN, fun av' val' hav hval hd => ?_, fun i d p hFi t m v y hnl hr => ?_⟩
 ·refine Inv_upd hI (fun u => Y u ∨ lentC.1 ≤ u) (fun _ => Nw_old) hFr.size hsh ?_ ?_ ?_ ?_ ?_ ?_ ?_ ?_ (.inl fun u hu n hn => by
   by_cases h1 : Y u
   ·exact (hd u h1).2.2.1 n hn
   ·rw [hav u h1, hI.far u ((hfar u).2 (hu.resolve_left h1))]; rfl)
  ·intro u hu
   have h1 : ¬ Y u := fun h => hu (.inl h)
   have h2 : ¬ lentC.1 ≤ u := fun h => hu (.inr h)
   refine ⟨hav u h1, hval u h1, fun b r hb => ?_, hHo u h1, hAo u h1⟩
   have hm : ¬ muC b := fun hm => by
    obtain ⟨s, q, h3, h4⟩ := hh b hm
    rw [hb] at h3
    simp only [Option.some.injEq, Prod.mk.injEq] at h3
    omega
   have hlt := (hI.cols b _ hb).1
   exact ⟨hold b hlt hm, hcolold b hlt hm⟩
  ·intro u hu n hn o' ho'
   by_cases h1 : Y u
   ·rw [(hd u h1).2.2.1 n hn] at ho'; cases ho'
   ·rw [hav u h1, hI.far u ((hfar u).2 (hu.resolve_left h1))] at ho'; cases ho'
  ·intro u hu n p hn o' ho'
   by_cases h1 : Y u
   ·rw [(hd u h1).2.2.2 n p hn] at ho'; cases ho'
   ·rw [hav u h1, hI.far u ((hfar u).2 (hu.resolve_left h1))] at ho'; cases ho'
  ·intro u hu
   by_cases h1 : Y u
   ·exact ⟨(hd u h1).1, (hd u h1).2.1⟩
   ·rw [hav u h1, hI.far u ((hfar u).2 (hu.resolve_left h1))]; exact ⟨trivial, trivial⟩
  ·intro b k hk
   by_cases h1 : b < w.heap.size ∧ ¬ muC b
   ·rw [hcolold b h1.1 h1.2] at hk
    obtain ⟨h2, h3⟩ := hI.cols b k hk
    exact ⟨Nat.lt_of_lt_of_le h2 hFr.size, h3⟩
   ·have h2 : gN.col b = mcol F (g'.col b) := by rw [hNc, if_neg h1]
    rw [h2] at hk
    unfold mcol at hk
    split at hk
    ·rename_i s q hc
     split at hk
     ·rename_i hs
      obtain ⟨h3, h4⟩ := hcols b _ hc
      refine ⟨h3, .inr ?_⟩
      have h5 : w.heap.size ≤ b ∨ muC b := h4.resolve_left fun h => by
       have := congrArg Prod.fst h
       simp only at this
       omega
      rcases h5 with h5 | h5
      ·have := hI.fr.size; exact .inl (by omega)
      ·obtain ⟨s', q', h6, h7⟩ := hh b h5
       exact (hI.cols b _ h6).2.resolve_left fun h => by
        have := congrArg Prod.fst h
        simp only at this
        omega
     ·cases hk
    ·cases hk
  ·refine ⟨by rw [hFr.os, hI.fr.os], by rw [hFr.tape, hI.fr.tape], by rw [hFr.output, hI.fr.output], Nat.le_trans hI.fr.size hFr.size, fun b hb hm => ?_⟩
   have hsz := hI.fr.size
   have hmc : ¬ muC b := fun hmc => by
    obtain ⟨s, q, h1, h2⟩ := hh b hmc
    rcases (hI.cols b _ h1).2 with h3 | h3 | h3
    ·have := congrArg Prod.fst h3
     simp only at this
     omega
    ·omega
    ·exact hm h3
   rw [hold b (by omega) hmc]
   exact hI.fr.old b hb hm
  ·intro s hs
   have h1 : ¬ Y s := fun h => hD s h hs
   rw [hav s h1]; exact hI.far s hs
  ·intro b hb
   have hm := hlentno b hb
   rw [hcolold b (hI.cols b _ hb).1 hm]; exact hb
 ·refine RR_movedN (Nat.le_refl _) (fun b hb hc => ⟨rfl, ?_⟩) t m [] p _ 0 y hnl hr (fun b q hb => ⟨rfl, ?_⟩) (fun q => by rw [hHn i d p hFi]; rfl) (fun q hq => by rw [hAn i d p hFi]; rfl) (fun _ _ => rfl)
  ·by_cases h1 : b < w.heap.size ∧ ¬ muC b
   ·rw [hcolold b h1.1 h1.2]
    cases hgc : g.col b with
    | none => rfl
    | some k =>
     have := hlk b (hL b (by rw [hgc]; simp) h1.2)
     rw [hc] at this; cases this
   ·rw [hNc, if_neg h1, hc]; rfl
  ·have hne : ¬ (b < w.heap.size ∧ ¬ muC b) := by
    rintro ⟨h1, h2⟩
    rcases (hcols b _ hb).2 with h3 | h3 | h3
    ·have := congrArg Prod.fst h3
     simp only at this
     omega
    ·omega
    ·exact h2 h3
   rw [hNc, if_neg hne, hb]
   simp [mcol, hFi]
end
end Go.Ab
