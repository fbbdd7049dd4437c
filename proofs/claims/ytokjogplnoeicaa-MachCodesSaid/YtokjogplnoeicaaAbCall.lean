/- Calls. -/
import Derived.Test.YtokjogplnoeicaaAbArgs
import Derived.Test.YtokjogplnoeicaaAbGen
namespace Go.Ab

section
variable {P : Program} {T : Tab} {Φ : Nat → Option Contract} {w0 w : World} {mu : Mu} {st : St} {a : Act} {g : Gh} {R : Type} {o : Oper} {K : AV → St → Option R} {r : R} {val : Nat → Value} {U : Nat → Prop}

/-- a loose value for a slot that is not used: the state behind the take -/
theorem Loose.inv {st1 : St} {g2 : Gh} {s0 d : Nat} {p : List Stp} {t : Ty} {m : Md} {x : den t} {v : Value} (h : Loose w0 mu w st st1 g g2 s0 d p t m x v) (hI : Inv w0 mu st.get val U w g) (hd : mu.far d) :
  Inv w0 mu st1.get val U w g2 ∧ Keeps U w g st.get w g2 st1.get ∧ Kept w g g2 := by
 have hget := h.get hI
 have hfar : ∀ u, mu.far u → st1.get u = .dead := fun u hu => by rw [hget]; split; rfl; exact hI.far u hu
 have hdead : ∀ u, (u = s0 ∨ u = d) → st1.get u = .dead := fun u hu => by
  rcases hu with rfl | rfl
  ·rw [hget, if_pos rfl]
  ·exact hfar _ hd
 refine ⟨?_, ?_, fun b l0 _ hs => h.sh b l0 hs⟩
 ·refine Inv_upd hI (fun u => u = s0 ∨ u = d) (fun _ h => h) (Nat.le_refl _) (fun b l0 _ hs => ⟨rfl, h.sh b l0 hs⟩) ?_ ?_ ?_ ?_ h.cols hI.fr hfar h.lk (.inl fun u hu n _ => by rw [hdead u hu]; rfl)
  ·intro u hu
   have h1 : u ≠ s0 := fun h => hu (.inl h)
   have h2 : u ≠ d := fun h => hu (.inr h)
   exact ⟨by rw [hget, if_neg h1], rfl, fun b r hb => ⟨rfl, h.un b u r hb h1⟩, fun q => h.H u h1 q (fun h => absurd h h2), fun q => h.A u h1 q (fun h => absurd h h2)⟩
  ·intro u hu n _ o' ho'; rw [hdead u hu] at ho'; cases ho'
  ·intro u hu n p _ o' ho'; rw [hdead u hu] at ho'; cases ho'
  ·intro u hu; rw [hdead u hu]; exact ⟨trivial, trivial⟩
 ·refine keeps_of (Nat.le_refl _) (fun b l0 _ hs => ⟨rfl, h.sh b l0 hs⟩) (fun u => u = s0 ∨ u = d) (fun u hu => ?_) (fun u hu => ?_)
  ·have h1 : u ≠ s0 := fun h => hu (.inl h)
   have h2 : u ≠ d := fun h => hu (.inr h)
   exact ⟨by rw [hget, if_neg h1], fun q => h.H u h1 q (fun h => absurd h h2), fun q => h.A u h1 q (fun h => absurd h h2)⟩
  ·rw [hdead u hu]; exact ⟨fun _ _ => rfl, fun _ _ _ => rfl⟩

/-- what lies ready in another slot that is not used stays -/
theorem Loose.other {st1 : St} {g2 : Gh} {s0 d s : Nat} {t : Ty} {m : Md} {x : den t} {v : Value} (h : Loose w0 mu w st st1 g g2 s0 d [] t m x v) (hs : mu.far s) (hsl : s ≠ lentC.1) (hd : s ≠ d) {t' : Ty} {m' : Md} {src : Src} {y : den t'} (hr : RR w g s t' m' [] src 0 y) :
  RR w g2 s t' m' [] src 0 y := by
 have hs0 : s ≠ s0 := by
  rcases h.dead with ⟨h, _⟩ | ⟨h, _⟩
  ·rw [h]; exact hsl
  ·exact fun h' => h (h' ▸ hs)
 exact RR_moved (Nat.le_refl _) (fun b l0 _ hb => ⟨rfl, h.sh b l0 hb⟩) t' m' [] [] src 0 y hr (fun b r hb => ⟨rfl, by rw [h.un b s _ hb hs0]; exact hb⟩) (fun q => h.H s hs0 _ (fun h => absurd h hd)) (fun q _ => h.A s hs0 _ (fun h => absurd h hd)) (fun _ _ => rfl)

/-- what is handed over, as the callee sees it -/
def Gh.hand (g : Gh) : Gh where
 col b := match g.col b with
  | none => none
  | some (s, q) => if argS ≤ s then some (s - argS, q) else some lentC
 H s q := g.H (argS + s) q
 A s q := g.A (argS + s) q
theorem hand_sh {b : Nat} {l : Bool} (h : shared g.col l b) : shared g.hand.col l b := by
 rcases h with h | ⟨h, h'⟩
 ·left; simp [Gh.hand, h]
 ·right; refine ⟨h, ?_⟩
  have : ¬ argS ≤ lentC.1 := by decide
  simp only [Gh.hand, h']
  rw [if_neg this]
theorem hand_lends (g : Gh) : Lends g g.hand where
 low b k h hk := by
  obtain ⟨s, q⟩ := k
  have : ¬ argS ≤ s := by simp only at hk; omega
  simp only [Gh.hand, h, if_neg this]
 non b h := by simp only [Gh.hand, h]

/-- arguments on their way to a callee -/
def ParO (w : World) (g : Gh) : (ps : List PT) → denPs ps → Nat → List Value → Prop
 | [], _, _, vs => vs = []
 | .val t m :: r, x, i, vs => ∃ v vs', vs = v :: vs' ∧ ((shapeV t v ∧ RR w g (argS + i) t m [] (.val v.cells) 0 x.1) ∨ (∀ av, VR w g.hand av (.v t m x.1) v)) ∧ ParO w g r x.2 (i + 1) vs'
 | .ptr t m :: r, x, i, vs => ∃ v vs', vs = v :: vs' ∧ (∀ av, VR w g.hand av (.rop t m x.1) v) ∧ ParO w g r x.2 (i + 1) vs'
 | .clo f caps :: r, x, i, vs => ∃ v vs', vs = v :: vs' ∧ (∃ us : Array Value, v = .func (.func f) #[] us ∧ us.size = (initL.capsL caps x.1).length ∧ ∀ j, j < us.size → ∀ av, VR0 w g.hand av ((initL.capsL caps x.1).getD j .dead) (us.getD j undef)) ∧ ParO w g r x.2 (i + 1) vs'
 | .box t m :: r, x, i, vs => ∃ v vs', vs = v :: vs' ∧ (v.cells = #[v] ∧ RR w g (argS + i) (.bx t) (.own false m) [] (.val v.cells) 0 (some x.1 : Option (den t))) ∧ ParO w g r x.2 (i + 1) vs'

theorem capsL_free : ∀ (caps : List (Ty × Md)) (x : denL caps) (j : Nat), j < (initL.capsL caps x).length → isFree ((initL.capsL caps x).getD j .dead) = true
 | [], _, j, h => by simp [initL.capsL] at h
 | c :: r, x, 0, _ => rfl
 | c :: r, x, j + 1, h => by simpa [initL.capsL] using capsL_free r x.2 j (by simpa [initL.capsL] using h)

theorem VR_VR0 {av : Nat → AV} {a : AV} {v : Value} (hf : isFree a = true) : VR w g av a v ↔ VR0 w g av a v := by cases a <;> first | exact Iff.rfl | cases hf

theorem hand_own {i : Nat} {t : Ty} {m : Md} {src : Src} {x : den t} (h : RR w g (argS + i) t m [] src 0 x) : RR w g.hand i t m [] src 0 x := by
 refine RR_moved (Nat.le_refl _) (fun b l0 _ hb => ⟨rfl, hand_sh hb⟩) t m [] [] _ 0 x h (fun b q hb => ⟨rfl, ?_⟩) (fun _ => rfl) (fun _ _ => rfl) (fun _ _ => rfl)
 simp [Gh.hand, hb]

theorem ParO_L : ∀ (ps : List PT) (x : denPs ps) (i : Nat) (vs : List Value), ParO w g ps x i vs → ParL w g.hand ps x i vs
 | [], _, _, _, h => h
 | .val t m :: r, x, i, vs, h => by
  obtain ⟨v, vs', rfl, h1, h2⟩ := h
  refine ⟨v, vs', rfl, fun av => ?_, ParO_L r x.2 (i + 1) vs' h2⟩
  rcases h1 with ⟨h3, h4⟩ | h1
  ·have h5 := hand_own h4
   cases hm : m.hasOwn with
   | true => exact ⟨h3, h5⟩
   | false => exact ⟨hm, h3, RR_free (Nat.le_refl _) (fun b l0 _ hb => ⟨rfl, hb⟩) t m [] [] _ _ 0 0 x.1 h5 hm (fun _ => rfl) (fun _ _ => rfl)⟩
  ·have h3 := h1 av
   have hm := h3.1
   rw [hm]
   exact h3
 | .ptr t m :: r, x, i, vs, h => by
  obtain ⟨v, vs', rfl, h1, h2⟩ := h
  exact ⟨v, vs', rfl, fun av => h1 av, ParO_L r x.2 (i + 1) vs' h2⟩
 | .clo f caps :: r, x, i, vs, h => by
  obtain ⟨v, vs', rfl, ⟨us, h1, h3, h4⟩, h2⟩ := h
  exact ⟨v, vs', rfl, fun av => ⟨us, h1, h3, fun j hj => h4 j (by omega) av⟩, ParO_L r x.2 (i + 1) vs' h2⟩
 | .box t m :: r, x, i, vs, h => by
  obtain ⟨v, vs', rfl, ⟨h1, h3⟩, h2⟩ := h
  exact ⟨v, vs', rfl, fun av => val_box (m := .own false m) h1 rfl (hand_own h3), ParO_L r x.2 (i + 1) vs' h2⟩

/-- the arguments of a call that hands something over -/
theorem argsO_sound (hfar : ∀ s, mu.far s ↔ lentC.1 ≤ s) : ∀ (ps : List PT) (l : List AV) (vs : List Value) (i : Nat) (st : St) (g : Gh) {k : (St → (denPs ps → Option R) → Option R) → St → Option R} {r : R}, argsO ps l st k = some r → Inv w0 mu st.get (Vals a) U w g →
  l.length = vs.length → (∀ i, i < l.length → VR w g st.get (l.getD i .dead) (vs.getD i undef) ∧ stampOK U (l.getD i .dead)) →
  ∃ rd st1 g1, k rd st1 = some r ∧ st1.c = st.c ∧ Inv w0 mu st1.get (Vals a) U w g1 ∧ Kept w g g1 ∧ Keeps U w g st.get w g1 st1.get ∧ ps.length = vs.length ∧ (∀ u, st1.get u = .dead ∨ st1.get u = st.get u) ∧
   (∀ s, argS ≤ s → s < argS + i → ∀ (t : Ty) (m : Md) (src : Src) (y : den t), RR w g s t m [] src 0 y → RR w g1 s t m [] src 0 y) ∧
   ∀ (kk : denPs ps → Option R) (r' : R), rd st1 kk = some r' → ∃ x, kk x = some r' ∧ ParO w g1 ps x i vs
 | [], [], vs, i, st, g, k, r, h, hI, hl, _ => ⟨_, st, g, h, rfl, hI, Kept.refl, Keeps.refl, by simpa using hl, fun _ => .inr rfl, fun _ _ _ _ _ _ _ h => h, fun kk r' h => ⟨(), h, by simpa [ParO] using hl.symm⟩⟩
 | [], _ :: _, _, _, _, _, _, _, h, _, _, _ => by cases h
 | .val _ _ :: _, [], _, _, _, _, _, _, h, _, _, _ => by cases h
 | .ptr _ _ :: _, [], _, _, _, _, _, _, h, _, _, _ => by cases h
 | .clo _ _ :: _, [], _, _, _, _, _, _, h, _, _, _ => by cases h
 | .box _ _ :: _, [], _, _, _, _, _, _, h, _, _, _ => by cases h
 | .val _ _ :: _, _ :: _, [], _, _, _, _, _, _, _, hl, _ => by simp at hl
 | .ptr _ _ :: _, _ :: _, [], _, _, _, _, _, _, _, hl, _ => by simp at hl
 | .clo _ _ :: _, _ :: _, [], _, _, _, _, _, _, _, hl, _ => by simp at hl
 | .box _ _ :: _, _ :: _, [], _, _, _, _, _, _, _, hl, _ => by simp at hl
 | .val t m :: ps, av :: l, v :: vs, i, st, g, k, r, h, hI, hl, hv => by
  have hv0 := hv 0 (by simp)
  simp only [List.getD_cons_zero] at hv0
  have hargs : lentC.1 < argS := by decide
  have key : ∀ {r : R}, take st av t m (fun x st => argsO ps l st fun rd st => k (fun stF kk => rd stF fun xs => kk (x, xs)) st) = some r → ∃ rd st1 g1, k rd st1 = some r ∧ st1.c = st.c ∧ Inv w0 mu st1.get (Vals a) U w g1 ∧ Kept w g g1 ∧ Keeps U w g st.get w g1 st1.get ∧ (PT.val t m :: ps).length = (v :: vs).length ∧ (∀ u, st1.get u = .dead ∨ st1.get u = st.get u) ∧
   (∀ s, argS ≤ s → s < argS + i → ∀ (t : Ty) (m : Md) (src : Src) (y : den t), RR w g s t m [] src 0 y → RR w g1 s t m [] src 0 y) ∧
   ∀ (kk : denPs (.val t m :: ps) → Option R) (r' : R), rd st1 kk = some r' → ∃ x, kk x = some r' ∧ ParO w g1 (.val t m :: ps) x i (v :: vs) := by
   intro r h
   obtain ⟨x, st1, g1, s0, h1, hL⟩ := take_loose h hI hv0.1 (argS + i) []
   have hfd : mu.far (argS + i) := (hfar _).2 (by omega)
   obtain ⟨hI1, hk1, hkp1⟩ := hL.inv hI hfd
   obtain ⟨rd, st2, g2, h2, hc2, hI2, hkp2, hks2, hlen, hst2, hkeep, hrd⟩ := argsO_sound hfar ps l vs (i + 1) st1 g1 h1 hI1 (by simpa using hl) (fun j hj => by
    have := hv (j + 1) (by simpa using hj)
    simp only [List.getD_cons_succ] at this
    exact ⟨hk1 _ _ this.2 this.1, this.2⟩)
   refine ⟨_, st2, g2, h2, by rw [hc2, hL.c], hI2, hkp1.trans hkp2, hk1.trans hks2, by simp [hlen], fun u => ?_, fun s hs1 hs2 t' m' src y hr => ?_, fun kk r' hr' => ?_⟩
   ·rcases hst2 u with h3 | h3
    ·exact .inl h3
    ·rw [h3, hL.get hI]
     split
     ·exact .inl rfl
     ·exact .inr rfl
   ·exact hkeep s hs1 (by omega) _ _ _ _ (hL.other ((hfar _).2 (by omega)) (by omega) (by omega) hr)
   ·obtain ⟨xs, h3, h4⟩ := hrd _ r' hr'
    exact ⟨(x, xs), h3, v, vs, rfl, .inl ⟨hL.shape, hkeep _ (by omega) (by omega) _ _ _ _ hL.rr⟩, h4⟩
  simp only [argsO] at h
  split at h
  ·rename_i nz
   obtain ⟨rd, st2, g2, h2, hc2, hI2, hkp2, hks2, hlen, hst2, hkeep, hrd⟩ := argsO_sound hfar ps l vs (i + 1) st g h hI (by simpa using hl) (fun j hj => by
    have := hv (j + 1) (by simpa using hj)
    simpa using this)
   refine ⟨_, st2, g2, h2, hc2, hI2, hkp2, hks2, by simp [hlen], hst2, fun s hs1 hs2 => hkeep s hs1 (by omega), fun kk r' hr' => ?_⟩
   obtain ⟨x, h3, hx⟩ := asRead_sound (fun s hs => (hfar s).2 hs) (hand_lends g2) hI2 hr' (hks2 _ _ hv0.2 hv0.1)
   obtain ⟨xs, h4, h5⟩ := hrd _ r' h3
   exact ⟨(x, xs), h4, v, vs, rfl, .inr hx, h5⟩
  ·exact key h
 | .ptr t m :: ps, av :: l, v :: vs, i, st, g, k, r, h, hI, hl, hv => by
  have hv0 := hv 0 (by simp)
  simp only [List.getD_cons_zero] at hv0
  simp only [argsO] at h
  split at h
  ·rename_i nz
   obtain ⟨rd, st2, g2, h2, hc2, hI2, hkp2, hks2, hlen, hst2, hkeep, hrd⟩ := argsO_sound hfar ps l vs (i + 1) st g h hI (by simpa using hl) (fun j hj => by
    have := hv (j + 1) (by simpa using hj)
    simpa using this)
   refine ⟨_, st2, g2, h2, hc2, hI2, hkp2, hks2, by simp [hlen], hst2, fun s hs1 hs2 => hkeep s hs1 (by omega), fun kk r' hr' => ?_⟩
   obtain ⟨x, h3, hx⟩ := asPtr_sound (fun s hs => (hfar s).2 hs) (hand_lends g2) hI2 rfl hr' (hks2 _ _ hv0.2 hv0.1)
   obtain ⟨xs, h4, h5⟩ := hrd _ r' h3
   exact ⟨(x, xs), h4, v, vs, rfl, hx, h5⟩
  ·cases h
 | .clo f caps :: ps, av :: l, v :: vs, i, st, g, k, r, h, hI, hl, hv => by
  have hv0 := hv 0 (by simp)
  simp only [List.getD_cons_zero] at hv0
  simp only [argsO] at h
  split at h
  ·rename_i f' cs
   split at h
   ·rename_i hf
    have hff := Nat.eq_of_beq_eq_true hf
    subst hff
    obtain ⟨rd, st2, g2, h2, hc2, hI2, hkp2, hks2, hlen, hst2, hkeep, hrd⟩ := argsO_sound hfar ps l vs (i + 1) st g h hI (by simpa using hl) (fun j hj => by
     have := hv (j + 1) (by simpa using hj)
     simpa using this)
    refine ⟨_, st2, g2, h2, hc2, hI2, hkp2, hks2, by simp [hlen], hst2, fun s hs1 hs2 => hkeep s hs1 (by omega), fun kk r' hr' => ?_⟩
    obtain ⟨us, u1, u2, u3⟩ := hks2 _ _ hv0.2 hv0.1
    have hne : ∀ a v, VR0 w g2 st2.get a v → VR w g2 st2.get a v := fun a v h => by cases a <;> first | exact h | cases h
    obtain ⟨x, h3, hx1, hx2⟩ := capsD_sound (fun s hs => (hfar s).2 hs) (hand_lends g2) hI2 caps cs us.toList hr' (by simpa using u2.symm) (fun i hi => by
     have := hne _ _ (u3 i hi)
     simpa [Array.getD_eq_getD_getElem?, List.getD_eq_getElem?_getD] using this)
    obtain ⟨xs, h4, h5⟩ := hrd _ r' h3
    refine ⟨(x, xs), h4, v, vs, rfl, ⟨us, u1, by rw [hx1]; simp, fun j hj av' => ?_⟩, h5⟩
    have := hx2 j (by simpa using hj) av'
    simpa [Array.getD_eq_getD_getElem?, List.getD_eq_getElem?_getD] using this
   ·cases h
  ·cases h
 | .box t m :: ps, av :: l, v :: vs, i, st, g, k, r, h, hI, hl, hv => by
  have hv0 := hv 0 (by simp)
  simp only [List.getD_cons_zero] at hv0
  have hargs : lentC.1 < argS := by decide
  simp only [argsO] at h
  obtain ⟨x, st1, g1, s0, h1, hL⟩ := take_loose h hI hv0.1 (argS + i) []
  cases x with
  | none => cases h1
  | some x =>
   have h1 : argsO ps l st1 (fun rd st => k (fun stF kk => rd stF fun xs => kk (x, xs)) st) = some r := h1
   have hfd : mu.far (argS + i) := (hfar _).2 (by omega)
   obtain ⟨hI1, hk1, hkp1⟩ := hL.inv hI hfd
   obtain ⟨rd, st2, g2, h2, hc2, hI2, hkp2, hks2, hlen, hst2, hkeep, hrd⟩ := argsO_sound hfar ps l vs (i + 1) st1 g1 h1 hI1 (by simpa using hl) (fun j hj => by
    have := hv (j + 1) (by simpa using hj)
    simp only [List.getD_cons_succ] at this
    exact ⟨hk1 _ _ this.2 this.1, this.2⟩)
   refine ⟨_, st2, g2, h2, by rw [hc2, hL.c], hI2, hkp1.trans hkp2, hk1.trans hks2, by simp [hlen], fun u => ?_, fun s hs1 hs2 t' m' src y hr => ?_, fun kk r' hr' => ?_⟩
   ·rcases hst2 u with h3 | h3
    ·exact .inl h3
    ·rw [h3, hL.get hI]
     split
     ·exact .inl rfl
     ·exact .inr rfl
   ·exact hkeep s hs1 (by omega) _ _ _ _ (hL.other ((hfar _).2 (by omega)) (by omega) (by omega) hr)
   ·obtain ⟨xs, h3, h4⟩ := hrd _ r' hr'
    exact ⟨(x, xs), h3, v, vs, rfl, ⟨shape_cell (t := .bx t) rfl hL.shape, hkeep _ (by omega) (by omega) _ _ _ _ hL.rr⟩, h4⟩

def muH (g : Gh) (pin : Nat → Option Value) : Mu := { pin := pin,  h := fun b => ∃ s q, g.col b = some (s, q) ∧ argS ≤ s, L := fun b => g.col b ≠ none ∧ ¬ ∃ s q, g.col b = some (s, q) ∧ argS ≤ s, far := fun s => lentC.1 ≤ s, hfar := Nat.le_refl _ }

/-- a function that may be called -/
def FnOK (P : Program) (f : FuncId) : Prop := ∃ fn b, P.funcs[f]? = some fn ∧ (fn.name == "runtime.NumGoroutine") = false ∧ fn.body = some b
def CtxOK (P : Program) (Φ : Nat → Option Contract) : Prop := ∀ f C, Φ f = some C → FnOK P f ∧ Contract.Holds P f C

/-- the functions of walks backwards are what the table says -/
def MkOK (P : Program) (f g : FuncId) (S : TypeId) : Prop := FnOK P f ∧ ∃ fn F G, P.funcs[f]? = some fn ∧ fn.body = some (mkBody S F G g) ∧ fn.ntmps = 4 ∧ fn.results = #[.tmp 2]
def GenOK (P : Program) (g : FuncId) (S : TypeId) : Prop := FnOK P g ∧ ∃ fn I E B Y, P.funcs[g]? = some fn ∧ fn.body = some (genBody S I B E Y) ∧ fn.ntmps = 19 ∧ fn.results = #[] ∧ P.underlying S = some (.slice E)
def BkOK (P : Program) (T : Tab) : Prop := ∀ f, match T.bk f with
 | some (.mk g S) => MkOK P f g S
 | some (.gen S) => GenOK P f S
 | none => True

theorem exec_call {ρ : Operand → Value} {c : Call} {f : Operand} {fn : Nat} {us : Array Value} (hf : FnOK P fn) (ho : o.op = .call c) (hc : c.callee = .value f) (hv : ρ f = .func (.func fn) #[] us) :
  (execOp ρ o).run P w = .ok (.enter fn (c.args.map ρ ++ us)) w := by
 obtain ⟨F, b, h1, h2, h3⟩ := hf
 have h4 : F.name ≠ "runtime.NumGoroutine" := by simpa using h2
 simp [execOp, ho, resolve, hc, hv, Deferred.ofValue, invoke, callFunc, h1, h4, h3]

/-- a slot that is handed back, by what it has then -/
inductive IoV (w : World) (g : Gh) (c k : Nat) (v : Value) : AV → Prop
 | ow {t : Ty} {m : Md} {y : den t} : noLent m = true → shapeV t v → RR w g k t m [] (.val v.cells) 0 y → IoV w g c k v (.ow (c + 1) t m y)
 | box {t : Ty} {m : Md} {y : den t} {n : Nat} : noLent m = true → m.isOwn = true → shapeV (.bx t) v → RR w g k (.bx t) m [] (.val v.cells) 0 (some y : Option (den t)) → IoV w g c k v (.box n (c + 1) t m.el y)

/-- slots get values -/
def setL : List (Nat × Option (Nat × Ty)) → List AV → St → St
 | (s, _) :: ss, a :: l, st => setL ss l (st.set s a)
 | _, _, st => st
theorem setL_c : ∀ (ss : List (Nat × Option (Nat × Ty))) (l : List AV) (st : St), (setL ss l st).c = st.c
 | [], [], _ => rfl
 | [], _ :: _, _ => rfl
 | _ :: _, [], _ => rfl
 | (s, _) :: ss, a :: l, st => (setL_c ss l _).trans rfl
theorem setL_not : ∀ (ss : List (Nat × Option (Nat × Ty))) (l : List AV) (st : St) (u : Nat), u ∉ ss.map (·.1) → (setL ss l st).get u = st.get u
 | [], [], _, _, _ => rfl
 | [], _ :: _, _, _, _ => rfl
 | _ :: _, [], _, _, _ => rfl
 | (s, _) :: ss, a :: l, st, u, h => by
  simp only [List.map_cons, List.mem_cons, not_or] at h
  simp only [setL]
  rw [setL_not ss l _ u h.2, get_set, if_neg h.1]
theorem setL_at : ∀ (ss : List (Nat × Option (Nat × Ty))) (l : List AV) (st : St), (ss.map (·.1)).Nodup → l.length = ss.length → ∀ (j : Nat) (h : j < ss.length), (setL ss l st).get ss[j].1 = l.getD j .dead
 | [], _, _, _, _, j, h => absurd h (Nat.not_lt_zero _)
 | _ :: _, [], _, _, hl, _, _ => by simp at hl
 | (s, q) :: ss, a :: l, st, hn, hl, 0, h => by
  simp only [List.map_cons, List.nodup_cons] at hn
  simp only [setL, List.getElem_cons_zero, List.getD_cons_zero]
  rw [setL_not ss l _ s hn.1, get_set, if_pos rfl]
 | (s, q) :: ss, a :: l, st, hn, hl, j + 1, h => by
  simp only [List.map_cons, List.nodup_cons] at hn
  simp only [setL, List.getElem_cons_succ, List.getD_cons_succ]
  exact setL_at ss l _ hn.2 (by simpa using hl) j (by simpa using h)

theorem resD_some {st : St} {rs : List (Ty × Md)} {x : denL rs} {k : AV → St → Option R} {r : R} (h : resD st rs x k = some r) : k (resAV st.c rs x) st = some r := by
 match rs, x, h with
 | [], x, h => exact h
 | [(t, m)], x, h => exact (openA_some h).1
 | t1 :: t2 :: r, x, h => exact h

/-- what comes back of a call: the slots that are handed back, and the results -/
theorem ioD_sound {k : AV → St → Option R} {r : R} : ∀ (ss : List (Nat × Option (Nat × Ty))) (rs : List (Ty × Md)) (x : denL rs) (st : St), ioD st ss rs x k = some r → (∀ t ∈ rs, noLent t.2 = true) →
  ∃ (l : List AV) (rs0 : List (Ty × Md)) (x0 : denL rs0), l.length = ss.length ∧ k (resAV st.c rs0 x0) (setL ss l st) = some r ∧ (∀ t ∈ rs0, noLent t.2 = true) ∧
   ∀ (w' : World) (g' : Gh) (i : Nat) (vs : List Value), ResR w' g' rs x i vs → ∃ (vsI vs0 : List Value), vs = vsI ++ vs0 ∧ vsI.length = ss.length ∧ ResR w' g' rs0 x0 (i + ss.length) vs0 ∧
    ∀ (j : Nat) (h : j < ss.length), IoV w' g' st.c (resS + (i + j)) (vsI.getD j undef) (l.getD j .dead) ∧ (∀ n u t m y, l.getD j .dead = .box n u t m y → ss[j].2 = some (n, t))
 | [], rs, x, st, h, hn => ⟨[], rs, x, rfl, resD_some h, hn, fun w' g' i vs hR => ⟨[], vs, rfl, rfl, by simpa using hR, fun j hj => absurd hj (Nat.not_lt_zero _)⟩⟩
 | (s, none) :: ss, [], x, st, h, _ => by cases h
 | (s, some (n, t0)) :: ss, [], x, st, h, _ => by cases h
 | (s, none) :: ss, (t, m) :: rs, x, st, h, hn => by
  simp only [ioD] at h
  obtain ⟨l, rs0, x0, g1, g4, g6, g7⟩ := ioD_sound ss rs x.2 _ h (fun t ht => hn t (List.mem_cons_of_mem _ ht))
  refine ⟨.ow (st.c + 1) t m x.1 :: l, rs0, x0, by simp [g1], g4, g6, fun w' g' i vs hR => ?_⟩
  obtain ⟨v, vs', rfl, h1, h2, h3⟩ := hR
  obtain ⟨vsI, vs0, g2, g3, g5, g8⟩ := g7 w' g' (i + 1) vs' h3
  refine ⟨v :: vsI, vs0, by simp [g2], by simp [g3], by rw [show i + ((s, none) :: ss : List (Nat × Option (Nat × Ty))).length = i + 1 + ss.length by simp; omega]; exact g5, fun j hj => ?_⟩
  cases j with
  | zero => exact ⟨by simpa using IoV.ow (hn (t, m) (by simp)) h1 h2, fun n u t m y h => by simp at h⟩
  | succ j =>
   have := g8 j (by simpa using hj)
   rw [c_set] at this
   rw [show i + (j + 1) = i + 1 + j by omega]
   simpa using this
 | (s, some (n, t0)) :: ss, (t, m) :: rs, x, st, h, hn => by
  cases t with
  | bx t =>
   simp only [ioD] at h
   split at h
   ·rename_i y hy
    split at h
    ·rename_i hc
     simp only [Bool.and_eq_true, decide_eq_true_eq] at hc
     obtain ⟨hm, rfl⟩ := hc
     obtain ⟨l, rs0, x0, g1, g4, g6, g7⟩ := ioD_sound ss rs x.2 _ h (fun t ht => hn t (List.mem_cons_of_mem _ ht))
     refine ⟨.box n (st.c + 1) t0 m.el y :: l, rs0, x0, by simp [g1], g4, g6, fun w' g' i vs hR => ?_⟩
     obtain ⟨v, vs', rfl, h1, h2, h3⟩ := hR
     rw [hy] at h2
     obtain ⟨vsI, vs0, g2, g3, g5, g8⟩ := g7 w' g' (i + 1) vs' h3
     refine ⟨v :: vsI, vs0, by simp [g2], by simp [g3], by rw [show i + ((s, some (n, t0)) :: ss : List (Nat × Option (Nat × Ty))).length = i + 1 + ss.length by simp; omega]; exact g5, fun j hj => ?_⟩
     cases j with
     | zero => exact ⟨by simpa using IoV.box (hn (.bx t0, m) (by simp)) hm h1 h2, fun n' u' t' m' y' h => by simp at h; simp [h.1, h.2.2.1]⟩
     | succ j =>
      have := g8 j (by simpa using hj)
      rw [c_set] at this
      rw [show i + (j + 1) = i + 1 + j by omega]
      simpa using this
    ·cases h
   ·cases h
  | _ => simp [ioD] at h

/-- where a pointer into a box points -/
def ptrAt (t : Ty) (v0 : Value) (p : List Stp) (v : Value) : Prop :=
 ∃ b, v0 = .pointer (some ⟨b, 0, none⟩) ∧ ((p = [.dr] ∧ v = v0) ∨ ∃ k, p = [.dr, .fld k] ∧ isCell t = false ∧ k < sz t ∧ v = .pointer (some ⟨b, k, none⟩))
def Refs0 (s n : Nat) (t : Ty) (v0 : Value) : AV → Value → Prop
 | .pl s' n' p, v => s' = s → n' = n → shallowD p = true → ptrAt t v0 p v
 | _, _ => True
/-- pointers into the box of slot s, by its own stamp -/
def Refs (s n : Nat) (t : Ty) (v0 : Value) : AV → Value → Prop
 | .clo f caps, v => ∀ vs, v = .func (.func f) #[] vs → ∀ i, i < caps.length → Refs0 s n t v0 (caps.getD i .dead) (vs.getD i undef)
 | .cel s' n', _ => s' = s → n' = n → False
 | a, v => Refs0 s n t v0 a v

theorem fieldK_some {s : Nat} {n : Nat} : ∀ (t : Ty) (m : Md) (p : List Stp) (src : Src) (k : Nat) (x : den t), RR w g s t m p src k x → isCell t = false → k ≤ n → n < k + sz t → ∃ tv, fieldK m n t x k = some tv := by
 intro t
 induction t with
 | pair a b _ ihb =>
  intro m p src k x h _ h1 h2
  simp only [RR] at h
  obtain ⟨hc, hcb, _, _, h4⟩ := h
  simp only [fieldK]
  cases hk : Nat.beq k n with
  | true => exact ⟨_, rfl⟩
  | false =>
   have : k ≠ n := fun he => by subst he; rw [Nat.beq_refl] at hk; cases hk
   have hsp : sz (.pair a b) = 1 + sz b := rfl
   exact ihb _ _ _ _ _ h4 hcb (by omega) (by omega)
 | unit => intro m p src k x _ _ h1 h2; simp [sz] at h2; omega
 | _ => intro m p src k x _ h; cases h

/-- of a box, a pointer to a part of it by its own stamp -/
theorem box_ptr {av : Nat → AV} {s n u : Nat} {t : Ty} {m : Md} {x : den t} {v0 : Value} (h : SlotR w g av s (.box n u t m x) v0) {p : List Stp} {v : Value} (hp : shallowD p = true) :
  ptrAt t v0 p v ↔ (v = .pointer (some ⟨(g.A s p).1, (g.A s p).2, none⟩) ∧ (Own.mk true t m x).ok p) := by
 obtain ⟨b, c, el, rfl, h2, h3, h4, h5, h6⟩ := h
 constructor
 ·rintro ⟨b', hb, h7 | ⟨k, h7, h8, h9, h10⟩⟩
  ·obtain ⟨rfl, rfl⟩ := h7
   exact ⟨by rw [h5], by simp [Own.ok, okP]⟩
  ·subst h7
   simp only [Value.pointer.injEq, Option.some.injEq, Addr.mk.injEq] at hb
   obtain ⟨rfl, _⟩ := hb
   obtain ⟨tv, htv⟩ := fieldK_some (n := k) t m [.dr] _ 0 x h6 h8 (Nat.zero_le _) (by omega)
   obtain ⟨_, _, _, g4, _⟩ := RR_field (n := k) t [.dr] _ 0 x tv h6 htv
   have := g4 b 0 rfl
   simp only [List.cons_append, List.nil_append] at this
   refine ⟨by rw [h10, this, Nat.zero_add], ?_⟩
   simp only [Own.ok, okP]
   exact ⟨tv, htv, trivial⟩
 ·rintro ⟨h7, h8⟩
  refine ⟨b, rfl, ?_⟩
  match p, hp, h7, h8 with
  | [.dr], _, h7, _ => left; rw [h5] at h7; exact ⟨rfl, h7⟩
  | .dr :: .fld k :: q, hp, h7, h8 =>
   right
   simp only [Own.ok, okP] at h8
   obtain ⟨tv, htv, h9⟩ := h8
   obtain ⟨_, g2, _, g4, _, g6⟩ := RR_field (n := k) t [.dr] _ 0 x tv h6 htv
   have hq : q = [] := by
    cases q with
    | nil => rfl
    | cons c q =>
     exfalso
     have g2 := g2
     obtain ⟨tt, tm, tx⟩ := tv
     cases c with
     | fld j =>
      simp only [okP] at h9
      obtain ⟨tv', h10, _⟩ := h9
      cases tt <;> first | (simp [fieldOf, fieldK] at h10; done) | cases g2
     | dr => simp [shallowD, shallow] at hp
     | el j => simp [shallowD, shallow] at hp
   subst hq
   have := g4 b 0 rfl
   simp only [List.cons_append, List.nil_append] at this
   rw [this] at h7
   have hct : isCell t = false := by
    cases t <;> first | rfl | (simp [fieldOf, fieldK] at htv)
   exact ⟨k, rfl, hct, by omega, by rw [h7, Nat.zero_add]⟩

theorem noCel_get (h : noCel st = true) (z : Nat) {s n : Nat} (hz : st.get z = .cel s n) : False := by
 unfold noCel at h
 rw [List.all_eq_true] at h
 have hm : ∀ l : List (Nat × AV), look l z = .cel s n → (z, AV.cel s n) ∈ l := by
  intro l
  induction l with
  | nil => intro h; cases h
  | cons d r ih =>
   obtain ⟨d, v⟩ := d
   intro h
   simp only [look] at h
   split at h
   ·rename_i hb
    have := Nat.eq_of_beq_eq_true hb
    subst this
    rw [h]; simp
   ·exact List.mem_cons_of_mem _ (ih h)
 have := h _ (hm _ hz)
 simp only [isCelA] at this
 rw [show look st.l z = .cel s n from hz] at this
 cases this
theorem refs_of (hnc : noCel st = true) (hI : Inv w0 mu st.get val U w g) {s n u : Nat} {t : Ty} {m : Md} {x : den t} (hs : st.get s = .box n u t m x) (z : Nat) : Refs s n t (val s) (st.get z) (val z) := by
 have hb := hI.slots s
 rw [hs] at hb
 have h0 : ∀ a v, VR0 w g st.get a v → Refs0 s n t (val s) a v := by
  intro a v hv
  cases a with
  | pl s' n' p =>
   rintro rfl rfl hp
   have := hv ⟨true, t, m, x⟩ (by rw [hs]; simp [ownP?, Nat.beq_refl, hp])
   exact (box_ptr hb hp).2 ⟨this.1, this.2.1⟩
  | _ => trivial
 have hz := hI.slots z
 cases hq : st.get z with
 | clo f caps =>
  rw [hq] at hz
  obtain ⟨vs, h1, h2, h3⟩ := hz
  intro vs' hv i hi
  rw [h1] at hv
  simp only [Value.func.injEq] at hv
  rw [← hv.2.2]
  exact h0 _ _ (h3 i hi)
 | cel s' n' => exact (noCel_get hnc z hq).elim
 | pl s' n' p => rw [hq] at hz; exact h0 (.pl s' n' p) _ hz
 | _ => trivial

/-- boxes get their own stamps again -/
theorem Inv_restamp {av av' : Nat → AV} (h : Inv w0 mu av val U w g) (hch : ∀ s, av' s = av s ∨ ∃ n n1 u t m x, av s = .box n1 u t m x ∧ av' s = .box n u t m x ∧ U n ∧ ∀ z, Refs s n t (val s) (av z) (val z)) :
  Inv w0 mu av' val U w g := by
 have hown : ∀ s k, own? (av' s) k = own? (av s) k := fun s k => by
  rcases hch s with h1 | ⟨n, n1, u, t, m, x, h1, h2, _⟩
  ·rw [h1]
  ·rw [h1, h2]; rfl
 have h0 : ∀ a v, VR0 w g av a v → (∀ s n t, Refs0 s n t (val s) a v ∨ ¬ ∃ n1 u m x, av s = .box n1 u t m x ∧ av' s = .box n u t m x ∧ (∀ z, Refs s n t (val s) (av z) (val z))) → VR0 w g av' a v := by
  intro a v hv href
  cases a with
  | al s n p => intro o ho; rw [hown] at ho; exact hv o ho
  | sub s n p lo len cp => intro o ho; rw [hown] at ho; exact hv o ho
  | pl s n p =>
   intro o ho
   rcases hch s with h1 | ⟨n', n1, u, t, m, x, h1, h2, _, h4⟩
   ·rw [h1] at ho; exact hv o ho
   ·have hb := h.slots s
    rw [h1] at hb
    rw [h2] at ho
    simp only [ownP?] at ho
    split at ho
    ·rename_i hc
     simp only [Option.some.injEq] at ho
     subst ho
     by_cases hu : Nat.beq n u = true
     ·exact hv ⟨true, t, m, x⟩ (by rw [h1]; simp [ownP?, hu])
     ·have hc2 : Nat.beq n n' = true ∧ shallowD p = true := by
       simp only [Bool.or_eq_true, Bool.and_eq_true] at hc
       exact hc.resolve_right hu
      have hn := Nat.eq_of_beq_eq_true hc2.1
      subst hn
      rcases href s n t with h5 | h5
      ·obtain ⟨g1, g2⟩ := (box_ptr hb hc2.2).1 (h5 rfl rfl hc2.2)
       exact ⟨g1, g2, .inl rfl⟩
      ·exact absurd ⟨n1, u, m, x, h1, h2, h4⟩ h5
    ·cases ho
  | _ => exact hv
 refine ⟨fun s => ?_, fun s => ?_, h.cols, h.fr, fun s hs => ?_, h.lk⟩
 ·have hs := h.slots s
  rcases hch s with h1 | ⟨n, n1, u, t, m, x, h1, h2, _⟩
  ·rw [h1]
   have hr : ∀ s' n t, Refs s' n t (val s') (av s) (val s) ∨ ¬ ∃ n1 u m x, av s' = .box n1 u t m x ∧ av' s' = .box n u t m x ∧ (∀ z, Refs s' n t (val s') (av z) (val z)) := fun s' n t => by
    by_cases hx : ∃ n1 u m x, av s' = .box n1 u t m x ∧ av' s' = .box n u t m x ∧ (∀ z, Refs s' n t (val s') (av z) (val z))
    ·obtain ⟨_, _, _, _, _, _, h5⟩ := hx; exact .inl (h5 s)
    ·exact .inr hx
   cases hq : av s with
   | clo f caps =>
    rw [hq] at hs hr
    obtain ⟨vs, g1, g2, g3⟩ := hs
    exact ⟨vs, g1, g2, fun i hi => h0 _ _ (g3 i hi) (fun s' n t => (hr s' n t).imp (fun h => h vs g1 i hi) id)⟩
   | app s' n p e nz me zs =>
    rw [hq] at hs
    intro o ho
    rw [hown] at ho
    exact hs o ho
   | ent s' n p k y b =>
    rw [hq] at hs
    obtain ⟨born, v2, h3, h4⟩ := hs
    exact ⟨born, v2, h3, fun o ho => h4 o (by rw [← hown]; exact ho)⟩
   | it s' n p k e l z =>
    rw [hq] at hs
    obtain ⟨r, B, c, seen, g1, g2, g3, g4, g6⟩ := hs
    exact ⟨r, B, c, seen, g1, g2, g3, g4, fun o ho => g6 o (by rw [← hown]; exact ho)⟩
   | cel s' n =>
    rw [hq] at hs hr
    obtain ⟨b, c, el, u, g1, g2, g3, g4, g5, g6⟩ := hs
    refine ⟨b, c, el, u, g1, g2, g3, g4, g5, fun o ho => ?_⟩
    rcases hch s' with h1 | ⟨n', n1, u, t, m, x, h1, h2, _, h4⟩
    ·rw [h1] at ho; exact g6 o ho
    ·rw [h2] at ho
     simp only [ownP?] at ho
     split at ho
     ·rename_i hc
      simp only [Option.some.injEq] at ho
      subst ho
      by_cases hu : Nat.beq n u = true
      ·exact g6 ⟨true, t, m, x⟩ (by rw [h1]; simp [ownP?, hu])
      ·have hc2 : Nat.beq n n' = true := by
        simp only [Bool.or_eq_true, Bool.and_eq_true] at hc
        exact (hc.resolve_right hu).1
       have hn := Nat.eq_of_beq_eq_true hc2
       subst hn
       have := h4 s
       rw [hq] at this
       exact (this rfl rfl).elim
     ·cases ho
   | pl s' n p => rw [hq] at hs hr; exact h0 (.pl s' n p) _ hs hr
   | al s' n p => rw [hq] at hs hr; exact h0 (.al s' n p) _ hs hr
   | sub s' n p lo len cp => rw [hq] at hs hr; exact h0 (.sub s' n p lo len cp) _ hs hr
   | _ => rw [hq] at hs; exact hs
  ·rw [h1] at hs
   rw [h2]; exact hs
 ·have hs := h.stamps s
  rcases hch s with h1 | ⟨n, n1, u, t, m, x, h1, h2, h3, _⟩
  ·rw [h1]; exact hs
  ·rw [h1] at hs; rw [h2]; exact ⟨h3, hs.2⟩
 ·rcases hch s with h1 | ⟨n, n1, u, t, m, x, h1, _⟩
  ·rw [h1]; exact h.far s hs
  ·rw [h.far s hs] at h1; cases h1

/-- a box under a new stamp -/
def fr1 (c : Nat) : AV → AV
 | .box _ u t m x => .box c u t m x
 | a => a

theorem openV_refs {c s n : Nat} {t : Ty} {v0 : Value} : ∀ (t' : Ty) (m : Md) (x : den t') (v : Value), Refs s n t v0 (openV c t' m x) v := by
 intro t' m x v
 cases t' with
 | bx t' =>
  cases x with
  | none => trivial
  | some y => simp only [openV]; cases m.isOwn <;> trivial
 | _ => simp only [openV]; cases m.hasOwn <;> trivial
theorem resAV_refs {c s n : Nat} {t : Ty} {v0 : Value} (rs : List (Ty × Md)) (x : denL rs) (v : Value) : Refs s n t v0 (resAV c rs x) v := by
 match rs, x with
 | [], _ => trivial
 | [(t', m)], x => exact openV_refs t' m x.1 v
 | _ :: _ :: _, _ => trivial

/-- what a call leaves; ss: slots that are handed back -/
theorem call_done (hI : Inv w0 mu st.get (Vals a) U w g) (hfar : ∀ s, mu.far s ↔ lentC.1 ≤ s) (hd : DstOK mu o a) {c0 : Nat} (hU : New U c0) {muC : Mu} (hh : ∀ b, muC b → ∃ s q, g.col b = some (s, q) ∧ argS ≤ s) (hL : ∀ b, g.col b ≠ none → ¬ muC b → muC.L b)
  {rs : List (Ty × Md)} (hrs : ∀ t ∈ rs, noLent t.2 = true) {x : denL rs} {vs : List Value} {w' : World} {g' : Gh} {ss : List (Nat × Option (Nat × Ty))} (hFr : Fr w muC w') (hR : ResR w' g' rs x ss.length vs) (hcols : ∀ b k, g'.col b = some k → b < w'.heap.size ∧ (k = lentC ∨ w.heap.size ≤ b ∨ muC b)) (hlk : ∀ b, muC.L b → g'.col b = some lentC)
  {l : List AV} (hl : l.length = ss.length) (hnd : (ss.map (·.1)).Nodup)
  (hio : ∀ (j : Nat) (h : j < ss.length), ¬ mu.far ss[j].1 ∧ o.dst ≠ some ss[j].1 ∧ IoV w' g' c0 (resS + j) (Vals a ss[j].1) (l.getD j .dead) ∧
   (∀ n u t m y, l.getD j .dead = .box n u t m y → U n ∧ ∀ z, Refs ss[j].1 n t (Vals a ss[j].1) (st.get z) (Vals a z)))
  {next : Act → World → Prop} (hn : NextOK w0 mu o a (Nw U c0) (setL ss l st) (resAV c0 rs x) next) : next (a.put o.dst (retV vs)) w' := by
 have hne : ∀ s ∈ ss.map (·.1), o.dst ≠ some s := fun s hs => by
  obtain ⟨j, hj, rfl⟩ := List.getElem_of_mem hs
  rw [List.getElem_map]
  exact (hio j (by simpa using hj)).2.1
 obtain ⟨gN, h1, h2⟩ := merge hI hfar hh hL hFr hcols hlk (F := resF o.dst (ss.map (·.1)) (rs.length == 1)) (fun i j d p p' r r' h h' e => resF_inj hne hnd h h' e) (Y := fun u => o.dst = some u ∨ u ∈ ss.map (·.1))
  (fun i d p h => by
   rcases resF_D _ _ h with ⟨h, h', _⟩ | ⟨h, _⟩
   ·exact .inr (by rw [← h']; exact List.getElem_mem _)
   ·exact .inl h) (fun d h => h.elim (fun h => (hd d h).2) (fun h => by
   obtain ⟨j, hj, rfl⟩ := List.getElem_of_mem h
   rw [List.getElem_map]
   exact (hio j (by simpa using hj)).1)) (c := c0)
 have hlen := ResR_length rs x _ vs hR
 have hslot : ∀ d, o.dst = some d → ∀ av', SlotR w' gN av' d (resAV c0 rs x) (retV vs) ∧ stampOK (Nw U c0) (resAV c0 rs x) ∧ (∀ n, U n → own? (resAV c0 rs x) n = none) ∧ ∀ n p, U n → ownP? (resAV c0 rs x) n p = none := by
  intro d hdst av'
  match rs, x, hR, hlen, hrs, h2 with
  | [(t, m)], x, hR, hlen, hrs, h2 =>
   obtain ⟨v, vs', rfl, h3, h4, h5⟩ := hR
   obtain rfl : vs' = [] := h5
   have h6 := h2 ss.length d [] (by have := resF_at d true 0 (fun _ => rfl) (ss.map (·.1)); rw [hdst]; simpa [resP] using this) t m v x.1 (hrs (t, m) (by simp)) h4
   exact openV_slot hU h3 h6
  | [], x, hR, hlen, hrs, h2 =>
   obtain rfl : vs = [] := hR
   exact ⟨⟨#[], rfl, rfl, fun i hi => absurd hi (Nat.not_lt_zero i)⟩, trivial, fun _ _ => rfl, fun _ _ _ => rfl⟩
  | t1 :: t2 :: r, x, hR, hlen, hrs, h2 =>
   have hv : retV vs = .tuple vs.toArray := by
    match vs, hlen with
    | v1 :: v2 :: vs, _ => rfl
   rw [hv]
   refine ⟨⟨vs.toArray, rfl, by rw [comps_length]; simpa using hlen, fun i hi => ?_⟩, trivial, fun _ _ => rfl, fun _ _ _ => rfl⟩
   rw [comps_length] at hi
   obtain ⟨t, m, y, h3, h4, h5, h6⟩ := ResR_get (t1 :: t2 :: r) x _ vs hR i hi
   rw [h4]
   have h7 := h2 (ss.length + i) d [.fld i] (by have := resF_at d false i (fun h => by cases h) (ss.map (·.1)); rw [hdst]; simpa [resP] using this) t m _ y (hrs (t, m) h3) h6
   have hvi : vs.toArray.getD i undef = vs.getD i undef := by simp [Array.getD_eq_getD_getElem?, List.getD_eq_getElem?_getD]
   rw [hvi]
   cases hm : m.hasOwn with
   | true => exact ⟨h5, h7⟩
   | false => exact ⟨hm, h5, RR_free (Nat.le_refl _) (fun b l0 _ hb => ⟨rfl, hb⟩) t m _ [] _ _ 0 0 y h7 hm (fun _ => rfl) (fun _ _ => rfl)⟩
 have hk : ∀ n, U n → Nat.beq n (c0 + 1) = false := fun n hun => by
  cases hb : Nat.beq n (c0 + 1) with
  | true => have := Nat.eq_of_beq_eq_true hb; subst this; exact absurd hun hU.2
  | false => rfl
 have hk0 : ∀ n, U n → Nat.beq n c0 = false := fun n hun => by
  cases hb : Nat.beq n c0 with
  | true => have := Nat.eq_of_beq_eq_true hb; subst this; exact absurd hun hU.1
  | false => rfl
 have hgetput : ∀ (S : St) (d : Nat), o.dst ≠ some d → (S.put o.dst (resAV c0 rs x)).get d = S.get d := fun S d hdst => by
  cases hdo : o.dst with
  | none => rfl
  | some d' => rw [St.put, get_set, if_neg (fun h => hdst (by rw [hdo, h]))]
 have hgetdst : ∀ (S : St) (d : Nat), o.dst = some d → (S.put o.dst (resAV c0 rs x)).get d = resAV c0 rs x := fun S d hdst => by
  rw [hdst, St.put, get_set, if_pos rfl]
 have hmap : (l.map (fr1 c0)).length = ss.length := by simp [hl]
 have hfrg : ∀ j, j < ss.length → (l.map (fr1 c0)).getD j .dead = fr1 c0 (l.getD j .dead) := fun j hj => by
  simp only [List.getD_eq_getElem?_getD, List.getElem?_map]
  cases l[j]? <;> rfl
 -- with new stamps
 have hN : Inv w0 mu ((setL ss (l.map (fr1 c0)) st).put o.dst (resAV c0 rs x)).get (Vals (a.put o.dst (retV vs))) (Nw U c0) w' gN := by
  refine h1 _ _ (fun u hu => ?_) (fun u hu => ?_) (fun d hY => ?_)
  ·have hu1 : o.dst ≠ some u := fun h => hu (.inl h)
   rw [hgetput _ _ hu1]
   exact setL_not _ _ _ _ fun h => hu (.inr h)
  ·exact put_same u fun h => hu (.inl h)
  ·by_cases hdst : o.dst = some d
   ·have e2 : Vals (a.put o.dst (retV vs)) d = retV vs := by rw [hdst, Vals_put (hd d hdst).1, if_pos rfl]
    rw [hgetdst _ d hdst, e2]
    exact hslot d hdst _
   ·have hIo := hY.resolve_left hdst
    obtain ⟨j, hj, hjd⟩ := List.getElem_of_mem hIo
    have hj' : j < ss.length := by simpa using hj
    rw [List.getElem_map] at hjd
    subst hjd
    obtain ⟨_, _, g3, _⟩ := hio j hj'
    rw [hgetput _ _ hdst, setL_at ss _ st hnd hmap j hj', hfrg j hj', put_same _ hdst]
    have hF : resF o.dst (ss.map (·.1)) (rs.length == 1) j = some (ss[j].1, []) := by
     have := resF_lt (D := o.dst) (single := rs.length == 1) (ss.map (·.1)) j hj
     rw [List.getElem_map] at this; exact this
    generalize hgl : l.getD j .dead = A at g3 ⊢
    cases g3 with
    | ow q1 q2 q3 => exact ⟨⟨q2, h2 j _ [] hF _ _ _ _ q1 q3⟩, Nw_1, fun n hn => by simp only [fr1, own?, hk n hn], fun n p hn => by simp only [fr1, ownP?, hk n hn]⟩
    | box q1 q2 q3 q4 => exact ⟨val_box (shape_cell (t := .bx _) rfl q3) q2 (h2 j _ [] hF _ _ _ _ q1 q4), ⟨Nw_0, Nw_1⟩, fun n hn => by simp only [fr1, own?, hk n hn], fun n p hn => by simp [fr1, ownP?, hk n hn, hk0 n hn]⟩
 refine hn _ w' gN (Inv_restamp hN fun s => ?_) ?_ ?_ put_same
 ·by_cases hdst : o.dst = some s
  ·exact .inl (by rw [hgetdst _ s hdst, hgetdst _ s hdst])
  ·rw [hgetput _ _ hdst, hgetput _ _ hdst]
   by_cases hm : s ∈ ss.map (·.1)
   ·obtain ⟨j, hj, hjd⟩ := List.getElem_of_mem hm
    have hj' : j < ss.length := by simpa using hj
    rw [List.getElem_map] at hjd
    subst hjd
    obtain ⟨_, _, _, g4⟩ := hio j hj'
    rw [setL_at ss _ st hnd hmap j hj', setL_at ss _ st hnd hl j hj', hfrg j hj']
    cases hA : l.getD j .dead with
    | box n u t m y =>
     obtain ⟨q1, q2⟩ := g4 n u t m y hA
     refine .inr ⟨n, c0, u, t, m, y, rfl, rfl, .inl q1, fun z => ?_⟩
     rw [put_same _ hdst]
     by_cases hz : o.dst = some z
     ·rw [hgetdst _ z hz]; exact resAV_refs _ _ _
     ·rw [hgetput _ _ hz, put_same _ hz]
      by_cases hzm : z ∈ ss.map (·.1)
      ·obtain ⟨i, hi, hid⟩ := List.getElem_of_mem hzm
       have hi' : i < ss.length := by simpa using hi
       rw [List.getElem_map] at hid
       subst hid
       rw [setL_at ss _ st hnd hmap i hi', hfrg i hi']
       obtain ⟨_, _, g5, _⟩ := hio i hi'
       generalize l.getD i .dead = B at g5
       cases g5 <;> trivial
      ·rw [setL_not _ _ _ _ hzm]; exact q2 z
    | _ => exact .inl rfl
   ·exact .inl (by rw [setL_not _ _ _ _ hm, setL_not _ _ _ _ hm])
 ·cases hdst : o.dst <;> simp [Act.put]
 ·cases hdst : o.dst <;> rfl

theorem whole_some {d : Option Nat} {av : AV} {s : Nat} {q : Option (Nat × Ty)} (h : whole st d av = some (s, q)) :
  (q = none ∧ ∃ n e nz me x, av = .al s n [] ∧ st.get s = .ow n (.sl e) (.own nz me) x ∧ d ≠ some s) ∨ (∃ n u t m x, q = some (n, t) ∧ av = .pl s n [.dr] ∧ st.get s = .box n u t m x ∧ d ≠ some s) := by
 unfold whole at h
 split at h
 ·rename_i s' n
  split at h
  ·rename_i n' e nz me x hq
   split at h
   ·rename_i hb
    simp only [Option.some.injEq, Prod.mk.injEq] at h
    obtain ⟨rfl, rfl⟩ := h
    simp only [Bool.and_eq_true, Bool.not_eq_true'] at hb
    have := Nat.eq_of_beq_eq_true hb.1
    subst this
    refine .inl ⟨rfl, n, e, nz, me, x, rfl, hq, fun hd => ?_⟩
    rw [hd] at hb
    simp [Nat.beq_refl] at hb
   ·cases h
  ·cases h
 ·rename_i s' n p
  split at h
  ·rename_i n1 u t m x hq
   split at h
   ·rename_i hb
    simp only [Option.some.injEq, Prod.mk.injEq] at h
    obtain ⟨rfl, rfl⟩ := h
    simp only [Bool.and_eq_true, Bool.not_eq_true'] at hb
    have := Nat.eq_of_beq_eq_true hb.1.1
    subst this
    have := eqP_ok hb.1.2
    subst this
    refine .inr ⟨n, u, t, m, x, rfl, rfl, hq, fun hd => ?_⟩
    rw [hd] at hb
    simp [Nat.beq_refl] at hb
   ·cases h
  ·cases h
 ·cases h

/-- the slot holds just what the alias says -/
theorem whole_val (hI : Inv w0 mu st.get (Vals a) U w g) {d : Option Nat} {av : AV} {s : Nat} {q : Option (Nat × Ty)} (h : whole st d av = some (s, q)) {v : Value} (hv : VR w g st.get av v) : Vals a s = v ∧ ¬ mu.far s := by
 have h0 := hI.slots s
 rcases whole_some h with ⟨_, n, e, nz, me, x, rfl, hq, _⟩ | ⟨n, u, t, m, x, _, rfl, hq, _⟩
 ·rw [hq] at h0
  obtain ⟨h1, h2⟩ := h0
  obtain ⟨h3, _⟩ := hv ⟨false, .sl e, .own nz me, x⟩ (by rw [hq]; simp [own?, Nat.beq_refl])
  simp only [RR, Md.isOwn] at h2
  obtain ⟨ad, cap, h4, _⟩ := h2
  have h5 : (Vals a s).cells = #[Vals a s] := h1
  rw [h5] at h4
  refine ⟨?_, fun hf => ?_⟩
  ·rw [h3]; simpa [rdS] using h4
  ·have := hI.far s hf
   rw [hq] at this; cases this
 ·rw [hq] at h0
  obtain ⟨b, c, el, h1, h2, h3, h4, h5, h6⟩ := h0
  obtain ⟨h7, _⟩ := hv ⟨true, t, m, x⟩ (by rw [hq]; simp [ownP?, Nat.beq_refl, shallowD, shallow])
  refine ⟨by rw [h7, h5, h1], fun hf => ?_⟩
  have := hI.far s hf
  rw [hq] at this; cases this

theorem wholes_some {d : Option Nat} {avs : List AV} : ∀ (io : List Nat) (ss : List (Nat × Option (Nat × Ty))), wholes st d avs io = some ss →
  ss.length = io.length ∧ (ss.map (·.1)).Nodup ∧ ∀ (j : Nat) (h : j < ss.length) (h' : j < io.length), whole st d (avs.getD io[j] .dead) = some ss[j]
 | [], ss, h => by
  simp only [wholes, Option.some.injEq] at h
  subst h
  exact ⟨rfl, List.nodup_nil, fun j hj => absurd hj (Nat.not_lt_zero _)⟩
 | p :: r, ss, h => by
  simp only [wholes] at h
  split at h
  ·rename_i x l hx hl
   split at h
   ·rename_i hn
    simp only [Option.some.injEq] at h
    subst h
    obtain ⟨h1, h2, h3⟩ := wholes_some r l hl
    refine ⟨by simp [h1], ?_, fun j hj hj' => ?_⟩
    ·simp only [List.map_cons, List.nodup_cons]
     refine ⟨fun hm => ?_, h2⟩
     obtain ⟨y, hy, hyx⟩ := List.mem_map.1 hm
     have : (l.any fun y => Nat.beq x.1 y.1) = true := List.any_eq_true.2 ⟨y, hy, by rw [hyx]; exact Nat.beq_refl _⟩
     rw [this] at hn; cases hn
    ·cases j with
     | zero => exact hx
     | succ j => simpa using h3 j (by simpa using hj) (by simpa using hj')
   ·cases h
  ·cases h

theorem init_hand {g1 : Gh} {val : Nat → Value} {st1 : St} (hI1 : Inv w0 mu st1.get val U w g1) {ps : List PT} {x : denPs ps} {vs : List Value} (hP : ParO w g1 ps x 0 vs) (hps : ps.length ≤ 1000) {pin : Nat → Option Value} :
  Inv w (muH g1 pin) (look (initL ps 0 x)) (fun i => vs.toArray.getD i undef) (· < fresh) w g1.hand :=
 init_inv (mu' := muH g1 pin) (w := w) (fun s => Iff.rfl) (ParO_L _ _ _ _ hP) hps (fun b k hb => by
  simp only [Gh.hand] at hb
  cases hgc : g1.col b with
  | none => rw [hgc] at hb; cases hb
  | some k' =>
   obtain ⟨s, q⟩ := k'
   rw [hgc] at hb
   simp only at hb
   refine ⟨(hI1.cols b _ hgc).1, ?_⟩
   split at hb
   ·rename_i hs; exact .inr ⟨s, q, hgc, hs⟩
   ·cases hb; exact .inl rfl) (fun b hb => by
  obtain ⟨hb1, hb2⟩ := hb
  simp only [Gh.hand]
  cases hgc : g1.col b with
  | none => exact absurd hgc hb1
  | some k' =>
   obtain ⟨s, q⟩ := k'
   have : ¬ argS ≤ s := fun h => hb2 ⟨s, q, hgc, h⟩
   simp only [this, if_false])

/-- a walk backwards is made -/
theorem step_mk (hT : TabOK P T) (hB : BkOK P T) (hI : Inv w0 mu st.get (Vals a) U w g) (hd : DstOK mu o a) {c : Call} {fo : Operand} (ho : o.op = .call c) (hc : c.callee = .value fo) {f : Nat} {caps : List AV} (hvf : VR w g st.get (.clo f caps) (a.eval fo))
  (h : mkD T st f caps c.args.toList K = some r) : StepOK P w0 mu (Nw U st.c) o a w K r := by
 unfold mkD at h
 split at h
 ·rename_i g0 S x hbk hargs
  split at h
  ·rename_i ty hty
   obtain ⟨av, h1, hv, hst0, how0⟩ := opd_sound hI h
   clear hst0 how0
   split at h1
   ·rename_i e l nz xs
    obtain ⟨rfl, h2⟩ := sameTy_some h1
    have hb := hB f
    rw [hbk] at hb
    obtain ⟨hF, fn, F, G, q1, q2, q3, q4⟩ := hb
    obtain ⟨us, u1, u2, _⟩ := hvf
    have hus : us = #[] := Array.eq_empty_of_size_eq_zero u2
    subst hus
    obtain ⟨hno, hsh, hrr⟩ := hv
    have hsh : (a.eval x).cells = #[a.eval x] := hsh
    simp only [RR, Md.isOwn] at hrr
    obtain ⟨hro, _⟩ := hrr
    simp only [RO] at hro
    obtain ⟨ad, cap, r1, r2, r3⟩ := hro
    have hval : a.eval x = .slice ad (List.length xs) cap := by
     have r1 : (a.eval x).cells[0]? = some _ := r1
     rw [hsh] at r1
     simpa using r1
    have hTM := ((hT _).1 _ hty).1
    have hexec := exec_call (ρ := a.eval) (w := w) hF ho hc u1
    have hca : c.args.map a.eval ++ #[] = #[.slice ad (List.length xs) cap] := by
     rw [toList_one hargs]; simp [hval]
    rw [hca] at hexec
    refine ⟨_, _, h2, fun next Q hn => ?_⟩
    unfold Oper.wp
    rw [hexec, Oper.upon_enter]
    refine Calls.mono (mk_calls q1 q2 q3 q4 hTM) ?_
    rintro e' w' ⟨el, rfl, rfl⟩
    have hI2 := Inv_alloc hI (.cells #[.slice ad (List.length xs) cap] el)
    have hnew : (w.alloc (.cells #[.slice ad (List.length xs) cap] el)).cell? ⟨w.heap.size, 0, none⟩ = some (.slice ad (List.length xs) cap) := by
     unfold World.cell?
     rw [World.alloc_heap_new]
     rfl
    have hcol : g.col w.heap.size = none := by
     cases hgc : g.col w.heap.size with
     | none => rfl
     | some k => have := (hI.cols _ k hgc).1; omega
    have hVR : VR (w.alloc (.cells #[.slice ad (List.length xs) cap] el)) g st.get (.clo g0 [.rop (.sl e) (.bor l false) xs]) (.func (.func g0) #[] #[.pointer (some ⟨w.heap.size, 0, none⟩)]) := by
     refine ⟨_, rfl, rfl, fun i hi => ?_⟩
     have : i = 0 := by simpa using hi
     subst this
     refine ⟨l, false, rfl, ⟨w.heap.size, 0, none⟩, rfl, rfl, by show w.heap.size < _; rw [World.size_alloc]; omega, .inl hcol, ?_, fun h => (by cases h)⟩
     refine ⟨ad, cap, hnew, r2, ?_⟩
     cases ad with
     | none => exact r3
     | some ad =>
      rcases r3 with r3 | ⟨r4, r5, r6, r7⟩
      ·exact .inl r3
      ·refine .inr ⟨r4, by rw [World.size_alloc]; omega, r6, fun i hi => RO_conv (l := l) (l' := l) (by cases l <;> rfl) (by rw [World.size_alloc]; omega) (fun b hb hs => ⟨?_, hs⟩) _ _ _ _ _ (r7 i hi) fun j _ => cell?_congr ?_⟩
       ·show (w.heap.push _)[b]? = _
        rw [Array.getElem?_push_lt hb, Array.getElem?_eq_getElem hb]
       ·show (w.heap.push _)[ad.block]? = _
        rw [Array.getElem?_push_lt r5, Array.getElem?_eq_getElem r5]
    cases hdst : o.dst with
    | none => exact hn _ _ g (by rw [hdst]; exact hI2.monoU fun _ => Nw_old) rfl rfl (fun s _ => rfl)
    | some d =>
     obtain ⟨d1, d2⟩ := hd d hdst
     exact hn _ _ g (by rw [hdst]; exact (put_free hI2 d1 d2 hVR (fun a ha => by simp at ha; subst ha; trivial) rfl).monoU fun _ => Nw_old) (by simp [Act.put]) rfl (fun s hs => by rw [← hdst]; exact put_same s hs)
   ·cases h1
  ·cases h
 ·cases h

theorem step_callf (hT : TabOK P T) (hB : BkOK P T) (hΦ : CtxOK P Φ) (hfar : ∀ s, mu.far s ↔ lentC.1 ≤ s) (hU : New U st.c) (hI : Inv w0 mu st.get (Vals a) U w g) (hd : DstOK mu o a) {c : Call} {fo : Operand} (ho : o.op = .call c) (hc : c.callee = .value fo) (h : step T Φ o st K = some r) : StepOK P w0 mu (Nw U st.c) o a w K r := by
 unfold step at h; rw [ho] at h; simp only [hc] at h
 obtain ⟨af, h1, hvf, hsf, how⟩ := opd_sound hI h
 clear h how
 split at h1
 ·rename_i f caps
  split at h1
  ·rename_i C hC
   obtain ⟨hF, hCH⟩ := hΦ f C hC
   obtain ⟨l, h2, hl, hlv⟩ := opds_sound hI c.args.toList h1
   clear h1
   obtain ⟨us, u1, u2, u3⟩ := hvf
   have hexec := exec_call (ρ := a.eval) (w := w) hF ho hc u1
   have hne : ∀ a v, VR0 w g st.get a v → VR w g st.get a v := fun a v h => by cases a <;> first | exact h | cases h
   have hlen : (l ++ caps).length = (c.args.map a.eval ++ us).toList.length := by simp [hl, u2]
   have hall : ∀ i, i < (l ++ caps).length → VR w g st.get ((l ++ caps).getD i .dead) ((c.args.map a.eval ++ us).toList.getD i undef) ∧ stampOK U ((l ++ caps).getD i .dead) := by
    intro i hi
    rw [getD_app, show (c.args.map a.eval ++ us).toList = c.args.toList.map a.eval ++ us.toList by simp, getD_app]
    by_cases h : i < l.length
    ·have hi' : i < c.args.toList.length := by omega
     obtain ⟨h3, h4, _⟩ := hlv i hi' (c.args.toList[i]) (by simp [hi'])
     rw [if_pos h, if_pos (by simpa using hi')]
     have : (c.args.toList.map a.eval).getD i undef = a.eval (c.args.toList[i]) := by
      rw [List.getD_eq_getElem?_getD, List.getElem?_map, List.getElem?_eq_getElem hi']; rfl
     rw [this]
     exact ⟨h3, h4⟩
    ·rw [if_neg h, if_neg (by simpa [hl] using h)]
     have hi2 : i - l.length < caps.length := by rw [List.length_append] at hi; omega
     have h5 := hne _ _ (u3 _ hi2)
     have hmem : caps.getD (i - l.length) .dead ∈ caps := by
      rw [List.getD_eq_getElem?_getD, List.getElem?_eq_getElem hi2]; exact List.getElem_mem hi2
     have h6 : stampOK0 U (caps.getD (i - l.length) .dead) := hsf _ hmem
     refine ⟨?_, ?_⟩
     ·rw [show (c.args.toList.map a.eval).length = l.length by simp [hl]]
      simpa [Array.getD_eq_getD_getElem?, List.getD_eq_getElem?_getD] using h5
     ·cases hcap : caps.getD (i - l.length) .dead <;> rw [hcap] at h6 h5 <;> first | exact h6 | exact (u3 _ hi2 |> fun h => by rw [hcap] at h; cases h)
   -- the continuation
   have hK : ∀ {av : AV} {st' : St}, (match C.outs with | [] => K | _ => ownK o K) av st' = some r → K av st' = some r := by
    intro av st' h
    cases hrs : C.outs with
    | nil => rw [hrs] at h; exact h
    | cons t r => rw [hrs] at h; obtain ⟨_, _, h⟩ := ownK_some h; exact h
   obtain ⟨ps, rs, fn, io⟩ := C
   unfold callD at h2
   obtain ⟨hg, h3⟩ := guardB_some h2
   clear h2
   simp only [Bool.and_eq_true, List.all_eq_true] at hg
   have hps := Nat.le_of_ble_eq_true hg.1
   have hfar' : ∀ s, lentC.1 ≤ s → mu.far s := fun s hs => (hfar s).2 hs
   split at h3
   ·rename_i hio
    simp only at hio h3 hps
    subst hio
    split at h3
    ·-- nothing is handed over
     obtain ⟨x, h4, hP, hpl⟩ := argsL_sound hfar' hI ps (l ++ caps) (c.args.map a.eval ++ us).toList 0 h3 hlen (fun i hi => (hall i hi).1)
     rw [Option.bind_eq_some_iff] at h4
     obtain ⟨y, hy, h5⟩ := h4
     have h6 := hK (resD_some h5)
     refine ⟨_, _, h6, fun next Q hn => ?_⟩
     have hinit := init_inv (mu' := muL g) (w := w) (fun s => Iff.rfl) hP hps (fun b k hb => by
      simp only [Gh.lend] at hb
      cases hgc : g.col b with
      | none => rw [hgc] at hb; cases hb
      | some k' => rw [hgc] at hb; cases hb; exact ⟨(hI.cols b _ hgc).1, .inl rfl⟩) (fun b hb => by
      simp only [Gh.lend]
      cases hgc : g.col b with
      | none => exact absurd hgc hb
      | some k' => rfl)
     have hcalls := hCH x y hy (c.args.map a.eval ++ us) w (muL g) g.lend (by simpa using hpl.symm) (fun s => Iff.rfl) (fun _ h => absurd rfl h) (fun _ h => by cases h) (by rw [Array.toArray_toList] at hinit; exact hinit)
     unfold Oper.wp
     rw [hexec, Oper.upon_enter]
     refine Calls.mono hcalls ?_
     rintro e w' ⟨vs, g', rfl, hFr, hR, _, hcols, hlk⟩
     exact call_done hI hfar hd hU (ss := []) (l := []) (muC := muL g) (fun b hb => hb.elim) (fun b hb _ => hb) (fun t ht => hg.2 t ht) hFr hR hcols hlk rfl List.nodup_nil (fun j hj => absurd hj (Nat.not_lt_zero _)) hn
    ·obtain ⟨rd, st1, g1, h4, hc1, hI1, _, _, hpl, _, _, hrd⟩ := argsO_sound hfar ps (l ++ caps) (c.args.map a.eval ++ us).toList 0 st g h3 hI hlen hall
     obtain ⟨x, h4, hP⟩ := hrd _ _ h4
     rw [Option.bind_eq_some_iff] at h4
     obtain ⟨y, hy, h5⟩ := h4
     have h6 := hK (resD_some h5)
     rw [hc1] at h6
     refine ⟨_, _, h6, fun next Q hn => ?_⟩
     have hinit := init_hand hI1 hP hps (pin := fun _ => none)
     have hcalls := hCH x y hy (c.args.map a.eval ++ us) w (muH g1 fun _ => none) g1.hand (by simpa using hpl.symm) (fun s => Iff.rfl) (fun _ h => absurd rfl h) (fun _ h => by cases h) (by rw [Array.toArray_toList] at hinit; exact hinit)
     unfold Oper.wp
     rw [hexec, Oper.upon_enter]
     refine Calls.mono hcalls ?_
     rintro e w' ⟨vs, g', rfl, hFr, hR, _, hcols, hlk⟩
     exact call_done hI1 hfar hd hU (ss := []) (l := []) (muC := muH g1 fun _ => none) (fun b hb => hb) (fun b hb hm => ⟨hb, hm⟩) (fun t ht => hg.2 t ht) hFr hR hcols hlk rfl List.nodup_nil (fun j hj => absurd hj (Nat.not_lt_zero _)) hn
   ·-- slots are handed over and back
    simp only at h3 hps
    obtain ⟨hnc, h3⟩ := guardB_some h3
    split at h3
    ·rename_i ss hw
     obtain ⟨hsl, hnd, hat⟩ := wholes_some io ss hw
     obtain ⟨rd, st1, g1, h4, hc1, hI1, _, _, hpl', hst1, _, hrd⟩ := argsO_sound hfar ps (l ++ caps) (c.args.map a.eval ++ us).toList 0 st g h3 hI hlen hall
     obtain ⟨x, h4, hP⟩ := hrd _ _ h4
     rw [Option.bind_eq_some_iff] at h4
     obtain ⟨y, hy, h5⟩ := h4
     have hio : ∀ (j : Nat) (hj : j < ss.length) (hj' : j < io.length), ¬ mu.far ss[j].1 ∧ o.dst ≠ some ss[j].1 ∧ Vals a ss[j].1 = (c.args.map a.eval ++ us).getD io[j] undef ∧ ∀ n t, ss[j].2 = some (n, t) → U n ∧ ∀ z, Refs ss[j].1 n t (Vals a ss[j].1) (st1.get z) (Vals a z) := by
      intro j hj hj'
      have hwj := hat j hj hj'
      have hpl : io[j] < (l ++ caps).length := by
       rcases Nat.lt_or_ge io[j] (l ++ caps).length with h | h
       ·exact h
       ·rw [List.getD_eq_getElem?_getD, List.getElem?_eq_none h] at hwj; cases hwj
      have hwj' : whole st o.dst ((l ++ caps).getD io[j] .dead) = some (ss[j].1, ss[j].2) := hwj
      obtain ⟨e1, e2⟩ := whole_val hI hwj' (hall _ hpl).1
      refine ⟨e2, ?_, ?_, fun n t hnt => ?_⟩
      ·rcases whole_some hwj' with ⟨_, _, _, _, _, _, _, _, h⟩ | ⟨_, _, _, _, _, _, _, _, h⟩ <;> exact h
      ·rw [e1]; simp only [Array.getD_eq_getD_getElem?, List.getD_eq_getElem?_getD, Array.getElem?_toList]
      ·rcases whole_some hwj' with ⟨h, _⟩ | ⟨n', u, t', m, x0, h, _, hq, _⟩
       ·rw [h] at hnt; cases hnt
       ·rw [h] at hnt
        simp only [Option.some.injEq, Prod.mk.injEq] at hnt
        obtain ⟨rfl, rfl⟩ := hnt
        have hst := hI.stamps ss[j].1
        rw [hq] at hst
        refine ⟨hst.1, fun z => ?_⟩
        rcases hst1 z with hz | hz
        ·rw [hz]; trivial
        ·rw [hz]; exact refs_of hnc hI hq z
     obtain ⟨l', rs0, x0, e1, e2, e4, e5⟩ := ioD_sound ss rs y st1 h5 (fun t ht => hg.2 t ht)
     have e2 := hK e2
     rw [hc1] at e2
     refine ⟨_, _, e2, fun next Q hn => ?_⟩
     have hinit := init_hand hI1 hP hps (pin := fun u => if u ∈ io then some ((c.args.map a.eval ++ us).getD u undef) else none)
     have hcalls := hCH x y hy (c.args.map a.eval ++ us) w (muH g1 fun u => if u ∈ io then some ((c.args.map a.eval ++ us).getD u undef) else none) g1.hand (by simpa using hpl'.symm) (fun s => Iff.rfl)
      (fun u h => by
       by_cases hu : u ∈ io
       ·exact hu
       ·exact absurd (if_neg hu) h)
      (fun u h => if_pos h) (by rw [Array.toArray_toList] at hinit; exact hinit)
     unfold Oper.wp
     rw [hexec, Oper.upon_enter]
     refine Calls.mono hcalls ?_
     rintro e w' ⟨vs, g', rfl, hFr, hR, ⟨vs', hvs⟩, hcols, hlk⟩
     obtain ⟨vsI, vs0, q1, q2, q3, q4⟩ := e5 w' g' 0 vs hR
     rw [Nat.zero_add] at q3
     have hvv : vsI = io.map (fun p => (c.args.map a.eval ++ us).getD p undef) ∧ vs0 = vs' := by
      have : vsI ++ vs0 = io.map (fun p => (c.args.map a.eval ++ us).getD p undef) ++ vs' := by rw [← q1]; exact hvs
      exact List.append_inj this (by simp [q2, hsl])
     have hout : Contract.outV ⟨ps, rs, fn, io⟩ vs = vs0 := by
      simp only [Contract.outV]
      rw [q1, ← hsl, ← q2, List.drop_left]
     rw [hout]
     refine call_done hI1 hfar hd hU (ss := ss) (l := l') (muC := muH g1 _) (fun b hb => hb) (fun b hb hm => ⟨hb, hm⟩) e4 hFr q3 hcols hlk e1 hnd (fun j hj => ?_) hn
     have hj' : j < io.length := by omega
     obtain ⟨p1, p2, p3, p4⟩ := hio j hj hj'
     obtain ⟨q5, q6⟩ := q4 j hj
     refine ⟨p1, p2, ?_, fun n u t m y' hb => p4 n t (q6 n u t m y' hb)⟩
     have : vsI.getD j undef = Vals a ss[j].1 := by
      rw [hvv.1, p3, List.getD_eq_getElem?_getD, List.getElem?_map, List.getElem?_eq_getElem hj']; rfl
     rw [Nat.zero_add, hc1, this] at q5; exact q5
    ·cases h3
  ·exact step_mk hT hB hI hd ho hc hvf h1
 ·cases h1
end
end Go.Ab
