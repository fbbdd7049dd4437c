/- Calls. -/
import Derived.Test.YtbmjodcgjhgpeaaAbArgs
namespace Go.Ab

section
variable {P : Program} {T : Tab} {Φ : Nat → Option Contract} {w0 w : World} {mu : Mu} {st : St} {a : Act} {g : Gh} {R : Type} {o : Oper} {K : AV → St → Option R} {r : R} {val : Nat → Value} {U : Nat → Prop}

/-- a loose value for a slot that is not used: the state behind the take -/
theorem Loose.inv {st1 : St} {g2 : Gh} {s0 d : Nat} {p : List Stp} {t : Ty} {m : Md} {x : den t} {v : Value} (h : Loose w0 mu w st st1 g g2 s0 d p t m x v) (hI : Inv w0 mu st.get val U w g) (hd : mu.far d) :
    Inv w0 mu st1.get val U w g2 ∧ Keeps U w g st.get w g2 st1.get ∧ Kept w g g2 := by
  have hget := h.get hI
  have hfar : ∀ u, mu.far u → st1.get u = .dead := fun u hu => by rw [hget]; split; rfl; exact hI.far u hu
  have hdead : ∀ u, (u = s0 ∨ u = d) → st1.get u = .dead := fun u hu => by
    rcases hu with rfl | rfl
    · rw [hget, if_pos rfl]
    · exact hfar _ hd
  refine ⟨?_, ?_, fun b l0 _ hs => h.sh b l0 hs⟩
  · refine Inv_upd hI (fun u => u = s0 ∨ u = d) (fun _ h => h) (Nat.le_refl _) (fun b l0 _ hs => ⟨rfl, h.sh b l0 hs⟩) ?_ ?_ ?_ ?_ h.cols hI.fr hfar h.lk (.inl fun u hu n _ => by rw [hdead u hu]; rfl)
    · intro u hu
      have h1 : u ≠ s0 := fun h => hu (.inl h)
      have h2 : u ≠ d := fun h => hu (.inr h)
      exact ⟨by rw [hget, if_neg h1], rfl, fun b r hb => ⟨rfl, h.un b u r hb h1⟩, fun q => h.H u h1 q (fun h => absurd h h2), fun q => h.A u h1 q (fun h => absurd h h2)⟩
    · intro u hu n _ o' ho'; rw [hdead u hu] at ho'; cases ho'
    · intro u hu n p _ o' ho'; rw [hdead u hu] at ho'; cases ho'
    · intro u hu; rw [hdead u hu]; exact ⟨trivial, trivial⟩
  · refine keeps_of (Nat.le_refl _) (fun b l0 _ hs => ⟨rfl, h.sh b l0 hs⟩) (fun u => u = s0 ∨ u = d) (fun u hu => ?_) (fun u hu => ?_)
    · have h1 : u ≠ s0 := fun h => hu (.inl h)
      have h2 : u ≠ d := fun h => hu (.inr h)
      exact ⟨by rw [hget, if_neg h1], fun q => h.H u h1 q (fun h => absurd h h2), fun q => h.A u h1 q (fun h => absurd h h2)⟩
    · rw [hdead u hu]; exact ⟨fun _ _ => rfl, fun _ _ _ => rfl⟩

/-- what lies ready in another slot that is not used stays -/
theorem Loose.other {st1 : St} {g2 : Gh} {s0 d s : Nat} {t : Ty} {m : Md} {x : den t} {v : Value} (h : Loose w0 mu w st st1 g g2 s0 d [] t m x v) (hs : mu.far s) (hsl : s ≠ lentC.1) (hd : s ≠ d) {t' : Ty} {m' : Md} {src : Src} {y : den t'} (hr : RR w g s t' m' [] src 0 y) :
    RR w g2 s t' m' [] src 0 y := by
  have hs0 : s ≠ s0 := by
    rcases h.dead with ⟨h, _⟩ | ⟨h, _⟩
    · rw [h]; exact hsl
    · exact fun h' => h (h' ▸ hs)
  exact RR_moved (Nat.le_refl _) (fun b l0 _ hb => ⟨rfl, h.sh b l0 hb⟩) t' m' [] [] src 0 y hr (fun b r hb => ⟨rfl, by rw [h.un b s _ hb hs0]; exact hb⟩) (fun q => h.H s hs0 _ (fun h => absurd h hd)) (fun q _ => h.A s hs0 _ (fun h => absurd h hd)) (fun _ _ => rfl)

/-- arguments on their way to a callee -/
def ParO (w : World) (g : Gh) : (ps : List PT) → denPs ps → Nat → List Value → Prop
  | [], _, _, vs => vs = []
  | .val t m :: r, x, i, vs => ∃ v vs', vs = v :: vs' ∧ ((shapeV t v ∧ RR w g (argS + i) t m [] (.val v.cells) 0 x.1) ∨ (∀ av, VR w g av (.v t m x.1) v)) ∧ ParO w g r x.2 (i + 1) vs'
  | .ptr t m :: r, x, i, vs => ∃ v vs', vs = v :: vs' ∧ (∀ av, VR w g av (.rop t m x.1) v) ∧ ParO w g r x.2 (i + 1) vs'
  | .clo f caps :: r, x, i, vs => ∃ v vs', vs = v :: vs' ∧ (∃ us : Array Value, v = .func (.func f) #[] us ∧ us.size = (initL.capsL caps x.1).length ∧ ∀ j, j < us.size → ∀ av, VR w g av ((initL.capsL caps x.1).getD j .dead) (us.getD j undef)) ∧ ParO w g r x.2 (i + 1) vs'

/-- what is handed over, as the callee sees it -/
def Gh.hand (g : Gh) : Gh where
  col b := match g.col b with
    | none => none
    | some (s, q) => if argS ≤ s then some (s - argS, q) else some lentC
  H s q := g.H (argS + s) q
  A s q := g.A (argS + s) q
theorem hand_sh {b : Nat} {l : Bool} (h : shared g.col l b) : shared g.hand.col l b := by
  rcases h with h | ⟨h, h'⟩
  · left; simp [Gh.hand, h]
  · right; refine ⟨h, ?_⟩
    have : ¬ argS ≤ lentC.1 := by decide
    simp only [Gh.hand, h']
    rw [if_neg this]

theorem capsL_free : ∀ (caps : List (Ty × Md)) (x : denL caps) (j : Nat), j < (initL.capsL caps x).length → isFree ((initL.capsL caps x).getD j .dead) = true
  | [], _, j, h => by simp [initL.capsL] at h
  | c :: r, x, 0, _ => rfl
  | c :: r, x, j + 1, h => by simpa [initL.capsL] using capsL_free r x.2 j (by simpa [initL.capsL] using h)

theorem VR_VR0 {av : Nat → AV} {a : AV} {v : Value} (hf : isFree a = true) : VR w g av a v ↔ VR0 w g av a v := by cases a <;> first | exact Iff.rfl | cases hf

theorem ParO_L : ∀ (ps : List PT) (x : denPs ps) (i : Nat) (vs : List Value), ParO w g ps x i vs → ParL w g.hand ps x i vs
  | [], _, _, _, h => h
  | .val t m :: r, x, i, vs, h => by
    obtain ⟨v, vs', rfl, h1, h2⟩ := h
    refine ⟨v, vs', rfl, fun av => ?_, ParO_L r x.2 (i + 1) vs' h2⟩
    rcases h1 with ⟨h3, h4⟩ | h1
    · have h5 : RR w g.hand i t m [] (.val v.cells) 0 x.1 := by
        refine RR_moved (Nat.le_refl _) (fun b l0 _ hb => ⟨rfl, hand_sh hb⟩) t m [] [] _ 0 x.1 h4 (fun b q hb => ⟨rfl, ?_⟩) (fun _ => rfl) (fun _ _ => rfl) (fun _ _ => rfl)
        simp [Gh.hand, hb]
      cases hm : m.hasOwn with
      | true => exact ⟨h3, h5⟩
      | false => exact ⟨hm, h3, RR_free (Nat.le_refl _) (fun b l0 _ hb => ⟨rfl, hb⟩) t m [] [] _ _ 0 0 x.1 h5 hm (fun _ => rfl) (fun _ _ => rfl)⟩
    · have h3 := h1 av
      have hm := h3.1
      rw [hm]
      exact VR_free_mono (av' := av) (Nat.le_refl _) (fun b l0 _ hb => ⟨rfl, hand_sh hb⟩) _ _ rfl h3
  | .ptr t m :: r, x, i, vs, h => by
    obtain ⟨v, vs', rfl, h1, h2⟩ := h
    exact ⟨v, vs', rfl, fun av => VR_free_mono (av' := av) (Nat.le_refl _) (fun b l0 _ hb => ⟨rfl, hand_sh hb⟩) _ _ rfl (h1 av), ParO_L r x.2 (i + 1) vs' h2⟩
  | .clo f caps :: r, x, i, vs, h => by
    obtain ⟨v, vs', rfl, ⟨us, h1, h3, h4⟩, h2⟩ := h
    refine ⟨v, vs', rfl, fun av => ⟨us, h1, h3, fun j hj => ?_⟩, ParO_L r x.2 (i + 1) vs' h2⟩
    have hf := capsL_free caps x.1 j hj
    exact (VR_VR0 hf).1 (VR_free_mono (av' := av) (Nat.le_refl _) (fun b l0 _ hb => ⟨rfl, hand_sh hb⟩) _ _ hf (h4 j (by omega) av))

theorem asRead_free (hI : Inv w0 mu st.get val U w g) {av : AV} (hf : isFree av = true) {t : Ty} {nz : Bool} {k : den t → Option R} {r : R} {v : Value} (h : asRead st av t nz k = some r) (hv : VR w g st.get av v) :
    ∃ x, k x = some r ∧ ∀ av', VR w g av' (.v t (.bor true nz) x) v := by
  unfold asRead at h
  split at h
  · rename_i t' m' x
    split at h
    · rename_i ht; subst ht
      split at h
      · rename_i hl
        exact ⟨x, h, fun av' => ⟨rfl, hv.2.1, RR_weak _ _ _ _ _ _ _ hv.2.2 hl hv.1 rfl⟩⟩
      · cases h
    · cases h
  · split at h
    · obtain rfl : v = .slice none 0 0 := hv
      exact ⟨[], h, fun av' => VR_nil rfl⟩
    · cases h
  · cases hf
  · cases hf
  · cases h
theorem asPtr_free {av : AV} (hf : isFree av = true) {t : Ty} {m : Md} {nz : Bool} (hm : m = .bor true nz) {k : den t → Option R} {r : R} {v : Value} (h : asPtr st av t m k = some r) (hv : VR w g st.get av v) :
    ∃ x, k x = some r ∧ ∀ av', VR w g av' (.rop t m x) v := by
  subst hm
  unfold asPtr at h
  split at h
  · cases hf
  · rename_i t' m' x
    split at h
    · rename_i ht; subst ht
      split at h
      · rename_i hl
        obtain ⟨l, nz', rfl, ad, h1, h2, h3, h4, h5, h6⟩ := hv
        refine ⟨x, h, fun av' => ⟨true, nz, rfl, ad, h1, h2, h3, shared_imp h4 (by cases l <;> rfl), RO_conv (l := l) (l' := true) (by cases l <;> rfl) (Nat.le_refl _) (fun b _ hs => ⟨rfl, shared_imp hs (by cases l <;> rfl)⟩) t' _ _ 0 x h5 (fun _ _ => rfl), fun hz => ?_⟩⟩
        cases t' with
        | sl e =>
          simp only [leM, Bool.and_eq_true] at hl
          refine h6 ?_
          have := hl.1.2
          rw [hz] at this
          simpa [Md.nz?, bimp] using this
        | _ => trivial
      · cases h
    · cases h
  · cases h

theorem capsD_free : ∀ (caps : List (Ty × Md)) (l : List AV) (vs : List Value) {k : denL caps → Option R} {r : R}, capsD st caps l k = some r → l.length = vs.length → (∀ a ∈ l, isFree a = true) → (∀ i, i < l.length → VR w g st.get (l.getD i .dead) (vs.getD i undef)) →
    ∃ x, k x = some r ∧ (initL.capsL caps x).length = vs.length ∧ ∀ i, i < vs.length → ∀ av', VR w g av' ((initL.capsL caps x).getD i .dead) (vs.getD i undef)
  | [], [], vs, k, r, h, hl, _, _ => ⟨(), h, by simpa [initL.capsL] using hl, fun i hi => by simp at hl; rw [← hl] at hi; simp at hi⟩
  | [], _ :: _, _, _, _, h, _, _, _ => by cases h
  | _ :: _, [], _, _, _, h, _, _, _ => by simp [capsD] at h
  | c :: caps, av :: l, [], k, r, h, hl, _, hv => by simp at hl
  | c :: caps, av :: l, v :: vs, k, r, h, hl, hf, hv => by
    simp only [capsD] at h
    split at h
    · rename_i nz hc
      obtain ⟨x, h, hx⟩ := asPtr_free (hf av (by simp)) hc h (hv 0 (by simp))
      obtain ⟨xs, h1, h2, h3⟩ := capsD_free caps l vs h (by simpa using hl) (fun a ha => hf a (List.mem_cons_of_mem _ ha)) (fun i hi => by simpa using hv (i + 1) (by simpa using hi))
      refine ⟨(x, xs), h1, by simp [initL.capsL, h2], fun i hi av' => ?_⟩
      cases i with
      | zero => simpa [initL.capsL] using hx av'
      | succ i => simpa [initL.capsL] using h3 i (by simpa using hi) av'
    · cases h


/-- the arguments of a call that hands something over -/
theorem argsO_sound (hfar : ∀ s, mu.far s ↔ lentC.1 ≤ s) : ∀ (ps : List PT) (l : List AV) (vs : List Value) (i : Nat) (st : St) (g : Gh) {k : denPs ps → St → Option R} {r : R}, argsO ps l st k = some r → Inv w0 mu st.get (Vals a) U w g →
    l.length = vs.length → (∀ i, i < l.length → VR w g st.get (l.getD i .dead) (vs.getD i undef) ∧ stampOK U (l.getD i .dead)) →
    ∃ x st1 g1, k x st1 = some r ∧ st1.c = st.c ∧ Inv w0 mu st1.get (Vals a) U w g1 ∧ Kept w g g1 ∧ ParO w g1 ps x i vs ∧ ps.length = vs.length ∧
      ∀ s, argS ≤ s → s < argS + i → ∀ (t : Ty) (m : Md) (src : Src) (y : den t), RR w g s t m [] src 0 y → RR w g1 s t m [] src 0 y
  | [], [], vs, i, st, g, k, r, h, hI, hl, _ => ⟨(), st, g, h, rfl, hI, Kept.refl, by simpa [ParO] using hl.symm, by simpa using hl, fun _ _ _ _ _ _ _ h => h⟩
  | [], _ :: _, _, _, _, _, _, _, h, _, _, _ => by cases h
  | .val _ _ :: _, [], _, _, _, _, _, _, h, _, _, _ => by cases h
  | .ptr _ _ :: _, [], _, _, _, _, _, _, h, _, _, _ => by cases h
  | .clo _ _ :: _, [], _, _, _, _, _, _, h, _, _, _ => by cases h
  | .val _ _ :: _, _ :: _, [], _, _, _, _, _, _, _, hl, _ => by simp at hl
  | .ptr _ _ :: _, _ :: _, [], _, _, _, _, _, _, _, hl, _ => by simp at hl
  | .clo _ _ :: _, _ :: _, [], _, _, _, _, _, _, _, hl, _ => by simp at hl
  | .val t m :: ps, av :: l, v :: vs, i, st, g, k, r, h, hI, hl, hv => by
    have hv0 := hv 0 (by simp)
    simp only [List.getD_cons_zero] at hv0
    have hargs : lentC.1 < argS := by decide
    have key : ∀ {r : R}, take st av t m (fun x st => argsO ps l st fun xs st => k (x, xs) st) = some r → ∃ x st1 g1, k x st1 = some r ∧ st1.c = st.c ∧ Inv w0 mu st1.get (Vals a) U w g1 ∧ Kept w g g1 ∧ ParO w g1 (.val t m :: ps) x i (v :: vs) ∧ (PT.val t m :: ps).length = (v :: vs).length ∧
      ∀ s, argS ≤ s → s < argS + i → ∀ (t : Ty) (m : Md) (src : Src) (y : den t), RR w g s t m [] src 0 y → RR w g1 s t m [] src 0 y := by
      intro r h
      obtain ⟨x, st1, g1, s0, h1, hL⟩ := take_loose h hI hv0.1 (argS + i) []
      have hfd : mu.far (argS + i) := (hfar _).2 (by omega)
      obtain ⟨hI1, hk1, hkp1⟩ := hL.inv hI hfd
      obtain ⟨xs, st2, g2, h2, hc2, hI2, hkp2, hP, hlen, hkeep⟩ := argsO_sound hfar ps l vs (i + 1) st1 g1 h1 hI1 (by simpa using hl) (fun j hj => by
        have := hv (j + 1) (by simpa using hj)
        simp only [List.getD_cons_succ] at this
        exact ⟨hk1 _ _ this.2 this.1, this.2⟩)
      refine ⟨(x, xs), st2, g2, h2, by rw [hc2, hL.c], hI2, hkp1.trans hkp2, ⟨v, vs, rfl, .inl ⟨hL.shape, hkeep _ (by omega) (by omega) _ _ _ _ hL.rr⟩, hP⟩, by simp [hlen], fun s hs1 hs2 t' m' src y hr => ?_⟩
      exact hkeep s hs1 (by omega) _ _ _ _ (hL.other ((hfar _).2 (by omega)) (by omega) (by omega) hr)
    simp only [argsO] at h
    split at h
    · rename_i nz
      split at h
      · rename_i hf
        obtain ⟨x, h1, hx⟩ := asRead_free hI hf h hv0.1
        obtain ⟨xs, st2, g2, h2, hc2, hI2, hkp2, hP, hlen, hkeep⟩ := argsO_sound hfar ps l vs (i + 1) st g h1 hI (by simpa using hl) (fun j hj => by
          have := hv (j + 1) (by simpa using hj)
          simpa using this)
        refine ⟨(x, xs), st2, g2, h2, hc2, hI2, hkp2, ⟨v, vs, rfl, .inr fun av' => hkp2.free rfl (hx av'), hP⟩, by simp [hlen], fun s hs1 hs2 => hkeep s hs1 (by omega)⟩
      · cases h
    · exact key h
  | .ptr t m :: ps, av :: l, v :: vs, i, st, g, k, r, h, hI, hl, hv => by
    have hv0 := hv 0 (by simp)
    simp only [List.getD_cons_zero] at hv0
    simp only [argsO] at h
    split at h
    · rename_i nz
      split at h
      · rename_i hf
        obtain ⟨x, h1, hx⟩ := asPtr_free hf rfl h hv0.1
        obtain ⟨xs, st2, g2, h2, hc2, hI2, hkp2, hP, hlen, hkeep⟩ := argsO_sound hfar ps l vs (i + 1) st g h1 hI (by simpa using hl) (fun j hj => by
          have := hv (j + 1) (by simpa using hj)
          simpa using this)
        refine ⟨(x, xs), st2, g2, h2, hc2, hI2, hkp2, ⟨v, vs, rfl, fun av' => hkp2.free rfl (hx av'), hP⟩, by simp [hlen], fun s hs1 hs2 => hkeep s hs1 (by omega)⟩
      · cases h
    · cases h
  | .clo f caps :: ps, av :: l, v :: vs, i, st, g, k, r, h, hI, hl, hv => by
    have hv0 := hv 0 (by simp)
    simp only [List.getD_cons_zero] at hv0
    simp only [argsO] at h
    split at h
    · rename_i f' cs
      split at h
      · rename_i hf
        simp only [Bool.and_eq_true, List.all_eq_true] at hf
        have hff := Nat.eq_of_beq_eq_true hf.1
        subst hff
        obtain ⟨us, u1, u2, u3⟩ := hv0.1
        have hne : ∀ a v, VR0 w g st.get a v → VR w g st.get a v := fun a v h => by cases a <;> first | exact h | cases h
        obtain ⟨x, h1, hx1, hx2⟩ := capsD_free caps cs us.toList h (by simpa using u2.symm) hf.2 (fun i hi => by
          have := hne _ _ (u3 i hi)
          simpa [Array.getD_eq_getD_getElem?, List.getD_eq_getElem?_getD] using this)
        obtain ⟨xs, st2, g2, h2, hc2, hI2, hkp2, hP, hlen, hkeep⟩ := argsO_sound hfar ps l vs (i + 1) st g h1 hI (by simpa using hl) (fun j hj => by
          have := hv (j + 1) (by simpa using hj)
          simpa using this)
        refine ⟨(x, xs), st2, g2, h2, hc2, hI2, hkp2, ⟨v, vs, rfl, ⟨us, u1, by rw [hx1]; simp, fun j hj av' => ?_⟩, hP⟩, by simp [hlen], fun s hs1 hs2 => hkeep s hs1 (by omega)⟩
        have := hx2 j (by simpa using hj) av'
        have h5 := hkp2.free (capsL_free caps x j (by rw [hx1]; simpa using hj)) this (av' := av')
        simpa [Array.getD_eq_getD_getElem?, List.getD_eq_getElem?_getD] using h5
      · cases h
    · cases h

def muH (g : Gh) (pin : Nat → Option Value) : Mu := { pin := pin,  h := fun b => ∃ s q, g.col b = some (s, q) ∧ argS ≤ s, L := fun b => g.col b ≠ none ∧ ¬ ∃ s q, g.col b = some (s, q) ∧ argS ≤ s, far := fun s => lentC.1 ≤ s, hfar := Nat.le_refl _ }

/-- a function that may be called -/
def FnOK (P : Program) (f : FuncId) : Prop := ∃ fn b, P.funcs[f]? = some fn ∧ (fn.name == "runtime.NumGoroutine") = false ∧ fn.body = some b
def CtxOK (P : Program) (Φ : Nat → Option Contract) : Prop := ∀ f C, Φ f = some C → FnOK P f ∧ Contract.Holds P f C

theorem exec_call {ρ : Operand → Value} {c : Call} {f : Operand} {fn : Nat} {us : Array Value} (hf : FnOK P fn) (ho : o.op = .call c) (hc : c.callee = .value f) (hv : ρ f = .func (.func fn) #[] us) :
    (execOp ρ o).run P w = .ok (.enter fn (c.args.map ρ ++ us)) w := by
  obtain ⟨F, b, h1, h2, h3⟩ := hf
  have h4 : F.name ≠ "runtime.NumGoroutine" := by simpa using h2
  simp [execOp, ho, resolve, hc, hv, Deferred.ofValue, invoke, callFunc, h1, h4, h3]

/-- what a call leaves; Io: a slot that is handed back -/
theorem call_done (hI : Inv w0 mu st.get (Vals a) U w g) (hfar : ∀ s, mu.far s ↔ lentC.1 ≤ s) (hd : DstOK mu o a) {c0 : Nat} (hU : New U c0) {muC : Mu} (hh : ∀ b, muC b → ∃ s q, g.col b = some (s, q) ∧ argS ≤ s) (hL : ∀ b, g.col b ≠ none → ¬ muC b → muC.L b)
    {rs : List (Ty × Md)} (hrs : ∀ t ∈ rs, noLent t.2 = true) {x : denL rs} {vs : List Value} {w' : World} {g' : Gh} {Io : Option Nat} (hFr : Fr w muC w') (hR : ResR w' g' rs x (ioN Io) vs) (hcols : ∀ b k, g'.col b = some k → b < w'.heap.size ∧ (k = lentC ∨ w.heap.size ≤ b ∨ muC b)) (hlk : ∀ b, muC.L b → g'.col b = some lentC)
    {st2 : St} {t0 : Ty} {m0 : Md} {y0 : den t0} (hst : ∀ u, Io ≠ some u → st2.get u = st.get u)
    (hio : ∀ s, Io = some s → ¬ mu.far s ∧ o.dst ≠ some s ∧ noLent m0 = true ∧ shapeV t0 (Vals a s) ∧ RR w' g' resS t0 m0 [] (.val (Vals a s).cells) 0 y0 ∧ st2.get s = .ow (c0 + 1) t0 m0 y0)
    {next : Act → World → Prop} (hn : NextOK w0 mu o a (Nw U c0) st2 (resAV c0 rs x) next) : next (a.put o.dst (retV vs)) w' := by
  have hne : ∀ s, Io = some s → o.dst ≠ some s := fun s hs => (hio s hs).2.1
  obtain ⟨gN, h1, h2⟩ := merge hI hfar hh hL hFr hcols hlk (F := resF o.dst Io (rs.length == 1)) (fun i j d p p' r r' h h' e => resF_inj hne h h' e) (Y := fun u => o.dst = some u ∨ Io = some u)
    (fun i d p h => by rcases resF_D hne h with ⟨h, _⟩ | ⟨h, _⟩; exact .inr h; exact .inl h) (fun d h => h.elim (fun h => (hd d h).2) (fun h => (hio d h).1)) (c := c0)
  have hlen := ResR_length rs x _ vs hR
  have hslot : ∀ d, o.dst = some d → ∀ av', SlotR w' gN av' d (resAV c0 rs x) (retV vs) ∧ stampOK (Nw U c0) (resAV c0 rs x) ∧ (∀ n, U n → own? (resAV c0 rs x) n = none) ∧ ∀ n p, U n → ownP? (resAV c0 rs x) n p = none := by
    intro d hdst av'
    match rs, x, hR, hlen, hrs, h2 with
    | [(t, m)], x, hR, hlen, hrs, h2 =>
      obtain ⟨v, vs', rfl, h3, h4, h5⟩ := hR
      obtain rfl : vs' = [] := h5
      have h6 := h2 (ioN Io) d [] (by have := resF_at Io d true 0 (fun _ => rfl); rw [hdst]; exact this) t m v x.1 (hrs (t, m) (by simp)) h4
      simp only [resAV, retV]
      cases hm : m.hasOwn with
      | true => exact ⟨⟨h3, h6⟩, Nw_0, fun n hn => own?_new hU hn, fun n p hn => ownP?_new hU hn⟩
      | false => exact ⟨⟨hm, h3, RR_free (Nat.le_refl _) (fun b l0 _ hb => ⟨rfl, hb⟩) t m [] [] _ _ 0 0 x.1 h6 hm (fun _ => rfl) (fun _ _ => rfl)⟩, trivial, fun _ _ => rfl, fun _ _ _ => rfl⟩
    | [], x, hR, hlen, hrs, h2 =>
      obtain rfl : vs = [] := hR
      exact ⟨⟨#[], rfl, rfl, fun i hi => absurd hi (Nat.not_lt_zero i)⟩, trivial, fun _ _ => rfl, fun _ _ _ => rfl⟩
    | t1 :: t2 :: r, x, hR, hlen, hrs, h2 =>
      have hv : retV vs = .tuple vs.toArray := by
        match vs, hlen with
        | v1 :: v2 :: vs, _ => rfl
      rw [hv]
      refine ⟨⟨vs.toArray, rfl, by rw [comps_length]; simpa using hlen, fun i hi => ?_⟩, trivial, fun _ _ => rfl, fun _ _ _ => rfl⟩
      rw [comps_length] at hi
      obtain ⟨t, m, y, h3, h4, h5, h6⟩ := ResR_get (t1 :: t2 :: r) x _ vs hR i hi
      rw [h4]
      have h7 := h2 (ioN Io + i) d [.fld i] (by have := resF_at Io d false i (fun h => by cases h); rw [hdst]; exact this) t m _ y (hrs (t, m) h3) h6
      have hvi : vs.toArray.getD i undef = vs.getD i undef := by simp [Array.getD_eq_getD_getElem?, List.getD_eq_getElem?_getD]
      rw [hvi]
      cases hm : m.hasOwn with
      | true => exact ⟨h5, h7⟩
      | false => exact ⟨hm, h5, RR_free (Nat.le_refl _) (fun b l0 _ hb => ⟨rfl, hb⟩) t m _ [] _ _ 0 0 y h7 hm (fun _ => rfl) (fun _ _ => rfl)⟩
  refine hn _ w' gN ?_ ?_ ?_ put_same
  · refine h1 _ _ (fun u hu => ?_) (fun u hu => ?_) (fun d hY => ?_)
    · have hu1 : o.dst ≠ some u := fun h => hu (.inl h)
      have hu2 : Io ≠ some u := fun h => hu (.inr h)
      rw [← hst u hu2]
      cases hdst : o.dst with
      | none => rfl
      | some d => rw [St.put, get_set, if_neg (fun h => hu1 (by rw [hdst, h]))]
    · exact put_same u fun h => hu (.inl h)
    · by_cases hdst : o.dst = some d
      · have e1 : (st2.put o.dst (resAV c0 rs x)).get d = resAV c0 rs x := by rw [hdst, St.put, get_set, if_pos rfl]
        have e2 : Vals (a.put o.dst (retV vs)) d = retV vs := by rw [hdst, Vals_put (hd d hdst).1, if_pos rfl]
        rw [e1, e2]
        exact hslot d hdst _
      · have hIo : Io = some d := hY.resolve_left hdst
        obtain ⟨_, _, g3, g4, g5, g6⟩ := hio d hIo
        have e1 : (st2.put o.dst (resAV c0 rs x)).get d = .ow (c0 + 1) t0 m0 y0 := by
          rw [← g6]
          cases hdo : o.dst with
          | none => rfl
          | some d' => rw [St.put, get_set, if_neg (fun h => hdst (by rw [hdo, h]))]
        rw [e1, put_same d hdst]
        have hk : ∀ n, U n → Nat.beq n (c0 + 1) = false := fun n hn => by
          cases hb : Nat.beq n (c0 + 1) with
          | true => have := Nat.eq_of_beq_eq_true hb; subst this; exact absurd hn hU.2
          | false => rfl
        exact ⟨⟨g4, h2 0 d [] (by rw [hIo]; rfl) t0 m0 _ y0 g3 g5⟩, Nw_1, fun n hn => by simp only [own?, hk n hn], fun n p hn => by simp only [ownP?, hk n hn]⟩
  · cases hdst : o.dst <;> simp [Act.put]
  · cases hdst : o.dst <;> rfl

theorem whole_some {d : Option Nat} {av : AV} {s : Nat} (h : whole st d av = some s) : ∃ n e nz me x, av = .al s n [] ∧ st.get s = .ow n (.sl e) (.own nz me) x ∧ d ≠ some s := by
  unfold whole at h
  split at h
  · rename_i s' n
    split at h
    · rename_i n' e nz me x hq
      split at h
      · rename_i hb
        simp only [Option.some.injEq] at h
        subst h
        simp only [Bool.and_eq_true, Bool.not_eq_true'] at hb
        have := Nat.eq_of_beq_eq_true hb.1
        subst this
        refine ⟨n, e, nz, me, x, rfl, hq, fun hd => ?_⟩
        rw [hd] at hb
        simp [Nat.beq_refl] at hb
      · cases h
    · cases h
  · cases h

/-- the slot holds just what the alias says -/
theorem whole_val (hI : Inv w0 mu st.get (Vals a) U w g) {s n : Nat} {e : Ty} {nz : Bool} {me : Md} {x : List (den e)} (hq : st.get s = .ow n (.sl e) (.own nz me) x) {v : Value} (hv : VR w g st.get (.al s n []) v) : Vals a s = v ∧ ¬ mu.far s := by
  have h0 := hI.slots s
  rw [hq] at h0
  obtain ⟨h1, h2⟩ := h0
  obtain ⟨h3, _⟩ := hv ⟨false, .sl e, .own nz me, x⟩ (by rw [hq]; simp [own?, Nat.beq_refl])
  simp only [RR, Md.isOwn] at h2
  obtain ⟨ad, cap, h4, _⟩ := h2
  have h5 : (Vals a s).cells = #[Vals a s] := h1
  rw [h5] at h4
  refine ⟨?_, fun hf => ?_⟩
  · rw [h3]; simpa [rdS] using h4
  · have := hI.far s hf
    rw [hq] at this; cases this

theorem resD_some {st : St} {rs : List (Ty × Md)} {x : denL rs} {k : AV → St → Option R} {r : R} (h : resD st rs x k = some r) : k (resAV st.c rs x) st = some r := by
  match rs, x, h with
  | [], x, h => exact h
  | [(t, m)], x, h =>
    have h' : made st t m x.1 k = some r := h
    unfold made at h'
    simp only [resAV]
    split at h'
    · rename_i hm; rw [hm]; exact h'
    · rename_i hm; rw [hm]; exact h'
  | t1 :: t2 :: r, x, h => exact h

theorem init_hand {g1 : Gh} {val : Nat → Value} {st1 : St} (hI1 : Inv w0 mu st1.get val U w g1) {ps : List PT} {x : denPs ps} {vs : List Value} (hP : ParO w g1 ps x 0 vs) (hps : ps.length ≤ 1000) {pin : Nat → Option Value} :
    Inv w (muH g1 pin) (look (initL ps 0 x)) (fun i => vs.toArray.getD i undef) (· < fresh) w g1.hand :=
  init_inv (mu' := muH g1 pin) (w := w) (fun s => Iff.rfl) (ParO_L _ _ _ _ hP) hps (fun b k hb => by
    simp only [Gh.hand] at hb
    cases hgc : g1.col b with
    | none => rw [hgc] at hb; cases hb
    | some k' =>
      obtain ⟨s, q⟩ := k'
      rw [hgc] at hb
      simp only at hb
      refine ⟨(hI1.cols b _ hgc).1, ?_⟩
      split at hb
      · rename_i hs; exact .inr ⟨s, q, hgc, hs⟩
      · cases hb; exact .inl rfl) (fun b hb => by
    obtain ⟨hb1, hb2⟩ := hb
    simp only [Gh.hand]
    cases hgc : g1.col b with
    | none => exact absurd hgc hb1
    | some k' =>
      obtain ⟨s, q⟩ := k'
      have : ¬ argS ≤ s := fun h => hb2 ⟨s, q, hgc, h⟩
      simp only [this, if_false])

theorem step_callf (hΦ : CtxOK P Φ) (hfar : ∀ s, mu.far s ↔ lentC.1 ≤ s) (hU : New U st.c) (hI : Inv w0 mu st.get (Vals a) U w g) (hd : DstOK mu o a) {c : Call} {fo : Operand} (ho : o.op = .call c) (hc : c.callee = .value fo) (h : step T Φ o st K = some r) : StepOK P w0 mu (Nw U st.c) o a w K r := by
  unfold step at h; rw [ho] at h; simp only [hc] at h
  obtain ⟨af, h1, hvf, hsf, how⟩ := opd_sound hI h
  clear h how
  split at h1
  · rename_i f caps
    split at h1
    · rename_i C hC
      obtain ⟨hF, hCH⟩ := hΦ f C hC
      obtain ⟨l, h2, hl, hlv⟩ := opds_sound hI c.args.toList h1
      clear h1
      obtain ⟨us, u1, u2, u3⟩ := hvf
      have hexec := exec_call (ρ := a.eval) (w := w) hF ho hc u1
      have hne : ∀ a v, VR0 w g st.get a v → VR w g st.get a v := fun a v h => by cases a <;> first | exact h | cases h
      have hlen : (l ++ caps).length = (c.args.map a.eval ++ us).toList.length := by simp [hl, u2]
      have hall : ∀ i, i < (l ++ caps).length → VR w g st.get ((l ++ caps).getD i .dead) ((c.args.map a.eval ++ us).toList.getD i undef) ∧ stampOK U ((l ++ caps).getD i .dead) := by
        intro i hi
        rw [getD_app, show (c.args.map a.eval ++ us).toList = c.args.toList.map a.eval ++ us.toList by simp, getD_app]
        by_cases h : i < l.length
        · have hi' : i < c.args.toList.length := by omega
          obtain ⟨h3, h4, _⟩ := hlv i hi' (c.args.toList[i]) (by simp [hi'])
          rw [if_pos h, if_pos (by simpa using hi')]
          have : (c.args.toList.map a.eval).getD i undef = a.eval (c.args.toList[i]) := by
            rw [List.getD_eq_getElem?_getD, List.getElem?_map, List.getElem?_eq_getElem hi']; rfl
          rw [this]
          exact ⟨h3, h4⟩
        · rw [if_neg h, if_neg (by simpa [hl] using h)]
          have hi2 : i - l.length < caps.length := by rw [List.length_append] at hi; omega
          have h5 := hne _ _ (u3 _ hi2)
          have hmem : caps.getD (i - l.length) .dead ∈ caps := by
            rw [List.getD_eq_getElem?_getD, List.getElem?_eq_getElem hi2]; exact List.getElem_mem hi2
          have h6 : stampOK0 U (caps.getD (i - l.length) .dead) := hsf _ hmem
          refine ⟨?_, ?_⟩
          · rw [show (c.args.toList.map a.eval).length = l.length by simp [hl]]
            simpa [Array.getD_eq_getD_getElem?, List.getD_eq_getElem?_getD] using h5
          · cases hcap : caps.getD (i - l.length) .dead <;> rw [hcap] at h6 h5 <;> first | exact h6 | exact (u3 _ hi2 |> fun h => by rw [hcap] at h; cases h)
      -- the continuation
      have hK : ∀ {av : AV} {st' : St}, (match C.outs with | [] => K | _ => ownK o K) av st' = some r → K av st' = some r := by
        intro av st' h
        cases hrs : C.outs with
        | nil => rw [hrs] at h; exact h
        | cons t r => rw [hrs] at h; obtain ⟨_, _, h⟩ := ownK_some h; exact h
      obtain ⟨ps, rs, fn, io⟩ := C
      unfold callD at h2
      obtain ⟨hg, h3⟩ := guardB_some h2
      clear h2
      simp only [Bool.and_eq_true, List.all_eq_true] at hg
      have hps := Nat.le_of_ble_eq_true hg.1
      split at h3
      · rename_i hio
        simp only at hio h3 hps
        subst hio
        split at h3
        · -- nothing is handed over
          obtain ⟨x, h4, hP, hpl⟩ := argsL_sound hI ps (l ++ caps) (c.args.map a.eval ++ us).toList 0 h3 hlen (fun i hi => (hall i hi).1)
          rw [Option.bind_eq_some_iff] at h4
          obtain ⟨y, hy, h5⟩ := h4
          have h6 := hK (resD_some h5)
          refine ⟨_, _, h6, fun next Q hn => ?_⟩
          have hinit := init_inv (mu' := muL g) (w := w) (fun s => Iff.rfl) hP hps (fun b k hb => by
            simp only [Gh.lend] at hb
            cases hgc : g.col b with
            | none => rw [hgc] at hb; cases hb
            | some k' => rw [hgc] at hb; cases hb; exact ⟨(hI.cols b _ hgc).1, .inl rfl⟩) (fun b hb => by
            simp only [Gh.lend]
            cases hgc : g.col b with
            | none => exact absurd hgc hb
            | some k' => rfl)
          have hcalls := hCH x y hy (c.args.map a.eval ++ us) w (muL g) g.lend (by simpa using hpl.symm) (fun s => Iff.rfl) (fun _ h => absurd rfl h) (fun _ h => by cases h) (by rw [Array.toArray_toList] at hinit; exact hinit)
          unfold Oper.wp
          rw [hexec, Oper.upon_enter]
          refine Calls.mono hcalls ?_
          rintro e w' ⟨vs, g', rfl, hFr, hR, _, hcols, hlk⟩
          exact call_done hI hfar hd hU (Io := none) (t0 := .unit) (m0 := .bor false false) (y0 := ()) (muC := muL g) (fun b hb => hb.elim) (fun b hb _ => hb) (fun t ht => hg.2 t ht) hFr hR hcols hlk (fun _ _ => rfl) (fun _ h => by cases h) hn
        · obtain ⟨x, st1, g1, h4, hc1, hI1, _, hP, hpl, _⟩ := argsO_sound hfar ps (l ++ caps) (c.args.map a.eval ++ us).toList 0 st g h3 hI hlen hall
          rw [Option.bind_eq_some_iff] at h4
          obtain ⟨y, hy, h5⟩ := h4
          have h6 := hK (resD_some h5)
          rw [hc1] at h6
          refine ⟨_, _, h6, fun next Q hn => ?_⟩
          have hinit := init_hand hI1 hP hps (pin := fun _ => none)
          have hcalls := hCH x y hy (c.args.map a.eval ++ us) w (muH g1 fun _ => none) g1.hand (by simpa using hpl.symm) (fun s => Iff.rfl) (fun _ h => absurd rfl h) (fun _ h => by cases h) (by rw [Array.toArray_toList] at hinit; exact hinit)
          unfold Oper.wp
          rw [hexec, Oper.upon_enter]
          refine Calls.mono hcalls ?_
          rintro e w' ⟨vs, g', rfl, hFr, hR, _, hcols, hlk⟩
          exact call_done hI1 hfar hd hU (Io := none) (t0 := .unit) (m0 := .bor false false) (y0 := ()) (muC := muH g1 fun _ => none) (fun b hb => hb) (fun b hb hm => ⟨hb, hm⟩) (fun t ht => hg.2 t ht) hFr hR hcols hlk (fun _ _ => rfl) (fun _ h => by cases h) hn
      · -- a slot is handed over and back
        rename_i p hio
        simp only at hio h3 hps
        subst hio
        split at h3
        · rename_i s hw
          obtain ⟨n, e0, nz, me, x0, hav, hq, hds⟩ := whole_some hw
          have hpl : p < (l ++ caps).length := by
            rcases Nat.lt_or_ge p (l ++ caps).length with h | h
            · exact h
            · rw [List.getD_eq_getElem?_getD, List.getElem?_eq_none h] at hav; cases hav
          have hvp := (hall p hpl).1
          rw [hav] at hvp
          obtain ⟨hval, hfs⟩ := whole_val hI hq hvp
          obtain ⟨x, st1, g1, h4, hc1, hI1, _, hP, hpl', _⟩ := argsO_sound hfar ps (l ++ caps) (c.args.map a.eval ++ us).toList 0 st g h3 hI hlen hall
          rw [Option.bind_eq_some_iff] at h4
          obtain ⟨y, hy, h5⟩ := h4
          cases rs with
          | nil => cases h5
          | cons tm rs0 =>
            obtain ⟨t0, m0⟩ := tm
            obtain ⟨y0, x1⟩ := y
            have h6 := hK (resD_some (show resD (st1.set s (.ow (st1.c + 1) t0 m0 y0)) rs0 x1 _ = some r from h5))
            rw [c_set, hc1] at h6
            refine ⟨_, _, h6, fun next Q hn => ?_⟩
            have hpv : (c.args.map a.eval ++ us).getD p undef = (c.args.map a.eval ++ us).toList.getD p undef := by
              simp only [Array.getD_eq_getD_getElem?, List.getD_eq_getElem?_getD, Array.getElem?_toList]
            have hinit := init_hand hI1 hP hps (pin := fun u => if u = p then some ((c.args.map a.eval ++ us).getD p undef) else none)
            have hcalls := hCH x (y0, x1) hy (c.args.map a.eval ++ us) w (muH g1 fun u => if u = p then some ((c.args.map a.eval ++ us).getD p undef) else none) g1.hand (by simpa using hpl'.symm) (fun s => Iff.rfl)
              (fun u h => by
                by_cases hu : u = p
                · rw [hu]
                · exact absurd (if_neg hu) h)
              (fun u h => by cases h; exact if_pos rfl) (by rw [Array.toArray_toList] at hinit; exact hinit)
            unfold Oper.wp
            rw [hexec, Oper.upon_enter]
            refine Calls.mono hcalls ?_
            rintro e w' ⟨vs, g', rfl, hFr, hR, hvs, hcols, hlk⟩
            obtain ⟨vs', rfl⟩ := hvs p rfl
            obtain ⟨v, vs2, hcons, hsh, hrr, hR'⟩ := hR
            obtain ⟨rfl, rfl⟩ : _ = v ∧ vs' = vs2 := by simpa using hcons
            have hva : Vals a s = (c.args.map a.eval ++ us).getD p undef := by rw [hval, hpv]
            exact call_done hI1 hfar hd hU (Io := some s) (t0 := t0) (m0 := m0) (y0 := y0) (muC := muH g1 _) (fun b hb => hb) (fun b hb hm => ⟨hb, hm⟩) (fun t ht => hg.2 t (List.mem_cons_of_mem _ ht)) hFr hR' hcols hlk
              (fun u hu => by rw [get_set, if_neg (fun h => hu (by rw [h]))]) (fun s' hs' => by
                cases hs'
                exact ⟨hfs, hds, hg.2 (t0, m0) (by simp), by rw [hva, Array.getD_eq_getD_getElem?]; exact hsh, by rw [hva, Array.getD_eq_getD_getElem?]; exact hrr, by rw [get_set, if_pos rfl]⟩) hn
        · cases h3
    · cases h1
  · cases h1
end
end Go.Ab
