/- Structs that own their fields. -/
import Derived.Test.YtmndifhjmbiodaaAbCall
namespace Go.Ab

section
variable {P : Program} {T : Tab} {Φ : Nat → Option Contract} {w0 w : World} {mu : Mu} {st : St} {a : Act} {g : Gh} {R : Type} {o : Oper} {K : AV → St → Option R} {r : R} {val : Nat → Value} {U : Nat → Prop}

theorem step_nilCheck (hI : Inv w0 mu st.get (Vals a) U w g) (hd : DstOK mu o a) {x : Operand} (ho : o.op = .nilCheck x) (h : step T Φ o st K = some r) : StepS P U o a w g st K r := by
  unfold step at h; rw [ho] at h; simp only at h
  obtain ⟨av, h, hv, hst, how⟩ := opd_sound hI h
  have key : ∀ ad : Option Addr, (ad.isSome = true) → a.eval x = .pointer ad → (execOp a.eval o).run P w = .ok (.value (a.eval x)) w := by
    intro ad h1 h2
    cases ad with
    | none => cases h1
    | some ad => simp [execOp, ho, h2]
  split at h
  · rename_i s n p
    split at h
    · rename_i o' ho'
      exact ⟨_, _, h, key _ rfl (hv o' ho').1, hv, hst, rfl⟩
    · cases h
  · rename_i t m x0
    have hv' := hv
    obtain ⟨l, nz, _, ad, h1, _⟩ := hv'
    exact ⟨_, _, h, key (some ad) rfl h1, hv, trivial, rfl⟩
  · cases h

/-- what the parts of a struct leave behind -/
def PartsR (w0 : World) (mu : Mu) (a : Act) (U : Nat → Prop) (w : World) (g : Gh) {R : Type} (M : Md) (c : Nat) (t : Ty) (i : Nat) (ps : List (Nat × Operand)) (k : den t → St → Option R) (r : R) : Prop :=
    ∃ x st1 g1, k x st1 = some r ∧ st1.c = c ∧ Inv w0 mu st1.get (Vals a) U w g1 ∧ Kept w g g1 ∧ (∀ p ∈ ps, (a.eval p.2).cells = #[a.eval p.2]) ∧
      (ps.Pairwise (fun p q => p.1 < q.1) ∧ ∀ p ∈ ps, i ≤ p.1 ∧ p.1 < i + sz t) ∧
      (∀ s, argS ≤ s → s < argS + i → ∀ (t : Ty) (m : Md) (src : Src) (y : den t), RR w g s t m [] src 0 y → RR w g1 s t m [] src 0 y) ∧
      ∀ (g2 : Gh) (d : Nat) (cs : Array Value), (∀ j (t' : Ty) (m' : Md) (src : Src) (y : den t'), i ≤ j → RR w g1 (argS + j) t' m' [] src 0 y → (∃ x, pv a.eval ps j = some x) → RR w g2 d t' m' [.fld j] src 0 y) → (∀ j, i ≤ j → pv a.eval ps j = none → g2.H d [.fld j] = .slice none 0 0) →
        (∀ j, j < sz t → cs[i + j]? = (pv a.eval ps (i + j)).or (zeros t)[j]?) → RR w g2 d t M [] (.val cs) i x

/-- the parts of a struct, each taken -/
theorem partsO_sound (hfar : ∀ s, mu.far s ↔ lentC.1 ≤ s) {M : Md} : ∀ (t : Ty) (fld : Nat → Option TypeId) (i : Nat) (ps : List (Nat × Operand)) (st : St) (g : Gh) (k : den t → St → Option R) (r : R), (TM2 P t).2 fld i → partsO M t i ps st k = some r →
    Inv w0 mu st.get (Vals a) U w g →
    PartsR w0 mu a U w g M st.c t i ps k r := by
  intro t
  induction t with
  | unit =>
    intro fld i ps st g k r _ h hI
    cases ps with
    | nil => exact ⟨(), st, g, h, rfl, hI, Kept.refl, (fun p hp => by cases hp), ⟨List.Pairwise.nil, fun p hp => by cases hp⟩, fun _ _ _ _ _ _ _ h => h, fun _ _ _ _ _ _ => trivial⟩
    | cons p ps => cases h
  | pair ta tb _ ihb =>
    intro fld i ps st g k r hT h hI
    obtain ⟨hc, hcb, tt, hf1, hf2, hf3⟩ := hT
    have hsp : sz (.pair ta tb) = 1 + sz tb := rfl
    obtain ⟨c, hz⟩ := zeros_cell hc
    have hres : lentC.1 < argS := by decide
    -- a field that is not told
    have hskip : noMp ta = true → partsO M tb (i + 1) ps st (fun ys st => k (dflt ta, ys) st) = some r → PartsR w0 mu a U w g M st.c (.pair ta tb) i ps k r := fun hn h => by
      obtain ⟨ys, st1, g1, h1, h2, h3, h4, h5, h6, h7, h8⟩ := ihb fld (i + 1) ps st g _ r hf3 h hI
      refine ⟨(dflt ta, ys), st1, g1, h1, h2, h3, h4, h5, ⟨h6.1, fun p hp => by have := h6.2 p hp; omega⟩, fun s hs1 hs2 => h7 s hs1 (by omega), fun g2 d cs hg hz2 hcs => ?_⟩
      simp only [RR]
      refine ⟨hc, hcb, (fun _ _ h => by cases h), ?_, h8 g2 d cs (fun j t' m' src y hj hr hx => hg j t' m' src y (by omega) hr hx) (fun j hj hp => hz2 j (by omega) hp) (fun j hj => ?_)⟩
      · have hp : pv a.eval ps i = none := pv_none (i := i + 1) (fun p hp => (h6.2 p hp).1) (by omega)
        have h9 := hcs 0 (by omega)
        rw [Nat.add_zero, hp] at h9
        simp only [zeros, hz, Option.none_or, List.cons_append, List.getElem?_cons_zero] at h9
        exact RR_zero_cell' hf2 hc hn hz h9 (hz2 i (Nat.le_refl _) hp)
      · have := hcs (j + 1) (by omega)
        rw [show i + 1 + j = i + (j + 1) by omega, this]
        simp [zeros, hz]
    cases ps with
    | nil =>
      simp only [partsO] at h
      obtain ⟨hn, h⟩ := guardK_some h
      exact hskip hn h
    | cons p ps =>
      obtain ⟨j, x⟩ := p
      simp only [partsO] at h
      split at h
      · rename_i hij
        have := Nat.eq_of_beq_eq_true hij
        subst this
        obtain ⟨av, h, hv, _, _⟩ := opd_sound hI h
        obtain ⟨y, st1, g1, s0, h1, hL⟩ := take_loose h hI hv (argS + i) []
        have hfd : mu.far (argS + i) := (hfar _).2 (by omega)
        obtain ⟨hI1, _, hkp1⟩ := hL.inv hI hfd
        obtain ⟨ys, st2, g2, g3, g4, g5, g6, g7, g8, g9, g10⟩ := ihb fld (i + 1) ps st1 g1 _ r hf3 h1 hI1
        have hcell := shape_cell hc hL.shape
        refine ⟨(y, ys), st2, g2, g3, by rw [g4, hL.c], g5, hkp1.trans g6, fun p hp => ?_, ⟨?_, fun p hp => ?_⟩, fun s hs1 hs2 t' m' src z hr => ?_, fun gg d cs hg hz2 hcs => ?_⟩
        · rcases List.mem_cons.1 hp with rfl | hp
          · exact hcell
          · exact g7 p hp
        · exact List.pairwise_cons.2 ⟨fun p hp => by have := (g8.2 p hp).1; simp only; omega, g8.1⟩
        · rcases List.mem_cons.1 hp with rfl | hp
          · simp only; omega
          · have := g8.2 p hp; omega
        · exact g9 s hs1 (by omega) _ _ _ _ (hL.other ((hfar _).2 (by omega)) (by omega) (by omega) hr)
        · have hne : ∀ j, i + 1 ≤ j → pv a.eval ((i, x) :: ps) j = pv a.eval ps j := fun j hj => by simp only [pv]; rw [if_neg (by omega)]
          simp only [RR]
          refine ⟨hc, hcb, (fun _ _ h => by cases h), ?_, g10 gg d cs (fun j t' m' src y hj hr hx => hg j t' m' src y (by omega) hr (by rw [hne j hj]; exact hx)) (fun j hj hp => hz2 j (by omega) (by rw [hne j hj]; exact hp)) (fun j hj => ?_)⟩
          · have h11 := g9 (argS + i) (by omega) (by omega) _ _ _ _ hL.rr
            have h12 := hg i ta _ _ y (Nat.le_refl _) h11 ⟨a.eval x, by simp [pv]⟩
            refine RR_src_cell hc h12 ?_
            have h13 := hcs 0 (by omega)
            simp only [Nat.add_zero, pv, if_true, Option.some_or] at h13
            simp only [rdS]
            rw [h13, hcell]; rfl
          · have := hcs (j + 1) (by omega)
            rw [show i + 1 + j = i + (j + 1) by omega, this, hne _ (by omega)]
            simp [zeros, hz]
      · obtain ⟨hn, h⟩ := guardK_some h
        exact hskip hn h
  | _ => intro fld i ps st g k r hT; exact hT.elim

open Classical in
/-- what lies ready in far slots is slot d's, field by field -/
noncomputable def Gh.gather (g : Gh) (d : Nat) (told : Nat → Prop) : Gh where
  col b := match g.col b with
    | some (s, q) => if argS ≤ s then some (d, .fld (s - argS) :: q) else some (s, q)
    | none => none
  H s q := if s = d then (match q with | .fld j :: q => if told j then g.H (argS + j) q else .slice none 0 0 | q => g.H d q) else g.H s q
  A s q := if s = d then (match q with | .fld j :: q => g.A (argS + j) q | q => g.A d q) else g.A s q

theorem step_buildO (hT : TabOK P T) (hfar : ∀ s, mu.far s ↔ lentC.1 ≤ s) (hU : New U st.c) (hI : Inv w0 mu st.get (Vals a) U w g) (hd : DstOK mu o a) {t : TypeId} {ps : Array (Nat × Operand)} (ho : o.op = .build t ps) (hmd : (T.md t).hasOwn = true) (h : step T Φ o st K = some r) : StepOK P w0 mu (Nw U st.c) o a w K r := by
  unfold step at h; rw [ho] at h; simp only at h
  split at h
  · rename_i ty ht
    rw [hmd] at h
    simp only at h
    have hTM := ((hT _).1 _ ht).1
    obtain ⟨i, z, hi, hz, hsz, _, hzc, hzs⟩ := TM_zero hTM
    have hres : lentC.1 < argS := by decide
    cases ty with
    | pair ta tb =>
      obtain ⟨fld, _, _, hF, hc, hcb, ⟨ta1, hf1, hf2, hf3⟩, _⟩ := hTM
      obtain ⟨x, st1, g1, hK, hc1, hI1, hk1, hcells, ⟨hpw, hlt⟩, _, hrr⟩ := partsO_sound (P := P) hfar (.pair ta tb) fld 0 ps.toList st g _ r ⟨hc, hcb, ta1, hf1, hf2, hf3⟩ h hI
      obtain ⟨cs, h1, h2, h3⟩ := build_cells (w := w) (ρ := a.eval) hi hz hzc (shape_size hzs) hF hc hcb hf1 hf2 hf3 (fun p hp => by have := (hlt p hp).2; omega) hpw hcells
      obtain ⟨d, hdst, hK⟩ := ownK_some hK
      obtain ⟨d1, d2⟩ := hd d hdst
      have hdl : ¬ lentC.1 ≤ d := fun h => d2 ((hfar d).2 h)
      let G := g1.gather d fun j => ∃ x, pv a.eval ps.toList j = some x
      have hcolN : ∀ b, g1.col b = none → G.col b = none := fun b hb => by simp only [G, Gh.gather, hb]
      have hcolO : ∀ b s q, g1.col b = some (s, q) → ¬ argS ≤ s → G.col b = some (s, q) := fun b s q hb hs => by simp only [G, Gh.gather, hb, if_neg hs]
      have hcolF : ∀ b j q, g1.col b = some (argS + j, q) → G.col b = some (d, .fld j :: q) := fun b j q hb => by
        simp only [G, Gh.gather, hb, if_pos (Nat.le_add_right _ _), Nat.add_sub_cancel_left]
      have hsh : ∀ b l0, b < w.heap.size → shared g1.col l0 b → w.heap[b]? = w.heap[b]? ∧ shared G.col l0 b := fun b l0 _ hs => ⟨rfl, by
        rcases hs with hs | ⟨hs, hs'⟩
        · exact .inl (hcolN b hs)
        · exact .inr ⟨hs, hcolO b _ _ hs' (by decide)⟩⟩
      have hR : RR w G d (.pair ta tb) (T.md t) [] (.val cs) 0 x := by
        refine hrr G d cs (fun j t' m' src y _ hr hx => ?_) (fun j _ hp => ?_) (fun j hj => by rw [Nat.zero_add]; exact h3 j hj)
        · refine RR_moved (Nat.le_refl _) hsh t' m' [] [.fld j] src 0 y hr (fun b q hb => ⟨rfl, by simpa using hcolF b j q (by simpa using hb)⟩) (fun q => ?_) (fun q _ => ?_) (fun _ _ => rfl)
          · simp only [G, Gh.gather, if_true, List.cons_append, List.nil_append]
            rw [if_pos hx]
          · simp only [G, Gh.gather, if_true, List.cons_append, List.nil_append]
        · simp only [G, Gh.gather, if_true]
          rw [if_neg (by rw [hp]; simp)]
      refine ⟨_, _, hK, fun next Q hn => M_done hdst d1 (v := .agg cs) (exec_v (by simp only [execOp, ho] <;> rfl) h1) (g' := G) ?_ hn⟩
      rw [hc1]
      have hfard : ∀ s, mu.far s → s ≠ d := fun s hs h => d2 (h ▸ hs)
      refine Inv_upd hI1 (fun u => u = d ∨ lentC.1 ≤ u) (fun _ => Nw_old) (Nat.le_refl _) hsh ?_ ?_ ?_ ?_ ?_ hI1.fr ?_ ?_ (.inl fun u hu n hn => ?_)
      · intro u hu
        have hu1 : u ≠ d := fun h => hu (.inl h)
        have hu2 : ¬ lentC.1 ≤ u := fun h => hu (.inr h)
        exact ⟨by simp only [hu1, if_false], by simp only [hu1, if_false], fun b q hb => ⟨rfl, by rw [hcolO b u q hb (by omega), hb]⟩, fun q => by simp only [G, Gh.gather, hu1, if_false], fun q => by simp only [G, Gh.gather, hu1, if_false]⟩
      · intro u hu n hn o' ho'
        by_cases h : u = d
        · subst h; simp only [if_true] at ho'; rw [own?_new hU hn] at ho'; cases ho'
        · simp only [h, if_false] at ho'
          rw [hI1.far u ((hfar u).2 (hu.resolve_left h))] at ho'; cases ho'
      · intro u hu n p hn o' ho'
        by_cases h : u = d
        · subst h; simp only [if_true] at ho'; rw [ownP?_new hU hn] at ho'; cases ho'
        · simp only [h, if_false] at ho'
          rw [hI1.far u ((hfar u).2 (hu.resolve_left h))] at ho'; cases ho'
      · intro u hu
        by_cases h : u = d
        · subst h
          simp only [if_true]
          exact ⟨⟨⟨cs, rfl, h2⟩, hR⟩, Nw_0⟩
        · simp only [h, if_false]
          rw [hI1.far u ((hfar u).2 (hu.resolve_left h))]
          exact ⟨trivial, trivial⟩
      · intro b k hk
        cases hgc : g1.col b with
        | none => rw [hcolN b hgc] at hk; cases hk
        | some k0 =>
          obtain ⟨s, q⟩ := k0
          obtain ⟨h5, h6⟩ := hI1.cols b _ hgc
          refine ⟨h5, ?_⟩
          by_cases hs : argS ≤ s
          · refine .inr (h6.resolve_left fun h => ?_)
            have := congrArg Prod.fst h
            simp only at this
            omega
          · rw [hcolO b s q hgc hs] at hk
            cases hk; exact h6
      · intro s hs
        rw [if_neg (hfard s hs)]; exact hI1.far s hs
      · intro b hb
        exact hcolO b _ _ hb (by decide)
      · by_cases h : u = d
        · subst h; simp only [if_true]; exact own?_new hU hn
        · simp only [h, if_false]
          rw [hI1.far u ((hfar u).2 (hu.resolve_left h))]; rfl
    | unit => exact hTM.elim
    | _ => cases hps : ps.toList <;> simp [hps, partsO] at h
  · cases h
end
end Go.Ab
