/- Structs that own their fields. -/
import Derived.Test.YtokjogplnoeicaaAbCall
import Derived.Maps.RangeRun
namespace Go.Ab

section
variable {P : Program} {T : Tab} {Φ : Nat → Option Contract} {w0 w : World} {mu : Mu} {st : St} {a : Act} {g : Gh} {R : Type} {o : Oper} {K : AV → St → Option R} {r : R} {val : Nat → Value} {U : Nat → Prop}

theorem step_nilCheck (hI : Inv w0 mu st.get (Vals a) U w g) (hd : DstOK mu o a) {x : Operand} (ho : o.op = .nilCheck x) (h : step T Φ o st K = some r) : StepS P U o a w g st K r := by
 unfold step at h; rw [ho] at h; simp only at h
 obtain ⟨av, h, hv, hst, how⟩ := opd_sound hI h
 have key : ∀ ad : Option Addr, (ad.isSome = true) → a.eval x = .pointer ad → (execOp a.eval o).run P w = .ok (.value (a.eval x)) w := by
  intro ad h1 h2
  cases ad with
  | none => cases h1
  | some ad => simp [execOp, ho, h2]
 split at h
 ·rename_i s n p
  split at h
  ·rename_i o' ho'
   exact ⟨_, _, h, key _ rfl (hv o' ho').1, hv, hst, rfl⟩
  ·cases h
 ·rename_i t m x0
  have hv' := hv
  obtain ⟨l, nz, _, ad, h1, _⟩ := hv'
  exact ⟨_, _, h, key (some ad) rfl h1, hv, trivial, rfl⟩
 ·cases h

/-- what the parts of a struct leave behind -/
def PartsR (w0 : World) (mu : Mu) (a : Act) (U : Nat → Prop) (w : World) (g : Gh) {R : Type} (M : Md) (c : Nat) (t : Ty) (i : Nat) (ps : List (Nat × Operand)) (k : den t → St → Option R) (r : R) : Prop :=
  ∃ x st1 g1, k x st1 = some r ∧ st1.c = c ∧ Inv w0 mu st1.get (Vals a) U w g1 ∧ Kept w g g1 ∧ (∀ p ∈ ps, (a.eval p.2).cells = #[a.eval p.2]) ∧
   (ps.Pairwise (fun p q => p.1 < q.1) ∧ ∀ p ∈ ps, i ≤ p.1 ∧ p.1 < i + sz t) ∧
   (∀ s, argS ≤ s → s < argS + i → ∀ (t : Ty) (m : Md) (src : Src) (y : den t), RR w g s t m [] src 0 y → RR w g1 s t m [] src 0 y) ∧
   ∀ (g2 : Gh) (d : Nat) (cs : Array Value), (∀ j (t' : Ty) (m' : Md) (src : Src) (y : den t'), i ≤ j → RR w g1 (argS + j) t' m' [] src 0 y → (∃ x, pv a.eval ps j = some x) → RR w g2 d t' m' [.fld j] src 0 y) → (∀ j, i ≤ j → pv a.eval ps j = none → g2.H d [.fld j] = .slice none 0 0) →
    (∀ j, j < sz t → cs[i + j]? = (pv a.eval ps (i + j)).or (zeros t)[j]?) → RR w g2 d t M [] (.val cs) i x

/-- the parts of a struct, each taken -/
theorem partsO_sound (hfar : ∀ s, mu.far s ↔ lentC.1 ≤ s) {M : Md} : ∀ (t : Ty) (fld : Nat → Option TypeId) (i : Nat) (ps : List (Nat × Operand)) (st : St) (g : Gh) (k : den t → St → Option R) (r : R), (TM2 P t).2 fld i → partsO M t i ps st k = some r →
  Inv w0 mu st.get (Vals a) U w g →
  PartsR w0 mu a U w g M st.c t i ps k r := by
 intro t
 induction t with
 | unit =>
  intro fld i ps st g k r _ h hI
  cases ps with
  | nil => exact ⟨(), st, g, h, rfl, hI, Kept.refl, (fun p hp => by cases hp), ⟨List.Pairwise.nil, fun p hp => by cases hp⟩, fun _ _ _ _ _ _ _ h => h, fun _ _ _ _ _ _ => trivial⟩
  | cons p ps => cases h
 | pair ta tb _ ihb =>
  intro fld i ps st g k r hT h hI
  obtain ⟨hc, hcb, tt, hf1, hf2, hf3⟩ := hT
  have hsp : sz (.pair ta tb) = 1 + sz tb := rfl
  obtain ⟨c, hz⟩ := zeros_cell hc
  have hres : lentC.1 < argS := by decide
  -- a field that is not told
  have hskip : noMp ta = true → partsO M tb (i + 1) ps st (fun ys st => k (dflt ta, ys) st) = some r → PartsR w0 mu a U w g M st.c (.pair ta tb) i ps k r := fun hn h => by
   obtain ⟨ys, st1, g1, h1, h2, h3, h4, h5, h6, h7, h8⟩ := ihb fld (i + 1) ps st g _ r hf3 h hI
   refine ⟨(dflt ta, ys), st1, g1, h1, h2, h3, h4, h5, ⟨h6.1, fun p hp => by have := h6.2 p hp; omega⟩, fun s hs1 hs2 => h7 s hs1 (by omega), fun g2 d cs hg hz2 hcs => ?_⟩
   simp only [RR]
   refine ⟨hc, hcb, (fun _ _ h => by cases h), ?_, h8 g2 d cs (fun j t' m' src y hj hr hx => hg j t' m' src y (by omega) hr hx) (fun j hj hp => hz2 j (by omega) hp) (fun j hj => ?_)⟩
   ·have hp : pv a.eval ps i = none := pv_none (i := i + 1) (fun p hp => (h6.2 p hp).1) (by omega)
    have h9 := hcs 0 (by omega)
    rw [Nat.add_zero, hp] at h9
    simp only [zeros, hz, Option.none_or, List.cons_append, List.getElem?_cons_zero] at h9
    exact RR_zero_cell' hf2 hc hn hz h9 (hz2 i (Nat.le_refl _) hp)
   ·have := hcs (j + 1) (by omega)
    rw [show i + 1 + j = i + (j + 1) by omega, this]
    simp [zeros, hz]
  cases ps with
  | nil =>
   simp only [partsO] at h
   obtain ⟨hn, h⟩ := guardK_some h
   exact hskip hn h
  | cons p ps =>
   obtain ⟨j, x⟩ := p
   simp only [partsO] at h
   split at h
   ·rename_i hij
    have := Nat.eq_of_beq_eq_true hij
    subst this
    obtain ⟨av, h, hv, _, _⟩ := opd_sound hI h
    obtain ⟨y, st1, g1, s0, h1, hL⟩ := take_loose h hI hv (argS + i) []
    have hfd : mu.far (argS + i) := (hfar _).2 (by omega)
    obtain ⟨hI1, _, hkp1⟩ := hL.inv hI hfd
    obtain ⟨ys, st2, g2, g3, g4, g5, g6, g7, g8, g9, g10⟩ := ihb fld (i + 1) ps st1 g1 _ r hf3 h1 hI1
    have hcell := shape_cell hc hL.shape
    refine ⟨(y, ys), st2, g2, g3, by rw [g4, hL.c], g5, hkp1.trans g6, fun p hp => ?_, ⟨?_, fun p hp => ?_⟩, fun s hs1 hs2 t' m' src z hr => ?_, fun gg d cs hg hz2 hcs => ?_⟩
    ·rcases List.mem_cons.1 hp with rfl | hp
     ·exact hcell
     ·exact g7 p hp
    ·exact List.pairwise_cons.2 ⟨fun p hp => by have := (g8.2 p hp).1; simp only; omega, g8.1⟩
    ·rcases List.mem_cons.1 hp with rfl | hp
     ·simp only; omega
     ·have := g8.2 p hp; omega
    ·exact g9 s hs1 (by omega) _ _ _ _ (hL.other ((hfar _).2 (by omega)) (by omega) (by omega) hr)
    ·have hne : ∀ j, i + 1 ≤ j → pv a.eval ((i, x) :: ps) j = pv a.eval ps j := fun j hj => by simp only [pv]; rw [if_neg (by omega)]
     simp only [RR]
     refine ⟨hc, hcb, (fun _ _ h => by cases h), ?_, g10 gg d cs (fun j t' m' src y hj hr hx => hg j t' m' src y (by omega) hr (by rw [hne j hj]; exact hx)) (fun j hj hp => hz2 j (by omega) (by rw [hne j hj]; exact hp)) (fun j hj => ?_)⟩
     ·have h11 := g9 (argS + i) (by omega) (by omega) _ _ _ _ hL.rr
      have h12 := hg i ta _ _ y (Nat.le_refl _) h11 ⟨a.eval x, by simp [pv]⟩
      refine RR_src_cell hc h12 ?_
      have h13 := hcs 0 (by omega)
      simp only [Nat.add_zero, pv, if_true, Option.some_or] at h13
      simp only [rdS]
      rw [h13, hcell]; rfl
     ·have := hcs (j + 1) (by omega)
      rw [show i + 1 + j = i + (j + 1) by omega, this, hne _ (by omega)]
      simp [zeros, hz]
   ·obtain ⟨hn, h⟩ := guardK_some h
    exact hskip hn h
 | _ => intro fld i ps st g k r hT; exact hT.elim

open Classical in
/-- what lies ready in far slots is slot d's, field by field -/
noncomputable def Gh.gather (g : Gh) (d : Nat) (told : Nat → Prop) : Gh where
 col b := match g.col b with
  | some (s, q) => if argS ≤ s then some (d, .fld (s - argS) :: q) else some (s, q)
  | none => none
 H s q := if s = d then (match q with | .fld j :: q => if told j then g.H (argS + j) q else .slice none 0 0 | q => g.H d q) else g.H s q
 A s q := if s = d then (match q with | .fld j :: q => g.A (argS + j) q | q => g.A d q) else g.A s q

theorem step_buildO (hT : TabOK P T) (hfar : ∀ s, mu.far s ↔ lentC.1 ≤ s) (hU : New U st.c) (hI : Inv w0 mu st.get (Vals a) U w g) (hd : DstOK mu o a) {t : TypeId} {ps : Array (Nat × Operand)} (ho : o.op = .build t ps) (hmd : (T.md t).hasOwn = true) (h : step T Φ o st K = some r) : StepOK P w0 mu (Nw U st.c) o a w K r := by
 unfold step at h; rw [ho] at h; simp only at h
 split at h
 ·rename_i ty ht
  rw [hmd] at h
  simp only at h
  have hTM := ((hT _).1 _ ht).1
  obtain ⟨i, z, hi, hz, hsz, _, hzc, hzs⟩ := TM_zero hTM
  have hres : lentC.1 < argS := by decide
  cases ty with
  | pair ta tb =>
   obtain ⟨fld, _, _, hF, hc, hcb, ⟨ta1, hf1, hf2, hf3⟩, _⟩ := hTM
   obtain ⟨x, st1, g1, hK, hc1, hI1, hk1, hcells, ⟨hpw, hlt⟩, _, hrr⟩ := partsO_sound (P := P) hfar (.pair ta tb) fld 0 ps.toList st g _ r ⟨hc, hcb, ta1, hf1, hf2, hf3⟩ h hI
   obtain ⟨cs, h1, h2, h3⟩ := build_cells (w := w) (ρ := a.eval) hi hz hzc (shape_size hzs) hF hc hcb hf1 hf2 hf3 (fun p hp => by have := (hlt p hp).2; omega) hpw hcells
   obtain ⟨d, hdst, hK⟩ := ownK_some hK
   obtain ⟨d1, d2⟩ := hd d hdst
   have hdl : ¬ lentC.1 ≤ d := fun h => d2 ((hfar d).2 h)
   let G := g1.gather d fun j => ∃ x, pv a.eval ps.toList j = some x
   have hcolN : ∀ b, g1.col b = none → G.col b = none := fun b hb => by simp only [G, Gh.gather, hb]
   have hcolO : ∀ b s q, g1.col b = some (s, q) → ¬ argS ≤ s → G.col b = some (s, q) := fun b s q hb hs => by simp only [G, Gh.gather, hb, if_neg hs]
   have hcolF : ∀ b j q, g1.col b = some (argS + j, q) → G.col b = some (d, .fld j :: q) := fun b j q hb => by
    simp only [G, Gh.gather, hb, if_pos (Nat.le_add_right _ _), Nat.add_sub_cancel_left]
   have hsh : ∀ b l0, b < w.heap.size → shared g1.col l0 b → w.heap[b]? = w.heap[b]? ∧ shared G.col l0 b := fun b l0 _ hs => ⟨rfl, by
    rcases hs with hs | ⟨hs, hs'⟩
    ·exact .inl (hcolN b hs)
    ·exact .inr ⟨hs, hcolO b _ _ hs' (by decide)⟩⟩
   have hR : RR w G d (.pair ta tb) (T.md t) [] (.val cs) 0 x := by
    refine hrr G d cs (fun j t' m' src y _ hr hx => ?_) (fun j _ hp => ?_) (fun j hj => by rw [Nat.zero_add]; exact h3 j hj)
    ·refine RR_moved (Nat.le_refl _) hsh t' m' [] [.fld j] src 0 y hr (fun b q hb => ⟨rfl, by simpa using hcolF b j q (by simpa using hb)⟩) (fun q => ?_) (fun q _ => ?_) (fun _ _ => rfl)
     ·simp only [G, Gh.gather, if_true, List.cons_append, List.nil_append]
      rw [if_pos hx]
     ·simp only [G, Gh.gather, if_true, List.cons_append, List.nil_append]
    ·simp only [G, Gh.gather, if_true]
     rw [if_neg (by rw [hp]; simp)]
   refine ⟨_, _, hK, fun next Q hn => M_done hdst d1 (v := .agg cs) (exec_v (by simp only [execOp, ho] <;> rfl) h1) (g' := G) ?_ hn⟩
   rw [hc1]
   have hfard : ∀ s, mu.far s → s ≠ d := fun s hs h => d2 (h ▸ hs)
   refine Inv_upd hI1 (fun u => u = d ∨ lentC.1 ≤ u) (fun _ => Nw_old) (Nat.le_refl _) hsh ?_ ?_ ?_ ?_ ?_ hI1.fr ?_ ?_ (.inl fun u hu n hn => ?_)
   ·intro u hu
    have hu1 : u ≠ d := fun h => hu (.inl h)
    have hu2 : ¬ lentC.1 ≤ u := fun h => hu (.inr h)
    exact ⟨by simp only [hu1, if_false], by simp only [hu1, if_false], fun b q hb => ⟨rfl, by rw [hcolO b u q hb (by omega), hb]⟩, fun q => by simp only [G, Gh.gather, hu1, if_false], fun q => by simp only [G, Gh.gather, hu1, if_false]⟩
   ·intro u hu n hn o' ho'
    by_cases h : u = d
    ·subst h; simp only [if_true] at ho'; rw [own?_new hU hn] at ho'; cases ho'
    ·simp only [h, if_false] at ho'
     rw [hI1.far u ((hfar u).2 (hu.resolve_left h))] at ho'; cases ho'
   ·intro u hu n p hn o' ho'
    by_cases h : u = d
    ·subst h; simp only [if_true] at ho'; rw [ownP?_new hU hn] at ho'; cases ho'
    ·simp only [h, if_false] at ho'
     rw [hI1.far u ((hfar u).2 (hu.resolve_left h))] at ho'; cases ho'
   ·intro u hu
    by_cases h : u = d
    ·subst h
     simp only [if_true]
     exact ⟨⟨⟨cs, rfl, h2⟩, hR⟩, Nw_0⟩
    ·simp only [h, if_false]
     rw [hI1.far u ((hfar u).2 (hu.resolve_left h))]
     exact ⟨trivial, trivial⟩
   ·intro b k hk
    cases hgc : g1.col b with
    | none => rw [hcolN b hgc] at hk; cases hk
    | some k0 =>
     obtain ⟨s, q⟩ := k0
     obtain ⟨h5, h6⟩ := hI1.cols b _ hgc
     refine ⟨h5, ?_⟩
     by_cases hs : argS ≤ s
     ·refine .inr (h6.resolve_left fun h => ?_)
      have := congrArg Prod.fst h
      simp only at this
      omega
     ·rw [hcolO b s q hgc hs] at hk
      cases hk; exact h6
   ·intro s hs
    rw [if_neg (hfard s hs)]; exact hI1.far s hs
   ·intro b hb
    exact hcolO b _ _ hb (by decide)
   ·by_cases h : u = d
    ·subst h; simp only [if_true]; exact own?_new hU hn
    ·simp only [h, if_false]
     rw [hI1.far u ((hfar u).2 (hu.resolve_left h))]; rfl
  | unit => exact hTM.elim
  | _ => cases hps : ps.toList <;> simp [hps, partsO] at h
 ·cases h
end
end Go.Ab

/-! Walks over maps: what is left may come in any order. -/
namespace Go.Ab
open Go.ChangeMaps (setBlock)

section
variable {P : Program} {T : Tab} {Φ : Nat → Option Contract} {w0 w : World} {mu : Mu} {st : St} {a : Act} {g : Gh} {R : Type} {o : Oper} {K : AV → St → Option R} {r : R} {val : Nat → Value} {U : Nat → Prop}

theorem lit_cell_VR {t : Ty} (hf : flat t = true) (hc : isCell t = true) (av : Nat → AV) (x : den t) : VR w g av (.v t (.bor false true) x) (litV t x) := by
 cases t with
 | int k => exact VR_of_int k x
 | bool => exact VR_of_bool x
 | sl e => cases hf
 | pair a b => cases hc
 | unit => cases hc
 | mp k e => cases hf
 | bx e => cases hf

/-- a new iterator -/
def Gh.iter (g : Gh) (d b : Nat) : Gh where
 col b' := if b' = b then some (d, []) else g.col b'
 H := g.H
 A := g.A

theorem step_range (hT : TabOK P T) (hI : Inv w0 mu st.get (Vals a) U w g) (hd : DstOK mu o a) {t : TypeId} {x : Operand} (ho : o.op = .range t x) (h : step T Φ o st K = some r) : StepOK P w0 mu (Nw U st.c) o a w K r := by
 unfold step at h; rw [ho] at h; simp only at h
 split at h
 ·rename_i ty hty
  obtain ⟨av, h1, hv, hst, _⟩ := opd_sound hI h
  clear h
  split at h1
  ·rename_i s n p _
   split at h1
   ·rename_i ow how
    obtain ⟨k, e, m, xs, hat, hm, h2⟩ := Own.mp_some h1
    obtain ⟨hg, h3⟩ := guardK_some h2
    simp only [Bool.and_eq_true] at hg
    obtain ⟨hnz, ⟨hk1, hk2⟩, he1, he2⟩ := hg
    obtain ⟨rfl, h4⟩ := sameTy_some h3
    obtain ⟨d, hdst, hK⟩ := ownK_some h4
    obtain ⟨d1, d2⟩ := hd d hdst
    obtain ⟨hvm, hok⟩ := hv ow how
    obtain ⟨B, hB, hRR⟩ := alias_map hI how hok hat hm hnz
    obtain ⟨tk, te, hu, _⟩ := tab_map hT hty
    simp only [RR, hm] at hRR
    obtain ⟨rr, hr1, _, hr2⟩ := hRR
    rw [hB] at hr1
    simp only [rdS, Value.cells] at hr1
    have hrr : rr = some B := by simpa using hr1.symm
    subst hrr
    obtain ⟨_, hcol, es, c, hheap, hmr1, hmr2, hmr3⟩ := hr2
    have hrun : (Instr.range t (a.eval x)).run P w = .ok (.pointer (some ⟨w.heap.size, 0, none⟩)) (w.alloc (.mapIter (some B) c #[] c)) := by
     rw [hvm, hB]
     simp only [Instr.range, Sem.run_bind, run_underlying hu, Result.andThen_ok, getObj]
     simp [Sem.run, hheap, Result.andThen, newObj]
    refine ⟨_, _, hK, fun next Q hn => M_done hdst d1 (exec_v (by simp only [execOp, ho] <;> rfl) hrun) (g' := g.iter d w.heap.size) ?_ hn⟩
    have hBlt := cell_lt hheap
    have hsh : ∀ b l0, b < w.heap.size → shared g.col l0 b → (w.alloc (.mapIter (some B) c #[] c)).heap[b]? = w.heap[b]? ∧ shared (g.iter d w.heap.size).col l0 b := by
     intro b l0 hb hs
     refine ⟨alloc_old hb, ?_⟩
     have : b ≠ w.heap.size := Nat.ne_of_lt hb
     simp only [shared, Gh.iter, this, if_false]; exact hs
    have := Inv_put hI d d (.it s n p k e xs none) (.pointer (some ⟨w.heap.size, 0, none⟩)) (U' := Nw U st.c) (w' := w.alloc (.mapIter (some B) c #[] c)) (g' := g.iter d w.heap.size)
     (fun _ => Nw_old) (by simp) hsh ?_ ?_ ?_ ?_ (Nw_old hst) (fun n hn => rfl) (fun n p hn => rfl) ?_ (Fr_alloc hI.fr _) d2 (fun b hb => by
      have : b ≠ w.heap.size := Nat.ne_of_lt (hI.cols b _ hb).1
      simp only [Gh.iter, this, if_false]; exact hb)
    ·refine Inv_congr this (fun s => ?_) (fun _ => rfl)
     by_cases hs : s = d <;> simp [hs]
    ·intro b s q hb _ _
     have hb' := (hI.cols b _ hb).1
     refine ⟨alloc_old hb', ?_⟩
     have : b ≠ w.heap.size := Nat.ne_of_lt hb'
     simp only [Gh.iter, this, if_false]
    ·intro s hs _ p; rfl
    ·intro s hs _ p; rfl
    ·refine ⟨w.heap.size, B, c, #[], rfl, by simp [Gh.iter], alloc_new, ⟨hk1, hk2, he1, he2⟩, fun o2 ho2 => ?_⟩
     by_cases hsd : s = d
     ·subst hsd; simp [own?] at ho2
     ·simp only [hsd, if_false] at ho2
      rw [how] at ho2
      cases ho2
      have hne : B ≠ w.heap.size := Nat.ne_of_lt hBlt
      refine ⟨hok, m, xs, es, hat, hB, by simp only [Gh.iter, hne, if_false]; exact hcol, by rw [alloc_old hBlt]; exact hheap, hmr2, hmr3, ?_, fun _ h => by cases h⟩
      have : leftOf es #[] = es := by simp [leftOf]
      rw [this]
      exact hmr1
    ·intro b kk hk
     simp only [Gh.iter] at hk
     split at hk
     ·rename_i hb; subst hb
      cases hk
      exact ⟨by simp, .inr (.inl hI.fr.size)⟩
     ·obtain ⟨g1, g2⟩ := hI.cols b kk hk
      exact ⟨by simp only [World.size_alloc]; omega, g2⟩
   ·cases h1
  ·cases h1
 ·cases h

theorem run_entry_last (w : World) (r bm since : Nat) (seen : Array Nat) (es : Array MapEntry) (clock : Nat) (e : MapEntry)
  (hr : w.heap[r]? = some (.mapIter (some bm) since seen clock)) (hs : seen.back? = some e.born) (hb : w.heap[bm]? = some (.map es clock)) (he : e ∈ es.toList) (hn : (es.toList.map (·.born)).Nodup) :
  (Instr.entry (.pointer (some ⟨r, 0, none⟩))).run P w = .ok (.tuple #[e.key, e.val]) w := by
 have hf : es.find? (·.born == e.born) = some e := by rw [← Array.find?_toList]; exact find_born e es.toList hn he
 simp only [Instr.entry, getObj, Sem.run_bind, Sem.run, hr, hb, hs, Result.andThen, bne_self_eq_false, Bool.false_eq_true, if_false, hf]
 rfl

theorem step_entry (hI : Inv w0 mu st.get (Vals a) U w g) (hd : DstOK mu o a) {x : Operand} (ho : o.op = .entry x) (h : step T Φ o st K = some r) : StepOK P w0 mu (Nw U st.c) o a w K r := by
 unfold step at h; rw [ho] at h
 cases x with
 | tmp t =>
  simp only at h
  split at h
  ·rename_i s n p k e l z hq
   split at h
   ·rename_i ow how
    obtain ⟨d, hdst, hK⟩ := ownK_some h
    obtain ⟨d1, d2⟩ := hd d hdst
    have hs := hI.slots t
    rw [hq] at hs
    obtain ⟨rr, B, c, seen, h1, h2, h3, ⟨hk1, hk2, he1, he2⟩, h4⟩ := hs
    obtain ⟨h5, m, xs, es, h6, h7, h8, h9, h10, h11, h12, h13⟩ := h4 ow how
    obtain ⟨en, h14, h15, h16, h17⟩ := h13 z rfl
    have hrun := run_entry_last (P := P) w rr B c seen es c en h3 h15 h9 h14 h10
    have h1' : a.eval (.tmp t) = .pointer (some ⟨rr, 0, none⟩) := h1
    rw [← h1', h16, h17] at hrun
    refine ⟨_, _, hK, fun next Q hn => M_done hdst d1 (exec_v (by simp only [execOp, ho] <;> rfl) hrun) (g' := g) ?_ hn⟩
    have hslot : SlotR w g (fun t => if t = d then (.tup [.v k (.bor false true) z.1, .v e (.bor false true) z.2]) else if t = d then .dead else st.get t) d (.tup [.v k (.bor false true) z.1, .v e (.bor false true) z.2]) (.tuple #[litV k z.1, litV e z.2]) := by
     refine ⟨_, rfl, rfl, fun i hi => ?_⟩
     match i, hi with
     | 0, _ => exact lit_cell_VR (w := w) (g := g) hk1 hk2 st.get _
     | 1, _ => exact lit_cell_VR (w := w) (g := g) he1 he2 st.get _
    have := Inv_put hI d d (.tup [.v k (.bor false true) z.1, .v e (.bor false true) z.2]) (.tuple #[litV k z.1, litV e z.2]) (U' := Nw U st.c) (fun _ => Nw_old) (Nat.le_refl _) (fun b l0 _ hb => ⟨rfl, hb⟩) (fun b s r _ _ _ => ⟨rfl, rfl⟩) (fun _ _ _ _ => rfl) (fun _ _ _ _ => rfl) hslot trivial (fun _ _ => rfl) (fun _ _ _ => rfl) hI.cols hI.fr d2 (fun _ h => h)
    refine Inv_congr this (fun s => ?_) (fun _ => rfl)
    by_cases hs : s = d <;> simp [hs]
   ·cases h
  ·cases h
 | _ => simp only at h; cases h

theorem filter_erase : ∀ (L : List MapEntry) (i : Nat) (en : MapEntry), (L.map (·.born)).Nodup → L[i]? = some en → L.filter (fun x => !(x.born == en.born)) = L.eraseIdx i
 | [], i, en, _, h => by simp at h
 | x :: L, 0, en, hn, h => by
  simp only [List.getElem?_cons_zero, Option.some.injEq] at h
  subst h
  simp only [List.map_cons, List.nodup_cons] at hn
  simp only [List.filter_cons, beq_self_eq_true, Bool.not_true, Bool.false_eq_true, if_false, List.eraseIdx_cons_zero]
  refine List.filter_eq_self.2 fun y hy => ?_
  have : y.born ≠ x.born := fun h => hn.1 (h ▸ List.mem_map_of_mem hy)
  simpa using this
 | x :: L, i + 1, en, hn, h => by
  simp only [List.getElem?_cons_succ] at h
  simp only [List.map_cons, List.nodup_cons] at hn
  have hm : en ∈ L := List.mem_of_getElem? h
  have : x.born ≠ en.born := fun h => hn.1 (h ▸ List.mem_map_of_mem hm)
  have h2 := filter_erase L i en hn.2 h
  simp only [List.filter_cons, List.eraseIdx_cons_succ, h2]
  simp [this]

theorem left_push (es : Array MapEntry) (seen : Array Nat) (b : Nat) : (leftOf es (seen.push b)).toList = (leftOf es seen).toList.filter (fun x => !(x.born == b)) := by
 unfold leftOf
 rw [Array.toList_filter, Array.toList_filter, List.filter_filter]
 refine List.filter_congr fun x _ => ?_
 rw [Array.contains_push]
 cases h : seen.contains x.born <;> cases h2 : x.born == b <;> simp [h, h2]

/-- a step over a map: whichever entry comes, the run goes on as told -/
theorem next_sound (hU : New U st.c) (hI : Inv w0 mu st.get (Vals a) U w g) (hd : DstOK mu o a) {x : Operand} (hx : isNext o = some x) (h : nextD x st K = some r) {next : Act → World → Prop} (Q : Exit → Act → World → Prop)
  (hn : ∀ av st', K av st' = some r → st'.c = st.c → NextOK w0 mu o a (Nw U st.c) st' av next) : o.wp P a w next Q := by
 unfold isNext at hx
 split at hx
 ·rename_i d x' hguard hdst hop
  simp only [Option.some.injEq] at hx
  subst hx
  obtain ⟨d1, d2⟩ := hd d hdst
  cases x' with
  | tmp t =>
   simp only [nextD] at h
   split at h
   ·rename_i s n p k e l z hq
    split at h
    ·rename_i ow how
     have hs := hI.slots t
     rw [hq] at hs
     have hst := hI.stamps t
     rw [hq] at hst
     obtain ⟨rr, B, c, seen, h1, h2, h3, hke, h4⟩ := hs
     obtain ⟨h5, m, xs, es, h6, h7, h8, h9, h10, h11, h12, h13⟩ := h4 ow how
     have h1' : a.eval (.tmp t) = .pointer (some ⟨rr, 0, none⟩) := h1
     have htl : t ≠ lentC.1 := by intro hh; subst hh; rw [hI.lent] at hq; cases hq
     have htf : ¬ mu.far t := fun hf => by rw [hI.far t hf] at hq; cases hq
     have hst' : s ≠ t := fun hh => by subst hh; rw [hq] at how; cases how
     rcases run_next_at (P := P) w o.type rr B c c seen es c h3 h9 h11 (Nat.le_refl _) with ⟨hz, hrun⟩ | ⟨en, hen, w1, hw1, hrun⟩
     ·have hl : l = [] := by
       have : (leftOf es seen).toList = [] := by
        have : (leftOf es seen) = #[] := Array.eq_empty_of_size_eq_zero hz
        rw [this]
       rw [this] at h12
       cases l with
       | nil => rfl
       | cons _ _ => simp at h12
      subst hl
      simp only [List.isEmpty_nil, cond_true] at h
      rw [← h1'] at hrun
      refine M_done hdst d1 (exec_v (by simp only [execOp, hop] <;> rfl) hrun) (g' := g) ?_ (hn _ _ h rfl)
      have hslot : SlotR w g (fun t => if t = d then (.tup [.v .bool (.bor false true) false]) else if t = d then .dead else st.get t) d (.tup [.v .bool (.bor false true) false]) (.tuple #[.bool false]) := by
       refine ⟨_, rfl, rfl, fun i hi => ?_⟩
       match i, hi with
       | 0, _ => exact VR_of_bool (w := w) (g := g) (av := st.get) _
      have := Inv_put hI d d (.tup [.v .bool (.bor false true) false]) (.tuple #[.bool false]) (U' := Nw U st.c) (fun _ => Nw_old) (Nat.le_refl _) (fun b l0 _ hb => ⟨rfl, hb⟩) (fun b s r _ _ _ => ⟨rfl, rfl⟩) (fun _ _ _ _ => rfl) (fun _ _ _ _ => rfl) hslot trivial (fun _ _ => rfl) (fun _ _ _ => rfl) hI.cols hI.fr d2 (fun _ h => h)
      refine Inv_congr this (fun s => ?_) (fun _ => rfl)
      by_cases hs : s = d <;> simp [hs]
     ·obtain ⟨i, hi, hie⟩ := List.mem_iff_getElem.1 hen
      have hi? : (leftOf es seen).toList[i]? = some en := by rw [List.getElem?_eq_getElem hi, hie]
      have hlen : (leftOf es seen).toList.length = l.length := by
       have := congrArg List.length h12
       simpa using this
      have hil : i < l.length := by omega
      have hat := congrArg (fun L => L[i]?) h12
      simp only [List.getElem?_map, hi?, Option.map_some, List.getElem?_eq_getElem hil, Option.some.injEq, Prod.mk.injEq] at hat
      have hne : l.isEmpty = false := by cases l with | nil => simp at hil | cons _ _ => rfl
      rw [hne, cond_false] at h
      have h := agree_some (by omega) h i hil
      have hgd : List.getD l i (dflt k, dflt e) = l[i] := by simp [List.getD, hil]
      rw [hgd] at h
      -- the world behind it
      have hr1 : w1.heap[rr]? = some (.mapIter (some B) c seen c) := by rcases hw1 with rfl | rfl <;> exact h3
      have hheap : w1.heap = w.heap := by rcases hw1 with rfl | rfl <;> rfl
      have hlt : rr < w.heap.size := cell_lt h3
      obtain ⟨w', hw', hsz, hoth, hnew, hos, htp, hou⟩ : ∃ w', w' = setBlock w1 rr (.mapIter (some B) c (seen.push en.born) c) ∧ w'.heap.size = w.heap.size ∧ (∀ b, b ≠ rr → w'.heap[b]? = w.heap[b]?) ∧ w'.heap[rr]? = some (.mapIter (some B) c (seen.push en.born) c) ∧ w'.os = w.os ∧ w'.tape = w.tape ∧ w'.output = w.output := by
       refine ⟨_, rfl, by simp [setBlock, hheap], fun b hb => ?_, by simp [setBlock, hheap, hlt], ?_, ?_, ?_⟩
       ·simp only [setBlock, hheap]; exact Array.getElem?_setIfInBounds_ne (Ne.symm hb)
       ·rcases hw1 with rfl | rfl <;> rfl
       ·rcases hw1 with rfl | rfl <;> rfl
       ·rcases hw1 with rfl | rfl <;> rfl
      rw [← hw', ← h1'] at hrun
      have hFr : Fr w0 mu w' := ⟨by rw [hos]; exact hI.fr.os, by rw [htp]; exact hI.fr.tape, by rw [hou]; exact hI.fr.output, by rw [hsz]; exact hI.fr.size, fun b hb hm => by
       rw [hoth b (fun hbr => ?_)]
       ·exact hI.fr.old b hb hm
       ·subst hbr
        obtain ⟨_, g2⟩ := hI.cols b _ h2
        rcases g2 with g2 | g2 | g2
        ·exact htl (congrArg Prod.fst g2)
        ·omega
        ·exact hm g2⟩
      have hBr : B ≠ rr := fun hh => by
       subst hh
       rw [h2] at h8
       simp only [Option.some.injEq, Prod.mk.injEq] at h8
       exact hst' h8.1.symm
      have hnd : ((leftOf es seen).toList.map (·.born)).Nodup := by
       unfold leftOf
       rw [Array.toList_filter]
       exact List.Nodup.sublist (List.Sublist.map _ (List.filter_sublist ..)) h10
      have hI' : Inv w0 mu (st.set t (.it s n p k e (List.eraseIdx l i) (some l[i]))).get (Vals a) U w' g := by
       refine Inv_upd hI (fun u => u = t) (fun _ h => h) (Nat.le_of_eq hsz.symm) (fun b l0 _ hb => ⟨hoth b fun hbr => ?_, hb⟩) (fun u hu => ⟨by rw [get_set, if_neg hu], rfl, fun b q hb => ⟨hoth b fun hbr => ?_, rfl⟩, fun _ => rfl, fun _ => rfl⟩) ?_ ?_ ?_ (fun b kk hk => by rw [hsz]; exact hI.cols b kk hk) hFr ?_ (fun _ h => h) (.inl fun u hu n' _ => by subst hu; rw [get_set, if_pos rfl]; rfl)
       ·subst hbr
        rcases hb with hb | ⟨_, hb⟩
        ·rw [h2] at hb; cases hb
        ·rw [h2] at hb; exact htl (congrArg Prod.fst (Option.some.inj hb))
       ·subst hbr
        rw [h2] at hb
        simp only [Option.some.injEq, Prod.mk.injEq] at hb
        exact hu hb.1.symm
       ·intro u hu n' _ o' ho'
        subst hu
        rw [get_set, if_pos rfl] at ho'
        cases ho'
       ·intro u hu n' p' _ o' ho'
        subst hu
        rw [get_set, if_pos rfl] at ho'
        cases ho'
       ·intro u hu
        subst hu
        rw [get_set, if_pos rfl]
        refine ⟨⟨rr, B, c, seen.push en.born, h1, h2, hnew, hke, fun o2 ho2 => ?_⟩, hst⟩
        rw [get_set, if_neg hst', how] at ho2
        cases ho2
        refine ⟨h5, m, xs, es, h6, h7, h8, by rw [hoth B hBr]; exact h9, h10, h11, ?_, fun y hy => ?_⟩
        ·rw [left_push, filter_erase _ i en hnd hi?, map_erase, h12, ← map_erase]
        ·cases hy
         refine ⟨en, ?_, by simp, hat.1, hat.2⟩
         have : en ∈ (leftOf es seen).toList := hen
         exact (mem_left this).1
       ·intro u hu
        rw [get_set]
        split
        ·rename_i hut; subst hut; exact absurd hu htf
        ·exact hI.far u hu
      refine M_done hdst d1 (exec_v (by simp only [execOp, hop] <;> rfl) hrun) (g' := g) ?_ (hn _ _ h rfl)
      have hslot : SlotR w' g (fun t' => if t' = d then (.tup [.v .bool (.bor false true) true, .dead, .dead]) else if t' = d then .dead else (st.set t (.it s n p k e (List.eraseIdx l i) (some l[i]))).get t') d (.tup [.v .bool (.bor false true) true, .dead, .dead]) (.tuple #[.bool true, en.key, en.val]) := by
       refine ⟨_, rfl, rfl, fun i hi => ?_⟩
       match i, hi with
       | 0, _ => exact VR_of_bool (w := w') (g := g) (av := st.get) _
       | 1, _ => trivial
       | 2, _ => trivial
      have := Inv_put hI' d d (.tup [.v .bool (.bor false true) true, .dead, .dead]) (.tuple #[.bool true, en.key, en.val]) (U' := Nw U st.c) (fun _ => Nw_old) (Nat.le_refl _) (fun b l0 _ hb => ⟨rfl, hb⟩) (fun b s r _ _ _ => ⟨rfl, rfl⟩) (fun _ _ _ _ => rfl) (fun _ _ _ _ => rfl) hslot trivial (fun _ _ => rfl) (fun _ _ _ => rfl) hI'.cols hI'.fr d2 (fun _ h => h)
      refine Inv_congr this (fun s => ?_) (fun _ => rfl)
      by_cases hs : s = d <;> simp [hs]
    ·cases h
   ·cases h
  | _ => simp [nextD] at h
 ·cases hx
end
end Go.Ab
