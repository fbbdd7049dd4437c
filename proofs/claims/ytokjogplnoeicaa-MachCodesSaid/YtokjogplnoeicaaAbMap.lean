/- Maps. -/
import Derived.Test.YtokjogplnoeicaaAbCopy
namespace Go.Ab

theorem eqD_eq : ∀ (t : Ty) (x y : den t), flat t = true → eqD t x y = true → x = y := by
 intro t
 induction t with
 | int k => intro x y _ h; exact eq_of_beq (α := Int) h
 | bool => intro x y _ h; exact eq_of_beq (α := Bool) h
 | unit => intros; rfl
 | pair a b iha ihb =>
  intro x y hf h
  simp only [flat, Bool.and_eq_true] at hf
  simp only [eqD, Bool.and_eq_true] at h
  exact Prod.ext (iha _ _ hf.1 h.1) (ihb _ _ hf.2 h.2)
 | _ => intro x y hf; cases hf
theorem eqD_refl : ∀ (t : Ty) (x : den t), flat t = true → eqD t x x = true := by
 intro t
 induction t with
 | int k => intro x _; exact beq_self_eq_true (α := Int) x
 | bool => intro x _; exact beq_self_eq_true (α := Bool) x
 | unit => intros; rfl
 | pair a b iha ihb =>
  intro x hf
  simp only [flat, Bool.and_eq_true] at hf
  simp only [eqD, iha _ hf.1, ihb _ hf.2, Bool.and_self]
 | _ => intro x hf; cases hf

theorem litC_cell {t : Ty} (hc : isCell t = true) (x : den t) : ∃ c, litC t x = [c] := by
 cases t <;> first | exact ⟨_, rfl⟩ | cases hc

/-- where an entry is, and what that means -/
theorem findE_spec {k e : Ty} {y : den k} : ∀ (es : List MapEntry) (x : List (den k × den e)) (i : Nat), es.map (fun en => (en.key, en.val)) = x.map (fun z => (litV k z.1, litV e z.2)) →
  (findE k y es (x.map (·.1)) i = none ∧ getM k e x y = none ∧ (∀ v, insM k e x y v = x ++ [(y, v)]) ∧ delM k e x y = x) ∨
  ∃ (j : Nat) (en : MapEntry) (z : den k × den e), es[j]? = some en ∧ x[j]? = some z ∧ findE k y es (x.map (·.1)) i = some (i + j, en.val) ∧ getM k e x y = some z.2 ∧ en.key = litV k z.1 ∧ en.val = litV e z.2 ∧
   (∀ v, insM k e x y v = x.set j (z.1, v)) ∧ delM k e x y = x.eraseIdx j ∧ eqD k z.1 y = true
 | [], [], i, _ => .inl ⟨rfl, rfl, fun _ => rfl, rfl⟩
 | [], _ :: _, _, h => by simp at h
 | _ :: _, [], _, h => by simp at h
 | en :: es, z :: x, i, h => by
  simp only [List.map_cons, List.cons.injEq, Prod.mk.injEq] at h
  obtain ⟨⟨h1, h2⟩, h3⟩ := h
  cases hb : eqD k z.1 y with
  | true =>
   refine .inr ⟨0, en, z, rfl, rfl, ?_, ?_, h1, h2, fun v => ?_, ?_, hb⟩
   ·simp only [List.map_cons, findE, hb, Nat.add_zero]
   ·simp only [getM, hb]
   ·simp only [insM, hb]; rfl
   ·simp only [delM, hb]; rfl
  | false =>
   rcases findE_spec es x (i + 1) h3 with ⟨g1, g2, g3, g4⟩ | ⟨j, en', z', g1, g2, g3, g4, g5, g6, g7, g8, g9⟩
   ·refine .inl ⟨?_, ?_, fun v => ?_, ?_⟩
    ·simp only [List.map_cons, findE, hb]; exact g1
    ·simp only [getM, hb]; exact g2
    ·simp only [insM, hb, g3 v]; rfl
    ·simp only [delM, hb, g4]
   ·refine .inr ⟨j + 1, en', z', by simpa using g1, by simpa using g2, ?_, ?_, g5, g6, fun v => ?_, ?_, g9⟩
    ·simp only [List.map_cons, findE, hb, g3]; congr 2; omega
    ·simp only [getM, hb]; exact g4
    ·simp only [insM, hb, g7 v]; rfl
    ·simp only [delM, hb, g8]; rfl

section
variable {P : Program} {T : Tab} {Φ : Nat → Option Contract} {w0 w : World} {mu : Mu} {st : St} {a : Act} {g : Gh} {R : Type} {o : Oper} {K : AV → St → Option R} {r : R} {val : Nat → Value} {U : Nat → Prop}

/-- a flat value's cells are what it says -/
theorem RR_litC {s : Nat} {cs : Array Value} : ∀ (t : Ty) (m : Md) (p : List Stp) (k : Nat) (x : den t), flat t = true → RR w g s t m p (.val cs) k x → (litC t x).length = sz t ∧ ∀ j, j < sz t → cs[k + j]? = (litC t x)[j]? := by
 intro t
 induction t with
 | int kd => intro m p k x _ h; exact ⟨rfl, fun j hj => by simp [sz] at hj; subst hj; simpa [RR, rdS, litC] using h⟩
 | bool => intro m p k x _ h; exact ⟨rfl, fun j hj => by simp [sz] at hj; subst hj; simpa [RR, rdS, litC] using h⟩
 | unit => intro m p k x _ _; exact ⟨rfl, fun j hj => by simp [sz] at hj⟩
 | pair a b iha ihb =>
  intro m p k x hf h
  simp only [flat, Bool.and_eq_true] at hf
  simp only [RR] at h
  obtain ⟨hc, hcb, _, h1, h2⟩ := h
  obtain ⟨g1, g2⟩ := iha _ _ _ _ hf.1 h1
  obtain ⟨g3, g4⟩ := ihb _ _ _ _ hf.2 h2
  have hsa := sz_cell hc
  have hsp : sz (.pair a b) = 1 + sz b := rfl
  refine ⟨by simp only [litC, List.length_append, g1, g3, hsa, hsp], fun j hj => ?_⟩
  simp only [litC]
  by_cases h0 : j = 0
  ·subst h0
   have := g2 0 (by omega)
   rw [this, List.getElem?_append_left (by omega)]
  ·rw [List.getElem?_append_right (by omega), show k + j = k + 1 + (j - 1) by omega, g4 (j - 1) (by omega), g1, hsa]
 | _ => intro m p k x hf; cases hf

theorem flat_lit {s : Nat} {t : Ty} {m : Md} {p : List Stp} {x : den t} {v : Value} (hf : flat t = true) (hs : shapeV t v) (h : RR w g s t m p (.val v.cells) 0 x) : v = litV t x := by
 obtain ⟨h1, h2⟩ := RR_litC t m p 0 x hf h
 cases hc : isCell t with
 | true =>
  have h3 := shape_cell hc hs
  obtain ⟨c, hcc⟩ := litC_cell hc x
  have := h2 0 (by rw [sz_cell hc]; omega)
  rw [h3, hcc] at this
  simp only [litV, hc, hcc]
  simpa using this
 | false =>
  unfold shapeV at hs
  rw [hc] at hs
  obtain ⟨cs, rfl, hsz⟩ := hs
  simp only [litV, hc]
  congr 1
  apply Array.ext'
  refine List.ext_getElem? fun j => ?_
  simp only [List.toList_toArray]
  by_cases hj : j < sz t
  ·have := h2 j hj
   rw [Nat.zero_add] at this
   rw [← this, Array.getElem?_toList]; rfl
  ·rw [List.getElem?_eq_none (by simpa using (by omega : cs.size ≤ j)), List.getElem?_eq_none (by omega)]

/-- a flat value, as its type says -/
theorem lit_RR2 {s : Nat} {cs : Array Value} : ∀ (t : Ty) (fld : Nat → Option TypeId) (m : Md) (p : List Stp) (k : Nat) (x : den t), flat t = true → (TM2 P t).2 fld k → (∀ j, j < (litC t x).length → cs[k + j]? = (litC t x)[j]?) → RR w g s t m p (.val cs) k x ∧ (litC t x).length = sz t := by
 intro t
 induction t with
 | unit => intros; exact ⟨trivial, rfl⟩
 | pair a b _ ihb =>
  intro fld m p k x hf hT h
  simp only [flat, Bool.and_eq_true] at hf
  obtain ⟨hc, hcb, ta, _, _, h3⟩ := hT
  obtain ⟨c, hcc⟩ := litC_cell hc x.1
  simp only [litC, hcc] at h ⊢
  have h0 := h 0 (by simp)
  have hb := ihb fld m p (k + 1) x.2 hf.2 h3 fun j hj => by
   have := h (j + 1) (by simp; omega)
   rw [show k + 1 + j = k + (j + 1) by omega, this]; simp
  refine ⟨?_, by simp [hb.2, sz]; omega⟩
  simp only [RR]
  refine ⟨hc, hcb, (fun _ _ h => by cases h), ?_, hb.1⟩
  cases a with
  | int kd => simp only [litC, List.cons.injEq, and_true] at hcc; simp only [RR, rdS]; rw [hcc]; simpa using h0
  | bool => simp only [litC, List.cons.injEq, and_true] at hcc; simp only [RR, rdS]; rw [hcc]; simpa using h0
  | sl e => cases hf.1
  | mp k e => cases hf.1
  | bx e => cases hf.1
  | _ => cases hc
 | _ => intro fld m p k x _ hT; exact hT.elim
theorem lit_RR {t : Ty} {tt : TypeId} (hT : TM P t tt) (hf : flat t = true) {s : Nat} (m : Md) (p : List Stp) (x : den t) : shapeV t (litV t x) ∧ RR w g s t m p (.val (litV t x).cells) 0 x := by
 cases t with
 | int kd => exact ⟨rfl, rfl⟩
 | bool => exact ⟨rfl, rfl⟩
 | pair a b =>
  obtain ⟨fld, i, zs, _, hc, hcb, ⟨ta, g1, g2, g3⟩, _⟩ := hT
  obtain ⟨h1, h2⟩ := lit_RR2 (P := P) (w := w) (g := g) (s := s) (cs := (litC (.pair a b) x).toArray) (.pair a b) fld m p 0 x hf ⟨hc, hcb, ta, g1, g2, g3⟩ (fun j _ => by simp)
  exact ⟨⟨_, rfl, by simpa using h2⟩, h1⟩
 | unit => exact hT.elim
 | _ => cases hf
theorem lit_VR {t : Ty} {tt : TypeId} (hT : TM P t tt) (hf : flat t = true) (av : Nat → AV) (x : den t) : VR w g av (.v t (.bor false true) x) (litV t x) :=
 ⟨rfl, (lit_RR (w := w) (g := g) hT hf (s := 0) (.bor false true) [] x).1, (lit_RR hT hf (s := 0) _ _ x).2⟩

theorem zeros_lit : ∀ (t : Ty), flat t = true → zeros t = litC t (dflt t) := by
 intro t
 induction t with
 | pair a b iha ihb =>
  intro hf
  simp only [flat, Bool.and_eq_true] at hf
  simp only [zeros, litC, dflt, iha hf.1, ihb hf.2]
 | int k => intro _; rfl
 | bool => intro _; rfl
 | unit => intro _; rfl
 | _ => intro hf; cases hf
theorem zero_lit {t : Ty} {tt : TypeId} (hT : TM P t tt) (hf : flat t = true) : (zeroValue tt).run P w = .ok (litV t (dflt t)) w := by
 obtain ⟨i, z, h1, h2, h3, _, h5, h6⟩ := TM_zero hT
 have : z = litV t (dflt t) := by
  rw [zeros_lit t hf] at h5
  cases hc : isCell t with
  | true =>
   have h7 := shape_cell hc h6
   rw [h7] at h5
   simp only [litV, hc]
   rw [← h5]; rfl
  | false =>
   unfold shapeV at h6
   rw [hc] at h6
   obtain ⟨cs, rfl, _⟩ := h6
   simp only [litV, hc]
   rw [← h5]; rfl
 rw [← this]
 simp [zeroValue, typeInfo, h1, h2]

theorem keyD_sound {k : Ty} {av : AV} {v : Value} {f : den k → Option R} {r : R} (hf : flat k = true) (h : keyD k av f = some r) (hv : VR w g st.get av v) : ∃ y, f y = some r ∧ v = litV k y := by
 unfold keyD at h
 split at h
 ·rename_i t m y
  split at h
  ·rename_i ht; subst ht
   exact ⟨y, h, flat_lit hf hv.2.1 hv.2.2⟩
  ·cases h
 ·cases h

/-- what a look-up finds -/
theorem lookup_run {t : TypeId} {k e : Ty} {tk te : TypeId} (hu : P.underlying t = some (.map tk te)) (hK : KeyRun P tk k) (hTe : TM P e te) (hfe : flat e = true) {m : Option Nat} {x : List (den k × den e)} (y : den k)
  (hm : match m with | none => x = [] | some b => ∃ es c, w.heap[b]? = some (.map es c) ∧ MapR k e es c x) (ok : Bool) :
  (Instr.lookup t (.map m) (litV k y) ok).run P w = .ok (if ok then .tuple #[litV e ((getM k e x y).getD (dflt e)), .bool (getM k e x y).isSome] else litV e ((getM k e x y).getD (dflt e))) w := by
 obtain ⟨k1, k2, _⟩ := hK w
 have key : ∀ (es : Array MapEntry), es.toList.map (fun en => (en.key, en.val)) = x.map (fun z => (litV k z.1, litV e z.2)) →
   ((do
    Instr.checkKey es.isEmpty 10000 tk (litV k y)
    let (v, ok') ← match ← Instr.findKey tk (litV k y) es.toList with
     | some (_, v) => pure (v, true)
     | none => pure (← zeroValue te, false)
    pure (if ok then Value.tuple #[v, .bool ok'] else v) : Sem Value)).run P w = .ok (if ok then .tuple #[litV e ((getM k e x y).getD (dflt e)), .bool (getM k e x y).isSome] else litV e ((getM k e x y).getD (dflt e))) w := by
  intro es hes
  have hkeys : es.toList.map (·.key) = (x.map (·.1)).map (litV k) := by
   have := congrArg (List.map (·.1)) hes
   simpa [Function.comp_def] using this
  have hfind := k2 y es.toList (x.map (·.1)) hkeys
  rcases findE_spec (y := y) es.toList x 0 hes with ⟨g1, g2, _⟩ | ⟨j, en, z, _, _, g3, g4, _, g6, _⟩
  ·rw [g1] at hfind
   simp only [Sem.run_bind, k1, Result.andThen_ok, hfind, zero_lit hTe hfe, Sem.run_pure, g2]
   cases ok <;> rfl
  ·rw [g3] at hfind
   simp only [Sem.run_bind, k1, Result.andThen_ok, hfind, Sem.run_pure, g4, g6]
   cases ok <;> rfl
 cases m with
 | none =>
  subst hm
  have := key #[] rfl
  simp only [Instr.lookup, Sem.run_bind, run_underlying hu, Result.andThen_ok, Sem.run_pure] at this ⊢
  exact this
 | some b =>
  obtain ⟨es, c, h1, h2⟩ := hm
  have := key es h2.1
  have hg : (getObj b).run P w = .ok (.map es c) w := by simp [getObj, Sem.run, h1]
  simp only [Instr.lookup, Sem.run_bind, run_underlying hu, hg, Result.andThen_ok, Sem.run_pure] at this ⊢
  exact this

theorem tab_map (hT : TabOK P T) {t : TypeId} {k e : Ty} (ht : T.ty t = some (.mp k e)) : ∃ tk te, P.underlying t = some (.map tk te) ∧ KeyRun P tk k ∧ TM P k tk ∧ TM P e te := by
 obtain ⟨tk, te, h1, h2⟩ := (hT t).2.2 k e ht
 obtain ⟨tk', te', h3, h4, h5, _⟩ := ((hT t).1 _ ht).1
 rw [h1] at h3
 simp only [Option.some.injEq, TypeDesc.map.injEq] at h3
 obtain ⟨rfl, rfl⟩ := h3
 exact ⟨tk, te, h1, h2, h4, h5⟩

theorem step_lookup1 (hT : TabOK P T) (hI : Inv w0 mu st.get (Vals a) U w g) (hd : DstOK mu o a) {t : TypeId} {x i : Operand} (ho : o.op = .lookup t x i false) (h : step T Φ o st K = some r) : StepS P U o a w g st K r := by
 unfold step at h; rw [ho] at h; simp only at h
 split at h
 ·rename_i ty hty
  obtain ⟨av, h1, hv, _, _⟩ := opd_sound hI h
  obtain ⟨bv, h2, hb, _, _⟩ := opd_sound hI h1
  clear h h1
  unfold lookupD at h2
  obtain ⟨k, e, xs, m, h3, hvm, hm⟩ := asMap_sound hI h2 hv
  obtain ⟨hf, h4⟩ := guardK_some h3
  simp only [Bool.and_eq_true] at hf
  obtain ⟨rfl, h5⟩ := sameTy_some h4
  obtain ⟨y, h6, hby⟩ := keyD_sound hf.1 h5 hb
  obtain ⟨tk, te, hu, hK, _, hTe⟩ := tab_map hT hty
  have hrun := lookup_run (w := w) hu hK hTe hf.2 y hm false
  rw [← hvm, ← hby] at hrun
  exact S_ok (v := litV e ((getM k e xs y).getD (dflt e))) hI hd h6 (by simp only [execOp, ho] <;> rfl) hrun (lit_VR hTe hf.2 _ _) trivial rfl
 ·cases h

theorem step_lookup (hT : TabOK P T) (hU : New U st.c) (hI : Inv w0 mu st.get (Vals a) U w g) (hd : DstOK mu o a) {t : TypeId} {x i : Operand} {ok : Bool} (ho : o.op = .lookup t x i ok) (h : step T Φ o st K = some r) : StepOK P w0 mu (Nw U st.c) o a w K r := by
 unfold step at h; rw [ho] at h; simp only at h
 split at h
 ·rename_i ty hty
  obtain ⟨av, h1, hv, _, _⟩ := opd_sound hI h
  obtain ⟨bv, h2, hb, _, _⟩ := opd_sound hI h1
  clear h h1
  unfold lookupD at h2
  obtain ⟨k, e, xs, m, h3, hvm, hm⟩ := asMap_sound hI h2 hv
  obtain ⟨hf, h4⟩ := guardK_some h3
  simp only [Bool.and_eq_true] at hf
  obtain ⟨rfl, h5⟩ := sameTy_some h4
  obtain ⟨y, h6, hby⟩ := keyD_sound hf.1 h5 hb
  obtain ⟨tk, te, hu, hK, _, hTe⟩ := tab_map hT hty
  have hrun := lookup_run (w := w) hu hK hTe hf.2 y hm ok
  rw [← hvm, ← hby] at hrun
  cases ok with
  | false => exact (S_ok (v := litV e ((getM k e xs y).getD (dflt e))) hI hd h6 (by simp only [execOp, ho] <;> rfl) hrun (lit_VR hTe hf.2 _ _) trivial rfl).ok hI hd
  | true =>
   obtain ⟨d, hdst, hK'⟩ := ownK_some h6
   obtain ⟨d1, d2⟩ := hd d hdst
   refine ⟨_, _, hK', fun next Q hn => M_done hdst d1 (exec_v (by simp only [execOp, ho] <;> rfl) hrun) (g' := g) ?_ hn⟩
   have hslot : SlotR w g (fun t => if t = d then (.tup [.v e (.bor false true) ((getM k e xs y).getD (dflt e)), .v .bool (.bor false true) (getM k e xs y).isSome]) else if t = d then .dead else st.get t) d (.tup [.v e (.bor false true) ((getM k e xs y).getD (dflt e)), .v .bool (.bor false true) (getM k e xs y).isSome]) (.tuple #[litV e ((getM k e xs y).getD (dflt e)), .bool (getM k e xs y).isSome]) := by
    refine ⟨_, rfl, rfl, fun i hi => ?_⟩
    match i, hi with
    | 0, _ => exact lit_VR (w := w) (g := g) hTe hf.2 st.get _
    | 1, _ => exact VR_of_bool (w := w) (g := g) (av := st.get) _
   have := Inv_put hI d d (.tup [.v e (.bor false true) ((getM k e xs y).getD (dflt e)), .v .bool (.bor false true) (getM k e xs y).isSome]) (.tuple #[litV e ((getM k e xs y).getD (dflt e)), .bool (getM k e xs y).isSome]) (U' := Nw U st.c) (fun _ => Nw_old) (Nat.le_refl _) (fun b l0 _ hb => ⟨rfl, hb⟩) (fun b s r _ _ _ => ⟨rfl, rfl⟩) (fun _ _ _ _ => rfl) (fun _ _ _ _ => rfl) hslot trivial (fun _ _ => rfl) (fun _ _ _ => rfl) hI.cols hI.fr d2 (fun _ h => h)
   refine Inv_congr this (fun s => ?_) (fun _ => rfl)
   by_cases hs : s = d <;> simp [hs]
 ·cases h

/-- a map's object changes -/
structure MapW (w w' : World) (B : Nat) (es : Array MapEntry) (c : Nat) : Prop where
 size : w'.heap.size = w.heap.size
 other : ∀ b, b ≠ B → w'.heap[b]? = w.heap[b]?
 cell : ∀ ad : Addr, w'.cell? ad = w.cell? ad
 new : w'.heap[B]? = some (.map es c)
 os : w'.os = w.os
 tape : w'.tape = w.tape
 output : w'.output = w.output

theorem mapW_set {B : Nat} {es0 es : Array MapEntry} {c0 c : Nat} (hB : w.heap[B]? = some (.map es0 c0)) : MapW w { w with heap := w.heap.setIfInBounds B (.map es c) } B es c := by
 have hlt := cell_lt hB
 have hnew : (w.heap.setIfInBounds B (.map es c))[B]? = some (.map es c) := by simp [hlt]
 have hoth : ∀ b, b ≠ B → (w.heap.setIfInBounds B (.map es c))[b]? = w.heap[b]? := fun b hb => Array.getElem?_setIfInBounds_ne (Ne.symm hb)
 refine ⟨by simp, hoth, fun ad => ?_, hnew, rfl, rfl, rfl⟩
 unfold World.cell?
 by_cases h : ad.block = B
 ·simp only [h, hnew, hB]
 ·simp only [hoth _ h]

theorem rdS_mapW {w' : World} {B : Nat} {es : Array MapEntry} {c : Nat} (hW : MapW w w' B es c) (src : Src) (j : Nat) : rdS w' src j = rdS w src j := by
 cases src with
 | mem b off => exact hW.cell _
 | val cs => rfl

/-- what a slot owns, where a map of it has other entries -/
theorem RR_mapupd {w' : World} {s B : Nat} {es : Array MapEntry} {c : Nat} {kt et : Ty} {m0 : Md} {y : List (den kt × den et)} {tg : List Stp} (hW : MapW w w' B es c) (hB : g.col B = some (s, tg)) (hs : s ≠ lentC.1) (hH : g.H s tg = .map (some B))
  (hm0 : m0.isOwn = true) (hnz : m0.nz? = true) (hnew : MapR kt et es c y) :
  ∀ (q : List Stp) (t : Ty) (m : Md) (p : List Stp) (src : Src) (k : Nat) (x x' : den t) (y0 : den (.mp kt et)), RR w g s t m p src k x → (isCell t = false → k = 0) → okP q t m x → walkP q t m x = some ⟨.mp kt et, m0, y0⟩ → updP q t x (.mp kt et) y = some x' → p ++ q = tg → RR w' g s t m p src k x' := by
 have hsh : ∀ b l0, b < w.heap.size → shared g.col l0 b → w'.heap[b]? = w.heap[b]? ∧ shared g.col l0 b := fun b l0 _ h => ⟨hW.other b (shared_ne hB hs h), h⟩
 have frame : ∀ (t : Ty) (m : Md) (p : List Stp) (src : Src) (k : Nat) (x : den t), ¬ p <+: tg → RR w g s t m p src k x → RR w' g s t m p src k x := fun t m p src k x hp h =>
  RR_frame (Nat.le_of_eq hW.size.symm) hsh t m p src k x h (fun b r hb => ⟨hW.other b fun hbB => by
   subst hbB
   rw [hB] at hb
   simp only [Option.some.injEq, Prod.mk.injEq, true_and] at hb
   exact hp (hb ▸ List.prefix_append p r), rfl⟩) (fun _ => rfl) (fun _ _ => rfl) (fun j _ => rdS_mapW hW _ _)
 intro q
 induction q with
 | nil =>
  intro t m p src k x x' y0 h _ _ hw hu hpq
  simp only [walkP, Option.some.injEq, TV.mk.injEq] at hw
  obtain ⟨rfl, rfl, _⟩ := hw
  simp only [updP, dite_true, Option.some.injEq] at hu
  subst hu
  simp only [List.append_nil] at hpq
  subst hpq
  simp only [RR, hm0] at h ⊢
  obtain ⟨rr, h1, h2, h3⟩ := h
  cases rr with
  | none => exact absurd rfl (h2 hnz)
  | some b =>
   rw [h3.1] at hH
   simp only [Value.map.injEq, Option.some.injEq] at hH
   subst hH
   exact ⟨some b, by rw [rdS_mapW hW]; exact h1, h2, h3.1, h3.2.1, es, c, hW.new, hnew⟩
 | cons c0 q ih =>
  intro t m p src k x x' y0 h hk hok hw hu hpq
  cases c0 with
  | dr => simp [okP] at hok
  | fld nf =>
   simp only [okP, walkP, updP] at hok hw hu
   obtain ⟨tv', hf, hok⟩ := hok
   rw [hf] at hw
   have hk0 : k = 0 := by
    cases t <;> first | exact hk rfl | (simp [fieldOf, fieldK] at hf)
   subst hk0
   refine RR_updF (n := nf) (f := fun t1 x1 => updP q t1 x1 (.mp kt et) y) (tv := tv') ?_ (fun _ => rfl) ?_ t 0 x x' h hf hu
   ·intro ta j z hj _ hr
    refine frame ta _ _ _ _ z (fun hp => ?_) hr
    rw [← hpq, List.prefix_append_right_inj] at hp
    have := (List.cons_prefix_cons.1 hp).1
    simp only [Stp.fld.injEq] at this
    exact hj this
   ·intro z' hz
    have h1 := RR_field (n := nf) t p src 0 x tv' h hf
    rw [← h1.2.2.1]
    exact ih tv'.t tv'.m _ _ nf tv'.x z' y0 h1.1 (fun hc => by rw [h1.2.1] at hc; cases hc) hok hw hz (by rw [← hpq]; simp)
  | el i =>
   cases t with
   | sl e =>
    simp only [okP, walkP, updP] at hok hw hu
    obtain ⟨hmo, hi, hok⟩ := hok
    simp only [RR, hmo] at h ⊢
    obtain ⟨ad0, cap, h1, h2, h3, h4, h5⟩ := h
    cases ad0 with
    | none => obtain ⟨hx, _⟩ := h5; subst hx; simp at hi
    | some ad =>
     obtain ⟨h6, h7, ⟨cc, el, h8, h8'⟩, h9⟩ := h5
     cases hz : updP q e (List.getD x i (dflt e)) (.mp kt et) y with
     | none => rw [hz] at hu; cases hu
     | some z =>
      rw [hz] at hu
      simp only [Option.some.injEq] at hu
      subst hu
      have hbB : ad.block ≠ B := fun hb => by
       rw [hb, hB] at h7
       simp only [Option.some.injEq, Prod.mk.injEq, true_and] at h7
       rw [← hpq] at h7
       simp at h7
      refine ⟨some ad, cap, by rw [rdS_mapW hW]; exact h1, by rw [h2]; simp, by simpa using h3, fun hz' hx => ?_, h6, h7, ⟨cc, el, by rw [hW.other _ hbB]; exact h8, h8'⟩, fun j hj => ?_⟩
      ·have : List.length (List.set x i z) = 0 := by rw [hx]; rfl
       simp at this
       exact absurd hi (by rw [this]; simp)
      ·simp only [List.length_set] at hj
       refine ⟨(h9 j hj).1, ?_⟩
       by_cases hji : j = i
       ·subst hji
        rw [List.getD_eq_getElem?_getD, List.getElem?_set_self hj]
        exact ih e m.el _ _ 0 _ z y0 (h9 j hj).2 (fun _ => rfl) hok hw hz (by rw [← hpq]; simp)
       ·rw [List.getD_eq_getElem?_getD, List.getElem?_set_ne (Ne.symm hji), ← List.getD_eq_getElem?_getD]
        refine frame e _ _ _ _ _ (fun hp => ?_) (h9 j hj).2
        rw [← hpq, List.prefix_append_right_inj] at hp
        have := (List.cons_prefix_cons.1 hp).1
        simp only [Stp.el.injEq] at this
        exact hji this
   | _ => simp [okP] at hok

theorem okP_mp {kt et : Ty} : ∀ (r : List Stp) (m : Md) (x : den (.mp kt et)), okP r (.mp kt et) m x → r = []
 | [], _, _, _ => rfl
 | .dr :: _, _, _, h => by simp [okP] at h
 | .fld n :: _, _, _, h => by simp [okP, fieldOf, fieldK] at h
 | .el i :: _, _, _, h => by simp [okP] at h

/-- a map of a slot's has other entries -/
theorem Inv_mapupd (hI : Inv w0 mu st.get val U w g) {s n : Nat} {p : List Stp} {o' o1 : Own} (ho : own? (st.get s) n = some o') (hok : o'.ok p) {kt et : Ty} {m : Md} {x y : List (den kt × den et)} (hat : o'.at p = some ⟨.mp kt et, m, x⟩)
  (hm : m.isOwn = true) (hnz : m.nz? = true) {B : Nat} (hH : g.H s p = .map (some B)) (hup : o'.upd p (.mp kt et) y = some o1) (hna : noApp st s = true) {w' : World} {es : Array MapEntry} {c : Nat} (hW : MapW w w' B es c) (hnew : MapR kt et es c y) :
  Inv w0 mu (st.set s (newAV (st.get s) o1 none)).get val U w' g := by
 have hsl := own_ne_lent hI ho
 have hs := hI.slots s
 have hst := hI.stamps s
 have hoo := own?_ow ho
 have hB : g.col B = some (s, p) := by
  obtain ⟨src, k, h1, _⟩ := owner_node (tv := ⟨.mp kt et, m, x⟩) hs (by rcases hoo with ⟨h1, h2⟩ | ⟨h1, n1, h2⟩; exact .inl ⟨h1, n, h2⟩; exact .inr ⟨h1, n1, n, h2⟩) hok hat
  simp only [RR, hm] at h1
  obtain ⟨rr, _, h3, h4⟩ := h1
  cases rr with
  | none => exact absurd rfl (h3 hnz)
  | some b =>
   rw [h4.1] at hH
   simp only [Value.map.injEq, Option.some.injEq] at hH
   subst hH
   exact h4.2.1
 have hsh : ∀ b l0, b < w.heap.size → shared g.col l0 b → w'.heap[b]? = w.heap[b]? ∧ shared g.col l0 b := fun b l0 _ h => ⟨hW.other b (shared_ne hB hsl h), h⟩
 have hFr : Fr w0 mu w' := by
  refine ⟨by rw [hW.os]; exact hI.fr.os, by rw [hW.tape]; exact hI.fr.tape, by rw [hW.output]; exact hI.fr.output, by rw [hW.size]; exact hI.fr.size, fun b hb hmu => ?_⟩
  rw [hW.other b fun hbB => ?_]
  ·exact hI.fr.old b hb hmu
  ·subst hbB
   rcases (hI.cols b _ hB).2 with h | h | h
   ·exact hsl (congrArg Prod.fst h)
   ·omega
   ·exact hmu h
 have hupG : ∀ (q : List Stp) (t : Ty) (m' : Md) (x0 z : den t), walkP q t m' x0 = some ⟨.mp kt et, m, x⟩ → updP q t x0 (.mp kt et) y = some z → ∀ r, okP r t m' x0 → okP r t m' z ∧ ∀ e me xe, walkP r t m' x0 = some ⟨.sl e, me, xe⟩ → ∃ me' xe', walkP r t m' z = some ⟨.sl e, me', xe'⟩ ∧ List.length xe' = List.length xe :=
  fun q t m' x0 z h1 h2 => okP_updG (fun r m x h => by rw [okP_mp r m x h]; rfl) (fun r m x e me xe h => by
   cases r with
   | nil => simp [walkP] at h
   | cons c r => cases c <;> simp [walkP, fieldOf, fieldK] at h) q t m' m x0 z _ h1 h2
 -- the owner, and what becomes of it
 have key : ∃ z, o1 = { o' with x := z } ∧ SlotR w' g (st.set s (newAV (st.get s) o1 none)).get s (newAV (st.get s) o1 none) (val s) ∧ stampOK U (newAV (st.get s) o1 none) ∧
   ∀ p', o'.ok p' → o1.ok p' ∧ ∀ e me xe, o'.at p' = some ⟨.sl e, me, xe⟩ → ∃ me' xe', o1.at p' = some ⟨.sl e, me', xe'⟩ ∧ List.length xe' = List.length xe := by
  obtain ⟨ob, ot, om, ox⟩ := o'
  rcases hoo with ⟨hb, hq⟩ | ⟨hb, n1, hq⟩
  ·simp only at hb; subst hb
   obtain ⟨z, hz, rfl⟩ := upd_ow rfl hup
   simp only at hq hz
   rw [hq] at hs hst ⊢
   rw [newAV_ow]
   have hatw : walkP p ot om ox = some ⟨.mp kt et, m, x⟩ := by
    cases p with
    | nil => simpa [Own.at] using hat
    | cons c p => cases c <;> simp [Own.at] at hat ⊢ <;> exact hat
   have hokw : okP p ot om ox := by
    cases p with
    | nil => trivial
    | cons c p => cases c <;> simpa [Own.ok] using hok
   refine ⟨z, rfl, ⟨hs.1, RR_mapupd hW hB hsl hH hm hnz hnew p ot om [] _ 0 ox z x hs.2 (fun _ => rfl) hokw hatw hz rfl⟩, hst, fun p' hp' => ?_⟩
   have hp2 : okP p' ot om ox := by cases p' with
    | nil => trivial
    | cons c p' => cases c <;> simpa [Own.ok] using hp'
   obtain ⟨h8, h9⟩ := hupG p ot om ox z hatw hz p' hp2
   refine ⟨?_, fun e me xe hx => ?_⟩
   ·cases p' with
    | nil => trivial
    | cons c p' => cases c <;> first | exact h8 | (simp [okP] at hp2; done)
   ·have hx' : walkP p' ot om ox = some ⟨.sl e, me, xe⟩ := by cases p' with
     | nil => exact hx
     | cons c p' => cases c <;> first | exact hx | (simp [okP] at hp2; done)
    obtain ⟨me', xe', h10, h11⟩ := h9 e me xe hx'
    refine ⟨me', xe', ?_, h11⟩
    cases p' with
    | nil => exact h10
    | cons c p' => cases c <;> first | exact h10 | (simp [okP] at hp2; done)
  ·simp only at hb; subst hb
   obtain ⟨q, z, rfl, hz, rfl⟩ := upd_box rfl hup
   simp only at hq hz
   rw [hq] at hs hst ⊢
   rw [newAV_box]
   obtain ⟨b, cc, el, h1, h2, h3, h4, h5, h6⟩ := hs
   have hatw : walkP q ot om ox = some ⟨.mp kt et, m, x⟩ := hat
   have hokw : okP q ot om ox := hok
   have hbB : b ≠ B := fun h => by
    rw [h, hB] at h2
    simp at h2
   refine ⟨z, rfl, ⟨b, cc, el, h1, h2, by rw [hW.other b hbB]; exact h3, h4, h5, RR_mapupd hW hB hsl hH hm hnz hnew q ot om [.dr] _ 0 ox z x h6 (fun _ => rfl) hokw hatw hz rfl⟩, hst, fun p' hp' => ?_⟩
   cases p' with
   | nil => simp [Own.ok] at hp'
   | cons d p' =>
    cases d with
    | dr =>
     obtain ⟨h10, h11⟩ := hupG q ot om ox z hatw hz p' hp'
     exact ⟨h10, fun e me xe hx => h11 e me xe hx⟩
    | fld _ => simp [Own.ok] at hp'
    | el _ => simp [Own.ok] at hp'
 obtain ⟨z, rfl, hsl1, hst1, hpaths⟩ := key
 have hsame : ∀ k, own? (newAV (st.get s) { o' with x := z } none) k = if Nat.beq k n then some { o' with x := z } else none := fun k => by
  rcases hoo with ⟨hb, hq⟩ | ⟨hb, n1, hq⟩
  ·rw [hq, newAV_ow]
   simp only [own?, Option.getD_none]
   cases hk : Nat.beq k n <;> simp [← hb]
  ·rw [hq, newAV_box]
   simp only [own?, Option.getD_none]
   cases hk : Nat.beq k n <;> simp [← hb]
 refine Inv_upd hI (fun u => u = s) (fun _ h => h) (Nat.le_of_eq hW.size.symm) hsh (fun u hu => ⟨by rw [get_set, if_neg hu], rfl, fun b r hb => ⟨hW.other b fun hbB => by
   subst hbB
   rw [hB] at hb
   simp only [Option.some.injEq, Prod.mk.injEq] at hb
   exact hu hb.1.symm, rfl⟩, fun _ => rfl, fun _ => rfl⟩) ?_ ?_ (fun u hu => by subst hu; rw [get_set, if_pos rfl]; exact ⟨hsl1, hst1⟩)
  (fun b k hb => by rw [hW.size]; exact hI.cols b k hb) hFr (fun u hu => by
   have : u ≠ s := fun h => by
    have h2 := hI.far u hu
    rw [h] at h2
    rw [h2] at ho; cases ho
   rw [get_set, if_neg this]; exact hI.far u hu) (fun _ h => h) (.inr fun u hu => by subst hu; exact noApp_get hna)
 ·intro u hu n' _ o'' h7
  subst hu
  rw [get_set, if_pos rfl, hsame] at h7
  split at h7
  ·rename_i hk
   simp only [Option.some.injEq] at h7
   subst h7
   have := Nat.eq_of_beq_eq_true hk
   subst this
   exact ⟨o', ho, fun p' hp' => ⟨(hpaths p' hp').1, rfl, (hpaths p' hp').2⟩⟩
  ·cases h7
 ·intro u hu n' p' _ o'' h7
  subst hu
  rw [get_set, if_pos rfl] at h7
  rcases hoo with ⟨hb, hq⟩ | ⟨hb, n1, hq⟩
  ·rw [hq, newAV_ow] at h7
   rw [hq]
   simp only [ownP?, Option.getD_none] at h7 ⊢
   cases hk : Nat.beq n' n with
   | false => rw [hk] at h7; cases h7
   | true =>
    rw [hk] at h7
    simp only [Option.some.injEq] at h7
    subst h7
    refine ⟨_, rfl, fun hp' hm' => ?_⟩
    have e1 : (⟨false, o'.t, o'.m, o'.x⟩ : Own) = o' := by rw [← hb]
    rw [e1] at hp' hm'
    have h8 := (hpaths p' hp').1
    rw [hb] at h8
    exact ⟨h8, by rcases hm' with h | h; rw [hb] at h; cases h; exact .inr h, trivial⟩
  ·rw [hq, newAV_box] at h7
   rw [hq]
   simp only [ownP?, Option.getD_none] at h7 ⊢
   split at h7
   ·rename_i hk
    simp only [Option.some.injEq] at h7
    subst h7
    refine ⟨_, rfl, fun hp' hm' => ?_⟩
    have e1 : (⟨true, o'.t, o'.m, o'.x⟩ : Own) = o' := by rw [← hb]
    rw [e1] at hp' hm'
    have h8 := (hpaths p' hp').1
    rw [hb] at h8
    exact ⟨h8, .inl rfl, trivial⟩
   ·cases h7

theorem walkP_updP {t' : Ty} {y : den t'} : ∀ (p : List Stp) (t : Ty) (m m' : Md) (x z : den t) (y0 : den t'), okP p t m x → walkP p t m x = some ⟨t', m', y0⟩ → updP p t x t' y = some z → okP p t m z ∧ walkP p t m z = some ⟨t', m', y⟩ := by
 intro p
 induction p with
 | nil =>
  intro t m m' x z y0 _ hw hu
  simp only [walkP, Option.some.injEq, TV.mk.injEq] at hw
  obtain ⟨rfl, rfl, _⟩ := hw
  simp only [updP, dite_true, Option.some.injEq] at hu
  subst hu
  exact ⟨trivial, rfl⟩
 | cons c p ih =>
  intro t m m' x z y0 hok hw hu
  cases c with
  | dr => simp [walkP] at hw
  | fld n =>
   simp only [okP, walkP, updP] at hok hw hu ⊢
   obtain ⟨tv, hf, hok⟩ := hok
   rw [hf] at hw
   obtain ⟨y1, h3, h4⟩ := (fieldK_updF (m := m) t x z 0 hu).1 _ hf
   have h4' : fieldOf t m z n = some ⟨tv.t, tv.m, y1⟩ := h4
   obtain ⟨h5, h6⟩ := ih _ _ _ _ _ _ hok hw h3
   rw [h4']
   exact ⟨⟨_, rfl, h5⟩, h6⟩
  | el i =>
   cases t with
   | sl e0 =>
    simp only [okP, walkP, updP] at hok hw hu ⊢
    split at hu
    ·rename_i z0 hz
     simp only [Option.some.injEq] at hu
     subst hu
     obtain ⟨h1, h2, h3⟩ := hok
     rw [List.getD_eq_getElem?_getD (l := List.set x i z0), List.getElem?_set_self h2]
     obtain ⟨h5, h6⟩ := ih _ _ _ _ _ _ h3 hw hz
     exact ⟨⟨h1, by simpa using h2, h5⟩, h6⟩
    ·cases hu
   | _ => simp [walkP] at hw

/-- what an update leaves of its owner -/
theorem upd_at {o o1 : Own} {p : List Stp} {t' : Ty} {m' : Md} {y0 y : den t'} (hok : o.ok p) (hat : o.at p = some ⟨t', m', y0⟩) (h : o.upd p t' y = some o1) : o1.ok p ∧ o1.at p = some ⟨t', m', y⟩ := by
 obtain ⟨ob, ot, om, ox⟩ := o
 cases ob with
 | false =>
  obtain ⟨z, hz, rfl⟩ := upd_ow rfl h
  simp only at hz
  cases p with
  | nil => exact walkP_updP [] ot om m' ox z y0 hok hat hz
  | cons c p => cases c <;> first | exact walkP_updP _ ot om m' ox z y0 hok hat hz | (simp [Own.at] at hat)
 | true =>
  obtain ⟨q, z, rfl, hz, rfl⟩ := upd_box rfl h
  exact walkP_updP q ot om m' ox z y0 hok hat hz

theorem own_newAV {a : AV} {n : Nat} {o o1 : Own} {p : List Stp} {t' : Ty} {y : den t'} (ho : own? a n = some o) (h : o.upd p t' y = some o1) : own? (newAV a o1 none) n = some o1 := by
 obtain ⟨ob, ot, om, ox⟩ := o
 rcases own?_ow ho with ⟨hb, hq⟩ | ⟨hb, n1, hq⟩
 ·simp only at hb; subst hb
  obtain ⟨z, hz, rfl⟩ := upd_ow rfl h
  rw [hq, newAV_ow]
  simp [own?]
 ·simp only at hb; subst hb
  obtain ⟨q, z, rfl, hz, rfl⟩ := upd_box rfl h
  rw [hq, newAV_box]
  simp [own?]

/-- what an update of a map asks and leaves -/
theorem updMap_sound (hI : Inv w0 mu st.get val U w g) {ty : Ty} {av : AV} {v : Value} {f : (k e : Ty) → List (den k × den e) → (List (den k × den e) → Option R) → Option R} {K : St → Option R} {r : R} (h : updMapD st ty av f K = some r) (hv : VR w g st.get av v) :
  ∃ (k e : Ty) (x : List (den k × den e)) (cont : List (den k × den e) → Option R) (B : Nat) (es : Array MapEntry) (c : Nat) (s n : Nat) (p : List Stp) (o : Own) (m : Md), ty = .mp k e ∧ flat k = true ∧ flat e = true ∧ f k e x cont = some r ∧ v = .map (some B) ∧ w.heap[B]? = some (.map es c) ∧ MapR k e es c x ∧
   av = .al s n p ∧ own? (st.get s) n = some o ∧ o.at p = some ⟨.mp k e, m, x⟩ ∧ g.H s p = .map (some B) ∧ g.col B = some (s, p) ∧
   ∀ y r', cont y = some r' → ∃ st', K st' = some r' ∧ st'.c = st.c ∧ (∃ o', own? (st'.get s) n = some o' ∧ o'.ok p ∧ o'.at p = some ⟨.mp k e, m, y⟩) ∧ ∀ es' c', MapR k e es' c' y → ∀ w', MapW w w' B es' c' → Inv w0 mu st'.get val U w' g := by
 unfold updMapD at h
 split at h
 ·rename_i s n p
  split at h
  ·rename_i o' ho
   obtain ⟨k, e, m, x, hat, hm, h⟩ := Own.mp_some h
   obtain ⟨hg, h⟩ := guardK_some h
   simp only [Bool.and_eq_true] at hg
   obtain ⟨⟨⟨hnz, hna⟩, hk⟩, he⟩ := hg
   obtain ⟨rfl, hf0⟩ := sameTy_some h
   obtain ⟨h1, hok⟩ := hv o' ho
   obtain ⟨B, h2, h3⟩ := alias_map hI ho hok hat hm hnz
   have h3' := h3
   simp only [RR, hm] at h3'
   obtain ⟨q, h4, _, h5⟩ := h3'
   rw [h2] at h4
   have h4 : some (Value.map (some B)) = some (.map q) := h4
   simp only [Option.some.injEq, Value.map.injEq] at h4
   subst h4
   obtain ⟨_, h5b, es, c, h6, h7⟩ := h5
   refine ⟨k, e, x, _, B, es, c, s, n, p, o', m, rfl, hk, he, hf0, by rw [h1, h2], h6, h7, rfl, ho, hat, h2, h5b, fun y r' hy => ?_⟩
   split at hy
   ·rename_i o1 hup
    rw [AV.force_eq] at hy
    refine ⟨_, hy, rfl, ⟨o1, by rw [get_set, if_pos rfl]; exact own_newAV ho hup, upd_at hok hat hup⟩, fun es' c' hR w' hW => Inv_mapupd hI ho hok hat hm hnz h2 hup hna hW hR⟩
   ·cases hy
  ·cases h
 ·cases h

theorem MapR.keys {k e : Ty} {es : Array MapEntry} {c : Nat} {x : List (den k × den e)} (h : MapR k e es c x) : es.toList.map (·.key) = (x.map (·.1)).map (litV k) := by
 have := congrArg (List.map (·.1)) h.1
 simpa [Function.comp_def] using this

theorem mapUpdate_run {t : TypeId} {k e : Ty} {tk te : TypeId} (hu : P.underlying t = some (.map tk te)) (hK : KeyRun P tk k) (hf : flat k = true) {B : Nat} {es : Array MapEntry} {c : Nat} {x : List (den k × den e)} (hB : w.heap[B]? = some (.map es c)) (hR : MapR k e es c x) (y : den k) (v : den e) :
  ∃ es' c', (Instr.mapUpdate t (.map (some B)) (litV k y) (litV e v)).run P w = .ok () { w with heap := w.heap.setIfInBounds B (.map es' c') } ∧ MapR k e es' c' (insM k e x y v) := by
 obtain ⟨k1, k2, k3⟩ := hK w
 have hfind := k2 y es.toList (x.map (·.1)) hR.keys
 have hg : (getObj B).run P w = .ok (.map es c) w := by simp [getObj, Sem.run, hB]
 have hset : ∀ o' : Obj, (setObj B o').run P w = .ok () { w with heap := w.heap.setIfInBounds B o' } := fun o' => by simp [setObj, Sem.run, hB]
 rcases findE_spec (y := y) es.toList x 0 hR.1 with ⟨g1, g2, g3, _⟩ | ⟨j, en, z, g0, gx, g3, g4, g5, g6, g7, _, g9⟩
 ·rw [g1] at hfind
  refine ⟨es.push { key := litV k y, val := litV e v, born := c }, c + 1, ?_, ?_⟩
  ·simp only [Instr.mapUpdate, Sem.run_bind, run_underlying hu, hg, k1, hfind, Result.andThen_ok, hset]
  ·rw [g3]
   obtain ⟨h1, h2, h3⟩ := hR
   refine ⟨by simp [h1], ?_, fun en hen => ?_⟩
   ·simp only [Array.toList_push, List.map_append, List.map_cons, List.map_nil]
    rw [List.nodup_append]
    refine ⟨h2, by simp, fun b hb b' hb' => ?_⟩
    obtain ⟨en, hen, rfl⟩ := List.mem_map.1 hb
    simp only [List.mem_singleton] at hb'
    subst hb'
    exact Nat.ne_of_lt (h3 en hen)
   ·simp only [Array.toList_push, List.mem_append, List.mem_singleton] at hen
    rcases hen with hen | rfl
    ·exact Nat.lt_succ_of_lt (h3 en hen)
    ·exact Nat.lt_succ_self c
 ·rw [g3, Nat.zero_add] at hfind
  have hzy := eqD_eq k _ _ hf g9
  have hej : es[j]? = some en := by rw [← Array.getElem?_toList]; exact g0
  refine ⟨es.modify j fun e' => { e' with key := litV k y, val := litV e v }, c, ?_, ?_⟩
  ·have hkey : ((es[j]?).map (·.key)).getD (litV k y) = litV k y := by rw [hej]; simp [g5, hzy]
   simp only [Instr.mapUpdate, Sem.run_bind, run_underlying hu, hg, k1, hfind, Result.andThen_ok, hkey, k3, hset]
  ·rw [g7]
   obtain ⟨h1, h2, h3⟩ := hR
   have hmod : (es.modify j fun e' => { e' with key := litV k y, val := litV e v }).toList = es.toList.set j { en with key := litV k y, val := litV e v } := by
    apply List.ext_getElem?
    intro i
    rw [Array.getElem?_toList, Array.getElem?_modify, List.getElem?_set, ← Array.getElem?_toList]
    by_cases hij : j = i
    ·subst hij
     have hlt : j < es.toList.length := (List.getElem?_eq_some_iff.1 g0).1
     have hlt' : j < es.size := by simpa using hlt
     have he2 : es[j]'hlt' = en := by rw [Array.getElem?_eq_getElem hlt'] at hej; exact Option.some.inj hej
     simp [g0, hlt', he2]
    ·simp [hij]
   rw [MapR, hmod]
   refine ⟨?_, ?_, fun e' he' => ?_⟩
   ·rw [List.map_set, List.map_set, h1, hzy]
   ·rw [List.map_set]
    have : (es.toList.map (·.born)).set j en.born = es.toList.map (·.born) := by
     apply List.ext_getElem?
     intro i
     rw [List.getElem?_set]
     by_cases hij : j = i
     ·subst hij
      simp only [List.length_map, List.getElem?_map, g0, Option.map_some, if_true]
      rw [if_pos (List.getElem?_eq_some_iff.1 g0).1]
     ·simp [hij]
    rw [this]; exact h2
   ·rcases List.mem_or_eq_of_mem_set he' with he' | rfl
    ·exact h3 e' he'
    ·exact h3 en (List.mem_of_getElem? g0)

theorem findE_push {k : Ty} {y : den k} (hy : eqD k y y = true) (en : MapEntry) : ∀ (es : List MapEntry) (xs : List (den k)) (i : Nat), es.length = xs.length → findE k y es xs i = none → findE k y (es ++ [en]) (xs ++ [y]) i = some (i + es.length, en.val)
 | [], [], i, _, _ => by simp only [List.nil_append, findE, hy]; rfl
 | [], _ :: _, _, h, _ => by simp at h
 | _ :: _, [], _, h, _ => by simp at h
 | e :: es, x :: xs, i, h, hn => by
  simp only [findE] at hn
  simp only [List.cons_append, findE]
  cases hb : eqD k x y with
  | true => rw [hb] at hn; cases hn
  | false =>
   rw [hb] at hn
   simp only at hn ⊢
   rw [findE_push hy en es xs (i + 1) (by simpa using h) hn]
   congr 2
   simp only [List.length_cons]; omega

/-- an entry is looked up, or made -/
theorem mapEntry_run {t : TypeId} {k e : Ty} {tk te : TypeId} (hu : P.underlying t = some (.map tk te)) (hK : KeyRun P tk k) (hTe : TM P e te) (hf : flat k = true) (hfe : flat e = true) {B : Nat} {es : Array MapEntry} {c : Nat} {x : List (den k × den e)} (hB : w.heap[B]? = some (.map es c)) (hR : MapR k e es c x) (y : den k) :
  ∃ es' c' j en v1 v2, (Instr.mapEntry t (.map (some B)) (litV k y)).run P w = .ok (.tuple #[v2, goInt en.born]) { w with heap := w.heap.setIfInBounds B (.map es' c') } ∧
   MapR k e es' c' (insM k e x y ((getM k e x y).getD (dflt e))) ∧ findE k y es'.toList ((insM k e x y ((getM k e x y).getD (dflt e))).map (·.1)) 0 = some (j, v1) ∧ es'[j]? = some en := by
 obtain ⟨k1, k2, k3⟩ := hK w
 have hfind := k2 y es.toList (x.map (·.1)) hR.keys
 have hg : (getObj B).run P w = .ok (.map es c) w := by simp [getObj, Sem.run, hB]
 have hset : ∀ o' : Obj, (setObj B o').run P w = .ok () { w with heap := w.heap.setIfInBounds B o' } := fun o' => by simp [setObj, Sem.run, hB]
 rcases findE_spec (y := y) es.toList x 0 hR.1 with ⟨g1, g2, g3, _⟩ | ⟨j, en, z, g0, gx, g3, g4, g5, g6, g7, _, g9⟩
 ·rw [g1] at hfind
  refine ⟨es.push { key := litV k y, val := litV e (dflt e), born := c }, c + 1, es.size, { key := litV k y, val := litV e (dflt e), born := c }, litV e (dflt e), litV e (dflt e), ?_, ?_, ?_, by simp⟩
  ·simp only [Instr.mapEntry, Sem.run_bind, run_underlying hu, hg, k1, hfind, Result.andThen_ok, zero_lit hTe hfe, hset, Sem.run_pure]
  ·rw [g3, g2]
   obtain ⟨h1, h2, h3⟩ := hR
   refine ⟨by simp [h1], ?_, fun en hen => ?_⟩
   ·simp only [Array.toList_push, List.map_append, List.map_cons, List.map_nil]
    rw [List.nodup_append]
    refine ⟨h2, by simp, fun b hb b' hb' => ?_⟩
    obtain ⟨en, hen, rfl⟩ := List.mem_map.1 hb
    simp only [List.mem_singleton] at hb'
    subst hb'
    exact Nat.ne_of_lt (h3 en hen)
   ·simp only [Array.toList_push, List.mem_append, List.mem_singleton] at hen
    rcases hen with hen | rfl
    ·exact Nat.lt_succ_of_lt (h3 en hen)
    ·exact Nat.lt_succ_self c
  ·rw [g3, Array.toList_push, List.map_append]
   have hl : es.toList.length = (x.map (·.1)).length := by
    have := congrArg List.length hR.1
    simpa using this
   have := findE_push (eqD_refl k y hf) { key := litV k y, val := litV e (dflt e), born := c } es.toList (x.map (·.1)) 0 hl g1
   rw [Nat.zero_add, Array.length_toList] at this
   exact this
 ·rw [g3, Nat.zero_add] at hfind
  have hzy := eqD_eq k _ _ hf g9
  have hej : es[j]? = some en := by rw [← Array.getElem?_toList]; exact g0
  have hkey : ((es[j]?).map (·.key)).getD (litV k y) = litV k y := by rw [hej]; simp [g5, hzy]
  have hborn : ((es[j]?).map (fun x => (x.born : Int))).getD 0 = en.born := by rw [hej]; rfl
  have hmod : (es.modify j fun e' => { e' with key := litV k y }) = es := by
   apply Array.ext_getElem?
   intro i
   rw [Array.getElem?_modify]
   by_cases hij : j = i
   ·subst hij
    rw [if_pos rfl, hej]
    have : ({ en with key := litV k y } : MapEntry) = en := by
     have : en.key = litV k y := by rw [g5, hzy]
     rw [← this]
    simp only [Option.map_some, this]
   ·rw [if_neg hij]
  have hx : insM k e x y ((getM k e x y).getD (dflt e)) = x := by
   rw [g7, g4]
   apply List.ext_getElem?
   intro i
   rw [List.getElem?_set]
   by_cases hij : j = i
   ·subst hij
    rw [if_pos rfl, if_pos (List.getElem?_eq_some_iff.1 gx).1, gx]
    rfl
   ·rw [if_neg hij]
  refine ⟨es, c, j, en, en.val, en.val, ?_, by rw [hx]; exact hR, by rw [hx, g3, Nat.zero_add], hej⟩
  simp only [Instr.mapEntry, Sem.run_bind, run_underlying hu, hg, k1, hfind, Result.andThen_ok, hkey, k3, hset, Sem.run_pure, hmod, hborn]

/-- the entry gets its value -/
theorem entryStore_run {t : TypeId} {k e : Ty} {B : Nat} {es : Array MapEntry} {c : Nat} {x : List (den k × den e)} (hf : flat k = true) (hB : w.heap[B]? = some (.map es c)) (hR : MapR k e es c x) {y : den k} {j : Nat} {v1 : Value} {en : MapEntry} (hj : findE k y es.toList (x.map (·.1)) 0 = some (j, v1)) (hen : es[j]? = some en) (v : den e) :
  ∃ es' c', (Instr.entryStore t (.map (some B)) (goInt en.born) (litV e v)).run P w = .ok () { w with heap := w.heap.setIfInBounds B (.map es' c') } ∧ MapR k e es' c' (insM k e x y v) := by
 have hg : (getObj B).run P w = .ok (.map es c) w := by simp [getObj, Sem.run, hB]
 have hset : ∀ o' : Obj, (setObj B o').run P w = .ok () { w with heap := w.heap.setIfInBounds B o' } := fun o' => by simp [setObj, Sem.run, hB]
 rcases findE_spec (y := y) es.toList x 0 hR.1 with ⟨g1, _⟩ | ⟨j', en', z, g0, gx, g3, g4, g5, g6, g7, _, g9⟩
 ·rw [g1] at hj; cases hj
 ·rw [g3, Nat.zero_add] at hj
  simp only [Option.some.injEq, Prod.mk.injEq] at hj
  obtain ⟨rfl, rfl⟩ := hj
  have hej : es[j']? = some en' := by rw [← Array.getElem?_toList]; exact g0
  rw [hen] at hej
  obtain rfl := Option.some.inj hej
  obtain ⟨h1, h2, h3⟩ := hR
  have hlt : j' < es.size := (Array.getElem?_eq_some_iff.1 hen).1
  have hidx : es.findIdx? (fun e' => (e'.born : Int) == (en.born : Int)) = some j' := by
   rw [Array.findIdx?_eq_some_iff_getElem]
   refine ⟨hlt, ?_, fun i hi => ?_⟩
   ·have : es[j'] = en := by rw [Array.getElem?_eq_getElem hlt] at hen; exact Option.some.inj hen
    simp [this]
   ·have hne : es[i].born ≠ en.born := fun hb => by
     have hi' : i < es.toList.length := by simp; omega
     have hj' : j' < es.toList.length := by simpa using hlt
     have e1 : (es.toList.map (·.born))[i]'(by simpa using hi') = (es.toList.map (·.born))[j']'(by simpa using hj') := by
      have e2 : es[j'] = en := by rw [Array.getElem?_eq_getElem hlt] at hen; exact Option.some.inj hen
      simp [hb, e2]
     have := (List.getElem_inj h2).1 e1
     omega
    simp only [Bool.not_eq_true, beq_eq_false_iff_ne, ne_eq]
    intro hb
    exact hne (by exact_mod_cast hb)
  refine ⟨es.modify j' fun e' => { e' with val := litV e v }, c, ?_, ?_⟩
  ·simp only [Instr.entryStore, Sem.run_bind, hg, Result.andThen_ok, goInt, Go.asInt, Go.asIntOf, Sem.run_pure, hidx, hset]
  ·rw [g7]
   have hmod : (es.modify j' fun e' => { e' with val := litV e v }).toList = es.toList.set j' { en with val := litV e v } := by
    apply List.ext_getElem?
    intro i
    rw [Array.getElem?_toList, Array.getElem?_modify, List.getElem?_set, ← Array.getElem?_toList]
    by_cases hij : j' = i
    ·subst hij
     have hlt2 : j' < es.toList.length := by simpa using hlt
     rw [if_pos rfl, if_pos rfl, if_pos hlt2, g0]
     rfl
    ·simp [hij]
   rw [MapR, hmod]
   refine ⟨?_, ?_, fun e' he' => ?_⟩
   ·rw [List.map_set, List.map_set, h1, g5]
   ·rw [List.map_set]
    have : (es.toList.map (·.born)).set j' en.born = es.toList.map (·.born) := by
     apply List.ext_getElem?
     intro i
     rw [List.getElem?_set]
     by_cases hij : j' = i
     ·subst hij
      simp only [List.length_map, List.getElem?_map, g0, Option.map_some, if_true]
      rw [if_pos (List.getElem?_eq_some_iff.1 g0).1]
     ·simp [hij]
    rw [this]; exact h2
   ·rcases List.mem_or_eq_of_mem_set he' with he' | rfl
    ·exact h3 e' he'
    ·exact h3 en (List.mem_of_getElem? g0)

theorem map_erase {α β : Type} (f : α → β) : ∀ (l : List α) (j : Nat), (l.eraseIdx j).map f = (l.map f).eraseIdx j
 | [], _ => rfl
 | _ :: _, 0 => rfl
 | x :: l, j + 1 => by simp [List.eraseIdx, map_erase f l j]

theorem delete_run {t u ty : TypeId} {k e : Ty} {tk te : TypeId} (hu : P.underlying t = some (.map tk te)) (hK : KeyRun P tk k) {B : Nat} {es : Array MapEntry} {c : Nat} {x : List (den k × den e)} (hB : w.heap[B]? = some (.map es c)) (hR : MapR k e es c x) (y : den k) (l : List TypeId) :
  ∃ es' c', (Builtin.delete_ (t :: l).toArray ty #[.map (some B), litV k y]).run P w = .ok (.tuple #[]) { w with heap := w.heap.setIfInBounds B (.map es' c') } ∧ MapR k e es' c' (delM k e x y) := by
 obtain ⟨k1, k2, k3⟩ := hK w
 have hfind := k2 y es.toList (x.map (·.1)) hR.keys
 have hg : (getObj B).run P w = .ok (.map es c) w := by simp [getObj, Sem.run, hB]
 have hset : ∀ o' : Obj, (setObj B o').run P w = .ok () { w with heap := w.heap.setIfInBounds B o' } := fun o' => by simp [setObj, Sem.run, hB]
 rcases findE_spec (y := y) es.toList x 0 hR.1 with ⟨g1, g2, _, g4⟩ | ⟨j, en, z, g0, gx, g3, _, _, _, _, g8, _⟩
 ·rw [g1] at hfind
  refine ⟨es, c, ?_, by rw [g4]; exact hR⟩
  simp [Builtin.delete_, run_underlying hu, hg, k1, hfind, hset]
 ·rw [g3, Nat.zero_add] at hfind
  refine ⟨es.eraseIdxIfInBounds j, c, ?_, ?_⟩
  ·simp [Builtin.delete_, run_underlying hu, hg, k1, hfind, hset]
  ·rw [g8]
   obtain ⟨h1, h2, h3⟩ := hR
   have hlt : j < es.size := by
    have := (List.getElem?_eq_some_iff.1 g0).1
    simpa using this
   have hl : (es.eraseIdxIfInBounds j).toList = es.toList.eraseIdx j := by
    simp [Array.eraseIdxIfInBounds, hlt]
   rw [MapR, hl]
   refine ⟨by rw [map_erase, h1, map_erase], ?_, fun e' he' => h3 e' (List.mem_of_mem_eraseIdx he')⟩
   rw [map_erase]
   exact h2.sublist (List.eraseIdx_sublist _ _)

theorem step_mapUpdate (hT : TabOK P T) (hU : New U st.c) (hI : Inv w0 mu st.get (Vals a) U w g) (hd : DstOK mu o a) {t : TypeId} {x i y : Operand} (ho : o.op = .mapUpdate t x i y ∨ o.op = .insert t x i y) (h : step T Φ o st K = some r) : StepOK P w0 mu (Nw U st.c) o a w K r := by
 have h' : (match T.ty t with
  | some ty => opd st x fun a => opd st i fun b => opd st y fun c => updMapD st ty a (fun k e xs f => keyD k b fun kv => keyD e c fun ev => f (insM k e xs kv ev)) fun st => K .dead st
  | none => none) = some r := by
  unfold step at h
  rcases ho with ho | ho <;> rw [ho] at h <;> exact h
 clear h
 split at h'
 ·rename_i ty hty
  obtain ⟨av, h1, hv, _, _⟩ := opd_sound hI h'
  obtain ⟨bv, h2, hb, _, _⟩ := opd_sound hI h1
  obtain ⟨cv, h3, hc, _, _⟩ := opd_sound hI h2
  obtain ⟨k, e, xs, cont, B, es, c, _, _, _, _, _, rfl, hk, he, h4, hvm, hB, hR, _, _, _, _, _, hcont⟩ := updMap_sound hI h3 hv
  obtain ⟨ky, h5, hky⟩ := keyD_sound hk h4 hb
  obtain ⟨ev, h6, hev⟩ := keyD_sound he h5 hc
  obtain ⟨st', h7, hc', _, hinv⟩ := hcont _ _ h6
  obtain ⟨tk, te, hu, hK, _, _⟩ := tab_map hT hty
  obtain ⟨es', c', hrun, hR'⟩ := mapUpdate_run (w := w) hu hK hk hB hR ky ev
  rw [← hvm, ← hky, ← hev] at hrun
  have hI' := hinv es' c' hR' _ (mapW_set hB)
  refine ⟨_, _, h7, fun next Q hn => K_done hd ?_ (hI'.monoU fun _ => Nw_old) hn⟩
  rcases ho with ho | ho <;> simp only [execOp, ho, Sem.run_bind, hrun] <;> rfl
 ·cases h'

theorem keyD_eq {k : Ty} {av : AV} {f : den k → Option R} {r : R} (h : keyD k av f = some r) : ∃ m y, av = .v k m y ∧ f y = some r := by
 unfold keyD at h
 split at h
 ·rename_i t m y
  split at h
  ·rename_i ht; subst ht
   exact ⟨m, y, rfl, h⟩
  ·cases h
 ·cases h

theorem step_mapEntry (hT : TabOK P T) (hU : New U st.c) (hI : Inv w0 mu st.get (Vals a) U w g) (hd : DstOK mu o a) {t : TypeId} {x i : Operand} (ho : o.op = .mapEntry t x i) (h : step T Φ o st K = some r) : StepOK P w0 mu (Nw U st.c) o a w K r := by
 unfold step at h; rw [ho] at h; simp only at h
 split at h
 ·rename_i k e hty
  obtain ⟨av, h1, hv, hst, _⟩ := opd_sound hI h
  obtain ⟨bv, h2, hb, _, _⟩ := opd_sound hI h1
  clear h h1
  split at h2
  ·rename_i s n p _
   obtain ⟨mb, y, rfl, h3⟩ := keyD_eq h2
   clear h2
   obtain ⟨k', e', xs, cont, B, es, c, s', n', p', o', m, hke, hk, he, h4, hvm, hB, hR, hal, hown, hat, hH, hcol, hcont⟩ := updMap_sound hI h3 hv
   cases hke
   cases hal
   obtain ⟨mb', y', hy', h5⟩ := keyD_eq h4
   cases hy'
   obtain ⟨st', h7, hc', ⟨o1, ho1, hok1, hat1⟩, hinv⟩ := hcont _ _ h5
   obtain ⟨d, hdst, hK⟩ := ownK_some h7
   obtain ⟨d1, d2⟩ := hd d hdst
   obtain ⟨tk, te, hu, hKR, _, hTe⟩ := tab_map hT hty
   have hky : a.eval i = litV k y := flat_lit hk hb.2.1 hb.2.2
   obtain ⟨es', c', j, en, v1, v2, hrun, hR', hj, hen⟩ := mapEntry_run (w := w) hu hKR hTe hk he hB hR y
   rw [← hvm, ← hky] at hrun
   have hW := mapW_set (w := w) (es := es') (c := c') hB
   have hI' := hinv es' c' hR' _ hW
   refine ⟨_, _, hK, fun next Q hn => M_done hdst d1 (exec_v (by simp only [execOp, ho] <;> rfl) hrun) (g' := g) ?_ hn⟩
   have := Inv_put hI' d d (.ent s n p k y true) (.tuple #[v2, goInt en.born]) (U' := Nw U st.c) (fun _ => Nw_old) (Nat.le_refl _) (fun b l0 _ hb => ⟨rfl, hb⟩) (fun b s r _ _ _ => ⟨rfl, rfl⟩) (fun _ _ _ _ => rfl) (fun _ _ _ _ => rfl)
    ⟨en.born, v2, rfl, fun o2 ho2 => by
     simp only at ho2
     split at ho2
     ·cases ho2
     ·rw [ho1] at ho2
      cases ho2
      exact ⟨hok1, e, m, _, B, c', j, es', en, v1, hat1, hH, hcol, hW.new, hj, hen, rfl⟩⟩ (Nw_old hst) (fun _ _ => rfl) (fun _ _ _ => rfl) hI'.cols hI'.fr d2 (fun _ h => h)
   refine Inv_congr this (fun u => ?_) (fun _ => rfl)
   by_cases hu : u = d <;> simp [hu]
  ·cases h2
 ·cases h

/-- a slot is given up -/
theorem Inv_drop (hI : Inv w0 mu st.get val U w g) {d : Nat} (hd : own? (st.get d) = fun _ => none) (hp : ∀ n p, ownP? (st.get d) n p = none) : Inv w0 mu (st.set d .dead).get val U w g := by
 refine Inv_upd hI (fun u => u = d) (fun _ h => h) (Nat.le_refl _) (fun b l0 _ hb => ⟨rfl, hb⟩) (fun u hu => ⟨by rw [get_set, if_neg hu], rfl, fun _ _ _ => ⟨rfl, rfl⟩, fun _ => rfl, fun _ => rfl⟩) ?_ ?_ (fun u hu => by subst hu; rw [get_set, if_pos rfl]; exact ⟨trivial, trivial⟩) hI.cols hI.fr
  (fun u hu => by rw [get_set]; split; rfl; exact hI.far u hu) (fun _ h => h) (.inl fun u hu n _ => by subst hu; rw [get_set, if_pos rfl]; rfl)
 ·intro u hu n _ o' ho'
  subst hu
  rw [get_set, if_pos rfl] at ho'
  cases ho'
 ·intro u hu n p _ o' ho'
  subst hu
  rw [get_set, if_pos rfl] at ho'
  cases ho'

theorem step_entryStore (hT : TabOK P T) (hU : New U st.c) (hI : Inv w0 mu st.get (Vals a) U w g) (hd : DstOK mu o a) {t : TypeId} {x z y : Operand} (ho : o.op = .entryStore t x z y) (h : step T Φ o st K = some r) : StepOK P w0 mu (Nw U st.c) o a w K r := by
 unfold step at h; rw [ho] at h; simp only at h
 split at h
 ·rename_i d
  split at h
  ·rename_i ty s n p kt kv hty hq
   have hsd := hI.slots d
   rw [hq] at hsd
   obtain ⟨born, v2, hvd, hent⟩ := hsd
   have hI1 : Inv w0 mu (st.set d .dead).get (Vals a) U w g := Inv_drop hI (by rw [hq]; rfl) (fun n p => by rw [hq]; rfl)
   obtain ⟨av, h1, hv, _, _⟩ := opd_sound hI1 h
   obtain ⟨cv, h2, hc, _, _⟩ := opd_sound hI1 h1
   clear h h1
   split at h2
   ·rename_i s1 n1 p1
    obtain ⟨hg, h3⟩ := guardB_some h2
    clear h2
    simp only [Bool.and_eq_true, Bool.not_eq_true'] at hg
    obtain ⟨⟨⟨hg1, hg2⟩, hg3⟩, hg4⟩ := hg
    have hg1 := Nat.eq_of_beq_eq_true hg1
    have hg2 := Nat.eq_of_beq_eq_true hg2
    have hg3 := eqP_ok hg3
    subst hg1 hg2 hg3
    have hds : s ≠ d := fun h => by subst h; simp at hg4
    obtain ⟨k, e, xs, cont, B, es, c, s', n', p', o', m, rfl, hk, he, h4, hvm, hB, hR, hal, hown, hat, hH, hcol, hcont⟩ := updMap_sound hI1 h3 hv
    cases hal
    obtain ⟨mk, yk, hyk, h5⟩ := keyD_eq h4
    cases hyk
    obtain ⟨ev, h6, hev⟩ := keyD_sound he h5 hc
    obtain ⟨st', h7, hc', _, hinv⟩ := hcont _ _ h6
    rw [get_set, if_neg hds] at hown
    obtain ⟨_, e2, m2, x2, B2, c2, j, es2, en, v1, q1, q2, q3, q4, q5, q6, q7⟩ := hent o' hown
    rw [hat] at q1
    cases q1
    rw [hH] at q2
    cases q2
    rw [hB] at q4
    cases q4
    obtain ⟨es', c', hrun, hR'⟩ := entryStore_run (P := P) (t := t) (w := w) hk hB hR q5 q6 ev
    have hst : a.eval (.tmp d) = goInt en.born := by
     have h0 : a.eval (.tmp d) = goInt born := hvd
     rw [h0, q7]
    rw [← hvm, ← hev, ← hst] at hrun
    have hI' := hinv es' c' hR' _ (mapW_set hB)
    refine ⟨_, _, h7, fun next Q hn => K_done hd ?_ (hI'.monoU fun _ => Nw_old) hn⟩
    simp only [execOp, ho, Sem.run_bind, hrun]; rfl
   ·cases h2
  ·cases h
 ·cases h

theorem step_delete (hT : TabOK P T) (hU : New U st.c) (hI : Inv w0 mu st.get (Vals a) U w g) (hd : DstOK mu o a) {c : Call} (ho : o.op = .call c) (hc : c.callee = .builtin .delete) (h : step T Φ o st K = some r) : StepOK P w0 mu (Nw U st.c) o a w K r := by
 unfold step at h; rw [ho] at h; simp only [hc] at h
 split at h
 ·rename_i x i t l hx ht
  split at h
  ·rename_i ty hty
   obtain ⟨av, h1, hv, _, _⟩ := opd_sound hI h
   obtain ⟨bv, h2, hb, _, _⟩ := opd_sound hI h1
   obtain ⟨k, e, xs, cont, B, es, c0, _, _, _, _, _, rfl, hk, he, h4, hvm, hB, hR, _, _, _, _, _, hcont⟩ := updMap_sound hI h2 hv
   obtain ⟨ky, h5, hky⟩ := keyD_sound hk h4 hb
   obtain ⟨st', h7, hc', _, hinv⟩ := hcont _ _ h5
   obtain ⟨tk, te, hu, hK, _, _⟩ := tab_map hT hty
   obtain ⟨es', c', hrun, hR'⟩ := delete_run (u := t) (ty := o.type) (w := w) hu hK hB hR ky l
   have hI' := hinv es' c' hR' _ (mapW_set hB)
   obtain ⟨cs, hexec⟩ := exec_builtin (ρ := a.eval) ho hc
   have hx' : c.args = #[x, i] := toList_two hx
   have ht' : c.argTypes = (t :: l).toArray := by rw [← ht]
   rw [hx', ht'] at hexec
   simp only [List.map_toArray, List.map_cons, List.map_nil] at hexec
   rw [← hvm, ← hky] at hrun
   exact ⟨_, _, h7, fun next Q hn => V_done hd (exec_v hexec hrun) (hI'.monoU fun _ => Nw_old) (av := .dead) trivial trivial rfl hn⟩
  ·cases h
 ·cases h

/-- a new map -/
def Gh.mapped (g : Gh) (d b : Nat) : Gh where
 col b' := if b' = b then some (d, []) else g.col b'
 H s q := if s = d then .map (some b) else g.H s q
 A := g.A

theorem step_makeMap (hU : New U st.c) (hI : Inv w0 mu st.get (Vals a) U w g) (hd : DstOK mu o a) {t : TypeId} {x : Option Operand} (ho : o.op = .makeMap t x) (h : step T Φ o st K = some r) : StepOK P w0 mu (Nw U st.c) o a w K r := by
 unfold step at h; rw [ho] at h
 cases x with
 | some x => cases h
 | none =>
  simp only at h
  split at h
  ·rename_i k e hty
   obtain ⟨hf, h⟩ := guardK_some h
   obtain ⟨d, hdst, hK⟩ := ownK_some h
   obtain ⟨h1, h2⟩ := hd d hdst
   refine ⟨_, _, hK, fun next Q hn => M_done hdst h1 (v := .map (some w.heap.size)) (w' := w.alloc (.map #[] 0)) (by simp [execOp, ho, Instr.makeMap]) (g' := g.mapped d w.heap.size) ?_ hn⟩
   have hsh : ∀ b l0, b < w.heap.size → shared g.col l0 b → (w.alloc (.map #[] 0)).heap[b]? = w.heap[b]? ∧ shared (g.mapped d w.heap.size).col l0 b := by
    intro b l0 hb hs
    refine ⟨alloc_old hb, ?_⟩
    have : b ≠ w.heap.size := Nat.ne_of_lt hb
    simp only [shared, Gh.mapped, this, if_false]; exact hs
   have := Inv_put hI d d (.ow st.c (.mp k e) (.own true (.bor false false)) []) (.map (some w.heap.size)) (U' := Nw U st.c) (w' := w.alloc (.map #[] 0)) (g' := g.mapped d w.heap.size)
    (fun _ => Nw_old) (by simp) hsh ?_ ?_ ?_ ?_ Nw_0 (fun n hn => own?_new hU hn) (fun n p hn => ownP?_new hU hn) ?_ (Fr_alloc hI.fr _) h2 (fun b hb => by
     have : b ≠ w.heap.size := Nat.ne_of_lt (hI.cols b _ hb).1
     simp only [Gh.mapped, this, if_false]; exact hb)
   ·refine Inv_congr this (fun s => ?_) (fun _ => rfl)
    by_cases hs : s = d <;> simp [hs]
   ·intro b s q hb _ _
    have hb' := (hI.cols b _ hb).1
    refine ⟨alloc_old hb', ?_⟩
    have : b ≠ w.heap.size := Nat.ne_of_lt hb'
    simp only [Gh.mapped, this, if_false]
   ·intro s hs _ p; simp only [Gh.mapped, hs, if_false]
   ·intro s hs _ p; rfl
   ·refine ⟨rfl, ?_⟩
    simp only [RR, Md.isOwn, Md.nz?]
    refine ⟨some w.heap.size, rfl, (fun _ h => by cases h), by simp [Gh.mapped], by simp [Gh.mapped], #[], 0, alloc_new, ?_⟩
    exact ⟨rfl, List.nodup_nil, fun en hen => by simp at hen⟩
   ·intro b kk hk
    simp only [Gh.mapped] at hk
    split at hk
    ·rename_i hb; subst hb
     cases hk
     exact ⟨by simp, .inr (.inl hI.fr.size)⟩
    ·obtain ⟨g1, g2⟩ := hI.cols b kk hk
     exact ⟨by simp only [World.size_alloc]; omega, g2⟩
  ·cases h
end
end Go.Ab
