/- Struct and array literals. -/
import Derived.Test.YtokjogplnoeicaaAbCall0
namespace Go.Ab

section
variable {P : Program} {T : Tab} {Φ : Nat → Option Contract} {w0 w : World} {mu : Mu} {st : St} {a : Act} {g : Gh} {R : Type} {o : Oper} {K : AV → St → Option R} {r : R} {val : Nat → Value} {U : Nat → Prop}

theorem takeRo_sound {av : AV} {t : Ty} {k : Md → den t → St → Option R} {r : R} {v : Value} (h : takeRo st av t k = some r) (hI : Inv w0 mu st.get val U w g) (hv : VR w g st.get av v) :
  ∃ m y st1 g1, k m y st1 = some r ∧ st1.c = st.c ∧ Inv w0 mu st1.get val U w g1 ∧ VR w g1 st1.get (.v t m y) v ∧ Kept w g g1 := by
 unfold takeRo at h
 split at h
 ·split at h
  ·rename_i ht; subst ht
   exact ⟨_, _, st, g, h, rfl, hI, hv, Kept.refl⟩
  ·cases h
 ·obtain ⟨y, st1, g1, h1, h2⟩ := take_ro (m := .bor false false) h rfl hI hv
  exact ⟨_, y, st1, g1, h1, h2⟩

def pv (ρ : Operand → Value) : List (Nat × Operand) → Nat → Option Value
 | [], _ => none
 | (i, x) :: r, j => if i = j then some (ρ x) else pv ρ r j

theorem pv_none {ρ : Operand → Value} {l : List (Nat × Operand)} {i j : Nat} (h : ∀ p ∈ l, i ≤ p.1) (hj : j < i) : pv ρ l j = none := by
 induction l with
 | nil => rfl
 | cons p l ih =>
  obtain ⟨k, x⟩ := p
  have := h (k, x) (by simp)
  simp only [pv]
  rw [if_neg (by simp only at this; omega)]
  exact ih fun p hp => h p (List.mem_cons_of_mem _ hp)

/-- the parts of a literal, each taken -/
theorem partsF_sound {ρ : Operand → Value} (hρ : ∀ t, ρ (.tmp t) = val t) : ∀ (t : Ty) (fld : Nat → Option TypeId) (i : Nat) (ps : List (Nat × Operand)) (st : St) (g : Gh) (k : Md → den t → St → Option R) (r : R), (TM2 P t).2 fld i → partsF t i ps st k = some r →
  Inv w0 mu st.get val U w g → (∀ {st : St} {g : Gh} {x : Operand} {k : AV → Option R} {r : R}, Inv w0 mu st.get val U w g → opd st x k = some r → ∃ av, k av = some r ∧ VR w g st.get av (ρ x)) →
  ∃ m x st1 g1, k m x st1 = some r ∧ st1.c = st.c ∧ Inv w0 mu st1.get val U w g1 ∧ Kept w g g1 ∧ m.hasOwn = false ∧ (∀ p ∈ ps, (ρ p.2).cells = #[ρ p.2]) ∧
   (ps.Pairwise (fun p q => p.1 < q.1) ∧ ∀ p ∈ ps, i ≤ p.1 ∧ p.1 < i + sz t) ∧
   ∀ (cs : Array Value) (M : Md), (∀ j, fldMd M (i + j) = fldMd m j) → (∀ j, j < sz t → cs[i + j]? = (pv ρ ps (i + j)).or (zeros t)[j]?) → RR w g1 0 t M [] (.val cs) i x := by
 intro t
 induction t with
 | unit =>
  intro fld i ps st g k r _ h hI _
  cases ps with
  | nil => exact ⟨_, _, st, g, h, rfl, hI, Kept.refl, rfl, (fun p hp => by cases hp), ⟨List.Pairwise.nil, fun p hp => by cases hp⟩, fun _ _ _ _ => trivial⟩
  | cons p ps => cases h
 | pair a b _ ihb =>
  intro fld i ps st g k r hT h hI hop
  obtain ⟨hc, hcb, ta, hf1, hf2, hf3⟩ := hT
  have hsp : sz (.pair a b) = 1 + sz b := rfl
  obtain ⟨c, hz⟩ := zeros_cell hc
  have hskip : ∀ k', partsF b (i + 1) ps st k' = some r → (k' = fun ms ys st => k (.pair (.bor false true) ms) (dflt a, ys) st) → ∃ m x st1 g1, k m x st1 = some r ∧ st1.c = st.c ∧ Inv w0 mu st1.get val U w g1 ∧ Kept w g g1 ∧ m.hasOwn = false ∧ (∀ p ∈ ps, (ρ p.2).cells = #[ρ p.2]) ∧
   (ps.Pairwise (fun p q => p.1 < q.1) ∧ ∀ p ∈ ps, i ≤ p.1 ∧ p.1 < i + sz (.pair a b)) ∧
   ∀ (cs : Array Value) (M : Md), (∀ j, fldMd M (i + j) = fldMd m j) → (∀ j, j < sz (.pair a b) → cs[i + j]? = (pv ρ ps (i + j)).or (zeros (.pair a b))[j]?) → RR w g1 0 (.pair a b) M [] (.val cs) i x := by
   intro k' h hk'
   obtain ⟨ms, ys, st1, g1, h1, h2, h3, h4, h5, h6, h7, h8⟩ := ihb fld (i + 1) ps st g _ r hf3 h hI hop
   rw [hk'] at h1
   refine ⟨_, _, st1, g1, h1, h2, h3, h4, by simp [Md.hasOwn, h5], h6, ⟨h7.1, fun p hp => by have := h7.2 p hp; omega⟩, fun cs M hM hcs => ?_⟩
   have hm0 : fldMd M i = .bor false true := by have := hM 0; simpa [fldMd, Md.fst] using this
   simp only [RR]
   refine ⟨hc, hcb, (fun _ _ h => by cases h), ?_, h8 cs M (fun j => ?_) fun j hj => ?_⟩
   ·rw [hm0]
    have h9 := hcs 0 (by omega)
    rw [pv_none (i := i + 1) (fun p hp => (h7.2 p hp).1) (by omega)] at h9
    simp only [Nat.add_zero, zeros, hz, Option.none_or, List.cons_append, List.getElem?_cons_zero] at h9
    cases a with
    | int kd => simp only [zeros, List.cons.injEq] at hz; simp only [RR, rdS, dflt]; rw [h9, ← hz.1]
    | bool => simp only [zeros, List.cons.injEq] at hz; simp only [RR, rdS, dflt]; rw [h9, ← hz.1]
    | sl e =>
     simp only [zeros, List.cons.injEq] at hz
     simp only [RR, Md.isOwn, RO, dflt, rdS]
     rw [h9, ← hz.1]
     exact ⟨⟨none, 0, rfl, Nat.le_refl _, by simp⟩, fun _ _ => ⟨0, 0, rfl⟩⟩
    | mp kt et =>
     simp only [zeros, List.cons.injEq] at hz
     simp only [RR, Md.isOwn, RO, dflt, rdS]
     exact ⟨none, by rw [h9, ← hz.1], trivial⟩
    | bx e =>
     simp only [zeros, List.cons.injEq] at hz
     simp only [RR, Md.isOwn, RO, dflt, rdS]
     exact ⟨none, by rw [h9, ← hz.1], trivial⟩
    | _ => cases hc
   ·have := hM (j + 1)
    rw [show i + 1 + j = i + (j + 1) by omega, this]; rfl
   ·have := hcs (j + 1) (by omega)
    rw [show i + 1 + j = i + (j + 1) by omega, this]
    simp [zeros, hz]
  cases ps with
  | nil => exact hskip _ h rfl
  | cons p ps =>
   obtain ⟨j, x⟩ := p
   simp only [partsF] at h
   cases hij : Nat.beq i j with
   | true =>
    rw [hij] at h
    have := Nat.eq_of_beq_eq_true hij
    subst this
    simp only at h
    obtain ⟨av, h, hv⟩ := hop hI h
    obtain ⟨m0, y, st1, g1, h1, h2, h3, h4, h5⟩ := takeRo_sound h hI hv
    obtain ⟨ms, ys, st2, g2, h6, h7, h8, h9, h10, h11, h12, h13⟩ := ihb fld (i + 1) ps st1 g1 _ r hf3 h1 h3 hop
    have hx : (ρ x).cells = #[ρ x] := shape_cell hc h4.2.1
    refine ⟨_, _, st2, g2, h6, by rw [h7, h2], h8, h5.trans h9, by simp [Md.hasOwn, h10, h4.1], ?_, ⟨List.Pairwise.cons (fun q hq => ?_) h12.1, fun q hq => ?_⟩, fun cs M hM hcs => ?_⟩
    ·intro p hp
     rcases List.mem_cons.1 hp with rfl | hp
     ·exact hx
     ·exact h11 p hp
    ·have := (h12.2 q hq).1; simp only; omega
    ·rcases List.mem_cons.1 hq with rfl | hq
     ·simp only; omega
     ·have := h12.2 q hq; omega
    ·have hm0 : fldMd M i = m0 := by have := hM 0; simpa [fldMd, Md.fst] using this
     simp only [RR]
     refine ⟨hc, hcb, (fun _ _ h => by cases h), ?_, h13 cs M (fun j => ?_) fun j hj => ?_⟩
     ·rw [hm0]
      have h14 := hcs 0 (by omega)
      simp only [Nat.add_zero, pv, if_true, Option.some_or] at h14
      have h15 := (h9.free rfl h4 (av' := st2.get)).2.2
      refine RR_free (Nat.le_refl _) (fun b l0 _ hb => ⟨rfl, hb⟩) a m0 [] _ _ cs 0 i y h15 h4.1 (fun h => by rw [hc] at h; cases h) fun j hj => ?_
      rw [sz_cell hc] at hj
      have : j = 0 := by omega
      subst this
      rw [Nat.add_zero, h14, hx]; rfl
     ·have := hM (j + 1)
      rw [show i + 1 + j = i + (j + 1) by omega, this]; rfl
     ·have := hcs (j + 1) (by omega)
      rw [show i + 1 + j = i + (j + 1) by omega, this]
      simp only [pv, zeros, hz, List.cons_append, List.nil_append, List.getElem?_cons_succ]
      rw [if_neg (by omega)]
   | false =>
    rw [hij] at h
    exact hskip _ h rfl
 | _ => intro fld i ps st g k r hT; exact hT.elim

theorem fill_sound {place : Nat → Option (Nat × Nat)} {n : Nat} (hp : ∀ j, j < n → place j = some (j, 1)) {ρ : Operand → Value} : ∀ (ps : List (Nat × Operand)) (cells : Array Value), cells.size = n → (∀ p ∈ ps, p.1 < n) → ps.Pairwise (fun p q => p.1 < q.1) →
  (∀ p ∈ ps, (ρ p.2).cells = #[ρ p.2]) → ∃ cells', Instr.fill place cells (ps.map fun p => (p.1, ρ p.2)) = some cells' ∧ cells'.size = n ∧ ∀ j, j < n → cells'[j]? = (pv ρ ps j).or cells[j]? := by
 intro ps
 induction ps with
 | nil => intro cells hn _ _ _; exact ⟨cells, rfl, hn, fun j _ => by simp [pv]⟩
 | cons p ps ih =>
  intro cells hn hlt hpw hc
  obtain ⟨i, x⟩ := p
  have hi : i < n := hlt (i, x) (by simp)
  have hx : (ρ x).cells = #[ρ x] := hc (i, x) (by simp)
  obtain ⟨cells', h1, h2, h3⟩ := ih (cells.setIfInBounds i (ρ x)) (by simpa using hn) (fun p hp => hlt p (List.mem_cons_of_mem _ hp)) (List.pairwise_cons.1 hpw).2 (fun p hp => hc p (List.mem_cons_of_mem _ hp))
  refine ⟨cells', ?_, h2, fun j hj => ?_⟩
  ·simp only [List.map_cons, Instr.fill, hp i hi, hx]
   have : ¬ (i + 1 > cells.size) := by omega
   simp only [Array.size, List.length, bne_self_eq_false, Bool.false_or]
   simp [this, h1]
  ·rw [h3 j hj]
   simp only [pv]
   by_cases hij : i = j
   ·subst hij
    rw [pv_none (i := i + 1) (fun p hp => by have := (List.pairwise_cons.1 hpw).1 p hp; exact this) (by omega)]
    simp [hn, hj]
   ·rw [if_neg hij, Array.getElem?_setIfInBounds_ne hij]

theorem TM2_fld : ∀ (t : Ty) (fld : Nat → Option TypeId) (k : Nat), (TM2 P t).2 fld k → ∀ j, k ≤ j → j < k + sz t → ∃ tf ty, fld j = some tf ∧ isCell ty = true ∧ TM P ty tf := by
 intro t
 induction t with
 | pair a b _ ihb =>
  intro fld k hT j h1 h2
  obtain ⟨hc, hcb, ta, hf1, hf2, hf3⟩ := hT
  have hsp : sz (.pair a b) = 1 + sz b := rfl
  by_cases hk : j = k
  ·subst hk; exact ⟨ta, a, hf1, hc, hf2⟩
  ·exact ihb fld (k + 1) hf3 j (by omega) (by omega)
 | unit => intro fld k _ j h1 h2; simp [sz] at h2; omega
 | _ => intro fld k hT; exact hT.elim

theorem mapM_some {α β : Type} {q : Nat → β} {f : α → Option β} : ∀ (l : List α) (k : Nat), (∀ (j : Nat) (x : α), l[j]? = some x → f x = some (q (k + j))) → l.mapM f = some ((List.range l.length).map fun j => q (k + j)) := by
 intro l
 induction l with
 | nil => intro k _; rfl
 | cons x l ih =>
  intro k h
  have h0 := h 0 x rfl
  have h1 := ih (k + 1) fun j y hy => by have := h (j + 1) y hy; rw [this]; congr 2; omega
  rw [List.mapM_cons, h0, h1, List.length_cons, List.range_succ_eq_map]
  simp only [List.map_cons, List.map_map, Option.bind_eq_bind, Option.bind_some, Option.pure_def, Option.some.injEq, List.cons.injEq, true_and, Nat.add_zero]
  refine List.map_congr_left fun j _ => ?_
  simp only [Function.comp]
  congr 1; omega

/-- a struct's literal -/
theorem build_cells {ρ : Operand → Value} {t : TypeId} {ta tb : Ty} {i : TypeInfo} {z : Value} {ps : Array (Nat × Operand)} {fld : Nat → Option TypeId} {ta1 : TypeId} (hi : P.info? t = some i) (hz : i.zero = some z) (hzc : z.cells.toList = zeros (.pair ta tb)) (hzl : z.cells.size = sz (.pair ta tb))
  (hF : FieldsOf P t fld (1 + sz tb)) (hc : isCell ta = true) (hcb : isCell tb = false) (hf1 : fld 0 = some ta1) (hf2 : TM P ta ta1) (hf3 : (TM2 P tb).2 fld 1)
  (hlt' : ∀ p ∈ ps.toList, p.1 < sz (.pair ta tb)) (hpw : ps.toList.Pairwise (fun p q => p.1 < q.1)) (hcells : ∀ p ∈ ps.toList, (ρ p.2).cells = #[ρ p.2]) :
  ∃ cs, (Instr.build t (ps.map fun (i, x) => (i, ρ x))).run P w = .ok (.agg cs) w ∧ cs.size = sz (.pair ta tb) ∧ ∀ j, j < sz (.pair ta tb) → cs[j]? = (pv ρ ps.toList j).or (zeros (.pair ta tb))[j]? := by
  have hparts : (ps.map fun (i, x) => (i, ρ x)).toList = ps.toList.map fun p => (p.1, ρ p.2) := by simp
  have hzj : ∀ j : Nat, z.cells[j]? = (zeros (.pair ta tb))[j]? := fun j => by rw [← hzc]; simp
  rcases hF with ⟨fs, h9, h10, h11⟩ | ⟨h10, te, h9, ⟨ie, hie, hie1⟩, h11⟩
  ·have hplaces : fs.toList.mapM (fun f => (P.info? f.type).map fun i => (f.offset, i.size)) = some ((List.range fs.toList.length).map fun j => (0 + j, 1)) := by
    refine mapM_some (q := fun j => (j, 1)) fs.toList 0 fun j f hf => ?_
    have hj : j < 1 + sz tb := by
     have := (List.getElem?_eq_some_iff.1 hf).1
     simpa [h10] using this
    obtain ⟨f', h12, h13, h14⟩ := h11 j hj
    have : f' = f := by rw [Array.getElem?_toList] at hf; rw [hf] at h12; exact (Option.some.inj h12).symm
    subst this
    obtain ⟨tf, ty', h15, h16, h17⟩ := TM2_fld (P := P) (.pair ta tb) fld 0 ⟨hc, hcb, ta1, hf1, hf2, hf3⟩ j (Nat.zero_le _) (by simp [sz]; omega)
    rw [h14] at h15
    obtain rfl := Option.some.inj h15
    obtain ⟨i', h18, h19, _⟩ := TM_info h17
    rw [h18]
    simp only [Option.map_some, h13, Nat.zero_add, h19, sz_cell h16]
   obtain ⟨cs, h12, h13, h14⟩ := fill_sound (n := sz (.pair ta tb)) (place := ((((List.range fs.toList.length).map fun j => (0 + j, 1)).toArray)[·]?)) (fun j hj => by
     have hj' : j < fs.size := by rw [h10]; simpa [sz] using hj
     simp [hj']) (ρ := ρ) ps.toList z.cells hzl hlt' hpw hcells
   refine ⟨cs, run_build w t _ cs ?_, h13, fun j hj => by rw [h14 j hj, hzj]⟩
   simp only [Program.built, hi, h9, hz, hplaces, hparts]
   exact h12
  ·obtain ⟨cs, h12, h13, h14⟩ := fill_sound (n := sz (.pair ta tb)) (place := fun i => some (i * 1, 1)) (fun j hj => by simp) (ρ := ρ) ps.toList z.cells hzl hlt' hpw hcells
   refine ⟨cs, run_build w t _ cs ?_, h13, fun j hj => by rw [h14 j hj, hzj]⟩
   simp only [Program.built, hi, h9, hz, hie, hie1, hparts]
   exact h12

theorem step_build (hT : TabOK P T) (hI : Inv w0 mu st.get (Vals a) U w g) (hd : DstOK mu o a) {t : TypeId} {ps : Array (Nat × Operand)} (ho : o.op = .build t ps) (hmd : (T.md t).hasOwn = false) (h : step T Φ o st K = some r) : StepOK P w0 mu (Nw U st.c) o a w K r := by
 unfold step at h; rw [ho] at h; simp only at h
 split at h
 ·rename_i ty ht
  rw [hmd] at h
  simp only at h
  have hTM := ((hT _).1 _ ht).1
  obtain ⟨i, z, hi, hz, hsz, _, hzc, hzs⟩ := TM_zero hTM
  cases ty with
  | pair ta tb =>
   obtain ⟨fld, _, _, hF, hc, hcb, ⟨ta1, hf1, hf2, hf3⟩, _⟩ := hTM
   obtain ⟨m, x, st1, g1, hK, hc1, hI1, hk1, hm, hcells, ⟨hpw, hlt⟩, hrr⟩ := partsF_sound (P := P) (ρ := a.eval) (fun _ => rfl) (.pair ta tb) fld 0 ps.toList st g _ r ⟨hc, hcb, ta1, hf1, hf2, hf3⟩ h hI
    (fun hI h => by obtain ⟨av, h1, h2, _⟩ := opd_sound hI h; exact ⟨av, h1, h2⟩)
   have hzl : z.cells.size = sz (.pair ta tb) := shape_size hzs
   have hlt' : ∀ p ∈ ps.toList, p.1 < sz (.pair ta tb) := fun p hp => by have := (hlt p hp).2; omega
   have hrun := build_cells (w := w) (ρ := a.eval) hi hz hzc hzl hF hc hcb hf1 hf2 hf3 hlt' hpw hcells
   obtain ⟨cs, h1, h2, h3⟩ := hrun
   have hVR : VR w g1 st1.get (.v (.pair ta tb) m x) (.agg cs) := by
    refine ⟨hm, ⟨cs, rfl, h2⟩, hrr cs m (fun j => by rw [Nat.zero_add]) fun j hj => ?_⟩
    rw [Nat.zero_add]; exact h3 j hj
   have hc2 : Nw U st1.c = Nw U st.c := by rw [hc1]
   rw [← hc2]
   exact (S_ok (st := st1) hI1 hd hK (by simp only [execOp, ho] <;> rfl) h1 hVR trivial rfl).ok hI1 hd
  | unit => exact hTM.elim
  | _ => cases hps : ps.toList <;> simp [hps, partsF] at h
 ·cases h
end
end Go.Ab
