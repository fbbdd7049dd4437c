/- Stores. -/
import Derived.Test.YtokjogplnoeicaaAbRow
namespace Go.Ab

section
variable {P : Program} {T : Tab} {Φ : Nat → Option Contract} {w0 w : World} {mu : Mu} {st : St} {a : Act} {g : Gh} {R : Type} {o : Oper} {K : AV → St → Option R} {r : R} {val : Nat → Value} {U : Nat → Prop}

theorem Fr_setRow (h : Fr w0 mu w) {B : Nat} {C : Array Value} (hB : w0.heap.size ≤ B ∨ mu B) : Fr w0 mu (w.setRow B C) where
 os := h.os
 tape := h.tape
 output := h.output
 size := by rw [setRow_size]; exact h.size
 old b hb hm := by
  rw [setRow_other _ _ _ _ (by rintro rfl; rcases hB with hB | hB; omega; exact hm hB)]
  exact h.old b hb hm

theorem seg_get (cur vs : List Value) (o j : Nat) (h : o + vs.length ≤ cur.length) : (cur.take o ++ vs ++ cur.drop (o + vs.length))[j]? = if o ≤ j ∧ j < o + vs.length then vs[j - o]? else cur[j]? := by
 simp only [List.getElem?_append, List.length_append, List.length_take, List.getElem?_take, List.getElem?_drop]
 have : min o cur.length = o := by omega
 simp only [this]
 by_cases h1 : j < o
 ·rw [if_pos (by omega), if_pos h1, if_pos h1, if_neg (by omega)]
 ·by_cases h2 : j < o + vs.length
  ·rw [if_pos h2, if_neg h1, if_pos (by omega)]
  ·rw [if_neg h2, if_neg (by omega)]
   congr 1; omega

/-- cells written into a block -/
theorem written_setRow {B O : Nat} {cur : Array Value} {el : TypeId} {vs : List Value} (hB : w.heap[B]? = some (.cells cur el (0, 0))) (hO : O + vs.length ≤ cur.size) :
  Written w (w.setRow B (cur.toList.take O ++ vs ++ cur.toList.drop (O + vs.length)).toArray) B O vs.length ∧
   (∀ j, j < vs.length → (w.setRow B (cur.toList.take O ++ vs ++ cur.toList.drop (O + vs.length)).toArray).cell? ⟨B, O + j, none⟩ = vs[j]?) := by
 have hseg := fun j => seg_get cur.toList vs O j (by simpa using hO)
 refine ⟨⟨setRow_size _ _ _, fun b hb => setRow_other _ _ _ _ hb, fun o' ho' => ?_, fun c el' fr hc => ?_⟩, fun j hj => ?_⟩
 ·rw [cell_setRow_same w B o' cur _ el _ hB]
  simp only [List.getElem?_toArray, hseg]
  rw [if_neg (by omega)]
  simp [World.cell?, hB]
 ·rw [hB] at hc
  simp only [Option.some.injEq, Obj.cells.injEq] at hc
  obtain ⟨rfl, rfl, rfl⟩ := hc
  refine ⟨_, setRow_heap w B cur _ el _ hB, ?_⟩
  simp; omega
 ·rw [cell_setRow_same w B _ cur _ el _ hB]
  simp only [List.getElem?_toArray, hseg]
  rw [if_pos (by omega)]
  congr 1; omega

theorem store_run {ty : Ty} {t : TypeId} (hT : TM P ty t) {B O : Nat} {v : Value} (hv : v.cells.size = sz ty) (h1 : ∀ c ∈ v.cells.toList, c.oneCell' = true) {cur : Array Value} {el : TypeId} (hB : w.heap[B]? = some (.cells cur el (0, 0))) (hO : O + sz ty ≤ cur.size) :
  (Instr.storeAt t (.pointer (some ⟨B, O, none⟩)) v).run P w = .ok () (w.setRow B (cur.toList.take O ++ v.cells.toList ++ cur.toList.drop (O + v.cells.toList.length)).toArray) := by
 have hs := TM_sizeOf hT w
 have := run_storeCells_at P B O el v.cells.toList 0 cur w hB (by simp [hv]; exact hO) h1
 simp only [Nat.add_zero] at this
 simp [Instr.storeAt, Instr.sureAddr, storeVar, hs, hv, this]

/-- a node in memory lies in a block of the slot's own, of a shorter path, with room for its cells -/
def SrcB (w : World) (g : Gh) (s : Nat) (p : List Stp) (n : Nat) (src : Src) (k : Nat) : Prop := ∀ b off, src = .mem b off → ∃ cb c el, g.col b = some (s, cb) ∧ cb.length < p.length ∧ w.heap[b]? = some (.cells c el (0, 0)) ∧ off + k + n ≤ c.size

theorem RR_block {s : Nat} : ∀ (q : List Stp) (t : Ty) (m : Md) (p : List Stp) (src : Src) (k : Nat) (x : den t) (tv : TV), RR w g s t m p src k x → (isCell t = false → k = 0) →
  okP q t m x → walkP q t m x = some tv → (∀ b off, src = .mem b off → g.A s p = (b, off + k)) → SrcB w g s p (sz t) src k → ((∃ b off, src = .mem b off) ∨ (∃ i r, q = .el i :: r)) →
  ∃ B O cb c el, g.A s (p ++ q) = (B, O) ∧ g.col B = some (s, cb) ∧ cb.length < (p ++ q).length ∧ w.heap[B]? = some (.cells c el (0, 0)) ∧ O + sz tv.t ≤ c.size := by
 intro q
 induction q with
 | nil =>
  intro t m p src k x tv h hk _ hw hA hS hm
  simp only [walkP, Option.some.injEq] at hw
  subst hw
  rcases hm with ⟨b, off, rfl⟩ | ⟨_, _, hm⟩
  ·obtain ⟨cb, c, el, h1, h2, h3, h4⟩ := hS b off rfl
   exact ⟨b, off + k, cb, c, el, by simpa using hA b off rfl, h1, by simpa using h2, h3, h4⟩
  ·cases hm
 | cons c q ih =>
  intro t m p src k x tv h hk hok hw hA hS hm
  cases c with
  | dr => simp [okP] at hok
  | fld n =>
   simp only [okP, walkP] at hok hw
   obtain ⟨tv', hf, hok⟩ := hok
   rw [hf] at hw
   have hk0 : k = 0 := by
    cases t <;> first | exact hk rfl | (simp [fieldOf, fieldK] at hf)
   subst hk0
   obtain ⟨h1, h2, h3, h4, _, h5⟩ := RR_field _ _ _ _ _ _ h hf
   have hm' : (∃ b off, src = .mem b off) := by
    rcases hm with hm | ⟨_, _, hm⟩
    ·exact hm
    ·cases hm
   have := ih _ _ (p ++ [.fld n]) src n _ _ h1 (fun hc => by rw [h2] at hc; cases hc) hok hw h4 (fun b off hb => by
    obtain ⟨cb, c, el, h6, h7, h8, h9⟩ := hS b off hb
    exact ⟨cb, c, el, h6, by simp; omega, h8, by rw [sz_cell h2]; omega⟩) (.inl hm')
   simpa using this
  | el i =>
   cases t with
   | sl e =>
    simp only [okP, walkP] at hok hw
    obtain ⟨hmo, hi, hok⟩ := hok
    simp only [RR, hmo] at h
    obtain ⟨a, cap, h1, h2, h3, h4, h5⟩ := h
    cases a with
    | none => obtain ⟨hx, _⟩ := h5; subst hx; simp at hi
    | some ad =>
     obtain ⟨h6, h7, ⟨c, el, h8, h8'⟩, h9⟩ := h5
     obtain ⟨h10, h11⟩ := h9 i hi
     have := ih _ _ (p ++ [.el i]) (.mem ad.block (ad.off + i * sz e)) 0 _ _ h11 (fun _ => rfl) hok hw (fun b off hs => by cases hs; simpa using h10) (fun b off hb => by
      cases hb
      refine ⟨p, c, el, h7, by simp, h8, ?_⟩
      have : (i + 1) * sz e ≤ cap * sz e := Nat.mul_le_mul_right _ (by omega)
      rw [Nat.add_mul] at this
      omega) (.inl ⟨_, _, rfl⟩)
     simpa using this
   | _ => simp [okP] at hok

/-- a part's type and mode do not hang on the value -/
theorem fieldK_other {n : Nat} : ∀ (t : Ty) (m m' : Md) (x z : den t) (k : Nat) (tv : TV), fieldK m n t x k = some tv → ∃ y, fieldK m' n t z k = some ⟨tv.t, fldMd m' n, y⟩ := by
 intro t
 induction t with
 | pair a b _ ihb =>
  intro m m' x z k tv h
  simp only [fieldK] at h ⊢
  cases hb : Nat.beq k n with
  | true => rw [hb] at h; simp only [Option.some.injEq] at h; subst h; exact ⟨_, rfl⟩
  | false => rw [hb] at h; exact ihb m m' x.2 z.2 _ _ h
 | _ => intro m m' x z k tv h; cases h

theorem okP_shallow : ∀ (r : List Stp) (t : Ty) (m m' : Md) (x z : den t), shallow r = true → okP r t m x → okP r t m' z := by
 intro r
 induction r with
 | nil => intros; trivial
 | cons c r ih =>
  intro t m m' x z hs h
  cases c with
  | fld n =>
   obtain ⟨tv, hf, h⟩ := h
   obtain ⟨y, hy⟩ := fieldK_other t m m' x z 0 tv hf
   exact ⟨_, hy, ih _ _ _ _ _ hs h⟩
  | dr => cases hs
  | el i => cases hs

theorem flat_field {n : Nat} {m : Md} : ∀ (t : Ty) (x : den t) (k : Nat) (tv : TV), flat t = true → fieldK m n t x k = some tv → flat tv.t = true := by
 intro t
 induction t with
 | pair a b _ ihb =>
  intro x k tv hf h
  simp only [fieldK] at h
  simp only [flat, Bool.and_eq_true] at hf
  cases hb : Nat.beq k n with
  | true => rw [hb] at h; simp only [Option.some.injEq] at h; subst h; exact hf.1
  | false => rw [hb] at h; exact ihb _ _ _ hf.2 h
 | _ => intro x k tv _ h; cases h
theorem flat_path : ∀ (r : List Stp) (t : Ty) (m : Md) (x : den t), flat t = true → okP r t m x → shallow r = true := by
 intro r
 induction r with
 | nil => intros; rfl
 | cons c r ih =>
  intro t m x hf h
  cases c with
  | fld n =>
   obtain ⟨tv, h1, h⟩ := h
   exact ih _ _ _ (flat_field t x 0 tv hf h1) h
  | dr => simp [okP] at h
  | el i => cases t <;> first | (simp [okP] at h; done) | (cases hf; done)
theorem flat_walk : ∀ (r : List Stp) (t : Ty) (m : Md) (x : den t) (tv : TV), flat t = true → walkP r t m x = some tv → flat tv.t = true := by
 intro r
 induction r with
 | nil => intro t m x tv hf h; simp only [walkP, Option.some.injEq] at h; subst h; exact hf
 | cons c r ih =>
  intro t m x tv hf h
  cases c with
  | fld n =>
   simp only [walkP] at h
   split at h
   ·rename_i t' m' y h1
    exact ih _ _ _ _ (flat_field t x 0 _ hf h1) h
   ·cases h
  | dr => simp [walkP] at h
  | el i => cases t <;> first | (simp [walkP] at h; done) | (cases hf; done)

theorem fieldK_updF {n : Nat} {m : Md} {f : (t' : Ty) → den t' → Option (den t')} : ∀ (t : Ty) (x z : den t) (k : Nat), updF n f t x k = some z →
  (∀ tv, fieldK m n t x k = some tv → ∃ y, f tv.t tv.x = some y ∧ fieldK m n t z k = some ⟨tv.t, tv.m, y⟩) ∧ (∀ j, j ≠ n → fieldK m j t z k = fieldK m j t x k) := by
 intro t
 induction t with
 | pair a b _ ihb =>
  intro x z k h
  simp only [updF] at h
  cases hb : Nat.beq k n with
  | true =>
   rw [hb] at h
   have hkn := Nat.eq_of_beq_eq_true hb
   subst hkn
   simp only at h
   split at h
   ·rename_i y hy
    simp only [Option.some.injEq] at h
    subst h
    refine ⟨fun tv htv => ?_, fun j hj => ?_⟩
    ·simp only [fieldK, hb, Option.some.injEq] at htv ⊢
     subst htv
     exact ⟨y, hy, rfl⟩
    ·simp only [fieldK]
     cases hb' : Nat.beq k j with
     | true => exact absurd (Nat.eq_of_beq_eq_true hb').symm hj
     | false => rfl
   ·cases h
  | false =>
   rw [hb] at h
   simp only at h
   split at h
   ·rename_i y hy
    simp only [Option.some.injEq] at h
    subst h
    obtain ⟨h1, h2⟩ := ihb _ _ _ hy
    refine ⟨fun tv htv => ?_, fun j hj => ?_⟩
    ·simp only [fieldK, hb] at htv ⊢
     exact h1 tv htv
    ·simp only [fieldK]
     cases hb' : Nat.beq k j with
     | true => rfl
     | false => exact h2 j hj
   ·cases h
 | _ => intro x z k h; cases h

/-- another part of a type into which no paths lead but to fields: paths lie within as before -/
theorem okP_updG {t' : Ty} {y : den t'} (hfp : ∀ r (m : Md) (x : den t'), okP r t' m x → shallow r = true) (hfw : ∀ r (m : Md) (x : den t') e me xe, walkP r t' m x ≠ some ⟨.sl e, me, xe⟩) : ∀ (p : List Stp) (t : Ty) (m m' : Md) (x z : den t) (y0 : den t'), walkP p t m x = some ⟨t', m', y0⟩ → updP p t x t' y = some z →
  ∀ r, okP r t m x → okP r t m z ∧ ∀ e me xe, walkP r t m x = some ⟨.sl e, me, xe⟩ → ∃ me' xe', walkP r t m z = some ⟨.sl e, me', xe'⟩ ∧ List.length xe' = List.length xe := by
 intro p
 induction p with
 | nil =>
  intro t m m' x z y0 hw hu r hr
  simp only [walkP, Option.some.injEq, TV.mk.injEq] at hw
  obtain ⟨rfl, _, _⟩ := hw
  exact ⟨okP_shallow r _ _ _ _ _ (hfp _ _ _ hr) hr, fun e me xe h => absurd h (hfw _ _ _ _ _ _)⟩
 | cons c p ih =>
  intro t m m' x z y0 hw hu r hr
  cases c with
  | dr => simp [walkP] at hw
  | fld n =>
   simp only [walkP, updP] at hw hu
   split at hw
   ·rename_i t1 m1 x1 hf
    obtain ⟨h1, h2⟩ := fieldK_updF (m := m) t x z 0 hu
    obtain ⟨y1, h3, h4⟩ := h1 _ hf
    cases r with
    | nil =>
     refine ⟨trivial, fun e me xe h => ?_⟩
     simp only [walkP, Option.some.injEq, TV.mk.injEq] at h
     obtain ⟨rfl, _⟩ := h
     simp [fieldOf, fieldK] at hf
    | cons c r =>
     cases c with
     | dr => simp [okP] at hr
     | el i => cases t <;> first | (simp [fieldOf, fieldK] at hf; done) | (simp [okP] at hr)
     | fld j =>
      by_cases hj : j = n
      ·subst hj
       obtain ⟨tv, hf', hr⟩ := hr
       rw [hf] at hf'
       simp only [Option.some.injEq] at hf'
       subst hf'
       obtain ⟨h5, h6⟩ := ih _ _ _ _ _ _ hw h3 r hr
       refine ⟨⟨_, h4, h5⟩, fun e me xe h => ?_⟩
       simp only [walkP] at h ⊢
       rw [hf] at h
       have h4' : fieldOf t m z j = some ⟨t1, m1, y1⟩ := h4
       rw [h4']
       exact h6 e me xe h
      ·have h5 : fieldOf t m z j = fieldOf t m x j := h2 j hj
       simp only [okP, walkP, h5] at hr ⊢
       exact ⟨hr, fun e me xe h => ⟨me, xe, h, rfl⟩⟩
   ·cases hw
  | el i =>
   cases t with
   | sl e0 =>
    simp only [walkP, updP] at hw hu
    split at hu
    ·rename_i z0 hz
     simp only [Option.some.injEq] at hu
     subst hu
     cases r with
     | nil =>
      refine ⟨trivial, fun e me xe h => ?_⟩
      simp only [walkP, Option.some.injEq, TV.mk.injEq] at h
      obtain ⟨h1, rfl, h2⟩ := h
      cases h1
      cases h2
      exact ⟨_, _, rfl, List.length_set ..⟩
     | cons c r =>
      cases c with
      | dr => simp [okP] at hr
      | fld n => simp [okP, fieldOf, fieldK] at hr
      | el j =>
       simp only [okP, walkP] at hr ⊢
       obtain ⟨h1, h2, h3⟩ := hr
       by_cases hj : j = i
       ·subst hj
        rw [List.getD_eq_getElem?_getD (l := List.set x j z0), List.getElem?_set_self h2]
        obtain ⟨h5, h6⟩ := ih _ _ _ _ _ _ hw hz r h3
        exact ⟨⟨h1, by simpa using h2, h5⟩, h6⟩
       ·rw [List.getD_eq_getElem?_getD (l := List.set x i z0), List.getElem?_set_ne (Ne.symm hj), ← List.getD_eq_getElem?_getD]
        exact ⟨⟨h1, by simpa using h2, h3⟩, fun e me xe h => ⟨me, xe, h, rfl⟩⟩
    ·cases hu
   | _ => simp [walkP] at hw

theorem okP_upd {t' : Ty} {y : den t'} (hfl : flat t' = true) : ∀ (p : List Stp) (t : Ty) (m m' : Md) (x z : den t) (y0 : den t'), walkP p t m x = some ⟨t', m', y0⟩ → updP p t x t' y = some z →
  ∀ r, okP r t m x → okP r t m z ∧ ∀ e me xe, walkP r t m x = some ⟨.sl e, me, xe⟩ → ∃ me' xe', walkP r t m z = some ⟨.sl e, me', xe'⟩ ∧ List.length xe' = List.length xe :=
 okP_updG (fun r m x h => flat_path _ _ _ _ hfl h) (fun r m x e me xe h => by have := flat_walk _ _ _ _ _ hfl h; cases this)

/-- a value is laid at tg, in block B -/
def Gh.lay (g : Gh) (s : Nat) (tg : List Stp) (B O : Nat) (cell : Bool) : Gh where
 col := g.col
 H := g.H
 A s' q := if s' = s then (match strip tg q, cell with | some [.fld j], false => (B, O + j) | _, _ => g.A s' q) else g.A s' q

theorem lay_A {g : Gh} {s : Nat} {tg q : List Stp} {B O : Nat} {cell : Bool} {s' : Nat} (h : s' = s → ∀ j, q = tg ++ [.fld j] → cell = true) : (g.lay s tg B O cell).A s' q = g.A s' q := by
 simp only [Gh.lay]
 by_cases hs : s' = s
 ·rw [if_pos hs]
  split
  ·rename_i j h1
   have := h hs j (strip_some h1)
   cases this
  ·rfl
 ·rw [if_neg hs]

theorem fldMd_setF {f : Md → Md} : ∀ (n : Nat) (m : Md) (j : Nat), fldMd (setF m n f) j = if j = n then f (fldMd m n) else fldMd m j := by
 intro n
 induction n with
 | zero => intro m j; cases j <;> simp [setF, fldMd, Md.fst, Md.snd]
 | succ n ih =>
  intro m j
  cases j with
  | zero => simp [setF, fldMd, Md.fst]
  | succ j => simp [setF, fldMd, Md.snd, ih]

/-- a loose value, laid into a block of the slot's own -/
theorem Loose.lay {w' : World} {st1 : St} {g2 : Gh} {s0 s : Nat} {tg cb : List Stp} {t : Ty} {m : Md} {y : den t} {v : Value} {B O : Nat} (hL : Loose w0 mu w st st1 g g2 s0 s tg t m y v) (hss : s ≠ s0) (hsl : s ≠ lentC.1) (hB : g.col B = some (s, cb)) (hcb : cb.length < tg.length)
  (hW : Written w w' B O (sz t)) (hcells : ∀ j, j < sz t → w'.cell? ⟨B, O + j, none⟩ = v.cells[j]?) : RR w' (g2.lay s tg B O (isCell t)) s t m tg (.mem B O) 0 y := by
 have hB2 : g2.col B = some (s, cb) := by rw [hL.un B s cb hB hss, hB]
 refine RR_tomem (w := w) (g := g2) (g' := g2.lay s tg B O (isCell t)) (Nat.le_of_eq hW.size.symm) (fun b l0 _ hs => ⟨hW.other b ?_, hs⟩) t m tg 0 y hL.rr ?_ (fun _ => rfl) ?_ ?_ ?_ ?_
 ·rintro rfl
  rcases hs with hs | ⟨_, hs⟩
  ·rw [hB2] at hs; cases hs
  ·rw [hB2] at hs; simp only [Option.some.injEq] at hs; rw [← hs] at hsl; exact hsl rfl
 ·intro b r hb
  refine ⟨hW.other b ?_, hb⟩
  rintro rfl
  rw [hB2] at hb
  simp only [Option.some.injEq, Prod.mk.injEq, true_and] at hb
  subst hb
  simp at hcb
  omega
 ·intro hc r hr
  exact lay_A fun _ j hj => hc
 ·intro hc n r hr
  refine lay_A fun _ j hj => ?_
  have := List.append_cancel_left hj
  simp at this
  exact absurd this.2 hr
 ·intro hc n _ _
  simp [Gh.lay, strip_app, hc]
 ·intro j hj
  simp only [rdS, Nat.zero_add]
  exact hcells j hj

theorem shared_ne {s : Nat} {cb : List Stp} {B b : Nat} {l : Bool} (hB : g.col B = some (s, cb)) (hsl : s ≠ lentC.1) (h : shared g.col l b) : b ≠ B := by
 rintro rfl
 rcases h with hs | ⟨_, hs⟩
 ·rw [hB] at hs; cases hs
 ·rw [hB] at hs; simp only [Option.some.injEq] at hs; rw [← hs] at hsl; exact hsl rfl

/-- slot s has a part that is laid anew -/
theorem Inv_store {w' : World} (hI : Inv w0 mu st.get val U w g) {st1 : St} {g2 : Gh} {s0 s : Nat} {tg cb : List Stp} {t : Ty} {m : Md} {y : den t} {v : Value} {B O : Nat} (hL : Loose w0 mu w st st1 g g2 s0 s tg t m y v) (hss : s ≠ s0) (hsl : s ≠ lentC.1) (hdead : st.get s ≠ .dead) (hB : g.col B = some (s, cb))
  (hW : Written w w' B O (sz t)) (hFr : Fr w0 mu w') {a' : AV} {U' : Nat → Prop} (hUU : ∀ n, U n → U' n) (hslot : SlotR w' (g2.lay s tg B O (isCell t)) (st1.set s a').get s a' (val s)) (hst : stampOK U' a')
  (hown : ∀ n, U n → ∀ o', own? a' n = some o' → ∃ o, own? (st.get s) n = some o ∧
   ∀ p, o.ok p → o'.ok p ∧ (g2.lay s tg B O (isCell t)).H s p = g.H s p ∧ (∀ e m x, o.at p = some ⟨.sl e, m, x⟩ → ∃ m' x', o'.at p = some ⟨.sl e, m', x'⟩ ∧ List.length x' = List.length x))
  (hptr : ∀ n p, U n → ∀ o', ownP? a' n p = some o' → ∃ o, ownP? (st.get s) n p = some o ∧ (o.ok p → o.mem p → o'.ok p ∧ o'.mem p ∧ (g2.lay s tg B O (isCell t)).A s p = g.A s p))
  (happ : (∀ n, U n → own? a' n = none) ∨ (∀ u, appTo s (st.get u) = false)) :
  Inv w0 mu (st1.set s a').get val U' w' (g2.lay s tg B O (isCell t)) := by
 have hget : ∀ u, (st1.set s a').get u = if u = s then a' else if u = s0 then .dead else st.get u := fun u => by rw [get_set, hL.get hI]
 refine Inv_updG hI (fun u => u = s ∨ u = s0) hUU (Nat.le_of_eq hW.size.symm) (fun b l0 _ hs => ⟨hW.other b (shared_ne hB hsl hs), hL.sh b l0 hs⟩) ?_ ?_ ?_ ?_ ?_ hFr ?_ hL.lk (fun u hu => by
  by_cases h1 : u = s
  ·subst h1
   refine happ.imp (fun h n hn => ?_) id
   rw [hget]; simp only [if_true]; exact h n hn
  ·have h2 := hu.resolve_left h1
   exact .inl fun n hn => by rw [hget]; subst h2; simp [h1, own?])
 ·intro u hu
  have h1 : u ≠ s := fun h => hu (.inl h)
  have h2 : u ≠ s0 := fun h => hu (.inr h)
  refine ⟨by rw [hget]; simp [h1, h2], rfl, fun b r hb => ⟨hW.other b ?_, hL.un b u r hb h2⟩, fun p => hL.H u h2 p (fun h => absurd h h1), fun p => ?_⟩
  ·rintro rfl
   rw [hB] at hb
   simp only [Option.some.injEq, Prod.mk.injEq] at hb
   exact h1 hb.1.symm
  ·rw [lay_A (fun h => absurd h h1)]
   exact hL.A u h2 p (fun h => absurd h h1)
 ·intro u hu n hn o' ho'
  rw [hget] at ho'
  by_cases h1 : u = s
  ·subst h1; simp only [if_true] at ho'; exact hown n hn o' ho'
  ·have h2 := hu.resolve_left h1
   subst h2
   simp [h1, own?] at ho'
 ·intro u hu n p hn o' ho'
  rw [hget] at ho'
  by_cases h1 : u = s
  ·subst h1; simp only [if_true] at ho'; exact hptr n p hn o' ho'
  ·have h2 := hu.resolve_left h1
   subst h2
   simp [h1, ownP?] at ho'
 ·intro u hu
  rw [hget]
  by_cases h1 : u = s
  ·subst h1; simp only [if_true]; exact ⟨hslot, hst⟩
  ·have h2 := hu.resolve_left h1
   subst h2
   simp only [h1, if_false, if_true]
   exact ⟨trivial, trivial⟩
 ·intro b k hk
  obtain ⟨h1, h2⟩ := hL.cols b k hk
  exact ⟨by rw [hW.size]; exact h1, h2⟩
 ·intro u hu
  have := hI.far u hu
  rw [hget]
  by_cases h1 : u = s
  ·subst h1; exact absurd this hdead
  ·simp only [h1, if_false, this]
   split <;> rfl

theorem oneCells {t : Ty} {m : Md} {s : Nat} {p : List Stp} {x : den t} {v : Value} (hsv : shapeV t v) (h : RR w g s t m p (.val v.cells) 0 x) : ∀ c ∈ v.cells.toList, c.oneCell' = true := by
 obtain ⟨cs, h1, h2, h3⟩ := RR_cells t m p _ 0 x h
 intro c hc
 obtain ⟨j, hj, rfl⟩ := List.getElem_of_mem hc
 have hj' : j < v.cells.size := by simpa using hj
 rw [shape_size hsv] at hj'
 have h4 : cs[j]? = some v.cells.toList[j] := by
  have hjl : j < cs.length := by omega
  have := h2 j (cs[j]) (by simp [hjl])
  simp only [rdS, Nat.zero_add] at this
  have h5 : j < v.cells.size := by rw [shape_size hsv]; exact hj'
  rw [Array.getElem?_eq_getElem h5] at this
  simp only [Option.some.injEq] at this
  simp [hjl, ← this]
 exact h3 _ (List.mem_of_getElem? h4)

theorem newAV_ow {n : Nat} {t : Ty} {m : Md} {x : den t} (o : Own) (c : Option Nat) : newAV (.ow n t m x) o c = .ow (c.getD n) o.t o.m o.x := by cases c <;> rfl
theorem newAV_box {n u : Nat} {t : Ty} {m : Md} {x : den t} (o : Own) (c : Option Nat) : newAV (.box n u t m x) o c = .box n (c.getD u) o.t o.m o.x := by cases c <;> rfl

/-- what a store writes, and where -/
theorem store_at (hI : Inv w0 mu st.get val U w g) {s n : Nat} {p : List Stp} {o : Own} (ho : ownP? (st.get s) n p = some o) (hok : o.ok p) {tv : TV} (hat : o.at p = some tv) (hh : headOK p = true) :
  ∃ B O cb c el, g.A s p = (B, O) ∧ g.col B = some (s, cb) ∧ cb.length < p.length ∧ w.heap[B]? = some (.cells c el (0, 0)) ∧ O + sz tv.t ≤ c.size := by
 have hs := hI.slots s
 rcases ownP?_ow ho with ⟨hb, h⟩ | ⟨hb, n1, n2, h⟩
 ·rw [h] at hs
  obtain ⟨h1, h2⟩ := hs
  obtain ⟨ob, ot, om, ox⟩ := o
  simp only at hb; subst hb
  cases p with
  | nil => cases hh
  | cons c p =>
   cases c with
   | fld _ => cases hh
   | dr => simp [Own.ok, okP] at hok
   | el i =>
    have := RR_block (.el i :: p) ot om [] _ 0 ox tv h2 (fun _ => rfl) hok hat (fun _ _ h => by cases h) (fun _ _ h => by cases h) (.inr ⟨_, _, rfl⟩)
    simpa using this
 ·rw [h] at hs
  obtain ⟨b, c, el, h1, h2, h3, h4, h5, h6⟩ := hs
  obtain ⟨ob, ot, om, ox⟩ := o
  simp only at hb; subst hb
  cases p with
  | nil => cases hh
  | cons q p =>
   cases q with
   | fld _ => cases hh
   | el _ => simp [Own.ok] at hok
   | dr =>
    have := RR_block p ot om [.dr] (.mem b 0) 0 ox tv h6 (fun _ => rfl) hok hat (fun b' off hb' => by cases hb'; simpa using h5) (fun b' off hb' => by cases hb'; exact ⟨[], c, el, h2, by simp, h3, by simpa using h4⟩) (.inl ⟨_, _, rfl⟩)
    simpa using this

theorem K_done {st' : St} {g' : Gh} {w' : World} {U' : Nat → Prop} (hd : DstOK mu o a) (hrun : (execOp a.eval o).run P w = .ok .skip w') (hI' : Inv w0 mu st'.get (Vals a) U' w' g') {next : Act → World → Prop} {Q : Exit → Act → World → Prop} (hn : NextOK w0 mu o a U' st' .dead next) : o.wp P a w next Q := by
 unfold Oper.wp
 rw [hrun, Oper.upon_skip]
 cases hdst : o.dst with
 | none => exact hn _ w' g' (by rw [hdst]; exact hI') rfl rfl (fun _ _ => rfl)
 | some d =>
  obtain ⟨h1, h2⟩ := hd d hdst
  exact hn _ w' g' (by rw [hdst]; exact put_free hI' h1 h2 (av := .dead) trivial trivial rfl) (by simp [Act.put]) rfl (fun s hs => by rw [← hdst]; exact put_same s hs)

theorem fieldOf_cell {t : Ty} (h : isCell t = true) (m : Md) (x : den t) (n : Nat) : fieldOf t m x n = none := by cases t <;> first | rfl | cases h
theorem shallow_paths {s : Nat} {t : Ty} {m m' : Md} {p : List Stp} {src : Src} {x x' : den t} (h : RR w g s t m p src 0 x) : ∀ r, shallow r = true → okP r t m' x' → r = [] ∨ ∃ j, r = [.fld j] ∧ j < sz t ∧ isCell t = false ∧ ∃ tv, fieldOf t m x j = some tv
 | [], _, _ => .inl rfl
 | .fld n :: r, hs, ho => by
  obtain ⟨tv, hf, ho⟩ := ho
  obtain ⟨y, hy⟩ := fieldK_other t m' m x' x 0 tv hf
  obtain ⟨_, h2, _, _, _, h3⟩ := RR_field _ _ _ _ _ _ h hy
  have hcf : isCell t = false := by
   cases hc : isCell t with
   | true => have := fieldOf_cell hc m x n; rw [show fieldOf t m x n = fieldK m n t x 0 from rfl, hy] at this; cases this
   | false => rfl
  cases r with
  | nil => exact .inr ⟨n, rfl, by omega, hcf, _, hy⟩
  | cons c r =>
   cases c with
   | fld k =>
    obtain ⟨tv', hf', _⟩ := ho
    rw [fieldOf_cell h2] at hf'; cases hf'
   | dr => cases hs
   | el _ => cases hs
 | .dr :: _, hs, _ => by cases hs
 | .el _ :: _, hs, _ => by cases hs

theorem boxPut_sound (hT : TabOK P T) (hU : New U st.c) (hI : Inv w0 mu st.get (Vals a) U w g) {ty : Ty} {t : TypeId} (hty : T.ty t = some ty) {s n : Nat} {p : List Stp} {o' : Own} {vx vy : Value} {k : St → Option R}
  (ho' : ownP? (st.get s) n p = some o') (hvx : VR w g st.get (.pl s n p) vx) {m : Md} {y0 : den ty} (hat : o'.at p = some ⟨ty, m, y0⟩) (hsh : shallowD p = true) {m' : Md} {y : den ty} {st1 : St} {g2 : Gh} {s0 : Nat}
  (hL : Loose w0 mu w st st1 g g2 s0 s p ty m' y vy) (h : boxPut st1 s n p.tail ty m' y k = some r) :
  ∃ st' g' w', k st' = some r ∧ (Instr.storeAt t vx vy).run P w = .ok () w' ∧ Inv w0 mu st'.get (Vals a) (Nw U st.c) w' g' := by
 unfold boxPut at h
 split at h
 ·rename_i n1 n2 tb mb xb hq1
  split at h
  ·rename_i hn1
   have hn1 := Nat.eq_of_beq_eq_true hn1
   subst hn1
   split at h
   ·rename_i z hz
    obtain ⟨hv1, hok, hmem⟩ := hvx o' ho'
    have hss : s ≠ s0 := by
     intro hs
     rw [hL.get hI, if_pos hs] at hq1; cases hq1
    have hq : st.get s = .box n n2 tb mb xb := by rw [hL.get hI, if_neg hss] at hq1; exact hq1
    have hsl : s ≠ lentC.1 := by intro h; subst h; rw [hI.lent] at hq; cases hq
    have hdead : st.get s ≠ .dead := by rw [hq]; simp
    have hs := hI.slots s
    rw [hq] at hs
    obtain ⟨b, c, el, h1, h2, h3, h4, h5, h6⟩ := hs
    have ho2 : o' = ⟨true, tb, mb, xb⟩ := by
     rcases ownP?_ow ho' with ⟨_, h⟩ | ⟨hb, a1, a2, h⟩
     ·rw [hq] at h; cases h
     ·rw [hq] at h; obtain ⟨ob, ot, om, ox⟩ := o'; simp only at hb h; cases h; subst hb; rfl
    subst ho2
    have hhead : headOK p = true := by
     cases p with
     | nil => cases hsh
     | cons c p => cases c <;> first | rfl | cases hsh
    obtain ⟨B, O, cb, c', el', hA, hcol, hcb, hheap, hsize⟩ := store_at hI ho' hok hat hhead
    have hvc := shape_size hL.shape
    have hone := oneCells hL.shape hL.rr
    have hvl : vy.cells.toList.length = sz ty := by simpa using hvc
    obtain ⟨hW, hcells⟩ := written_setRow (w := w) (B := B) (O := O) (cur := c') (vs := vy.cells.toList) hheap (by rw [hvl]; exact hsize)
    rw [hvl] at hW hcells
    have hrun := store_run (w := w) (((hT _).1 _ hty).1) hvc hone hheap hsize
    rw [hvl] at hrun
    have hFr : Fr w0 mu (w.setRow B (c'.toList.take O ++ vy.cells.toList ++ c'.toList.drop (O + sz ty)).toArray) := Fr_setRow hI.fr (by
     obtain ⟨_, h⟩ := hI.cols B _ hcol
     rcases h with h | h
     ·exact absurd (congrArg Prod.fst h) hsl
     ·exact h)
    generalize hw' : w.setRow B (c'.toList.take O ++ vy.cells.toList ++ c'.toList.drop (O + sz ty)).toArray = w' at hW hcells hrun hFr
    have hlay := hL.lay hss hsl hcol hcb hW (fun j hj => by rw [hcells j hj]; simp)
    refine ⟨_, g2.lay s p B O (isCell ty), w', h, by rw [hv1, hA]; exact hrun, ?_⟩
    have hlaySl : ∀ q, (∀ j, q = p ++ [.fld j] → isCell ty = true) → (∀ r, strip p q = some r → r = []) → (g2.lay s p B O (isCell ty)).A s q = g.A s q := fun q h7 h8 => by
     rw [lay_A fun _ => h7]
     exact hL.A s hss q fun _ => h8
    have hcolb : (g2.lay s p B O (isCell ty)).col b = some (s, []) := by
     show g2.col b = _
     rw [hL.un b s [] h2 hss, h2]
    obtain ⟨q, rfl, hq2⟩ : ∃ q, p = .dr :: q ∧ shallow q = true := by
     cases p with
     | nil => cases hsh
     | cons c q => cases c <;> first | exact ⟨_, rfl, hsh⟩ | cases hsh
    have hown0 : ∀ (M : Md) (z : den tb), ∀ n', U n' → ∀ o'', own? (.box n st1.c tb M z) n' = some o'' → False := by
     intro M z n' hn' o'' h7
     simp only [own?] at h7
     cases hb : Nat.beq n' st1.c with
     | true => have := Nat.eq_of_beq_eq_true hb; subst this; rw [hL.c] at hn'; exact hU.1 hn'
     | false => rw [hb] at h7; cases h7
    have hptr0 : (∀ q', shallow q' = true → okP q' tb mb xb → (g2.lay s (.dr :: q) B O (isCell ty)).A s (.dr :: q') = g.A s (.dr :: q')) → ∀ (M : Md) (z : den tb), ∀ n' p', U n' → ∀ o'', ownP? (.box n st1.c tb M z) n' p' = some o'' → ∃ o, ownP? (st.get s) n' p' = some o ∧
      (o.ok p' → o.mem p' → o''.ok p' ∧ o''.mem p' ∧ (g2.lay s (.dr :: q) B O (isCell ty)).A s p' = g.A s p') := by
     intro hq M z n' p' hn' o'' h7
     have h8 : Nat.beq n' st1.c = false := by
      cases hb : Nat.beq n' st1.c with
      | true => have := Nat.eq_of_beq_eq_true hb; subst this; rw [hL.c] at hn'; exact absurd hn' hU.1
      | false => rfl
     simp only [ownP?, h8, Bool.or_false] at h7
     split at h7
     ·rename_i h9
      simp only [Option.some.injEq] at h7
      subst h7
      refine ⟨⟨true, tb, mb, xb⟩, by rw [‹st.get s = _›]; simp [ownP?, h9], fun h10 _ => ?_⟩
      simp only [Bool.and_eq_true] at h9
      cases p' with
      | nil => simp [Own.ok] at h10
      | cons c q' =>
       cases c with
       | dr => exact ⟨okP_shallow q' _ _ _ _ _ h9.2 h10, .inl rfl, hq q' h9.2 h10⟩
       | fld _ => simp [Own.ok] at h10
       | el _ => simp [Own.ok] at h10
     ·cases h7
    have hslot0 : ∀ (M : Md) (z : den tb), (g2.lay s (.dr :: q) B O (isCell ty)).A s [.dr] = g.A s [.dr] → RR w' (g2.lay s (.dr :: q) B O (isCell ty)) s tb M [.dr] (.mem b 0) 0 z →
      SlotR w' (g2.lay s (.dr :: q) B O (isCell ty)) (st1.set s (.box n st1.c tb M z)).get s (.box n st1.c tb M z) (Vals a s) := by
     intro M z hA' hrr
     have : ∃ c2, w'.heap[b]? = some (.cells c2 el (0, 0)) ∧ c2.size = c.size := by
      by_cases hbB : b = B
      ·subst hbB; exact hW.obj _ _ _ h3
      ·exact ⟨c, by rw [hW.other b hbB]; exact h3, rfl⟩
     obtain ⟨c2, h7, h8⟩ := this
     exact ⟨b, c2, el, h1, hcolb, h7, by omega, by rw [hA', h5], hrr⟩
    rcases shallow_paths h6 q hq2 hok with rfl | ⟨j, rfl, hj, hcf, tv, hf⟩
    ·-- the whole
     have hat' : tb = ty ∧ m = mb := by
      simp only [Own.at, walkP, Option.some.injEq, TV.mk.injEq] at hat
      exact ⟨hat.1, hat.2.1.symm⟩
     obtain ⟨rfl, rfl⟩ := hat'
     have hz' : z = y := by simpa [updP] using hz.symm
     subst hz'
     have hBO : B = b ∧ O = 0 := by rw [h5] at hA; simp only [Prod.mk.injEq] at hA; exact ⟨hA.1.symm, hA.2.symm⟩
     obtain ⟨rfl, rfl⟩ := hBO
     have hA0 : (g2.lay s [.dr] B 0 (isCell tb)).A s [.dr] = g.A s [.dr] := hlaySl _ (fun j h => by simp at h) (fun r h => by simpa [strip] using h.symm)
     have := Inv_store (a' := .box n st1.c tb (setM [] m m') z) (U' := Nw U st.c) hI hL hss hsl hdead hcol hW hFr (fun _ => Nw_old) (hslot0 _ _ hA0 hlay) ?_ (fun n' hn' o'' h7 => (hown0 _ _ n' hn' o'' h7).elim) (hptr0 ?_ _ _) (.inl fun n' hn' => by
       cases h7 : own? (.box n st1.c tb _ z) n' with
       | none => rfl
       | some o'' => exact (hown0 _ _ n' hn' o'' h7).elim)
     ·exact this
     ·have hst := hI.stamps s
      rw [hq] at hst
      exact ⟨Nw_old hst.1, by rw [hL.c]; exact Nw_0⟩
     ·intro q' h7 h8
      rcases shallow_paths h6 q' h7 h8 with rfl | ⟨j, rfl, hj, hcf, _⟩
      ·exact hA0
      ·have h9 : (g2.lay s [.dr] B 0 (isCell tb)).A s [.dr, .fld j] = (B, 0 + j) := by
        simp [Gh.lay, strip, hcf]
       have h10 := RR_fieldA tb m (.mem 0 0) 0 xb h6 hcf j (Nat.zero_le _) (by omega)
       rw [h9]
       simpa using h10.symm
    ·-- one field
     obtain ⟨f1, f2, f3, f4, _, f5⟩ := RR_field _ _ _ _ _ _ h6 hf
     have hat' : tv = ⟨ty, m, y0⟩ := by
      simp only [Own.at, walkP, hf] at hat
      exact Option.some.inj hat
     subst hat'
     have f4' := f4 b 0 rfl
     have hBO : B = b ∧ O = j := by
      rw [show ([.dr] ++ [.fld j] : List Stp) = [.dr, .fld j] from rfl, hA] at f4'
      simpa using f4'
     obtain ⟨rfl, rfl⟩ := hBO
     have hcell : isCell ty = true := f2
     have hlayA : ∀ q', (g2.lay s [.dr, .fld O] B O (isCell ty)).A s q' = (g2.A s q') := fun q' => lay_A fun _ _ _ => hcell
     have hA1 : ∀ q', (∀ r, strip [.dr, .fld O] q' = some r → r = []) → (g2.lay s [.dr, .fld O] B O (isCell ty)).A s q' = g.A s q' := fun q' h7 => hlaySl q' (fun _ _ => hcell) h7
     have hA0 : (g2.lay s [.dr, .fld O] B O (isCell ty)).A s [.dr] = g.A s [.dr] := hA1 _ (fun r h => by simp [strip] at h)
     have hstr : ∀ k (r' : List Stp), k ≠ O → strip [.dr, .fld O] ([.dr] ++ .fld k :: r') = none := fun k r' hk => by simp [strip, Ne.symm hk]
     have hAf : ∀ k, (g2.lay s [.dr, .fld O] B O (isCell ty)).A s [.dr, .fld k] = g.A s [.dr, .fld k] := by
      intro k
      refine hA1 _ fun r hr => ?_
      by_cases hk : k = O
      ·subst hk; simpa [strip] using hr.symm
      ·rw [show ([.dr, .fld k] : List Stp) = [.dr] ++ .fld k :: [] from rfl, hstr k [] hk] at hr; cases hr
     have hrr : RR w' (g2.lay s [.dr, .fld O] B O (isCell ty)) s tb (setM [.fld O] mb m') [.dr] (.mem B 0) 0 z := by
      refine RR_updF (w := w) (g := g) (m := mb) (n := O) (f := fun t1 x1 => updP [] t1 x1 ty y) (tv := ⟨ty, m, y0⟩) ?_ hAf ?_ tb 0 xb z h6 hf (by simpa [updP] using hz)
      ·intro t1 k x1 hk hc1 hr1
       have hmd : fldMd (setM [.fld O] mb m') k = fldMd mb k := by simp [setM, fldMd_setF, hk]
       rw [hmd]
       refine RR_frame (g' := g2.lay s [.dr, .fld O] B O (isCell ty)) (Nat.le_of_eq hW.size.symm) (fun b' l0 _ hs => ⟨hW.other b' (shared_ne hcol hsl hs), hL.sh b' l0 hs⟩) t1 _ _ _ k x1 hr1 ?_ ?_ ?_ ?_
       ·intro b' r' hb'
        refine ⟨hW.other b' ?_, hL.un b' s _ hb' hss⟩
        rintro rfl
        rw [h2] at hb'; simp at hb'
       ·intro r'
        exact hL.H s hss _ fun _ => by simpa using hstr k r' hk
       ·intro r' _
        refine hA1 _ fun r2 hr2 => ?_
        have := hstr k r' hk
        simp only [List.append_assoc, List.cons_append, List.nil_append] at hr2 this
        rw [this] at hr2; cases hr2
       ·intro i hi
        rw [sz_cell hc1] at hi
        have : i = 0 := by omega
        subst this
        simp only [rdS, Nat.add_zero, Nat.zero_add]
        exact hW.out k (by rw [sz_cell hcell]; omega)
      ·intro y1 hy1
       have hy' : y1 = y := by simpa [updP] using hy1.symm
       subst hy'
       have hmd : fldMd (setM [.fld O] mb m') O = m' := by simp [setM, fldMd_setF]
       rw [hmd]
       exact RR_src_cell hcell hlay (by simp [rdS])
     have := Inv_store (a' := .box n st1.c tb (setM [.fld O] mb m') z) (U' := Nw U st.c) hI hL hss hsl hdead hcol hW hFr (fun _ => Nw_old) (hslot0 _ _ hA0 hrr) ?_ (fun n' hn' o'' h7 => (hown0 _ _ n' hn' o'' h7).elim) (hptr0 ?_ _ _) (.inl fun n' hn' => by
       cases h7 : own? (.box n st1.c tb _ z) n' with
       | none => rfl
       | some o'' => exact (hown0 _ _ n' hn' o'' h7).elim)
     ·exact this
     ·have hst := hI.stamps s
      rw [hq] at hst
      exact ⟨Nw_old hst.1, by rw [hL.c]; exact Nw_0⟩
     ·intro q' h7 h8
      rcases shallow_paths h6 q' h7 h8 with rfl | ⟨k, rfl, hk, _, _⟩
      ·exact hA0
      ·exact hAf k
   ·cases h
  ·cases h
 ·cases h

theorem storeB_sound (hT : TabOK P T) (hU : New U st.c) (hI : Inv w0 mu st.get (Vals a) U w g) {ty : Ty} {t : TypeId} (hty : T.ty t = some ty) {s n : Nat} {p : List Stp} {o' : Own} {vx vy : Value} {ay : AV} {k : St → Option R}
  (ho' : ownP? (st.get s) n p = some o') (hvx : VR w g st.get (.pl s n p) vx) (hvy : VR w g st.get ay vy) {m : Md} {y0 : den ty} (hat : o'.at p = some ⟨ty, m, y0⟩) (hsh : shallowD p = true) (h : storeB st s n p.tail ty ay k = some r) :
  ∃ st' g' w', k st' = some r ∧ (Instr.storeAt t vx vy).run P w = .ok () w' ∧ Inv w0 mu st'.get (Vals a) (Nw U st.c) w' g' := by
 unfold storeB at h
 obtain ⟨m', y, st1, g2, s0, h, hL⟩ := takeAny_loose h hI hvy s p
 exact boxPut_sound hT hU hI hty ho' hvx hat hsh hL h

theorem upd_ow {o o1 : Own} {p : List Stp} {t' : Ty} {y : den t'} (hb : o.box = false) (h : o.upd p t' y = some o1) : ∃ z, updP p o.t o.x t' y = some z ∧ o1 = { o with x := z } := by
 obtain ⟨ob, ot, om, ox⟩ := o
 simp only at hb; subst hb
 cases p with
 | nil =>
  simp only [Own.upd] at h
  split at h
  ·rename_i z hz; simp only [Option.some.injEq] at h; exact ⟨z, hz, h.symm⟩
  ·cases h
 | cons c p =>
  cases c with
  | dr => simp [Own.upd] at h
  | fld n =>
   simp only [Own.upd] at h
   split at h
   ·rename_i z hz; simp only [Option.some.injEq] at h; exact ⟨z, hz, h.symm⟩
   ·cases h
  | el n =>
   simp only [Own.upd] at h
   split at h
   ·rename_i z hz; simp only [Option.some.injEq] at h; exact ⟨z, hz, h.symm⟩
   ·cases h
theorem upd_box {o o1 : Own} {p : List Stp} {t' : Ty} {y : den t'} (hb : o.box = true) (h : o.upd p t' y = some o1) : ∃ q z, p = .dr :: q ∧ updP q o.t o.x t' y = some z ∧ o1 = { o with x := z } := by
 obtain ⟨ob, ot, om, ox⟩ := o
 simp only at hb; subst hb
 cases p with
 | nil => simp [Own.upd] at h
 | cons c p =>
  cases c with
  | dr =>
   simp only [Own.upd] at h
   split at h
   ·rename_i z hz; simp only [Option.some.injEq] at h; exact ⟨p, z, rfl, hz, h.symm⟩
   ·cases h
  | fld n => simp [Own.upd] at h
  | el n => simp [Own.upd] at h

theorem take_flat {av : AV} {t : Ty} {m : Md} {k : den t → St → Option R} {r : R} {v : Value} (h : take st av t m k = some r) (hf : flat t = true) (hI : Inv w0 mu st.get val U w g) (hv : VR w g st.get av v) (d : Nat) (p : List Stp) :
  ∃ y, k y st = some r ∧ Loose w0 mu w st st g g lentC.1 d p t m y v := by
 obtain ⟨y, st1, hk, h1⟩ := take_sound h hI hv
 cases av with
 | v t' m' x =>
  simp only [take] at h
  split at h
  ·rename_i ht; subst ht
   split at h
   ·rename_i hl
    exact ⟨x, h, loose_free hI d p hv hl⟩
   ·cases h
  ·cases h
 | nilS => cases t <;> first | (cases hf; done) | (cases h; done)
 | al s n q =>
  simp only [take] at h
  split at h
  ·split at h
   ·obtain ⟨k1, e1, m', x, _, _, h⟩ := Own.mp_some h
    split at h
    ·rename_i ht; cases ht; cases hf
    ·cases h
   ·obtain ⟨e, m', x, _, _, h⟩ := Own.sl_some h
    split at h
    ·rename_i ht; subst ht; cases hf
    ·cases h
  ·cases h
 | nilP => cases t <;> first | (cases hf; done) | (cases h; done)
 | pl s n q =>
  simp only [take] at h
  split at h
  ·split at h
   ·split at h
    ·rename_i ht; subst ht; cases hf
    ·cases h
   ·cases h
  ·cases h
 | sub s n q lo len cp =>
  simp only [take] at h
  split at h
  ·obtain ⟨e, m', x, _, _, h⟩ := Own.sl_some h
   split at h
   ·rename_i ht; subst ht; cases hf
   ·cases h
  ·cases h
 | _ => cases h

theorem okP_split : ∀ (p r : List Stp) (t : Ty) (m : Md) (x : den t) (tv : TV), okP (p ++ r) t m x → walkP p t m x = some tv → okP r tv.t tv.m tv.x := by
 intro p
 induction p with
 | nil => intro r t m x tv h hw; simp only [walkP, Option.some.injEq] at hw; subst hw; exact h
 | cons c p ih =>
  intro r t m x tv h hw
  cases c with
  | dr => simp [walkP] at hw
  | fld n =>
   simp only [walkP] at hw
   simp only [List.cons_append, okP] at h
   obtain ⟨tv', hf, h⟩ := h
   rw [hf] at hw
   exact ih r _ _ _ tv h hw
  | el i =>
   cases t with
   | sl e =>
    simp only [walkP] at hw
    simp only [List.cons_append, okP] at h
    exact ih r _ _ _ tv h.2.2 hw
   | _ => simp [walkP] at hw
theorem shallow_prefix : ∀ {p q : List Stp}, p <+: q → shallow q = true → shallow p = true
 | [], _, _, _ => rfl
 | c :: p, [], h, _ => by simp at h
 | c :: p, d :: q, h, hs => by
  obtain ⟨rfl, h2⟩ := List.cons_prefix_cons.1 h
  cases c with
  | fld n => exact shallow_prefix (p := p) h2 hs
  | dr => exact absurd hs (by simp [shallow])
  | el i => exact absurd hs (by simp [shallow])

/-- a store deeper within -/
theorem storeN_sound (hT : TabOK P T) (hU : New U st.c) (hI : Inv w0 mu st.get (Vals a) U w g) {ty : Ty} {t : TypeId} (hty : T.ty t = some ty) {s n : Nat} {p : List Stp} {o' o1 : Own} {vx vy : Value}
  (ho' : ownP? (st.get s) n p = some o') (hvx : VR w g st.get (.pl s n p) vx) {m : Md} {y0 : den ty} (hat : o'.at p = some ⟨ty, m, y0⟩) (hsh : shallowD p = false) (hh : headOK p = true)
  {st1 : St} {g2 : Gh} {s0 : Nat} {y : den ty} (hL : Loose w0 mu w st st1 g g2 s0 s p ty m y vy) (hss : s ≠ s0) (hup : o'.upd p ty y = some o1) {c : Option Nat} (hc : (c = some st.c) ∨ (c = none ∧ flat ty = true ∧ g2 = g)) (hna : c = none → noApp st s = true) :
  ∃ g' w', (Instr.storeAt t vx vy).run P w = .ok () w' ∧ (∀ q, ¬ p <+: q → g'.H s q = g.H s q) ∧ Inv w0 mu (st1.set s (newAV (st.get s) o1 c)).get (Vals a) (Nw U st.c) w' g' := by
 obtain ⟨hv1, hok, hmem⟩ := hvx o' ho'
 have hsl : s ≠ lentC.1 := by intro h; subst h; rw [hI.lent] at ho'; cases ho'
 have hdead : st.get s ≠ .dead := by intro h; rw [h] at ho'; cases ho'
 obtain ⟨B, O, cb, c', el', hA, hcol, hcb, hheap, hsize⟩ := store_at hI ho' hok hat hh
 have hvc := shape_size hL.shape
 have hone := oneCells hL.shape hL.rr
 have hvl : vy.cells.toList.length = sz ty := by simpa using hvc
 obtain ⟨hW, hcells⟩ := written_setRow (w := w) (B := B) (O := O) (cur := c') (vs := vy.cells.toList) hheap (by rw [hvl]; exact hsize)
 rw [hvl] at hW hcells
 have hrun := store_run (w := w) (((hT _).1 _ hty).1) hvc hone hheap hsize
 rw [hvl] at hrun
 have hFr : Fr w0 mu (w.setRow B (c'.toList.take O ++ vy.cells.toList ++ c'.toList.drop (O + sz ty)).toArray) := Fr_setRow hI.fr (by
  obtain ⟨_, h⟩ := hI.cols B _ hcol
  rcases h with h | h
  ·exact absurd (congrArg Prod.fst h) hsl
  ·exact h)
 generalize hw' : w.setRow B (c'.toList.take O ++ vy.cells.toList ++ c'.toList.drop (O + sz ty)).toArray = w' at hW hcells hrun hFr
 have hlay := hL.lay hss hsl hcol hcb hW (fun j hj => by rw [hcells j hj]; simp)
 refine ⟨g2.lay s p B O (isCell ty), w', by rw [hv1, hA]; exact hrun, ?_⟩
 have hHq : ∀ r, ¬ p <+: r → (g2.lay s p B O (isCell ty)).H s r = g.H s r := fun r hr => hL.H s hss r fun _ => by
  cases h : strip p r with
  | none => rfl
  | some q => exact absurd (strip_some h ▸ List.prefix_append p q) hr
 refine ⟨hHq, ?_⟩
 have hs := hI.slots s
 have hst := hI.stamps s
 -- what RR_upd asks
 have hsh' : ∀ b l0, b < w.heap.size → shared g.col l0 b → b ≠ B ∧ shared (g2.lay s p B O (isCell ty)).col l0 b := fun b l0 _ hs => ⟨shared_ne hcol hsl hs, hL.sh b l0 hs⟩
 have hcol' : ∀ b r, g.col b = some (s, r) → ¬ p <+: r → (g2.lay s p B O (isCell ty)).col b = some (s, r) := fun b r hb _ => by
  show g2.col b = _
  rw [hL.un b s r hb hss, hb]
 have hH' : ∀ r, ¬ p <+: r → (g2.lay s p B O (isCell ty)).H s r = g.H s r := fun r hr => hL.H s hss r fun _ => by
  cases h : strip p r with
  | none => rfl
  | some q => exact absurd (strip_some h ▸ List.prefix_append p q) hr
 have hA' : ∀ r, (p <+: r → r = p) → (g2.lay s p B O (isCell ty)).A s r = g.A s r := fun r hr => by
  have h1 : ∀ q, strip p r = some q → q = [] := fun q hq => by
   have h2 := strip_some hq
   have h3 := hr (h2 ▸ List.prefix_append p q)
   rw [h3] at h2
   simpa using h2
  rw [lay_A fun _ j hj => by
   have := h1 [.fld j] (by rw [hj, strip_app])
   cases this]
  exact hL.A s hss r fun _ => h1
 -- the new stamp
 have hst' : ∀ n0, U n0 → Nw U st.c (c.getD n0) := fun n0 h => by
  rcases hc with rfl | ⟨rfl, _⟩
  ·exact Nw_0
  ·exact Nw_old h
 -- addresses below a part without slices
 have hflatA : g2 = g → ∀ r, okP r ty m y0 → flat ty = true → (∀ k, isCell ty = false → k < sz ty → g.A s (p ++ [.fld k]) = (B, O + k)) → (g2.lay s p B O (isCell ty)).A s (p ++ r) = g.A s (p ++ r) := by
  intro hg2 r hr hf hk
  subst hg2
  by_cases hj : ∃ j, r = [.fld j] ∧ isCell ty = false
  ·obtain ⟨j, rfl, hcf⟩ := hj
   have : j < sz ty := by
    obtain ⟨tv, hf1, _⟩ := hr
    -- the field's number lies within
    have key : ∀ (t : Ty) (x : den t) (k : Nat) (tv : TV), fieldK m j t x k = some tv → j < k + (match t with | .pair _ _ => sz t | _ => 0) ∧ k ≤ j := by
     intro t
     induction t with
     | pair a b _ ihb =>
      intro x k tv h
      simp only [fieldK] at h
      cases hb : Nat.beq k j with
      | true => have := Nat.eq_of_beq_eq_true hb; subst this; simp [sz]; omega
      | false =>
       rw [hb] at h
       obtain ⟨h1, h2⟩ := ihb _ _ _ h
       cases b <;> simp [sz] at h1 ⊢ <;> omega
     | _ => intro x k tv h; simp [fieldK] at h
    have := (key ty y0 0 tv hf1).1
    cases ty <;> simp at this ⊢ <;> omega
   rw [hk j hcf this]
   simp [Gh.lay, strip_app, hcf]
  ·rw [lay_A fun _ j hj2 => ?_]
   have := List.append_cancel_left hj2
   cases hc : isCell ty with
   | true => rfl
   | false => exact absurd ⟨j, this, hc⟩ hj
 have hfk : ∀ k, isCell ty = false → k < sz ty → g.A s (p ++ [.fld k]) = (B, O + k) := by
  intro k hc hk
  obtain ⟨b1, off1, k1, _, h2, h3, h4⟩ := ptr_node hI ho' hvx hat
  have := h3 hc
  subst this
  rw [hA] at h4
  simp only [Nat.add_zero, Prod.mk.injEq] at h4
  obtain ⟨rfl, rfl⟩ := h4
  exact RR_fieldA ty m (.mem 0 0) 0 y0 h2 hc k (Nat.zero_le _) (by omega)
 rcases ownP?_ow ho' with ⟨hb, hq⟩ | ⟨hb, n1, n2, hq⟩
 ·-- an owner
  obtain ⟨z, hz, rfl⟩ := upd_ow hb hup
  rw [hq] at hs hst ⊢
  rw [newAV_ow]
  obtain ⟨h1, h2⟩ := hs
  obtain ⟨ob, ot, om, ox⟩ := o'
  simp only at hb hz h1 h2 hst ⊢
  subst hb
  have hatw : walkP p ot om ox = some ⟨ty, m, y0⟩ := by
   cases p with
   | nil => cases hh
   | cons c p => cases c <;> simp [Own.at] at hat ⊢ <;> exact hat
  have hokw : okP p ot om ox := by
   cases p with
   | nil => cases hh
   | cons c p => cases c <;> simpa [Own.ok] using hok
  have hrr : RR w' (g2.lay s p B O (isCell ty)) s ot om [] (.val (Vals a s).cells) 0 z := by
   refine RR_upd hW hsh' hcol' hH' hA' rfl hlay hA p ot om [] _ 0 ox z y0 h2 (fun _ => rfl) hokw hatw hz (fun _ _ h => by cases h) rfl (fun _ _ h => by cases h) (.inr ?_)
   cases p with
   | nil => cases hh
   | cons c p => cases c <;> first | exact ⟨_, _, rfl⟩ | (simp [okP] at hokw; done) | cases hh
  refine Inv_store hI hL hss hsl hdead hcol hW hFr (fun _ => Nw_old) ⟨h1, hrr⟩ (hst' n hst) ?_ ?_ (by
   rcases hc with rfl | ⟨rfl, _, _⟩
   ·exact .inl fun n' hn' => own?_new hU hn'
   ·exact .inr (noApp_get (hna rfl)))
  ·intro n' hn' o'' h7
   rcases hc with rfl | ⟨rfl, hf, hg2⟩
   ·simp only [own?, Option.getD_some] at h7
    cases hbq : Nat.beq n' st.c with
    | true => have := Nat.eq_of_beq_eq_true hbq; subst this; exact absurd hn' hU.1
    | false => rw [hbq] at h7; cases h7
   ·simp only [own?, Option.getD_none] at h7
    cases hbq : Nat.beq n' n with
    | false => rw [hbq] at h7; cases h7
    | true =>
     rw [hbq] at h7
     simp only [Option.some.injEq] at h7
     subst h7
     refine ⟨⟨false, ot, om, ox⟩, by rw [hq]; simp [own?, hbq], fun p' hp' => ?_⟩
     have hp2 : okP p' ot om ox := by cases p' with
      | nil => trivial
      | cons c p' => cases c <;> simpa [Own.ok] using hp'
     obtain ⟨h8, h9⟩ := okP_upd hf p ot om m ox z y0 hatw hz p' hp2
     refine ⟨?_, by subst hg2; rfl, fun e me xe hx => ?_⟩
     ·cases p' with
      | nil => trivial
      | cons c p' => cases c <;> first | exact h8 | (simp [okP] at hp2; done)
     ·have hx' : walkP p' ot om ox = some ⟨.sl e, me, xe⟩ := by cases p' with
       | nil => exact hx
       | cons c p' => cases c <;> first | exact hx | (simp [okP] at hp2; done)
      obtain ⟨me', xe', h10, h11⟩ := h9 e me xe hx'
      refine ⟨me', xe', ?_, h11⟩
      cases p' with
      | nil => exact h10
      | cons c p' => cases c <;> first | exact h10 | (simp [okP] at hp2; done)
  ·intro n' p' hn' o'' h7
   rcases hc with rfl | ⟨rfl, hf, hg2⟩
   ·simp only [ownP?, Option.getD_some] at h7
    cases hbq : Nat.beq n' st.c with
    | true => have := Nat.eq_of_beq_eq_true hbq; subst this; exact absurd hn' hU.1
    | false => rw [hbq] at h7; cases h7
   ·simp only [ownP?, Option.getD_none] at h7
    cases hbq : Nat.beq n' n with
    | false => rw [hbq] at h7; cases h7
    | true =>
     rw [hbq] at h7
     simp only [Option.some.injEq] at h7
     subst h7
     refine ⟨⟨false, ot, om, ox⟩, by rw [hq]; simp [ownP?, hbq], fun hp' hm' => ?_⟩
     have hp2 : okP p' ot om ox := by cases p' with
      | nil => trivial
      | cons c p' => cases c <;> simpa [Own.ok] using hp'
     obtain ⟨h8, _⟩ := okP_upd hf p ot om m ox z y0 hatw hz p' hp2
     refine ⟨?_, hm', ?_⟩
     ·cases p' with
      | nil => trivial
      | cons c p' => cases c <;> first | exact h8 | (simp [okP] at hp2; done)
     ·by_cases hpp : p <+: p'
      ·obtain ⟨r, rfl⟩ := hpp
       exact hflatA hg2 r (okP_split p r ot om ox _ hp2 hatw) hf hfk
      ·exact hA' p' fun h => absurd h hpp
 ·-- a box
  obtain ⟨q, z, rfl, hz, rfl⟩ := upd_box hb hup
  rw [hq] at hs hst ⊢
  rw [newAV_box]
  obtain ⟨b, cc, el, h1, h2, h3, h4, h5, h6⟩ := hs
  obtain ⟨ob, ot, om, ox⟩ := o'
  simp only at hb hz h4 h6 hst ⊢
  subst hb
  have hatw : walkP q ot om ox = some ⟨ty, m, y0⟩ := hat
  have hokw : okP q ot om ox := hok
  have hrr : RR w' (g2.lay s (.dr :: q) B O (isCell ty)) s ot om [.dr] (.mem b 0) 0 z :=
   RR_upd hW hsh' hcol' hH' hA' rfl hlay hA q ot om [.dr] (.mem b 0) 0 ox z y0 h6 (fun _ => rfl) hokw hatw hz (fun b' off hb' => by cases hb'; simpa using h5) rfl (fun b' off hb' => by cases hb'; exact ⟨[], h2, by simp⟩) (.inl ⟨_, _, rfl⟩)
  have hblk : ∃ c2, w'.heap[b]? = some (.cells c2 el (0, 0)) ∧ c2.size = cc.size := by
   by_cases hbB : b = B
   ·subst hbB; exact hW.obj _ _ _ h3
   ·exact ⟨cc, by rw [hW.other b hbB]; exact h3, rfl⟩
  obtain ⟨c2, h7, h8⟩ := hblk
  have hAd : (g2.lay s (.dr :: q) B O (isCell ty)).A s [.dr] = g.A s [.dr] := hA' _ fun hp => by
   obtain ⟨r, hr⟩ := hp
   simp only [List.cons_append, List.cons.injEq, List.append_eq_nil_iff, true_and] at hr
   rw [hr.1]
  refine Inv_store hI hL hss hsl hdead hcol hW hFr (fun _ => Nw_old) ⟨b, c2, el, h1, ?_, h7, by omega, by rw [hAd]; exact h5, hrr⟩ ⟨Nw_old hst.1, hst' _ hst.2⟩ ?_ ?_ (by
   rcases hc with rfl | ⟨rfl, _, _⟩
   ·refine .inl fun n' hn' => ?_
    simp only [own?, Option.getD_some]
    cases hbq : Nat.beq n' st.c with
    | false => rfl
    | true => have := Nat.eq_of_beq_eq_true hbq; subst this; exact absurd hn' hU.1
   ·exact .inr (noApp_get (hna rfl)))
  ·show g2.col b = _
   rw [hL.un b s [] h2 hss, h2]
  ·intro n' hn' o'' h9
   rcases hc with rfl | ⟨rfl, hf, hg2⟩
   ·simp only [own?, Option.getD_some] at h9
    cases hbq : Nat.beq n' st.c with
    | true => have := Nat.eq_of_beq_eq_true hbq; subst this; exact absurd hn' hU.1
    | false => rw [hbq] at h9; cases h9
   ·simp only [own?, Option.getD_none] at h9
    cases hbq : Nat.beq n' n2 with
    | false => rw [hbq] at h9; cases h9
    | true =>
     rw [hbq] at h9
     simp only [Option.some.injEq] at h9
     subst h9
     refine ⟨⟨true, ot, om, ox⟩, by rw [hq]; simp [own?, hbq], fun p' hp' => ?_⟩
     cases p' with
     | nil => simp [Own.ok] at hp'
     | cons d p' =>
      cases d with
      | dr =>
       obtain ⟨h10, h11⟩ := okP_upd hf q ot om m ox z y0 hatw hz p' hp'
       exact ⟨h10, by subst hg2; rfl, fun e me xe hx => h11 e me xe hx⟩
      | fld _ => simp [Own.ok] at hp'
      | el _ => simp [Own.ok] at hp'
  ·intro n' p' hn' o'' h9
   have key : ∀ p', o''.box = true → ownP? (st.get s) n' p' = some ⟨true, ot, om, ox⟩ → (shallowD p' = true ∨ (flat ty = true ∧ g2 = g)) → o'' = ⟨true, ot, om, z⟩ → ∃ o, ownP? (st.get s) n' p' = some o ∧
     (o.ok p' → o.mem p' → o''.ok p' ∧ o''.mem p' ∧ (g2.lay s (.dr :: q) B O (isCell ty)).A s p' = g.A s p') := by
    intro p' _ ho2 hcase ho3
    subst ho3
    refine ⟨_, ho2, fun hp' hm' => ?_⟩
    cases p' with
    | nil => simp [Own.ok] at hp'
    | cons d p' =>
     cases d with
     | fld _ => simp [Own.ok] at hp'
     | el _ => simp [Own.ok] at hp'
     | dr =>
      have hp2 : okP p' ot om ox := hp'
      rcases hcase with hsh' | ⟨hf, hg2⟩
      ·refine ⟨okP_shallow p' _ _ _ _ _ hsh' hp2, .inl rfl, hA' _ fun h => ?_⟩
       have h10 := shallow_prefix (List.cons_prefix_cons.1 h).2 hsh'
       have h11 : shallow q = false := hsh
       rw [h11] at h10; cases h10
      ·obtain ⟨h10, _⟩ := okP_upd hf q ot om m ox z y0 hatw hz p' hp2
       refine ⟨h10, .inl rfl, ?_⟩
       by_cases hpp : q <+: p'
       ·obtain ⟨r, rfl⟩ := hpp
        exact hflatA hg2 r (okP_split q r ot om ox _ hp2 hatw) hf hfk
       ·exact hA' _ fun h => absurd (List.cons_prefix_cons.1 h).2 hpp
   simp only [ownP?] at h9
   split at h9
   ·rename_i h10
    simp only [Option.some.injEq] at h9
    rcases hc with rfl | ⟨rfl, hf, hg2⟩
    ·have h11 : Nat.beq n' st.c = false := by
      cases hb : Nat.beq n' st.c with
      | true => have := Nat.eq_of_beq_eq_true hb; subst this; exact absurd hn' hU.1
      | false => rfl
     simp only [Option.getD_some, h11, Bool.or_false] at h10
     refine key p' (by rw [← h9]) (by rw [hq]; simp [ownP?, h10]) (.inl ?_) h9.symm
     simp only [Bool.and_eq_true] at h10
     exact h10.2
    ·simp only [Option.getD_none] at h10
     exact key p' (by rw [← h9]) (by rw [hq]; simp [ownP?, h10]) (.inr ⟨hf, hg2⟩) h9.symm
   ·cases h9

/-- aliases of all that slot s owns hold on -/
theorem Inv_rest {st1 : St} {s n c : Nat} {v : AV} {w' : World} {g' : Gh} {U' : Nat → Prop} (hI : Inv w0 mu (st1.set s v).get val U' w' g') (hc : U' c)
  (h : ∀ u q, st1.get u = .al s n q → topP q = true → ∀ o, own? v c = some o → val u = g'.H s q ∧ o.ok q) : Inv w0 mu ((st1.rest s n c).set s v).get val U' w' g' := by
 have hget : ∀ u, ((st1.rest s n c).set s v).get u = if u = s then v else restA s n c (st1.get u) := fun u => by rw [get_set, rest_get]
 have hfree : ∀ u, u ≠ s → restA s n c (st1.get u) ≠ st1.get u → ∃ q, st1.get u = .al s n q ∧ topP q = true ∧ restA s n c (st1.get u) = .al s c q := by
  intro u _ hne
  cases hq : st1.get u with
  | al s' n' q =>
   simp only [hq, restA] at hne ⊢
   split at hne
   ·rename_i hb
    simp only [Bool.and_eq_true] at hb
    have h1 := Nat.eq_of_beq_eq_true hb.1
    have h2 := Nat.eq_of_beq_eq_true hb.2.1
    subst h1 h2
    exact ⟨q, rfl, hb.2.2, by simp [hb.2.2]⟩
   ·exact absurd rfl hne
  | _ => rw [hq] at hne; exact absurd rfl hne
 refine Inv_upd hI (fun u => u ≠ s ∧ restA s n c (st1.get u) ≠ st1.get u) (fun _ h => h) (Nat.le_refl _) (fun b l0 _ hb => ⟨rfl, hb⟩) ?_ ?_ ?_ ?_ hI.cols hI.fr ?_ (fun _ h => h) (.inl ?_)
 ·intro u hu
  refine ⟨?_, rfl, fun _ _ _ => ⟨rfl, rfl⟩, fun _ => rfl, fun _ => rfl⟩
  rw [hget, get_set]
  by_cases hus : u = s
  ·simp [hus]
  ·simp only [hus, if_false]
   exact Classical.not_not.1 fun h => hu ⟨hus, h⟩
 ·intro u hu n' _ o' ho'
  obtain ⟨q, _, _, h3⟩ := hfree u hu.1 hu.2
  rw [hget, if_neg hu.1, h3] at ho'
  cases ho'
 ·intro u hu n' p' _ o' ho'
  obtain ⟨q, _, _, h3⟩ := hfree u hu.1 hu.2
  rw [hget, if_neg hu.1, h3] at ho'
  cases ho'
 ·intro u hu
  obtain ⟨q, h1, h2, h3⟩ := hfree u hu.1 hu.2
  rw [hget, if_neg hu.1, h3]
  refine ⟨fun o ho => ?_, hc⟩
  rw [hget, if_pos rfl] at ho
  exact h u q h1 h2 o ho
 ·intro u hu
  have := hI.far u hu
  rw [get_set] at this
  rw [hget]
  split
  ·rename_i hus; rw [if_pos hus] at this; exact this
  ·rename_i hus; rw [if_neg hus] at this; rw [this]; rfl
 ·intro u hu n' _
  obtain ⟨q, _, _, h3⟩ := hfree u hu.1 hu.2
  rw [hget, if_neg hu.1, h3]
  rfl

/-- the same, behind a store to a part -/
theorem Inv_restN {st1 : St} {s n : Nat} {p : List Stp} {o' o1 : Own} {w' : World} {g' : Gh} {U' : Nat → Prop} {c : Nat} (hI0 : Inv w0 mu st.get val U w g) (ho' : ownP? (st.get s) n p = some o') (hh : headOK p = true) (hsh : shallowD p = false) {t : Ty} {y : den t} (hup : o'.upd p t y = some o1)
  (hst1 : ∀ u q, st1.get u = .al s (formOf (st.get s)) q → st.get u = .al s (formOf (st.get s)) q) (hH : ∀ q, ¬ p <+: q → g'.H s q = g.H s q) (hc : U' c)
  (hI : Inv w0 mu (st1.set s (newAV (st.get s) o1 (some c))).get val U' w' g') : Inv w0 mu ((st1.rest s (formOf (st.get s)) c).set s (newAV (st.get s) o1 (some c))).get val U' w' g' := by
 refine Inv_rest hI hc fun u q hu ht o ho => ?_
 have h0 := hI0.slots u
 rw [hst1 u q hu] at h0
 have hpq : ¬ p <+: q := fun h => by
  cases p with
  | nil => cases hh
  | cons x p =>
   cases q with
   | nil => simp at h
   | cons y q =>
    cases y <;> first | cases ht | skip
    cases q with
    | cons _ _ => cases ht
    | nil =>
     obtain ⟨rfl, h2⟩ := List.cons_prefix_cons.1 h
     have : p = [] := by simpa using h2
     subst this; cases hsh
 rcases ownP?_ow ho' with ⟨hb, hq⟩ | ⟨hb, n1, n2, hq⟩
 ·obtain ⟨z, hz, rfl⟩ := upd_ow hb hup
  rw [hq] at ho h0
  obtain ⟨h1, h2⟩ := h0 ⟨false, o'.t, o'.m, o'.x⟩ (by rw [hq]; simp [own?, formOf])
  refine ⟨by rw [hH q hpq]; exact h1, ?_⟩
  rw [newAV_ow] at ho
  simp only [own?, Option.getD_some, Nat.beq_refl, Option.some.injEq] at ho
  subst ho
  cases q with
  | nil => trivial
  | cons y q => cases y <;> first | cases ht | (simp [Own.ok, okP] at h2)
 ·obtain ⟨q', z, rfl, hz, rfl⟩ := upd_box hb hup
  rw [hq] at ho h0
  obtain ⟨h1, h2⟩ := h0 ⟨true, o'.t, o'.m, o'.x⟩ (by rw [hq]; simp [own?, formOf])
  refine ⟨by rw [hH q hpq]; exact h1, ?_⟩
  rw [newAV_box] at ho
  simp only [own?, Option.getD_some, Nat.beq_refl, Option.some.injEq] at ho
  subst ho
  cases q with
  | nil => simp [Own.ok] at h2
  | cons y q =>
   cases y <;> first | cases ht | skip
   cases q with
   | cons _ _ => cases ht
   | nil => trivial

/-- the parts' addresses in a row of slot s that lies at p -/
def Gh.room (g : Gh) (s : Nat) (p : List Stp) (B O k : Nat) (hdr : Value) : Gh where
 col := g.col
 H s' q := if s' = s then (match strip p q with | some [] => hdr | _ => g.H s' q) else g.H s' q
 A s' q := if s' = s then (match strip p q with
  | some [.el i] => (B, O + i * k)
  | some [.el i, .fld j] => (B, O + i * k + j)
  | _ => g.A s' q) else g.A s' q

/-- what an append made of a part, on its way there -/
theorem app_loose (hI : Inv w0 mu st.get (Vals a) U w g) {d s n : Nat} {p : List Stp} {e : Ty} {nz : Bool} {me : Md} {zs : List (den e)} (hd : st.get d = .app s n p e nz me zs) {o' : Own} (ho : own? (st.get s) n = some o') (hfar : ¬ mu.far d) (hds : d ≠ s) :
  ∃ g2 xs, o'.ok p ∧ o'.at p = some ⟨.sl e, .own nz me, xs⟩ ∧ Loose w0 mu w st (st.set d .dead) g g2 d s p (.sl e) (.own nz me) zs (Vals a d) := by
 have hs := hI.slots d
 rw [hd] at hs
 obtain ⟨h1, h2, xs, h3, h4⟩ := hs o' ho
 rcases h4 with ⟨h4, h5⟩ | ⟨ad, cap, h5, h6, h7, h8, h9, h10, ⟨c, el, h11, h12⟩, h13⟩
 ·exact ⟨_, xs, h1, h3, loose_moveA hI s p hfar rfl (fun _ _ => rfl) (fun _ _ => rfl) h4 h5⟩
 ·obtain ⟨B, O, sp⟩ := ad
  simp only at h5 h7 h11 h12 h13
  subst h5
  refine ⟨g.room s p B O (sz e) (Vals a d), xs, h1, h3, ?_⟩
  refine ⟨fun b l h => h, fun _ _ _ _ _ => rfl, fun s' _ q hq => ?_, fun s' _ q hq => ?_, hI.cols, fun _ h => h, by rw [h8]; rfl, ?_, .inr ⟨hfar, rfl⟩⟩
  ·simp only [Gh.room]
   by_cases hss : s' = s
   ·rw [if_pos hss, hq hss]
   ·rw [if_neg hss]
  ·simp only [Gh.room]
   by_cases hss : s' = s
   ·rw [if_pos hss]
    cases hst : strip p q with
    | none => rfl
    | some r => rw [hq hss r hst]
   ·rw [if_neg hss]
  ·simp only [RR, Md.isOwn]
   have hH : (g.room s p B O (sz e) (Vals a d)).H s p = Vals a d := by
    have := strip_app p []
    rw [List.append_nil] at this
    simp only [Gh.room, if_true, this]
   refine ⟨some ⟨B, O, none⟩, cap, by rw [hH, h8]; rfl, by rw [hH, h8], h9, fun _ h => absurd h h10, rfl, h7, ⟨c, el, h11, h12⟩, fun i hi => ⟨by simp [Gh.room, strip_app], ?_⟩⟩
   obtain ⟨cs, h14, h15⟩ := h13 i hi
   refine RR_repath (g := g) (g' := g.room s p B O (sz e) (Vals a d)) (Nat.le_refl _) (fun b l0 _ hb => ⟨rfl, hb⟩) e me [] _ _ _ 0 _ h15 h2 ?_ fun j hj => ?_
   ·intro _ n' b off hb _ _
    cases hb
    have := strip_app p [.el i, .fld n']
    simp [Gh.room, strip_app]
   ·simp only [rdS, Nat.zero_add]
    exact h14 j hj

theorem storeS_sound (hT : TabOK P T) (hU : New U st.c) (hI : Inv w0 mu st.get (Vals a) U w g) (hd : DstOK mu o a) {rs : Bool} {t : TypeId} {x y : Operand} (ho : o.op = .store t x y) (h : storeS T rs st t x y K = some r) : StepOK P w0 mu (Nw U st.c) o a w K r := by
 unfold storeS at h
 split at h
 ·rename_i ty hty
  obtain ⟨ax, h1, hvx, hx1, hx2⟩ := opd_sound hI h
  clear h
  split at h1
  ·rename_i hap
   clear hx1 hx2 hap
   unfold storeA at h1
   split at h1
   ·rename_i d
    split at h1
    ·rename_i s n p e nz me zs hda
     split at h1
     ·rename_i s' n' p'
      obtain ⟨hg, h4⟩ := guardK_some h1
      clear h1
      obtain ⟨hg2, h5⟩ := guardB_some h4
      clear h4
      simp only [Bool.and_eq_true, decide_eq_true_eq, Bool.not_eq_true'] at hg hg2
      obtain ⟨⟨hg1, hg4⟩, hg5⟩ := hg
      have hg1 := Nat.eq_of_beq_eq_true hg1
      subst hg1 hg2
      split at h5
      ·rename_i o0 o1 ho0 ho1
       split at h5
       ·rename_i t' m' y0 hat
        split at h5
        ·rename_i he
         subst he
         obtain ⟨rfl, h6⟩ := sameTy_some h5
         clear h5
         have hds : d ≠ s := fun h => by subst h; simp [Nat.beq_refl] at hg5
         have hfar : ¬ mu.far d := fun h => by rw [hI.far d h] at hda; cases hda
         obtain ⟨g2, xs, hok, hat2, hL⟩ := app_loose hI hda ho0 hfar hds
         have hoo : o0.at p = o1.at p := by
          rcases ownP?_ow ho1 with ⟨hb, hq⟩ | ⟨hb, n1, n2, hq⟩
          ·rw [hq] at ho0
           simp only [own?] at ho0
           split at ho0
           ·obtain ⟨ob, ot, om, ox⟩ := o1
            simp only at hb; subst hb
            cases ho0; rfl
           ·cases ho0
          ·rw [hq] at ho0
           simp only [own?] at ho0
           split at ho0
           ·obtain ⟨ob, ot, om, ox⟩ := o1
            simp only at hb; subst hb
            cases ho0; rfl
           ·cases ho0
         rw [hoo, hat] at hat2
         simp only [Option.some.injEq, TV.mk.injEq, true_and] at hat2
         obtain ⟨rfl, _⟩ := hat2
         split at h6
         ·rename_i hg3
          obtain ⟨st', g', w', hk, hrun, hI'⟩ := boxPut_sound hT hU hI hty ho1 hvx hat hg3 hL h6
          exact ⟨_, _, hk, fun next Q hn => K_done hd (by
           have hrun' : (Instr.storeAt t (a.eval x) (a.eval (.tmp d))).run P w = .ok () w' := hrun
           simp [execOp, ho, hrun']) hI' hn⟩
         ·rename_i hg3
          split at h6
          ·rename_i o2 hup
           rw [AV.force_eq] at h6
           obtain ⟨g', w', hrun, hHq, hI'⟩ := storeN_sound hT hU hI hty ho1 hvx hat hg3 hg4 hL (Ne.symm hds) hup (.inl rfl) (fun h => by cases h)
           exact ⟨_, _, h6, fun next Q hn => K_done hd (by
            have hrun' : (Instr.storeAt t (a.eval x) (a.eval (.tmp d))).run P w = .ok () w' := hrun
            simp [execOp, ho, hrun']) hI' hn⟩
          ·cases h6
        ·cases h5
       ·cases h5
      ·cases h5
     ·cases h1
    ·cases h1
   ·cases h1
  obtain ⟨ay, h2, hvy, hy1, hy2⟩ := opd_sound hI h1
  clear h1 hx1 hx2 hy1 hy2
  unfold storeD at h2
  split at h2
  ·rename_i s n p
   split at h2
   ·rename_i o' ho'
    split at h2
    ·rename_i t' m y0 hat
     obtain ⟨rfl, h⟩ := sameTy_some h2
     clear h2
     split at h
     ·rename_i hsh
      obtain ⟨st', g', w', hk, hrun, hI'⟩ := storeB_sound hT hU hI hty ho' hvx hvy hat hsh h
      exact ⟨_, _, hk, fun next Q hn => K_done hd (by simp [execOp, ho, hrun]) hI' hn⟩
     ·rename_i hsh
      obtain ⟨hh, h3⟩ := guardB_some h
      clear h
      have hsl : s ≠ lentC.1 := by intro h; subst h; rw [hI.lent] at ho'; cases ho'
      by_cases hf : flat t' = true
      ·obtain ⟨y, h, hL⟩ := take_flat h3 hf hI hvy s p
       split at h
       ·rename_i o2 ho2
        rw [ho'] at ho2
        obtain rfl := Option.some.inj ho2
        split at h
        ·rename_i o1 hup
         split at h
         ·rename_i hm
          rw [AV.force_eq] at h
          obtain ⟨g', w', hrun, hHq, hI'⟩ := storeN_sound hT hU hI hty ho' hvx hat hsh hh hL hsl hup (.inl rfl) (fun h => by cases h)
          cases rs with
          | true => exact ⟨_, _, h, fun next Q hn => K_done hd (by simp [execOp, ho, hrun]) (Inv_restN hI ho' hh hsh hup (fun u q hu => hu) hHq Nw_0 hI') hn⟩
          | false => exact ⟨_, _, h, fun next Q hn => K_done hd (by simp [execOp, ho, hrun]) hI' hn⟩
         ·rename_i hm
          obtain ⟨hna, h⟩ := guardK_some h
          rw [AV.force_eq] at h
          obtain ⟨g', w', hrun, hHq, hI'⟩ := storeN_sound hT hU hI hty ho' hvx hat hsh hh hL hsl hup (c := none) (.inr ⟨rfl, hf, rfl⟩) (fun _ => hna)
          exact ⟨_, _, h, fun next Q hn => K_done hd (by simp [execOp, ho, hrun]) hI' hn⟩
        ·cases h
       ·cases h
      ·obtain ⟨y, st1, g2, s0, h, hL⟩ := take_loose h3 hI hvy s p
       split at h
       ·rename_i o2 ho2
        have hss : s ≠ s0 := by
         intro hs
         rw [hL.get hI, if_pos hs] at ho2; cases ho2
        have hg1 : st1.get s = st.get s := by rw [hL.get hI, if_neg hss]
        rw [hg1, ho'] at ho2
        obtain rfl := Option.some.inj ho2
        split at h
        ·rename_i o1 hup
         split at h
         ·rename_i hm
          rw [AV.force_eq] at h
          have hc1 : st1.c = st.c := hL.c
          rw [hg1, hc1] at h
          obtain ⟨g', w', hrun, hHq, hI'⟩ := storeN_sound hT hU hI hty ho' hvx hat hsh hh hL hss hup (.inl rfl) (fun h => by cases h)
          cases rs with
          | true => exact ⟨_, _, h, fun next Q hn => K_done hd (by simp [execOp, ho, hrun]) (Inv_restN hI ho' hh hsh hup (fun u q hu => by
            rw [hL.get hI] at hu
            split at hu
            ·cases hu
            ·exact hu) hHq Nw_0 hI') hn⟩
          | false => exact ⟨_, _, h, fun next Q hn => K_done hd (by simp [execOp, ho, hrun]) hI' hn⟩
         ·rename_i hm
          simp [hf] at hm
        ·cases h
       ·cases h
    ·cases h2
   ·cases h2
  ·cases h2
 ·cases h

theorem step_store (hT : TabOK P T) (hU : New U st.c) (hI : Inv w0 mu st.get (Vals a) U w g) (hd : DstOK mu o a) {t : TypeId} {x y : Operand} (ho : o.op = .store t x y) (h : step T Φ o st K = some r) : StepOK P w0 mu (Nw U st.c) o a w K r := by
 unfold step at h; rw [ho] at h
 exact storeS_sound hT hU hI hd ho h
end
end Go.Ab
