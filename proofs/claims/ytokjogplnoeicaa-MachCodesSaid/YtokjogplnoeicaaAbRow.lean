/- New rows. -/
import Derived.Test.YtokjogplnoeicaaAbBuild
namespace Go.Ab

section
variable {P : Program} {T : Tab} {Φ : Nat → Option Contract} {w0 w : World} {mu : Mu} {st : St} {a : Act} {g : Gh} {R : Type} {o : Oper} {K : AV → St → Option R} {r : R} {val : Nat → Value} {U : Nat → Prop}

/-- a row of slot d, block b; elements of s cells -/
def Gh.row (g : Gh) (d b s : Nat) (hdr : Value) : Gh where
 col b' := if b' = b then some (d, []) else g.col b'
 H s' q := if s' = d then (match q with | [] => hdr | _ :: _ => .slice none 0 0) else g.H s' q
 A s' q := if s' = d then (match q with
  | [.el i] => (b, i * s)
  | [.el i, .fld j] => (b, i * s + j)
  | _ => (0, 0)) else g.A s' q

theorem Inv_row {c : Nat} {av : Nat → AV} {w' : World} (h : Inv w0 mu av val U w g) (s0 d : Nat) (hd : ¬ mu.far d) (hU : New U c) {C : Array Value} {el : TypeId} (hheap : w'.heap = w.heap.push (.cells C el (0, 0))) (hfr : Fr w0 mu w')
  {e : Ty} {nz : Bool} {me : Md} {xs : List (den e)} {cap : Nat} (hcap : xs.length ≤ cap) (hC : cap * sz e ≤ C.size) (hnz : nz = true → xs ≠ [])
  (hel : ∀ i, i < xs.length → ∃ cs : Array Value, (∀ j, j < sz e → C[i * sz e + j]? = cs[j]?) ∧
   ((me.hasOwn = false ∧ RR w g 0 e me [] (.val cs) 0 (xs.getD i (dflt e))) ∨ (xs.getD i (dflt e) = dflt e ∧ ∃ (P : Program) (tt : TypeId), noMp e = true ∧ TM P e tt ∧ ∀ j, j < sz e → cs[j]? = (zeros e)[j]?))) :
  Inv w0 mu (fun u => if u = d then .ow c (.sl e) (.own nz me) xs else if u = s0 then .dead else av u) (fun u => if u = d then .slice (some ⟨w.heap.size, 0, none⟩) xs.length cap else val u) (Nw U c) w'
   (g.row d w.heap.size (sz e) (.slice (some ⟨w.heap.size, 0, none⟩) xs.length cap)) := by
 have hold : ∀ b, b < w.heap.size → w'.heap[b]? = w.heap[b]? := fun b hb => by
  rw [hheap, Array.getElem?_push, if_neg (by omega)]
 have hnew : w'.heap[w.heap.size]? = some (.cells C el (0, 0)) := by rw [hheap, Array.getElem?_push, if_pos rfl]
 have hsz : w'.heap.size = w.heap.size + 1 := by rw [hheap]; simp
 have hsh : ∀ b l0, b < w.heap.size → shared g.col l0 b → w'.heap[b]? = w.heap[b]? ∧ shared (g.row d w.heap.size (sz e) (.slice (some ⟨w.heap.size, 0, none⟩) xs.length cap)).col l0 b := by
  intro b l0 hb hs
  refine ⟨hold b hb, ?_⟩
  have : b ≠ w.heap.size := Nat.ne_of_lt hb
  simp only [shared, Gh.row, this, if_false]; exact hs
 refine Inv_put h s0 d _ _ (fun _ => Nw_old) (by omega) hsh ?_ ?_ ?_ ?_ Nw_0 (fun n hn => own?_new hU hn) (fun n p hn => ownP?_new hU hn) ?_ hfr hd (fun b hb => by
  have : b ≠ w.heap.size := Nat.ne_of_lt (h.cols b _ hb).1
  simp only [Gh.row, this, if_false]; exact hb)
 ·intro b s r hb _ _
  have hb' := (h.cols b _ hb).1
  refine ⟨hold b hb', ?_⟩
  have : b ≠ w.heap.size := Nat.ne_of_lt hb'
  simp only [Gh.row, this, if_false]
 ·intro s h1 _ p; simp only [Gh.row, h1, if_false]
 ·intro s h1 _ p; simp only [Gh.row, h1, if_false]
 ·refine ⟨rfl, ?_⟩
  simp only [RR, Md.isOwn]
  refine ⟨some ⟨w.heap.size, 0, none⟩, cap, by simp [Gh.row, rdS]; rfl, by simp [Gh.row], hcap, fun hz hx => absurd hx (hnz hz), rfl, by simp [Gh.row], ⟨C, el, hnew, by simpa using hC⟩, fun i hi => ⟨by simp [Gh.row], ?_⟩⟩
  obtain ⟨cs, h2, h1⟩ := hel i hi
  rcases h1 with ⟨hme, h1⟩ | ⟨h1, P, tt, hnm, h3, h4⟩
  rotate_left
  ·rw [h1]
   have h5 := RR_zero_top (w := w') (g := g.row d w.heap.size (sz e) (.slice (some ⟨w.heap.size, 0, none⟩) xs.length cap)) (s := d) (p := [.el i]) (m := me) hnm h3 (fun r => by simp [Gh.row]) h4
   refine RR_tomem (Nat.le_refl _) (fun b l0 _ hs => ⟨rfl, hs⟩) e _ [.el i] 0 _ h5 (fun b r hb => ⟨rfl, hb⟩) (fun _ => rfl) (fun _ _ _ => rfl) (fun _ _ _ _ => rfl) (fun _ n _ _ => by simp [Gh.row]) fun j hj => ?_
   simp only [rdS, World.cell?, hnew, Nat.zero_add]
   exact h2 j hj
  refine RR_repath (by omega) hsh e me [] _ _ _ 0 _ h1 hme ?_ fun j hj => ?_
  ·intro _ n b off hb _ _
   cases hb
   simp [Gh.row]
  ·simp only [rdS, World.cell?, hnew, Nat.zero_add]
   exact h2 j hj
 ·intro b k hk
  simp only [Gh.row] at hk
  split at hk
  ·rename_i hb; subst hb
   cases hk
   exact ⟨by omega, .inr (.inl h.fr.size)⟩
  ·obtain ⟨h1, h2⟩ := h.cols b k hk
   exact ⟨by omega, h2⟩

/-- the parts of a slice's literal, each taken to be shared -/
theorem partsS_sound {ρ : Operand → Value} {e : Ty} {m : Md} (hm : m.hasOwn = false) (hop : ∀ {st : St} {g : Gh} {x : Operand} {k : AV → Option R} {r : R}, Inv w0 mu st.get val U w g → opd st x k = some r → ∃ av, k av = some r ∧ VR w g st.get av (ρ x)) :
  ∀ (ps : List (Nat × Operand)) (i : Nat) (st : St) (g : Gh) (k : List (den e) → St → Option R) (r : R), partsS e m i ps st k = some r → Inv w0 mu st.get val U w g →
  ∃ xs st1 g1, k xs st1 = some r ∧ st1.c = st.c ∧ Inv w0 mu st1.get val U w g1 ∧ Kept w g g1 ∧ xs.length = ps.length ∧
   ∀ j, j < ps.length → ∃ x, ps[j]? = some (i + j, x) ∧ shapeV e (ρ x) ∧ RR w g1 0 e m [] (.val (ρ x).cells) 0 (xs.getD j (dflt e)) := by
 intro ps
 induction ps with
 | nil => intro i st g k r h hI; exact ⟨[], st, g, h, rfl, hI, Kept.refl, rfl, fun j hj => absurd hj (Nat.not_lt_zero j)⟩
 | cons p ps ih =>
  intro i st g k r h hI
  obtain ⟨j, x⟩ := p
  simp only [partsS] at h
  cases hij : Nat.beq i j with
  | true =>
   rw [hij] at h
   have := Nat.eq_of_beq_eq_true hij
   subst this
   simp only at h
   obtain ⟨av, h, hv⟩ := hop hI h
   obtain ⟨y, st1, g1, h1, h2, h3, h4, h5⟩ := take_ro h hm hI hv
   obtain ⟨xs, st2, g2, h6, h7, h8, h9, h10, h11⟩ := ih (i + 1) st1 g1 _ r h1 h3
   refine ⟨y :: xs, st2, g2, h6, by rw [h7, h2], h8, h5.trans h9, by simp [h10], fun j hj => ?_⟩
   cases j with
   | zero =>
    have h15 := h9.free rfl h4 (av' := st2.get)
    exact ⟨x, rfl, h15.2.1, by simpa using h15.2.2⟩
   | succ j =>
    obtain ⟨x', h12, h13, h14⟩ := h11 j (by simpa using hj)
    exact ⟨x', by simp [h12]; omega, h13, by simpa using h14⟩
  | false => rw [hij] at h; cases h

theorem foldl_set (off : Nat) : ∀ (l : List Value) (i : Nat) (cells : Array Value), off + i + l.length ≤ cells.size →
  (((l.zipIdx i).foldl (fun cs (p : Value × Nat) => cs.setIfInBounds (off + p.2) p.1) cells).size = cells.size ∧ ∀ k, ((l.zipIdx i).foldl (fun cs (p : Value × Nat) => cs.setIfInBounds (off + p.2) p.1) cells)[k]? = if off + i ≤ k ∧ k < off + i + l.length then l[k - (off + i)]? else cells[k]?) := by
 intro l
 induction l with
 | nil => intro i cells _; refine ⟨rfl, fun k => ?_⟩; simp; omega
 | cons v l ih =>
  intro i cells hs
  simp only [List.length_cons] at hs
  simp only [List.zipIdx_cons, List.foldl_cons]
  obtain ⟨h1, h2⟩ := ih (i + 1) (cells.setIfInBounds (off + i) v) (by simp; omega)
  refine ⟨by rw [h1]; simp, fun k => ?_⟩
  rw [h2]
  simp only [List.length_cons]
  by_cases hk : k = off + i
  ·subst hk
   rw [if_neg (by omega), if_pos (by omega), Array.getElem?_setIfInBounds_self_of_lt (by omega), Nat.sub_self]
   rfl
  ·by_cases hk2 : off + (i + 1) ≤ k ∧ k < off + (i + 1) + l.length
   ·rw [if_pos hk2, if_pos (by omega)]
    have : k - (off + i) = (k - (off + (i + 1))) + 1 := by omega
    rw [this, List.getElem?_cons_succ]
   ·rw [if_neg hk2, if_neg (by omega), Array.getElem?_setIfInBounds_ne (Ne.symm hk)]

/-- parts of s cells each, one after the other -/
theorem fill_row {ρ : Operand → Value} {s : Nat} : ∀ (ps : List (Nat × Operand)) (i : Nat) (cells : Array Value), (i + ps.length) * s ≤ cells.size → (∀ j, j < ps.length → ∃ x, ps[j]? = some (i + j, x) ∧ (ρ x).cells.size = s) →
  ∃ C, Instr.fill (fun i => some (i * s, s)) cells (ps.map fun p => (p.1, ρ p.2)) = some C ∧ C.size = cells.size ∧ (∀ k, k < i * s → C[k]? = cells[k]?) ∧
   ∀ j, j < ps.length → ∃ x, ps[j]? = some (i + j, x) ∧ ∀ l, l < s → C[(i + j) * s + l]? = (ρ x).cells[l]? := by
 intro ps
 induction ps with
 | nil => intro i cells _ _; exact ⟨cells, rfl, rfl, fun _ _ => rfl, fun j hj => absurd hj (Nat.not_lt_zero j)⟩
 | cons p ps ih =>
  intro i cells hs hp
  obtain ⟨x, h1, h2⟩ := hp 0 (by simp)
  simp only [List.getElem?_cons_zero, Nat.add_zero, Option.some.injEq] at h1
  subst h1
  have hs' : (i + 1 + ps.length) * s ≤ cells.size := by
   have : i + (List.length ((i, x) :: ps)) = i + 1 + ps.length := by simp; omega
   rw [this] at hs; exact hs
  have hle : i * s + s ≤ cells.size := by
   have : (i + 1) * s ≤ (i + 1 + ps.length) * s := Nat.mul_le_mul_right _ (by omega)
   rw [Nat.add_mul, Nat.one_mul] at this
   omega
  obtain ⟨f1, f2⟩ := foldl_set (i * s) (ρ x).cells.toList 0 cells (by simp [h2]; exact hle)
  simp only [Nat.add_zero] at f2
  have hzip : ((ρ x).cells.zipIdx.foldl (fun cs (p : Value × Nat) => cs.setIfInBounds (i * s + p.2) p.1) cells) = ((ρ x).cells.toList.zipIdx 0).foldl (fun cs (p : Value × Nat) => cs.setIfInBounds (i * s + p.2) p.1) cells := by
   rw [← Array.foldl_toList, Array.toList_zipIdx]
  obtain ⟨C, h3, h4, h5, h6⟩ := ih (i + 1) (((ρ x).cells.toList.zipIdx 0).foldl (fun cs (p : Value × Nat) => cs.setIfInBounds (i * s + p.2) p.1) cells) (by rw [f1]; exact hs') fun j hj => by
   obtain ⟨x', h7, h8⟩ := hp (j + 1) (by simpa using hj)
   exact ⟨x', by rw [List.getElem?_cons_succ] at h7; rw [h7]; congr 2; omega, h8⟩
  refine ⟨C, ?_, by rw [h4, f1], fun k hk => ?_, fun j hj => ?_⟩
  ·simp only [List.map_cons, Instr.fill, h2]
   have : ¬ (i * s + s > cells.size) := by omega
   rw [hzip]
   simp only [ne_eq, not_true_eq_false, decide_false, this, Bool.false_or, Bool.or_self, Bool.false_eq_true, if_false]
   exact h3
  ·rw [h5 k (by rw [Nat.add_mul]; omega), f2, if_neg (by omega)]
  ·cases j with
   | zero =>
    refine ⟨x, rfl, fun l hl => ?_⟩
    rw [Nat.add_zero, h5 _ (by rw [Nat.add_mul]; omega), f2, if_pos (by simp [h2]; omega)]
    simp
   | succ j =>
    obtain ⟨x', h7, h8⟩ := h6 j (by simpa using hj)
    refine ⟨x', by rw [List.getElem?_cons_succ, h7]; congr 2; omega, fun l hl => ?_⟩
    rw [show i + (j + 1) = i + 1 + j by omega]; exact h8 l hl
end
end Go.Ab

/-! Slice literals, made slices. -/
namespace Go.Ab

section
variable {P : Program} {T : Tab} {Φ : Nat → Option Contract} {w0 w : World} {mu : Mu} {st : St} {a : Act} {g : Gh} {R : Type} {o : Oper} {K : AV → St → Option R} {r : R} {val : Nat → Value} {U : Nat → Prop}

theorem buildSlice_run {e : Ty} {t : TypeId} (hT : TM P (.sl e) t) {ρ : Operand → Value} {ps : Array (Nat × Operand)} {n : Nat} (hn : n = ps.toList.length) (hlim : n * sz e ≤ 16777216)
  (hp : ∀ j, j < ps.toList.length → ∃ x, ps.toList[j]? = some (j, x) ∧ (ρ x).cells.size = sz e) :
  ∃ te C, (Instr.buildSlice t n (ps.map fun (i, x) => (i, ρ x))).run P w = .ok (.slice (some ⟨w.heap.size, 0, none⟩) n n) (w.alloc (.cells C te)) ∧ C.size = n * sz e ∧
   ∀ j, j < ps.toList.length → ∃ x, ps.toList[j]? = some (j, x) ∧ ∀ l, l < sz e → C[j * sz e + l]? = (ρ x).cells[l]? := by
 obtain ⟨te, h1, h2, _⟩ := hT
 obtain ⟨i, z, h3, h4, h5, _⟩ := TM_zero h2
 have hs := TM_sizeOf h2 w
 have hparts : (ps.map fun (i, x) => (i, ρ x)).toList = ps.toList.map fun p => (p.1, ρ p.2) := by simp
 have hrun : ∀ C zz, (if n * sz e = 0 then zz = #[] else zz = z.cells) → Instr.fill (fun i => some (i * sz e, sz e)) ((Array.range (n * sz e)).map (zz[· % zz.size]!)) (ps.toList.map fun p => (p.1, ρ p.2)) = some C →
   (Instr.buildSlice t n (ps.map fun (i, x) => (i, ρ x))).run P w = .ok (.slice (some ⟨w.heap.size, 0, none⟩) n n) (w.alloc (.cells C te)) := by
  intro C zz hzz hC
  have hlim' : ¬ (n * sz e > 2 ^ 24) := by omega
  by_cases h0 : n * sz e = 0
  ·rw [if_pos h0] at hzz
   subst hzz
   unfold Instr.buildSlice
   simp only [Sem.run_bind, run_underlying h1, Result.andThen_ok, hs, if_neg hlim', if_pos h0, hparts, Sem.run_pure]
   rw [hC]
   simp [newRow]
  ·rw [if_neg h0] at hzz
   subst hzz
   unfold Instr.buildSlice
   have hz : (zeroValue te).run P w = .ok z w := by simp [zeroValue, typeInfo, h3, h4]
   simp only [Sem.run_bind, run_underlying h1, Result.andThen_ok, hs, if_neg hlim', if_neg h0, hparts, hz, Sem.run_pure]
   rw [hC]
   simp [newRow]
 obtain ⟨C, f1, f2, f3, f4⟩ := fill_row (ρ := ρ) (s := sz e) ps.toList 0 ((Array.range (n * sz e)).map ((if n * sz e = 0 then (#[] : Array Value) else z.cells)[· % (if n * sz e = 0 then (#[] : Array Value) else z.cells).size]!)) (by simp [hn]) (by simpa using hp)
 refine ⟨te, C, hrun C _ (by split <;> rfl) f1, by rw [f2]; simp, fun j hj => ?_⟩
 obtain ⟨x, f5, f6⟩ := f4 j hj
 simp only [Nat.zero_add] at f5 f6
 exact ⟨x, f5, f6⟩

theorem step_buildSlice (hT : TabOK P T) (hU : New U st.c) (hI : Inv w0 mu st.get (Vals a) U w g) (hd : DstOK mu o a) {t : TypeId} {n : Nat} {ps : Array (Nat × Operand)} (ho : o.op = .buildSlice t n ps) (h : step T Φ o st K = some r) : StepOK P w0 mu (Nw U st.c) o a w K r := by
 unfold step at h; rw [ho] at h; simp only at h
 split at h
 ·rename_i e nz me ht hmd
  have hTM := ((hT _).1 _ ht).1
  split at h
  ·rename_i hg
   simp only [Bool.and_eq_true, Bool.not_eq_true'] at hg
   obtain ⟨⟨⟨hn, hnz⟩, hme⟩, hlim⟩ := hg
   have hn := Nat.eq_of_beq_eq_true hn
   have hlim := Nat.le_of_ble_eq_true hlim
   obtain ⟨xs, st1, g1, hk, hc, hI1, _, hlen, hel⟩ := partsS_sound (ρ := a.eval) hme (fun hI h => by obtain ⟨av, h1, h2, _⟩ := opd_sound hI h; exact ⟨av, h1, h2⟩) ps.toList 0 st g _ r h hI
   obtain ⟨d, hdst, hK⟩ := ownK_some hk
   obtain ⟨h1, h2⟩ := hd d hdst
   obtain ⟨te, C, hrun, hCs, hCe⟩ := buildSlice_run (w := w) hTM (ρ := a.eval) hn hlim (fun j hj => by
    obtain ⟨x, h3, h4, _⟩ := hel j hj
    exact ⟨x, by simpa using h3, shape_size h4⟩)
   refine ⟨_, _, hK, fun next Q hn' => M_done hdst h1 (exec_v (by simp only [execOp, ho] <;> rfl) hrun) (g' := g1.row d w.heap.size (sz e) (.slice (some ⟨w.heap.size, 0, none⟩) n n)) ?_ hn'⟩
   have := Inv_row (c := st1.c) (w' := w.alloc (.cells C te)) hI1 d d h2 (hc ▸ hU) (C := C) (el := te) rfl (Fr_alloc hI.fr _) (nz := nz) (me := me) (xs := xs) (cap := n) (by omega) (by omega) ?_ ?_
   ·have hc2 : Nw U st1.c = Nw U st.c := by rw [hc]
    rw [hlen, ← hn, hc2] at this
    refine Inv_congr this (fun u => ?_) (fun _ => rfl)
    by_cases hu : u = d <;> simp [hu]
   ·intro hz hx
    subst hz
    rw [hx] at hlen
    rw [← hlen] at hn
    simp at hn
    simp [hn, bimp] at hnz
   ·intro i hi
    obtain ⟨x, h3, h4, h5⟩ := hel i (by omega)
    obtain ⟨x', h6, h7⟩ := hCe i (by omega)
    rw [Nat.zero_add] at h3
    rw [h3] at h6
    simp only [Option.some.injEq, Prod.mk.injEq, true_and] at h6
    subst h6
    exact ⟨_, h7, .inl ⟨hme, h5⟩⟩
  ·split at h
   ·rename_i hg
    simp only [Bool.and_eq_true] at hg
    have hn := Nat.eq_of_beq_eq_true hg.1
    have hl := Nat.eq_of_beq_eq_true hg.2
    obtain ⟨d, hdst, hK⟩ := ownK_some h
    obtain ⟨h1, h2⟩ := hd d hdst
    subst hn
    obtain ⟨te, C, hrun, hCs, hCe⟩ := buildSlice_run (w := w) (n := 0) hTM (ρ := a.eval) (ps := ps) hl.symm (by omega) (fun j hj => by omega)
    refine ⟨_, _, hK, fun next Q hn' => M_done hdst h1 (exec_v (by simp only [execOp, ho] <;> rfl) hrun) (g' := g.row d w.heap.size (sz e) (.slice (some ⟨w.heap.size, 0, none⟩) 0 0)) ?_ hn'⟩
    have := Inv_row (c := st.c) (w' := w.alloc (.cells C te)) hI d d h2 hU (C := C) (el := te) rfl (Fr_alloc hI.fr _) (e := e) (nz := false) (me := me) (xs := []) (cap := 0) (by simp) (by omega) (fun h => by cases h) (fun i hi => by simp at hi)
    refine Inv_congr this (fun u => ?_) (fun _ => rfl)
    by_cases hu : u = d <;> simp [hu]
   ·cases h
 ·cases h

theorem step_makeSlice (hT : TabOK P T) (hU : New U st.c) (hI : Inv w0 mu st.get (Vals a) U w g) (hd : DstOK mu o a) {t : TypeId} {l c : Operand} (ho : o.op = .makeSlice t l c) (h : step T Φ o st K = some r) : StepOK P w0 mu (Nw U st.c) o a w K r := by
 unfold step at h; rw [ho] at h; simp only at h
 split at h
 ·rename_i e nz me ht hmd
  obtain ⟨te, h1, h2, _⟩ := ((hT _).1 _ ht).1
  obtain ⟨i, z, h3, h4, h5, h6, h7, h8⟩ := TM_zero h2
  obtain ⟨al, h, hl, _, _⟩ := opd_sound hI h
  obtain ⟨kl, n, h, hl⟩ := asInt_sound h hl
  obtain ⟨ac, h, hc, _, _⟩ := opd_sound hI h
  obtain ⟨kc, cc, h, hc⟩ := asInt_sound h hc
  obtain ⟨hnm, h⟩ := guardK_some h
  obtain ⟨hg, h⟩ := guardB_some h
  simp only [Bool.and_eq_true, decide_eq_true_eq] at hg
  obtain ⟨⟨g1, g2⟩, g3⟩ := hg
  have g3 : cc ≤ 4294967296 := g3
  obtain ⟨d, hdst, hK⟩ := ownK_some h
  obtain ⟨hd1, hd2⟩ := hd d hdst
  have hb : (i.bytes : Int) * cc ≤ 281474976710656 := by
   have h9 : (i.bytes : Int) ≤ 256 := by omega
   have h10 : cc ≤ 4294967296 := by omega
   calc (i.bytes : Int) * cc ≤ 256 * 4294967296 := Int.mul_le_mul h9 h10 (by omega) (by omega)
    _ ≤ 281474976710656 := by omega
  have hrun := run_make (P := P) w t te i z h1 h3 h4 kl kc n cc g1 g2 hb (by omega)
  rw [← hl, ← hc] at hrun
  have hsz : i.size = sz e := h5
  refine ⟨_, _, hK, fun next Q hn' => M_done hdst hd1 (exec_v (by simp only [execOp, ho] <;> rfl) hrun) (g' := g.row d w.heap.size (sz e) (.slice (some ⟨w.heap.size, 0, none⟩) n.toNat cc.toNat)) ?_ hn'⟩
  have := Inv_row (c := st.c) (w' := w.alloc (.cells (madeCells z.cells (cc.toNat * i.size)) te)) hI d d hd2 hU (C := madeCells z.cells (cc.toNat * i.size)) (el := te) rfl (Fr_alloc hI.fr _) (e := e) (nz := false) (me := me) (xs := List.replicate n.toNat (dflt e)) (cap := cc.toNat) (by simp; omega) (by rw [size_madeCells, hsz]; omega) (fun h => by cases h) ?_
  ·rw [List.length_replicate] at this
   refine Inv_congr this (fun u => ?_) (fun _ => rfl)
   by_cases hu : u = d <;> simp [hu]
  ·intro j hj
   rw [List.length_replicate] at hj
   refine ⟨z.cells, fun q hq => ?_, .inr ⟨by simp [List.getD_eq_getElem?_getD, hj], P, te, hnm, h2, fun q hq => by rw [← h7]; simp⟩⟩
   have hzs : z.cells.size = sz e := shape_size h8
   have hlt : j * sz e + q < cc.toNat * sz e := by
    have : (j + 1) * sz e ≤ cc.toNat * sz e := Nat.mul_le_mul_right _ (by omega)
    rw [Nat.add_mul, Nat.one_mul] at this
    omega
   have hmod : (j * sz e + q) % sz e = q := by rw [Nat.add_comm, Nat.add_mul_mod_self_right, Nat.mod_eq_of_lt hq]
   simp [madeCells, hsz, hlt, hzs, hmod, hq]
 ·cases h
end
end Go.Ab
