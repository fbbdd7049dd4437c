/- Slice literals, made slices. -/
import Derived.Test.YtmndifhjmbiodaaAbRow
namespace Go.Ab

section
variable {P : Program} {T : Tab} {Φ : Nat → Option Contract} {w0 w : World} {mu : Mu} {st : St} {a : Act} {g : Gh} {R : Type} {o : Oper} {K : AV → St → Option R} {r : R} {val : Nat → Value} {U : Nat → Prop}

theorem buildSlice_run {e : Ty} {t : TypeId} (hT : TM P (.sl e) t) {ρ : Operand → Value} {ps : Array (Nat × Operand)} {n : Nat} (hn : n = ps.toList.length) (hlim : n * sz e ≤ 16777216)
    (hp : ∀ j, j < ps.toList.length → ∃ x, ps.toList[j]? = some (j, x) ∧ (ρ x).cells.size = sz e) :
    ∃ te C, (Instr.buildSlice t n (ps.map fun (i, x) => (i, ρ x))).run P w = .ok (.slice (some ⟨w.heap.size, 0, none⟩) n n) (w.alloc (.cells C te)) ∧ C.size = n * sz e ∧
      ∀ j, j < ps.toList.length → ∃ x, ps.toList[j]? = some (j, x) ∧ ∀ l, l < sz e → C[j * sz e + l]? = (ρ x).cells[l]? := by
  obtain ⟨te, h1, h2, _⟩ := hT
  obtain ⟨i, z, h3, h4, h5, _⟩ := TM_zero h2
  have hs := TM_sizeOf h2 w
  have hparts : (ps.map fun (i, x) => (i, ρ x)).toList = ps.toList.map fun p => (p.1, ρ p.2) := by simp
  have hrun : ∀ C zz, (if n * sz e = 0 then zz = #[] else zz = z.cells) → Instr.fill (fun i => some (i * sz e, sz e)) ((Array.range (n * sz e)).map (zz[· % zz.size]!)) (ps.toList.map fun p => (p.1, ρ p.2)) = some C →
      (Instr.buildSlice t n (ps.map fun (i, x) => (i, ρ x))).run P w = .ok (.slice (some ⟨w.heap.size, 0, none⟩) n n) (w.alloc (.cells C te)) := by
    intro C zz hzz hC
    have hlim' : ¬ (n * sz e > 2 ^ 24) := by omega
    by_cases h0 : n * sz e = 0
    · rw [if_pos h0] at hzz
      subst hzz
      unfold Instr.buildSlice
      simp only [Sem.run_bind, run_underlying h1, Result.andThen_ok, hs, if_neg hlim', if_pos h0, hparts, Sem.run_pure]
      rw [hC]
      simp [newRow]
    · rw [if_neg h0] at hzz
      subst hzz
      unfold Instr.buildSlice
      have hz : (zeroValue te).run P w = .ok z w := by simp [zeroValue, typeInfo, h3, h4]
      simp only [Sem.run_bind, run_underlying h1, Result.andThen_ok, hs, if_neg hlim', if_neg h0, hparts, hz, Sem.run_pure]
      rw [hC]
      simp [newRow]
  obtain ⟨C, f1, f2, f3, f4⟩ := fill_row (ρ := ρ) (s := sz e) ps.toList 0 ((Array.range (n * sz e)).map ((if n * sz e = 0 then (#[] : Array Value) else z.cells)[· % (if n * sz e = 0 then (#[] : Array Value) else z.cells).size]!)) (by simp [hn]) (by simpa using hp)
  refine ⟨te, C, hrun C _ (by split <;> rfl) f1, by rw [f2]; simp, fun j hj => ?_⟩
  obtain ⟨x, f5, f6⟩ := f4 j hj
  simp only [Nat.zero_add] at f5 f6
  exact ⟨x, f5, f6⟩

theorem step_buildSlice (hT : TabOK P T) (hU : New U st.c) (hI : Inv w0 mu st.get (Vals a) U w g) (hd : DstOK mu o a) {t : TypeId} {n : Nat} {ps : Array (Nat × Operand)} (ho : o.op = .buildSlice t n ps) (h : step T Φ o st K = some r) : StepOK P w0 mu (Nw U st.c) o a w K r := by
  unfold step at h; rw [ho] at h; simp only at h
  split at h
  · rename_i e nz me ht hmd
    have hTM := ((hT _).1 _ ht).1
    split at h
    · rename_i hg
      simp only [Bool.and_eq_true, Bool.not_eq_true'] at hg
      obtain ⟨⟨⟨hn, hnz⟩, hme⟩, hlim⟩ := hg
      have hn := Nat.eq_of_beq_eq_true hn
      have hlim := Nat.le_of_ble_eq_true hlim
      obtain ⟨xs, st1, g1, hk, hc, hI1, _, hlen, hel⟩ := partsS_sound (ρ := a.eval) hme (fun hI h => by obtain ⟨av, h1, h2, _⟩ := opd_sound hI h; exact ⟨av, h1, h2⟩) ps.toList 0 st g _ r h hI
      obtain ⟨d, hdst, hK⟩ := ownK_some hk
      obtain ⟨h1, h2⟩ := hd d hdst
      obtain ⟨te, C, hrun, hCs, hCe⟩ := buildSlice_run (w := w) hTM (ρ := a.eval) hn hlim (fun j hj => by
        obtain ⟨x, h3, h4, _⟩ := hel j hj
        exact ⟨x, by simpa using h3, shape_size h4⟩)
      refine ⟨_, _, hK, fun next Q hn' => M_done hdst h1 (exec_v (by simp only [execOp, ho] <;> rfl) hrun) (g' := g1.row d w.heap.size (sz e) (.slice (some ⟨w.heap.size, 0, none⟩) n n)) ?_ hn'⟩
      have := Inv_row (c := st1.c) (w' := w.alloc (.cells C te)) hI1 d d h2 (hc ▸ hU) (C := C) (el := te) rfl (Fr_alloc hI.fr _) (nz := nz) (me := me) (xs := xs) (cap := n) (by omega) (by omega) ?_ ?_
      · have hc2 : Nw U st1.c = Nw U st.c := by rw [hc]
        rw [hlen, ← hn, hc2] at this
        refine Inv_congr this (fun u => ?_) (fun _ => rfl)
        by_cases hu : u = d <;> simp [hu]
      · intro hz hx
        subst hz
        rw [hx] at hlen
        rw [← hlen] at hn
        simp at hn
        simp [hn, bimp] at hnz
      · intro i hi
        obtain ⟨x, h3, h4, h5⟩ := hel i (by omega)
        obtain ⟨x', h6, h7⟩ := hCe i (by omega)
        rw [Nat.zero_add] at h3
        rw [h3] at h6
        simp only [Option.some.injEq, Prod.mk.injEq, true_and] at h6
        subst h6
        exact ⟨_, h7, .inl ⟨hme, h5⟩⟩
    · split at h
      · rename_i hg
        simp only [Bool.and_eq_true] at hg
        have hn := Nat.eq_of_beq_eq_true hg.1
        have hl := Nat.eq_of_beq_eq_true hg.2
        obtain ⟨d, hdst, hK⟩ := ownK_some h
        obtain ⟨h1, h2⟩ := hd d hdst
        subst hn
        obtain ⟨te, C, hrun, hCs, hCe⟩ := buildSlice_run (w := w) (n := 0) hTM (ρ := a.eval) (ps := ps) hl.symm (by omega) (fun j hj => by omega)
        refine ⟨_, _, hK, fun next Q hn' => M_done hdst h1 (exec_v (by simp only [execOp, ho] <;> rfl) hrun) (g' := g.row d w.heap.size (sz e) (.slice (some ⟨w.heap.size, 0, none⟩) 0 0)) ?_ hn'⟩
        have := Inv_row (c := st.c) (w' := w.alloc (.cells C te)) hI d d h2 hU (C := C) (el := te) rfl (Fr_alloc hI.fr _) (e := e) (nz := false) (me := me) (xs := []) (cap := 0) (by simp) (by omega) (fun h => by cases h) (fun i hi => by simp at hi)
        refine Inv_congr this (fun u => ?_) (fun _ => rfl)
        by_cases hu : u = d <;> simp [hu]
      · cases h
  · cases h

theorem step_makeSlice (hT : TabOK P T) (hU : New U st.c) (hI : Inv w0 mu st.get (Vals a) U w g) (hd : DstOK mu o a) {t : TypeId} {l c : Operand} (ho : o.op = .makeSlice t l c) (h : step T Φ o st K = some r) : StepOK P w0 mu (Nw U st.c) o a w K r := by
  unfold step at h; rw [ho] at h; simp only at h
  split at h
  · rename_i e nz me ht hmd
    obtain ⟨te, h1, h2, _⟩ := ((hT _).1 _ ht).1
    obtain ⟨i, z, h3, h4, h5, h6, h7, h8⟩ := TM_zero h2
    obtain ⟨al, h, hl, _, _⟩ := opd_sound hI h
    obtain ⟨kl, n, h, hl⟩ := asInt_sound h hl
    obtain ⟨ac, h, hc, _, _⟩ := opd_sound hI h
    obtain ⟨kc, cc, h, hc⟩ := asInt_sound h hc
    obtain ⟨hnm, h⟩ := guardK_some h
    obtain ⟨hg, h⟩ := guardB_some h
    simp only [Bool.and_eq_true, decide_eq_true_eq] at hg
    obtain ⟨⟨g1, g2⟩, g3⟩ := hg
    have g3 : cc ≤ 4294967296 := g3
    obtain ⟨d, hdst, hK⟩ := ownK_some h
    obtain ⟨hd1, hd2⟩ := hd d hdst
    have hb : (i.bytes : Int) * cc ≤ 281474976710656 := by
      have h9 : (i.bytes : Int) ≤ 256 := by omega
      have h10 : cc ≤ 4294967296 := by omega
      calc (i.bytes : Int) * cc ≤ 256 * 4294967296 := Int.mul_le_mul h9 h10 (by omega) (by omega)
        _ ≤ 281474976710656 := by omega
    have hrun := run_make (P := P) w t te i z h1 h3 h4 kl kc n cc g1 g2 hb (by omega)
    rw [← hl, ← hc] at hrun
    have hsz : i.size = sz e := h5
    refine ⟨_, _, hK, fun next Q hn' => M_done hdst hd1 (exec_v (by simp only [execOp, ho] <;> rfl) hrun) (g' := g.row d w.heap.size (sz e) (.slice (some ⟨w.heap.size, 0, none⟩) n.toNat cc.toNat)) ?_ hn'⟩
    have := Inv_row (c := st.c) (w' := w.alloc (.cells (madeCells z.cells (cc.toNat * i.size)) te)) hI d d hd2 hU (C := madeCells z.cells (cc.toNat * i.size)) (el := te) rfl (Fr_alloc hI.fr _) (e := e) (nz := false) (me := me) (xs := List.replicate n.toNat (dflt e)) (cap := cc.toNat) (by simp; omega) (by rw [size_madeCells, hsz]; omega) (fun h => by cases h) ?_
    · rw [List.length_replicate] at this
      refine Inv_congr this (fun u => ?_) (fun _ => rfl)
      by_cases hu : u = d <;> simp [hu]
    · intro j hj
      rw [List.length_replicate] at hj
      refine ⟨z.cells, fun q hq => ?_, .inr ⟨by simp [List.getD_eq_getElem?_getD, hj], P, te, hnm, h2, fun q hq => by rw [← h7]; simp⟩⟩
      have hzs : z.cells.size = sz e := shape_size h8
      have hlt : j * sz e + q < cc.toNat * sz e := by
        have : (j + 1) * sz e ≤ cc.toNat * sz e := Nat.mul_le_mul_right _ (by omega)
        rw [Nat.add_mul, Nat.one_mul] at this
        omega
      have hmod : (j * sz e + q) % sz e = q := by rw [Nat.add_comm, Nat.add_mul_mod_self_right, Nat.mod_eq_of_lt hq]
      simp [madeCells, hsz, hlt, hzs, hmod, hq]
  · cases h
end
end Go.Ab
