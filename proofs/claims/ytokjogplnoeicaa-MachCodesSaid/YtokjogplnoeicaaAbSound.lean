/- Every operation does as its step says; regions in the text's order. -/
import Derived.Test.YtokjogplnoeicaaAbOwn
namespace Go.Ab

section
variable {P : Program} {T : Tab} {Φ : Nat → Option Contract} {w0 w : World} {mu : Mu} {st : St} {a : Act} {g : Gh} {R : Type} {o : Oper} {K : AV → St → Option R} {r : R} {val : Nat → Value} {U : Nat → Prop}

/-- what is asked of the program and its tables -/
structure EnvOK (P : Program) (T : Tab) (Φ : Nat → Option Contract) : Prop where
 tab : TabOK P T
 eq : EqOK P T
 ctx : CtxOK P Φ
 mixed : P.follows .mixedOrders = true
 bk : BkOK P T

theorem step_sound (hE : EnvOK P T Φ) (hfar : ∀ s, mu.far s ↔ lentC.1 ≤ s) (hU : New U st.c) (hI : Inv w0 mu st.get (Vals a) U w g) (hd : DstOK mu o a) (h : step T Φ o st K = some r) : StepOK P w0 mu (Nw U st.c) o a w K r := by
 obtain ⟨hT, hEq, hΦ, _, hB⟩ := hE
 cases ho : o.op with
 | move x =>
  have h' := h
  unfold step at h; rw [ho] at h
  cases x with
  | tmp t =>
   simp only at h
   split at h
   ·rename_i l hq
    exact step_move_tup hI hd ho hq h
   ·exact (step_move_tmp hI hd ho h).ok hI hd
  | _ => exact (step_move_tmp hI hd ho h).ok hI hd
 | assign x =>
  cases x with
  | tmp t => exact step_assign_tmp hU hI hd ho h
  | _ => exact step_assign_const hU hI hd (fun t h => by cases h) ho h
 | pick c x y => exact (step_pick hI hd ho h).ok hI hd
 | binOp op t x y u => exact (step_binOp hT hEq hI hd ho h).ok hI hd
 | unOp op t x => exact (step_unOp hI hd ho h).ok hI hd
 | convert s d x => exact (step_convert hT hI hd ho h).ok hI hd
 | alloc t => exact step_alloc hT hU hI hd ho h
 | box t x => exact step_box hU hI hd ho h
 | build t ps =>
  cases hmd : (T.md t).hasOwn with
  | false => exact step_build hT hI hd ho hmd h
  | true => exact step_buildO hT hfar hU hI hd ho hmd h
 | nilCheck x => exact (step_nilCheck hI hd ho h).ok hI hd
 | buildSlice t n ps => exact step_buildSlice hT hU hI hd ho h
 | makeSlice t l c => exact step_makeSlice hT hU hI hd ho h
 | load t x =>
  cases hm : noTup st o with
  | true => exact (step_load hT hI hd ho hm h).ok hI hd
  | false => exact step_load_frz hT hU hI hd ho hm h
 | store t x y => exact step_store hT hU hI hd ho h
 | fieldAddr t x f => exact (step_fieldAddr hT hI hd ho h).ok hI hd
 | field t x f => exact (step_field hT hI hd ho h).ok hI hd
 | indexAddr t x i => exact (step_indexAddr hT hI hd ho h).ok hI hd
 | index t x i => exact (step_index hT hI hd ho h).ok hI hd
 | slice t x lo hi mx => exact (step_slice hT hI hd ho h).ok hI hd
 | extract x i => exact step_extract hU hI hd ho h
 | makeMap t x => exact step_makeMap hU hI hd ho h
 | lookup t x i ok => exact step_lookup hT hU hI hd ho h
 | mapUpdate t x i y => exact step_mapUpdate hT hU hI hd (.inl ho) h
 | insert t x i y => exact step_mapUpdate hT hU hI hd (.inr ho) h
 | mapEntry t x i => exact step_mapEntry hT hU hI hd ho h
 | entryStore t x z y => exact step_entryStore hT hU hI hd ho h
 | range t x => exact step_range hT hI hd ho h
 | entry x => exact step_entry hI hd ho h
 | makeFunc f fs cs => exact (step_makeFunc hI hd ho h).ok hI hd
 | call c =>
  cases hc : c.callee with
  | value f => exact step_callf hT hB hΦ hfar hU hI hd ho hc h
  | builtin b =>
   cases b with
   | len => exact (step_len hT hI hd ho hc h).ok hI hd
   | min => exact (step_min hI hd ho hc h).ok hI hd
   | max => exact (step_max hI hd ho hc h).ok hI hd
   | append => exact step_append hT hU hI hd ho hc h
   | copy => exact step_copy hT hU hI hd ho hc h
   | delete => exact step_delete hT hU hI hd ho hc h
   | _ => unfold step at h; rw [ho] at h; simp only [hc] at h; cases h
  | invoke x n => unfold step at h; rw [ho] at h; simp only [hc] at h; cases h
 | _ => unfold step at h; rw [ho] at h; cases h

/-- a slot with what it has -/
theorem set_same {st : St} {s : Nat} (u : Nat) : (st.set s (st.get s)).get u = st.get u := by
 rw [get_set]; split
 ·rename_i h; rw [h]
 ·rfl

theorem getD_map_some {all : List Oper} {j d : Nat} (h : (all.map (·.dst)).getD j none = some d) : (all.toArray[j]?).bind (·.dst) = some d := by
 rw [List.getD_eq_getElem?_getD, List.getElem?_map] at h
 simp only [List.getElem?_toArray]
 cases hj : all[j]? with
 | none => rw [hj] at h; cases h
 | some o => rw [hj] at h; exact h

/-- an operation under its guard does as its step says -/
def GStepOK {R : Type} (P : Program) (all : List Oper) (w0 : World) (mu : Mu) (U : Nat → Prop) (o : Oper) (a : Act) (w : World) (K : AV → St → Option R) (r : R) : Prop :=
 ∃ av st', K av st' = some r ∧ ∀ next Q, NextOK w0 mu o a U st' av next → if Region.wanted o (yielded all.toArray a.tmps) then o.wp P a w next Q else next (a.put o.dst undef) w

theorem skip_done (hI : Inv w0 mu st.get (Vals a) U w g) (hd : DstOK mu o a) {c : Nat} {next : Act → World → Prop} (hn : NextOK w0 mu o a (Nw U c) st .undefd next) : next (a.put o.dst undef) w := by
 refine hn _ w g ?_ ?_ ?_ put_same
 ·refine Inv.monoU ?_ (U := U) (fun _ => Nw_old)
  cases hdst : o.dst with
  | none => exact hI
  | some d =>
   obtain ⟨h1, h2⟩ := hd d hdst
   exact put_free hI h1 h2 rfl trivial rfl
 ·cases o.dst <;> simp [Act.put]
 ·cases o.dst <;> rfl

theorem gstep_sound (hE : EnvOK P T Φ) (hfar : ∀ s, mu.far s ↔ lentC.1 ≤ s) (hU : New U st.c) (hI : Inv w0 mu st.get (Vals a) U w g) (hd : DstOK mu o a) {all : List Oper} (hall : ∀ o ∈ all, ∀ d, o.dst = some d → d < a.tmps.size) (h : gstep T Φ all o st K = some r) :
  GStepOK P all w0 mu (Nw U st.c) o a w K r := by
 unfold gstep at h
 split at h
 ·rename_i hg
  obtain ⟨av, st', hk, hn⟩ := step_sound hE hfar hU hI hd h
  exact ⟨av, st', hk, fun next Q hx => by rw [if_pos (by simp [Region.wanted, hg])]; exact hn next Q hx⟩
 ·rename_i j want hg
  split at h
  ·cases h
  ·rename_i d hj
   have hjb := getD_map_some hj
   have hdlt : d < a.tmps.size := by
    rw [List.getD_eq_getElem?_getD, List.getElem?_map] at hj
    cases hjo : all[j]? with
    | none => rw [hjo] at hj; cases hj
    | some oj => rw [hjo] at hj; exact hall oj (List.mem_of_getElem? hjo) d hj
   have hget : a.tmps[d]? = some (Vals a d) := by simp [Vals, Array.getD_eq_getD_getElem?, hdlt]
   have hs := hI.slots d
   split at h
   ·rename_i m c hq
    rw [hq] at hs
    have hv : Vals a d = .bool c := VR_bool (av := st.get) hs
    have hy : yielded all.toArray a.tmps j = some c := by simp only [yielded, hjb, Option.bind_some, hget, hv]
    have hI' : ∀ c', c' = c → Inv w0 mu (st.set d (.v .bool m c')).get (Vals a) U w g := fun c' hc => by
     subst hc
     refine Inv_congr hI (fun s => ?_) (fun _ => rfl)
     rw [← hq]; exact set_same s
    split at h
    ·split at h
     ·obtain ⟨av, st', hk, hn⟩ := step_sound hE hfar (st := st.set d (.v .bool m true)) hU (hI' true rfl) hd h
      exact ⟨av, st', hk, fun next Q hx => by rw [if_pos (by simp [Region.wanted, hg, hy])]; exact hn next Q hx⟩
     ·exact ⟨_, _, h, fun next Q hx => by rw [if_neg (by simp [Region.wanted, hg, hy])]; exact skip_done (hI' true rfl) hd hx⟩
    ·split at h
     ·obtain ⟨av, st', hk, hn⟩ := step_sound hE hfar (st := st.set d (.v .bool m false)) hU (hI' false rfl) hd h
      exact ⟨av, st', hk, fun next Q hx => by rw [if_pos (by simp [Region.wanted, hg, hy])]; exact hn next Q hx⟩
     ·exact ⟨_, _, h, fun next Q hx => by rw [if_neg (by simp [Region.wanted, hg, hy])]; exact skip_done (hI' false rfl) hd hx⟩
   ·rename_i hq
    rw [hq] at hs
    have hv : Vals a d = undef := hs
    have hy : yielded all.toArray a.tmps j = none := by simp only [yielded, hjb, Option.bind_some, hget, hv, undef]
    exact ⟨_, _, h, fun next Q hx => by rw [if_neg (by simp [Region.wanted, hg, hy])]; exact skip_done hI hd hx⟩
   ·cases h

/-- a state at a place of the code: what is asked of the machine there -/
structure At (w0 : World) (mu : Mu) (N : Nat) (st : St) (a : Act) (w : World) : Prop where
 inv : ∃ g, Inv w0 mu st.get (Vals a) (· < st.c) w g
 size : a.tmps.size = N
 defers : a.defers = []
 pin : ∀ s v, mu.pin s = some v → Vals a s = v

theorem pin_put {a' : Act} (hp : ∀ s v, mu.pin s = some v → Vals a s = v) (hV : ∀ s, o.dst ≠ some s → Vals a' s = Vals a s) (hn : ∀ d, o.dst = some d → mu.pin d = none) : ∀ s v, mu.pin s = some v → Vals a' s = v := fun s v hs => by
 rw [hV s fun hd => by rw [hn s hd] at hs; cases hs]
 exact hp s v hs

theorem new_lt (c : Nat) : New (· < c) c := ⟨Nat.lt_irrefl c, fun h => by omega⟩
theorem Nw_lt {c n : Nat} (h : Nw (· < c) c n) : n < c + 2 := by
 rcases h with h | h | h <;> omega

theorem dst_ok {N : Nat} (hfar : ∀ s, mu.far s ↔ lentC.1 ≤ s) (hN : N ≤ lentC.1) (hs : a.tmps.size = N) (h : ∀ d, o.dst = some d → d < N) : DstOK mu o a := fun d hd => by
 have h1 := h d hd
 exact ⟨hs ▸ h1, fun hf => Nat.lt_irrefl _ (Nat.lt_of_lt_of_le h1 (Nat.le_trans hN ((hfar d).1 hf)))⟩

theorem put_c (st : St) (d : Option Nat) (v : AV) : (st.put d v).c = st.c := by cases d <;> rfl

theorem ops_sound (hE : EnvOK P T Φ) (hfar : ∀ s, mu.far s ↔ lentC.1 ≤ s) {N : Nat} (hN : N ≤ lentC.1) {all : List Oper} (hall : ∀ o ∈ all, ∀ d, o.dst = some d → d < N ∧ mu.pin d = none) {K : St → Option R} {Q : Exit → Act → World → Prop} {r : R}
  (hK : ∀ st a w, K st = some r → At w0 mu N st a w → Q .normal a w) :
  ∀ (rest : List Oper) (st : St) (a : Act) (w : World), (∀ o ∈ rest, ∀ d, o.dst = some d → d < N ∧ mu.pin d = none) → ops T Φ all K rest st = some r → At w0 mu N st a w → wpList P all.toArray Q rest a w
 | [], st, a, w, _, h, hA => hK st a w h hA
 | o :: rest, st, a, w, hr, h, ⟨⟨g, hI⟩, hs, hdf, hpin⟩ => by
  simp only [ops] at h
  split at h
  ·rename_i x hx
   have hg : o.guard = none := by
    unfold isNext at hx
    split at hx
    ·assumption
    ·cases hx
   unfold wpList
   rw [if_pos (by simp [Region.wanted, hg])]
   refine .inl (next_sound (new_lt st.c) hI (dst_ok hfar hN hs fun d hd => (hr o (by simp) d hd).1) hx h Q fun av st' hk _ => ?_)
   simp only [AV.force_eq] at hk
   intro a' w' g' hI' hs' hdf' hv'
   refine ops_sound hE hfar hN hall hK rest _ a' w' (fun o ho => hr o (List.mem_cons_of_mem _ ho)) hk ⟨⟨g', ?_⟩, by rw [hs', hs], by rw [hdf', hdf], pin_put hpin hv' fun d hd => (hr o (by simp) d hd).2⟩
   exact hI'.monoU fun n h => Nw_lt h
  ·split at h
   ·rename_i t x y hx
    have hgo : o.guard = none ∧ o.op = .store t x y := by
     unfold isStore at hx
     split at hx
     ·rename_i hg ho
      cases hx
      exact ⟨hg, ho⟩
     ·cases hx
    obtain ⟨av, st', hk, hn⟩ := storeS_sound hE.tab (new_lt st.c) hI (dst_ok hfar hN hs fun d hd => (hr o (by simp) d hd).1) hgo.2 h
    simp only [AV.force_eq] at hk
    unfold wpList
    rw [if_pos (by simp [Region.wanted, hgo.1])]
    refine .inl (hn _ Q ?_)
    intro a' w' g' hI' hs' hdf' hv'
    refine ops_sound hE hfar hN hall hK rest _ a' w' (fun o ho => hr o (List.mem_cons_of_mem _ ho)) hk ⟨⟨g', ?_⟩, by rw [hs', hs], by rw [hdf', hdf], pin_put hpin hv' fun d hd => (hr o (by simp) d hd).2⟩
    exact hI'.monoU fun n h => Nw_lt h
   ·obtain ⟨av, st', hk, hn⟩ := gstep_sound hE hfar (new_lt st.c) hI (dst_ok hfar hN hs fun d hd => (hr o (by simp) d hd).1) (fun o ho d hd => hs ▸ (hall o ho d hd).1) h
    simp only [AV.force_eq] at hk
    unfold wpList
    have key : NextOK w0 mu o a (Nw (· < st.c) st.c) st' av (wpList P all.toArray Q rest) := by
     intro a' w' g' hI' hs' hdf' hv'
     refine ops_sound hE hfar hN hall hK rest _ a' w' (fun o ho => hr o (List.mem_cons_of_mem _ ho)) hk ⟨⟨g', ?_⟩, by rw [hs', hs], by rw [hdf', hdf], pin_put hpin hv' fun d hd => (hr o (by simp) d hd).2⟩
     exact hI'.monoU fun n h => Nw_lt h
    have := hn _ Q key
    split
    ·rename_i hw
     rw [if_pos hw] at this
     exact .inl this
    ·rename_i hw
     rw [if_neg hw] at this
     exact this
end
end Go.Ab
