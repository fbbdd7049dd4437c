/- A function's contract out of the run of its code. -/
import Derived.Test.YtokjogplnoeicaaAbCodeS
namespace Go.Ab

section
variable {P : Program} {T : Tab} {Φ : Nat → Option Contract} {w0 w : World} {mu : Mu} {st : St} {a : Act} {g : Gh} {R : Type} {o : Oper} {K : AV → St → Option R} {r : R} {val : Nat → Value} {U : Nat → Prop}

theorem retD_sound (hT : TabOK P T) (hfar : ∀ s, mu.far s ↔ lentC.1 ≤ s) : ∀ (rs : List (Ty × Md)) (l : List ResultVar) (i : Nat) (st : St) (g : Gh) {k : denL rs → Option R} {r : R}, retD T st rs l k = some r → Inv w0 mu st.get (Vals a) U w g →
  ∃ (x : denL rs) (g1 : Gh) (st1 : St) (vs : List Value), k x = some r ∧ ResR w g1 rs x i vs ∧ (l.mapM (resV a.tmps)).run P w = .ok vs w ∧ Inv w0 mu st1.get (Vals a) U w g1 ∧
   ∀ s, resS ≤ s → s < resS + i → ∀ (t : Ty) (m : Md) (src : Src) (y : den t), RR w g s t m [] src 0 y → RR w g1 s t m [] src 0 y
 | [], [], i, st, g, k, r, h, hI => ⟨(), g, st, [], h, rfl, rfl, hI, fun _ _ _ _ _ _ _ h => h⟩
 | [], _ :: _, _, _, _, _, _, h, _ => by cases h
 | (_, _) :: _, [], _, _, _, _, _, h, _ => by cases h
 | (t, m) :: rs, .cell s ty :: l, i, st, g, k, r, h, hI => by
  simp only [retD] at h
  have hres : lentC.1 < resS := by decide
  split at h
  ·rename_i n u tb0 mb0 xb0 hq
   split at h
   ·rename_i tb htb
    have hop : opd st (.tmp s) (fun a => some a) = some (.pl s n [.dr]) := by simp only [opd, hq]
    obtain ⟨av0, h0, hv0, hs0, _⟩ := opd_sound hI hop
    cases h0
    obtain ⟨av, v, h1, hrun, hv, hs, _⟩ := loadD_sound hT hI htb h hv0
    obtain ⟨x, st1, g1, s0, h2, hL⟩ := take_loose h1 hI hv (resS + i) []
    obtain ⟨hI1, _, _⟩ := hL.inv hI ((hfar _).2 (by omega))
    obtain ⟨xs, g2, st2, vs, h3, hR, ht, hI2, hkeep⟩ := retD_sound hT hfar rs l (i + 1) st1 g1 h2 hI1
    refine ⟨(x, xs), g2, st2, v :: vs, h3, ⟨_, _, rfl, hL.shape, hkeep _ (by omega) (by omega) _ _ _ _ hL.rr, hR⟩, ?_, hI2, fun s' h4 h5 t' m' src y hr => ?_⟩
    ·have hp : ∃ ad, a.tmps.getD s undef = .pointer (some ad) := by
      have := hv0 ⟨true, tb0, mb0, xb0⟩ (by rw [hq]; simp [ownP?, shallowD, shallow])
      exact ⟨_, this.1⟩
     obtain ⟨ad, had⟩ := hp
     have hrun' : (loadVar ty ad).run P w = .ok v w := by
      have : a.eval (.tmp s) = .pointer (some ad) := had
      rw [this] at hrun
      simpa [Instr.loadAt, Instr.sureAddr] using hrun
     rw [List.mapM_cons]
     simp only [resV, had, asAddr, pure_bind, Sem.run_bind, hrun', Result.andThen_ok, ht, Sem.run_pure]
    ·exact hkeep s' h4 (by omega) _ _ _ _ (hL.other ((hfar _).2 (by omega)) (by omega) (by omega) hr)
   ·cases h
  ·cases h
 | (t, m) :: rs, .tmp s :: l, i, st, g, k, r, h, hI => by
  simp only [retD] at h
  have hres : lentC.1 < resS := by decide
  obtain ⟨av, h1, hv, hs, _⟩ := opd_sound hI h
  obtain ⟨x, st1, g1, s0, h2, hL⟩ := take_loose h1 hI hv (resS + i) []
  obtain ⟨hI1, _, _⟩ := hL.inv hI ((hfar _).2 (by omega))
  obtain ⟨xs, g2, st2, vs, h3, hR, ht, hI2, hkeep⟩ := retD_sound hT hfar rs l (i + 1) st1 g1 h2 hI1
  refine ⟨(x, xs), g2, st2, a.tmps.getD s undef :: vs, h3, ⟨_, _, rfl, hL.shape, hkeep _ (by omega) (by omega) _ _ _ _ hL.rr, hR⟩, ?_, hI2, fun s' h4 h5 t' m' src y hr => ?_⟩
  ·rw [List.mapM_cons]
   simp only [resV, pure_bind, Sem.run_bind, Result.andThen_ok, ht, Sem.run_pure]
  ·exact hkeep s' h4 (by omega) _ _ _ _ (hL.other ((hfar _).2 (by omega)) (by omega) (by omega) hr)

theorem draw_ok (hE : EnvOK P T Φ) (hfar : ∀ s, mu.far s ↔ lentC.1 ≤ s) {N : Nat} (hN : N ≤ lentC.1) {io : List Nat} (hp : ∀ s, mu.pin s ≠ none → s ∈ io) : DrawOK P T Φ w0 mu N io :=
 fun _ _ _ _ _ _ _ _ h1 h2 h hA hK => draw_sound hE hfar hN (dstB_ok hp h1) h2 h hA hK

/-- what is asked of a function's text -/
structure FuncOK (P : Program) (f : FuncId) (fn : Func) (C : Contract) : Prop where
 at' : P.funcs[f]? = some fn
 name : (fn.name == "runtime.NumGoroutine") = false
 body : fn.body = some (codeOf fn)
 small : (Nat.ble fn.ntmps 500000 && Nat.ble C.ps.length fn.ntmps && codeB fn.ntmps C.io (codeOf fn)) = true

theorem FuncOK.fnOK {f : FuncId} {fn : Func} {C : Contract} (h : FuncOK P f fn C) : FnOK P f := ⟨fn, _, h.at', h.name, h.body⟩

theorem fn_holds (hE : EnvOK P T Φ) {f : FuncId} {fn : Func} {C : Contract} (hF : FuncOK P f fn C) {keep : Nat → List Nat} {n : Nat}
  (hfn : ∀ x, runF T Φ keep n C.ps C.rs (resL C.io fn) (codeOf fn) x = C.fn x) (hsc : ∀ id, T.sc id = none := by intro _; rfl) : Contract.Holds P f C := by
 intro x r hx args w mu g hsize hfar hpin1 hpin2 hI
 obtain ⟨h1, h2, h3, h4⟩ := hF
 simp only [Bool.and_eq_true] at h4
 have hN := Nat.le_of_ble_eq_true h4.1.1
 have hps := Nat.le_of_ble_eq_true h4.1.2
 have hl : lentC.1 = 4000000000 := rfl
 have hsz : (args ++ Array.replicate (fn.ntmps - args.size) undef).size = fn.ntmps := by simp; omega
 rw [← hfn x] at hx
 refine calls_fen (n := 0) (callsIn_of_wp_marks h1 h3 trivial ?_)
 have hVals : ∀ s, (args ++ Array.replicate (fn.ntmps - args.size) undef).getD s undef = args.getD s undef := fun s => by
  simp only [Array.getD_eq_getD_getElem?]
  by_cases hs : s < args.size
  ·rw [Array.getElem?_append_left hs]
  ·rw [Array.getElem?_append_right (by omega), Array.getElem?_eq_none (by omega : args.size ≤ s)]
   simp only [Array.getElem?_replicate]
   split <;> rfl
 have hA : At w mu fn.ntmps ⟨fresh, initL C.ps 0 x⟩ { tmps := args ++ Array.replicate (fn.ntmps - args.size) undef, defers := [] } w := by
  refine ⟨⟨g, Inv_congr hI (fun _ => rfl) (fun s => hVals s)⟩, hsz, rfl, fun s v hs => ?_⟩
  have h5 := hpin1 s (by rw [hs]; simp)
  have h6 := hpin2 s h5
  rw [hs] at h6
  simp only [Option.some.injEq] at h6
  rw [h6]
  exact hVals s
 have hfin : ∀ st a' w', fin T C.rs (resL C.io fn) st = some r → At w mu fn.ntmps st a' w' → a'.defers = [] ∧ ∃ v, (results fn a'.tmps).run P w' = .ok v w' ∧
   ∃ vs g', Ending.returned v = .returned (retV (C.outV vs)) ∧ Fr w mu w' ∧ ResR w' g' C.rs r 0 vs ∧ (∃ vs', vs = C.io.map (fun p => args.getD p undef) ++ vs') ∧ (∀ b k, g'.col b = some k → b < w'.heap.size ∧ (k = lentC ∨ w.heap.size ≤ b ∨ mu b)) ∧ (∀ b, mu.L b → g'.col b = some lentC) := by
  intro st a' w' h5 hA'
  obtain ⟨g', hI'⟩ := hA'.inv
  obtain ⟨y, g1, st1, vs, h6, hR, ht, hI1, _⟩ := retD_sound hE.tab hfar C.rs (resL C.io fn) 0 st g' h5 hI'
  simp only [Option.some.injEq] at h6
  subst h6
  have hrun : ∀ (io : List Nat), (∀ p ∈ io, a'.tmps.getD p undef = args.getD p undef) → ∀ vs, ((io.map ResultVar.tmp ++ fn.results.toList).mapM (resV a'.tmps)).run P w' = .ok vs w' →
    ∃ vs', vs = io.map (fun p => args.getD p undef) ++ vs' ∧ (fn.results.toList.mapM (resV a'.tmps)).run P w' = .ok vs' w' := by
   intro io
   induction io with
   | nil => intro _ vs h; exact ⟨vs, rfl, h⟩
   | cons p io ih =>
    intro hp vs h
    simp only [List.map_cons, List.cons_append, List.mapM_cons, resV, pure_bind, Sem.run_bind] at h
    cases hm : ((io.map ResultVar.tmp ++ fn.results.toList).mapM (resV a'.tmps)).run P w' with
    | ok vs' w1 =>
     rw [hm] at h
     simp only [Result.andThen_ok, Sem.run_pure, Result.ok.injEq] at h
     obtain ⟨rfl, rfl⟩ := h
     obtain ⟨vs2, h1, h2⟩ := ih (fun q hq => hp q (List.mem_cons_of_mem _ hq)) vs' hm
     exact ⟨vs2, by rw [h1, hp p (by simp)]; rfl, h2⟩
    | _ => rw [hm] at h; cases h
  obtain ⟨vs', e1, e2⟩ := hrun C.io (fun p hp => hA'.pin p _ (hpin2 p hp)) vs ht
  exact ⟨hA'.defers, _, results_run e2, vs, g1, by simp [Contract.outV, e1], hI1.fr, hR, ⟨vs', e1⟩, hI1.cols, hI1.lk⟩
 have hpin1' : ∀ s, mu.pin s ≠ none → s ∈ C.io := hpin1
 have hDA : DrawAll P T Φ fn.ntmps := fun w0 mu io hf hp => draw_ok hE hf (by omega) hp
 have hend : ∀ (w1 : World) (mu1 : Mu) (Ds1 : List Nat) (st : St) (a' : Act) (w' : World), Later w mu w1 mu1 Ds1 → fin T C.rs (resL C.io fn) st = some r → At w1 mu1 fn.ntmps st a' w' → LeavesInM (fen none) 0 P fn a'.tmps (fun e w' => ∃ vs g', e = .returned (retV (C.outV vs)) ∧ Fr w mu w' ∧ ResR w' g' C.rs r 0 vs ∧ (∃ vs', vs = C.io.map (fun p => args.getD p undef) ++ vs') ∧ (∀ b k, g'.col b = some k → b < w'.heap.size ∧ (k = lentC ∨ w.heap.size ≤ b ∨ mu b)) ∧ (∀ b, mu.L b → g'.col b = some lentC)) (Act.wd ((Ds1 ++ []).map coll) a').defers .returning w' := by
  intro w1 mu1 Ds1 st a' w' hL hf hA1
  obtain ⟨g1, hI1⟩ := hA1.inv
  have hdf : (Act.wd ((Ds1 ++ []).map coll) a').defers = Ds1.map coll := by simp [Act.wd, hA1.defers]
  rw [hdf]
  refine marks_leave Ds1 w' hL.nd (fun D hD => ?_) fun w2 hn hsame ho htp hou => ?_
  ·obtain ⟨_, d2, d3, d4⟩ := hL.ds D hD
   rw [hI1.fr.old D d2 d3]; exact d4
  ·have hfr := hL.frw hI1.fr
   have hA2 : At w mu fn.ntmps st a' w2 := by
    refine ⟨⟨g1, Inv_non hI1 hn (fun b k hb => ?_) ⟨ho.trans hfr.os, htp.trans hfr.tape, hou.trans hfr.output, by rw [hn.size]; exact hfr.size, fun b hb hm => (hsame b fun hD => by have := (hL.ds b hD).1; omega).trans (hfr.old b hb hm)⟩ (fun s hs => (hL.far s).2 hs) (fun b hb => hI1.lk b (hL.lk b hb))⟩, hA1.size, hA1.defers, fun s v hs => hA1.pin s v (by rw [hL.pin]; exact hs)⟩
    rcases (hI1.cols b k hb).2 with h7 | h7 | h7
    ·exact .inl h7
    ·exact .inr (.inl (Nat.le_trans hL.fr.size h7))
    ·exact .inr (hL.own b h7)
   obtain ⟨_, v, hv1, hv2⟩ := hfin st a' w2 hf hA2
   exact ⟨v, hv1, hv2⟩
 exact code_ok hE (N := fn.ntmps) (by omega) hsc hDA (codeOf fn) none C.io w mu [] 0 (fin T C.rs (resL C.io fn)) (fun _ _ => none) (fin T C.rs (resL C.io fn)) _ _ _ _ hfar hpin1' h4.2 (.inl rfl) hx hA
  (fun w1 mu1 Ds1 st a' w' hL hf hA1 => hend w1 mu1 Ds1 st a' w' hL hf hA1) (fun _ _ _ _ _ _ _ _ h => by cases h) (fun w1 mu1 Ds1 st a' w' hL hf hA1 => hend w1 mu1 Ds1 st a' w' hL hf hA1)
end
end Go.Ab
