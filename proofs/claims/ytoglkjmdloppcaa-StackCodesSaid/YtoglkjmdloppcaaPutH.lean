/- stack.Code: its contract. -/
import Derived.Test.YtoglkjmdloppcaaPutV
namespace Go.Proofs.Ytoglkjmdloppcaa.S
open Go Go.Ab
noncomputable section

/-! codemason stack.Code -/
def stack_Code_f (nf : Nat) (vars : Int) (l : List Trm) : Option (List SOp × Int × Unit) :=
  Option.bind (need_Need_f nf vars l) fun r =>
  bif r.2.1 != 0 then
    some ([], r.2.1, ())
  else
    Option.bind (put_F nf [IntKind.i64.wrap ((l.length : Int) - 1)] ([], ()) (l, ())) fun q => some (q.1, 0, ())
abbrev stkP : List PT := [.val (.int .i64) (.bor true false), .val (.sl tT) (.bor true false)]
abbrev stkR : List (Ty × Md) := [(.sl tO, .own false (.bor false false)), (.int .i64, .bor false true)]
def stack_Code_F (nf : Nat) (x : denPs stkP) : Option (denL stkR) := stack_Code_f nf x.1 x.2.1
def stack_Code_C (nf : Nat) : Contract := ⟨stkP, stkR, stack_Code_F nf, []⟩
theorem stack_Code_ok : FnOK Try.prog 20 := ⟨Try.f20, codeOf Try.f20, Try.func20, by kernel_rfl, by kernel_rfl⟩
def stk_phi (nf : Nat) : Nat → Option Contract := lookC [(56, need_Need_C nf)]

def sb1 : Code := cR (codeOf Try.f20)
def sA : Code := cL sb1
def sb2 : Code := cR sb1
def sb3 : Code := cR sb2
def sb4 : Code := cR sb3
def sb5 : Code := cR sb4
def sB : Code := cR sb5
def so0 : Array Oper := cO (cL (codeOf Try.f20))
def so4 : Array Oper := cO (cL sb2)
def so5 : Array Oper := cO (cL sb3)
def so6 : Array Oper := cO (cL sb4)
def so7 : Array Oper := cO (cL sb5)
theorem stk_body : codeOf Try.f20 = .seq (.region 0 so0 false) (.seq sA (.seq (.region 4 so4 false) (.seq (.region 5 so5 false) (.seq (.region 6 so6 false) (.seq (.region 7 so7 false) sB))))) := by kernel_rfl
def i95 : TypeInfo := match Try.prog.info? 95 with | some i => i | none => default
def z95 : Value := match i95.zero with | some z => z | none => undef

abbrev Rz := (AV × AV) ⊕ (List SOp × Int × Unit)
abbrev B3 (l : List Trm) : AV := .box 1000000 1000001 (.sl tT) (.bor true false) l
abbrev B8 : AV := .box 1000026 1000027 (.sl tO) mO []
def stk_K (st : St) : Option Rz := some (.inl (st.get 3, st.get 8))
def stk_fin (st : St) : Option Rz := (fin tab stkR (resL ([]) Try.f20) st).map .inr
theorem stk_pre (nf : Nat) (vars : Int) (l : List Trm) : ops tab (stk_phi nf) so0.toList (fun st => code tab (stk_phi nf) (fun _ F => iter 0 F) (fun _ => []) 0 sA (fun st => ops tab (stk_phi nf) so4.toList stk_K so4.toList st) (fun _ _ => none) stk_fin st) so0.toList ⟨fresh, initL stkP 0 (vars, l, ())⟩ =
    Option.bind (need_Need_f nf vars l) fun r => bif r.2.1 != 0 then some (.inr ([], r.2.1, ())) else some (.inl (B3 l, B8)) := by kernel_rfl

def ssig (s : Nat) : Nat := match s with | 3 => 8 | 1 => 3 | _ => 0
def stau (u : Nat) : Option Nat := match u with | 8 => some 3 | _ => none
theorem stk_post (L' : List SOp) : code tab put_phi (fun _ F => iter 0 F) put_keep 0 sB (fin tab stkR (resL ([]) Try.f20)) (fun _ _ => none) (fin tab stkR (resL ([]) Try.f20)) ⟨fresh, boxT ssig put_bxs (L', ())⟩ = some (L', 0, ()) := by kernel_rfl
/-- memory that has grown -/
theorem Inv_grow {w0 w w' : World} {mu : Mu} {av : Nat → AV} {val : Nat → Value} {U : Nat → Prop} {g : Gh} (hI : Inv w0 mu av val U w g) (hsz : w.heap.size ≤ w'.heap.size) (hold : ∀ b, b < w.heap.size → w'.heap[b]? = w.heap[b]?) (hwo : w'.os = w.os ∧ w'.tape = w.tape ∧ w'.output = w.output) : Inv w0 mu av val U w' g :=
  Inv_upd hI (fun _ => False) (fun _ h => h) hsz (fun b l0 hb hs => ⟨hold b hb, hs⟩) (fun s _ => ⟨rfl, rfl, fun b r hb => ⟨hold b (hI.cols b _ hb).1, rfl⟩, fun _ => rfl, fun _ => rfl⟩) (fun s h => h.elim) (fun s h => h.elim) (fun s h => h.elim)
    (fun b k hk => ⟨by have := (hI.cols b k hk).1; omega, (hI.cols b k hk).2⟩) ⟨hwo.1.trans hI.fr.os, hwo.2.1.trans hI.fr.tape, hwo.2.2.trans hI.fr.output, by have := hI.fr.size; omega, fun b hb hm => (hold b (Nat.lt_of_lt_of_le hb hI.fr.size)).trans (hI.fr.old b hb hm)⟩ hI.far (fun _ h => h) (.inl fun _ h => h.elim)

theorem stack_Code_holds (nf : Nat) : Contract.Holds Try.prog 20 (stack_Code_C nf) := by
  show ∀ (x : Int × List Trm × Unit) (r : List SOp × Int × Unit), stack_Code_f nf x.1 x.2.1 = some r → _
  intro x r hx args w mu g hsize hfar hpin1 hpin2 hI
  obtain ⟨vars, l, u0⟩ := x
  have hE : EnvOK Try.prog tab (stk_phi nf) := ⟨tabs.1, tabs.2, ctx_cons need_Need_ok (need_Need_holds nf) ctx_nil, mixed, bk_ok bkls rfl⟩
  have hE0 : EnvOK Try.prog tab put_phi := ⟨tabs.1, tabs.2, ctx_nil, mixed, bk_ok bkls rfl⟩
  have hx : stack_Code_f nf vars l = some r := hx
  unfold stack_Code_f at hx
  obtain ⟨⟨k, e, u1⟩, hneed, hx⟩ := Option.bind_eq_some_iff.1 hx
  have hpre := stk_pre nf vars l
  rw [hneed] at hpre
  simp only [Option.bind_some] at hpre
  have hl : lentC.1 = 4000000000 := rfl
  have hnt : Try.f20.ntmps = 26 := by kernel_rfl
  have hN : (26 : Nat) ≤ lentC.1 := by decide
  have hs1 : args.size = 2 := hsize
  have hp : ∀ s, mu.pin s ≠ none → s ∈ ([] : List Nat) := hpin1
  have hpinN : ∀ s v, mu.pin s = some v → False := fun s v h => by
    have := hpin1 s (by rw [h]; simp)
    cases this
  refine calls_of_wp Try.func20 (show Try.f20.body = some (codeOf Try.f20) by kernel_rfl) ?_
  rw [hnt, stk_body]
  have hVals : ∀ s, (args ++ Array.replicate (26 - args.size) undef).getD s undef = args.getD s undef := fun s => by
    simp only [Array.getD_eq_getD_getElem?]
    by_cases hs : s < args.size
    · rw [Array.getElem?_append_left hs]
    · rw [Array.getElem?_append_right (by omega), Array.getElem?_eq_none (by omega : args.size ≤ s)]
      simp only [Array.getElem?_replicate]
      split <;> rfl
  have hA : At w mu 26 ⟨fresh, initL stkP 0 (vars, l, ())⟩ { tmps := args ++ Array.replicate (26 - args.size) undef, defers := [] } w :=
    ⟨⟨g, Inv_congr hI (fun _ => rfl) (fun s => hVals s)⟩, by simp; omega, rfl, fun s v hs => (hpinN s v hs).elim⟩
  have dst0 : ∀ o ∈ so0.toList, ∀ d, o.dst = some d → d < 26 ∧ mu.pin d = none := dstB_ok (N := 26) hp (by kernel_rfl)
  have dst4 : ∀ o ∈ so4.toList, ∀ d, o.dst = some d → d < 26 ∧ mu.pin d = none := dstB_ok (N := 26) hp (by kernel_rfl)
  -- what is told at the end
  have hfin : ∀ st a' w', fin tab stkR (resL ([]) Try.f20) st = some r → At w mu 26 st a' w' → a'.defers = [] ∧ ∃ v, (results Try.f20 a'.tmps).run Try.prog w' = .ok v w' ∧
      ∃ vs g', Ending.returned v = .returned (retV ((stack_Code_C nf).outV vs)) ∧ Fr w mu w' ∧ ResR w' g' (stack_Code_C nf).rs r 0 vs ∧ (∃ vs', vs = (stack_Code_C nf).io.map (fun p => args.getD p undef) ++ vs') ∧ (∀ b k, g'.col b = some k → b < w'.heap.size ∧ (k = lentC ∨ w.heap.size ≤ b ∨ mu b)) ∧ (∀ b, mu.L b → g'.col b = some lentC) := by
    intro st a' w' h5 hA'
    obtain ⟨g', hI'⟩ := hA'.inv
    obtain ⟨y, g1, st1, vs, h6, hR, ht, hI1, _⟩ := retD_sound hE.tab hfar _ (resL ([]) Try.f20) 0 st g' h5 hI'
    simp only [Option.some.injEq] at h6
    subst h6
    exact ⟨hA'.defers, _, results_run ht, vs, g1, rfl, hI1.fr, hR, ⟨vs, rfl⟩, hI1.cols, hI1.lk⟩
  obtain ⟨z, hz⟩ : ∃ z : Rz, z = (bif e != 0 then .inr ([], e, ()) else .inl (B3 l, B8)) := ⟨_, rfl⟩
  have hpre : ops tab (stk_phi nf) so0.toList (fun st => code tab (stk_phi nf) (fun _ F => iter 0 F) (fun _ => []) 0 sA (fun st => ops tab (stk_phi nf) so4.toList stk_K so4.toList st) (fun _ _ => none) stk_fin st) so0.toList ⟨fresh, initL stkP 0 (vars, l, ())⟩ = some z := by
    rw [hpre, hz]; cases e != 0 <;> rfl
  have hz2 : (z = .inr r) ∨ (z = .inl (B3 l, B8) ∧ ∃ L', put_F nf [IntKind.i64.wrap ((l.length : Int) - 1)] ([], ()) (l, ()) = some (L', ()) ∧ r = (L', 0, ())) := by
    cases he : e != 0 with
    | true =>
      rw [he] at hz hx
      simp only [cond_true, Option.some.injEq] at hx
      exact .inl (by rw [hz, ← hx]; rfl)
    | false =>
      rw [he] at hz hx
      simp only [cond_false] at hx
      obtain ⟨⟨L', u2⟩, h1, h2⟩ := Option.bind_eq_some_iff.1 hx
      simp only [Option.some.injEq] at h2
      exact .inr ⟨hz, L', h1, h2.symm⟩
  refine wp_seq (wp_region_list (ops_sound hE hfar hN dst0 ?_ so0.toList _ _ w dst0 hpre hA))
  intro st a w1 h hA
  refine wp_seq (code_sound hE hfar (N := 26) hN hp (draw_ok hE hfar hN hp) (fun id C _ _ _ _ _ _ hC => by cases hC) (fun _ _ h => by cases h) sA 0 _ (fun _ _ => none) _ z _ _ _ _ (by kernel_rfl) (codeS_none (fun _ => rfl) _) h hA ?_ (fun _ _ _ _ h => by cases h) ?_)
  case refine_2 =>
    intro st a w2 h hA
    unfold stk_fin at h
    obtain ⟨y, hy, hyz⟩ := Option.map_eq_some_iff.1 h
    rcases hz2 with h2 | ⟨h2, _⟩
    · rw [h2] at hyz
      cases hyz
      exact hfin st a w2 hy hA
    · rw [h2] at hyz; cases hyz
  intro st a w2 h hA
  refine wp_seq (wp_region_list (ops_sound hE hfar hN dst4 ?_ so4.toList _ _ w2 dst4 h hA))
  intro st a w3 h hA
  unfold stk_K at h
  simp only [Option.some.injEq] at h
  rcases hz2 with h2 | ⟨h2, L', hput0, hr⟩
  · rw [h2] at h; cases h
  rw [h2] at h
  simp only [Sum.inl.injEq, Prod.mk.injEq] at h
  obtain ⟨h3, h8⟩ := h
  subst hr
  obtain ⟨⟨g3, hI3'⟩, hsz, hdf, _⟩ := hA
  -- the two boxes alone
  obtain ⟨st2, hst2⟩ : ∃ st2 : St, st2 = ⟨st.c, [(3, B3 l), (8, B8)]⟩ := ⟨_, rfl⟩
  have g23 : st2.get 3 = B3 l := by rw [hst2]; rfl
  have g28 : st2.get 8 = B8 := by rw [hst2]; rfl
  have g20 : ∀ s, s ≠ 3 → s ≠ 8 → st2.get s = .dead := fun s q1 q2 => by
    rw [hst2]
    show Ab.look [(3, _), (8, _)] s = _
    rw [look_cons, if_neg q1, look_cons, if_neg q2]; rfl
  have hI3 : Inv w mu st2.get (Vals a) (· < st.c) w3 g3 := by
    refine ⟨fun s => ?_, fun s => ?_, hI3'.cols, hI3'.fr, fun s hs => ?_, hI3'.lk⟩
    · by_cases q1 : s = 3
      · subst q1; have := hI3'.slots 3; rw [h3] at this; rw [g23]; exact this
      · by_cases q2 : s = 8
        · subst q2; have := hI3'.slots 8; rw [h8] at this; rw [g28]; exact this
        · rw [g20 s q1 q2]; trivial
    · by_cases q1 : s = 3
      · subst q1; have := hI3'.stamps 3; rw [h3] at this; rw [g23]; exact this
      · by_cases q2 : s = 8
        · subst q2; have := hI3'.stamps 8; rw [h8] at this; rw [g28]; exact this
        · rw [g20 s q1 q2]; trivial
    · have := (hfar s).1 hs
      exact g20 s (by omega) (by omega)
  clear hI hpre dst0 dst4 hVals hI3'
  -- the variable of the function
  have e50 : so5.toList = [pOp so5 0] := by kernel_rfl
  have e60 : so6.toList = [pOp so6 0, pOp so6 1] := by kernel_rfl
  have e70 : so7.toList = [pOp so7 0, pOp so7 1, pOp so7 2, pOp so7 3, pOp so7 4] := by kernel_rfl
  have k50 : (pOp so5 0).op = .alloc 95 := by kernel_rfl
  have d50 : (pOp so5 0).dst = some 9 := by kernel_rfl
  have q50 : (pOp so5 0).guard = none := by kernel_rfl
  have k60 : (pOp so6 0).op = .makeFunc (.func 57) #[] #[.tmp 3, .tmp 9, .tmp 8] := by kernel_rfl
  have d60 : (pOp so6 0).dst = some 19 := by kernel_rfl
  have q60 : (pOp so6 0).guard = none := by kernel_rfl
  have k61 : (pOp so6 1).op = .store 95 (.tmp 9) (.tmp 19) := by kernel_rfl
  have d61 : (pOp so6 1).dst = none := by kernel_rfl
  have q61 : (pOp so6 1).guard = none := by kernel_rfl
  have k70 : (pOp so7 0).op = .load 95 (.tmp 9) := by kernel_rfl
  have d70 : (pOp so7 0).dst = some 20 := by kernel_rfl
  have q70 : (pOp so7 0).guard = none := by kernel_rfl
  have d71 : (pOp so7 1).dst = some 21 := by kernel_rfl
  have q71 : (pOp so7 1).guard = none := by kernel_rfl
  have d72 : (pOp so7 2).dst = some 22 := by kernel_rfl
  have q72 : (pOp so7 2).guard = none := by kernel_rfl
  have d73 : (pOp so7 3).dst = some 23 := by kernel_rfl
  have q73 : (pOp so7 3).guard = none := by kernel_rfl
  obtain ⟨cc, hcc⟩ : ∃ cc : Call, cc = (match (pOp so7 4).op with | .call c => c | _ => default) := ⟨_, rfl⟩
  have k74 : (pOp so7 4).op = .call cc := by rw [hcc]; kernel_rfl
  have c74 : cc.callee = .value (.tmp 20) := by rw [hcc]; kernel_rfl
  have a74 : cc.args = #[.tmp 23] := by rw [hcc]; kernel_rfl
  have d74 : (pOp so7 4).dst = some 24 := by kernel_rfl
  have q74 : (pOp so7 4).guard = none := by kernel_rfl
  clear hcc
  have hi95 : Try.prog.info? 95 = some i95 := by kernel_rfl
  have hz95 : i95.zero = some z95 := by kernel_rfl
  have hzs : z95.cells.size = 1 := by kernel_rfl
  have hs95 : i95.size = 1 := by kernel_rfl
  obtain ⟨bv, hbv⟩ : ∃ bv, bv = w3.heap.size := ⟨_, rfl⟩
  obtain ⟨w4, hw4⟩ : ∃ w4, w4 = w3.alloc (.cells z95.cells 95) := ⟨_, rfl⟩
  have h4old : ∀ b, b < w3.heap.size → w4.heap[b]? = w3.heap[b]? := fun b hb => by
    rw [hw4]; simp only [World.alloc]; rw [Array.getElem?_push]; rw [if_neg (by omega)]
  have h4new : w4.heap[bv]? = some (.cells z95.cells 95 (0, 0)) := by
    rw [hw4, hbv]; simp only [World.alloc]; rw [Array.getElem?_push, if_pos rfl]
  refine wp_seq (wp_region_list ?_)
  rw [e50]
  unfold wpList
  rw [if_pos (by simp [Region.wanted, q50])]
  left
  unfold Oper.wp
  rw [show (execOp a.eval (pOp so5 0)).run Try.prog w3 = .ok (.value (.pointer (some ⟨bv, 0, none⟩))) w4 by
    rw [hw4, hbv]; simp [execOp, k50, Instr.alloc, zeroValue, typeInfo, hi95, hz95, newVar, newRow], Oper.upon_value, d50]
  unfold wpList
  show Code.wp _ _ _ _ _
  -- its value
  have hput : ∀ (a : Act) (d : Nat) (v : Value), a.tmps.size = 26 → d < 26 → (a.put (some d) v).tmps.size = 26 ∧ (a.put (some d) v).defers = a.defers ∧ ∀ s, Vals (a.put (some d) v) s = if s = d then v else Vals a s := fun a d v h1 h2 =>
    ⟨by simp [Act.put, h1], rfl, fun s => Vals_put (by omega) v s⟩
  have hnf : ∀ d, d < 26 → ¬ mu.far d := fun d h hf => by have := (hfar d).1 hf; omega
  obtain ⟨s4, f4, v4⟩ := hput a 9 (.pointer (some ⟨bv, 0, none⟩)) hsz (by omega)
  obtain ⟨a4, ha4⟩ : ∃ a4, a4 = a.put (some 9) (.pointer (some ⟨bv, 0, none⟩)) := ⟨_, rfl⟩
  rw [← ha4] at s4 f4 v4 ⊢
  obtain ⟨us, hus⟩ : ∃ us : Array Value, us = #[Vals a4 3, Vals a4 9, Vals a4 8] := ⟨_, rfl⟩
  refine wp_seq (wp_region_list ?_)
  rw [e60]
  unfold wpList
  rw [if_pos (by simp [Region.wanted, q60])]
  left
  unfold Oper.wp
  rw [show (execOp a4.eval (pOp so6 0)).run Try.prog w4 = .ok (.value (.func (.func 57) #[] us)) w4 by
    have h1 : execOp a4.eval (pOp so6 0) = (do pure (.value (← Instr.makeFunc (.func 57) (#[].map a4.eval) (#[.tmp 3, .tmp 9, .tmp 8].map a4.eval)))) := by simp only [execOp, k60] <;> rfl
    rw [h1, hus]
    simp [Instr.makeFunc, Act.eval, Vals], Oper.upon_value, d60]
  obtain ⟨s5, f5, v5⟩ := hput a4 19 (.func (.func 57) #[] us) s4 (by omega)
  obtain ⟨a5, ha5⟩ : ∃ a5, a5 = a4.put (some 19) (.func (.func 57) #[] us) := ⟨_, rfl⟩
  rw [← ha5] at s5 f5 v5 ⊢
  unfold wpList
  rw [if_pos (by simp [Region.wanted, q61])]
  left
  obtain ⟨w5, hw5⟩ : ∃ w5, w5 = w4.setRow bv #[.func (.func 57) #[] us] := ⟨_, rfl⟩
  have e5 : a5.eval (.tmp 9) = .pointer (some ⟨bv, 0, none⟩) := by
    have h1 := v5 9
    have h2 := v4 9
    simp only [show ¬ (9 : Nat) = 19 by decide, if_false, if_true] at h1 h2
    rw [h2] at h1; exact h1
  have hst : (execOp a5.eval (pOp so6 1)).run Try.prog w4 = .ok .skip w5 := by
    have e2 : a5.eval (.tmp 19) = .func (.func 57) #[] us := by
      have h1 := v5 19
      simp only [if_true] at h1
      exact h1
    have hsz0 : (sizeOf 95).run Try.prog w4 = .ok 1 w4 := by simp [sizeOf, typeInfo, hi95, hs95]
    have h1 := run_storeCells_at Try.prog bv 0 95 [.func (.func 57) #[] us] 0 z95.cells w4 h4new (by simp [hzs]) (fun v hv => by
      rw [List.mem_singleton] at hv; subst hv; rfl)
    have h2 : (List.take (0 + 0) z95.cells.toList ++ [Value.func (.func 57) #[] us] ++ List.drop (0 + 0 + [Value.func (.func 57) #[] us].length) z95.cells.toList).toArray = #[.func (.func 57) #[] us] := by
      have : List.drop 1 z95.cells.toList = [] := List.drop_eq_nil_of_le (by simp [hzs])
      simp [this]
    rw [h2] at h1
    have h3 : (Value.func (.func 57) #[] us).cells = #[.func (.func 57) #[] us] := rfl
    have hrun : (Instr.storeAt 95 (.pointer (some ⟨bv, 0, none⟩)) (.func (.func 57) #[] us)).run Try.prog w4 = .ok () w5 := by
      rw [hw5]
      simp [Instr.storeAt, Instr.sureAddr, storeVar, h3, hsz0, h1]
    simp [execOp, k61, e5, e2, hrun]
  unfold Oper.wp
  rw [hst, Oper.upon_skip, d61]
  unfold wpList
  show Code.wp _ _ _ _ _
  have hputN : a5.put none undef = a5 := rfl
  rw [hputN]
  have h5new : w5.heap[bv]? = some (.cells #[.func (.func 57) #[] us] 95 (0, 0)) := by rw [hw5]; exact setRow_heap w4 bv _ _ _ _ h4new
  have h5old : ∀ b, b < w3.heap.size → w5.heap[b]? = w3.heap[b]? := fun b hb => by rw [hw5, setRow_other _ _ _ _ (by omega)]; exact h4old b hb
  have h5size : w3.heap.size ≤ w5.heap.size := by
    rw [hw5, setRow_size, hw4]
    show w3.heap.size ≤ (w3.heap.push _).size
    rw [Array.size_push]; omega
  have h5w : w5.os = w3.os ∧ w5.tape = w3.tape ∧ w5.output = w3.output := by rw [hw5, hw4]; exact ⟨rfl, rfl, rfl⟩
  -- the call
  refine wp_seq (wp_region_list ?_)
  rw [e70]
  unfold wpList
  rw [if_pos (by simp [Region.wanted, q70])]
  left
  have hcell : w5.cell? ⟨bv, 0, none⟩ = some (.func (.func 57) #[] us) := by simp [World.cell?, h5new]
  have hagg : (isAgg 95).run Try.prog w5 = .ok false w5 := by kernel_rfl
  unfold Oper.wp
  rw [show (execOp a5.eval (pOp so7 0)).run Try.prog w5 = .ok (.value (.func (.func 57) #[] us)) w5 by
    simp [execOp, k70, e5, Instr.loadAt, Instr.sureAddr, loadVar, hagg, hcell], Oper.upon_value, d70]
  obtain ⟨s6, f6, v6⟩ := hput a5 20 (.func (.func 57) #[] us) s5 (by omega)
  obtain ⟨a6, ha6⟩ : ∃ a6, a6 = a5.put (some 20) (.func (.func 57) #[] us) := ⟨_, rfl⟩
  rw [← ha6] at s6 f6 v6 ⊢
  -- how long the list is
  have hI5 : Inv w mu st2.get (Vals a) (· < st.c) w5 g3 := Inv_grow hI3 h5size h5old h5w
  have hJ4 : Inv w mu (st2.set 9 .dead).get (Vals a4) (· < st.c) w5 g3 := by rw [ha4]; exact put_free hI5 (by omega) (hnf 9 (by omega)) (av := .dead) trivial trivial rfl
  have hJ5 : Inv w mu ((st2.set 9 .dead).set 19 .dead).get (Vals a5) (· < st.c) w5 g3 := by rw [ha5]; exact put_free hJ4 (by omega) (hnf 19 (by omega)) (av := .dead) trivial trivial rfl
  have hJ6 : Inv w mu (((st2.set 9 .dead).set 19 .dead).set 20 .dead).get (Vals a6) (· < st.c) w5 g3 := by rw [ha6]; exact put_free hJ5 (by omega) (hnf 20 (by omega)) (av := .dead) trivial trivial rfl
  rw [hst2] at hJ6
  obtain ⟨S6, hS6⟩ : ∃ S6 : St, S6 = (((⟨st.c, [(3, B3 l), (8, B8)]⟩ : St).set 9 .dead).set 19 .dead).set 20 .dead := ⟨_, rfl⟩
  have hm1 : noTup S6 (pOp so7 1) = true := by rw [hS6]; kernel_rfl
  have hs1 : Go.Ab.step tab (stk_phi nf) (pOp so7 1) S6 (fun av _ => some av) = some (.v (.sl tT) (.bor true false) l) := by rw [hS6]; kernel_rfl
  rw [← hS6] at hJ6
  have hD1 : DstOK mu (pOp so7 1) a6 := fun d hd => by
    rw [d71] at hd
    simp only [Option.some.injEq] at hd
    subst hd
    exact ⟨by rw [s6]; decide, hnf 21 (by omega)⟩
  obtain ⟨av1, x1, p1, r1, y1, t1, o1⟩ := fl_sound hE hJ6 hD1 (by kernel_rfl) hm1 hs1
  simp only [Option.some.injEq] at p1
  subst p1
  unfold wpList
  rw [if_pos (by simp [Region.wanted, q71])]
  left
  unfold Oper.wp
  rw [r1, Oper.upon_value, d71]
  obtain ⟨s7, f7, v7⟩ := hput a6 21 x1 s6 (by omega)
  obtain ⟨a7, ha7⟩ : ∃ a7, a7 = a6.put (some 21) x1 := ⟨_, rfl⟩
  have hJ7 : Inv w mu (S6.set 21 (.v (.sl tT) (.bor true false) l)).get (Vals a7) (· < st.c) w5 g3 := by rw [ha7]; exact put_free hJ6 (by omega) (hnf 21 (by omega)) y1 t1 o1
  rw [← ha7] at s7 f7 v7 ⊢
  obtain ⟨S7, hS7⟩ : ∃ S7 : St, S7 = S6.set 21 (.v (.sl tT) (.bor true false) l) := ⟨_, rfl⟩
  have hm2 : noTup S7 (pOp so7 2) = true := by kernel_rfl
  have hs2 : Go.Ab.step tab (stk_phi nf) (pOp so7 2) S7 (fun av _ => some av) = some (.v (.int .i64) (.bor false true) (l.length : Int)) := by rw [hS7]; kernel_rfl
  rw [← hS7] at hJ7
  have hD2 : DstOK mu (pOp so7 2) a7 := fun d hd => by
    rw [d72] at hd
    simp only [Option.some.injEq] at hd
    subst hd
    exact ⟨by rw [s7]; decide, hnf 22 (by omega)⟩
  obtain ⟨av2, x2, p2, r2, y2, t2, o2⟩ := fl_sound hE hJ7 hD2 (by kernel_rfl) hm2 hs2
  simp only [Option.some.injEq] at p2
  subst p2
  unfold wpList
  rw [if_pos (by simp [Region.wanted, q72])]
  left
  unfold Oper.wp
  rw [r2, Oper.upon_value, d72]
  obtain ⟨s8, f8, v8⟩ := hput a7 22 x2 s7 (by omega)
  obtain ⟨a8, ha8⟩ : ∃ a8, a8 = a7.put (some 22) x2 := ⟨_, rfl⟩
  have hJ8 : Inv w mu (S7.set 22 (.v (.int .i64) (.bor false true) (l.length : Int))).get (Vals a8) (· < st.c) w5 g3 := by rw [ha8]; exact put_free hJ7 (by omega) (hnf 22 (by omega)) y2 t2 o2
  rw [← ha8] at s8 f8 v8 ⊢
  obtain ⟨S8, hS8⟩ : ∃ S8 : St, S8 = S7.set 22 (.v (.int .i64) (.bor false true) (l.length : Int)) := ⟨_, rfl⟩
  have hm3 : noTup S8 (pOp so7 3) = true := by kernel_rfl
  have hs3 : Go.Ab.step tab (stk_phi nf) (pOp so7 3) S8 (fun av _ => some av) = some (.v (.int .i64) (.bor false true) (IntKind.i64.wrap ((l.length : Int) - 1))) := by rw [hS8]; kernel_rfl
  rw [← hS8] at hJ8
  have hD3 : DstOK mu (pOp so7 3) a8 := fun d hd => by
    rw [d73] at hd
    simp only [Option.some.injEq] at hd
    subst hd
    exact ⟨by rw [s8]; decide, hnf 23 (by omega)⟩
  obtain ⟨av3, x3, p3, r3, y3, t3, o3⟩ := fl_sound hE hJ8 hD3 (by kernel_rfl) hm3 hs3
  simp only [Option.some.injEq] at p3
  subst p3
  have hx3 : x3 = .int .i64 (IntKind.i64.wrap ((l.length : Int) - 1)) := VR_int y3
  unfold wpList
  rw [if_pos (by simp [Region.wanted, q73])]
  left
  unfold Oper.wp
  rw [r3, Oper.upon_value, d73]
  obtain ⟨s9, f9, v9⟩ := hput a8 23 x3 s8 (by omega)
  generalize a8.put (some 23) x3 = a9 at s9 f9 v9
  unfold wpList
  rw [if_pos (by simp [Region.wanted, q74])]
  left
  have e20 : a9.eval (.tmp 20) = .func (.func 57) #[] us := by
    show Vals a9 20 = _
    rw [v9, if_neg (by decide), v8, if_neg (by decide), v7, if_neg (by decide), v6, if_pos rfl]
  have e23 : a9.eval (.tmp 23) = .int .i64 (IntKind.i64.wrap ((l.length : Int) - 1)) := by
    show Vals a9 23 = _
    rw [v9, if_pos rfl, hx3]
  unfold Oper.wp
  rw [exec_call (fn := 57) (us := us) put_ok k74 c74 e20, Oper.upon_enter, a74]
  have hav : ∀ s, s ≠ 9 → Vals a4 s = Vals a s := fun s hs => by rw [v4, if_neg hs]
  have hus1 : us = #[Vals a 3, .pointer (some ⟨bv, 0, none⟩), Vals a 8] := by
    rw [hus, hav 3 (by decide), hav 8 (by decide), v4 9, if_pos rfl]
  have hargs : (#[Operand.tmp 23].map a9.eval ++ us) = #[.int .i64 (IntKind.i64.wrap ((l.length : Int) - 1)), Vals a 3, .pointer (some ⟨bv, 0, none⟩), Vals a 8] := by
    rw [hus1]
    simp [e23]
  rw [hargs]
  have hus2 : us = (#[.int .i64 (IntKind.i64.wrap ((l.length : Int) - 1)), Vals a 3, .pointer (some ⟨bv, 0, none⟩), Vals a 8] : Array Value).extract 1 4 := by
    rw [hus1]; rfl
  have hcalls := self_start (val := Vals a) (av := st2.get) hI3 hfar (put_holds nf) hput0 (args := #[.int .i64 (IntKind.i64.wrap ((l.length : Int) - 1)), Vals a 3, .pointer (some ⟨bv, 0, none⟩), Vals a 8]) (bv := bv) (w5 := w5) (c := #[.func (.func 57) #[] us]) (el := 95) (σ := ssig) (τ := stau)
    (by omega) h5old h5size h5w h5new (by rw [← hus2]; rfl) rfl rfl rfl (fun i hi => by
      have : i = 0 := by omega
      subst this; rfl) (by decide)
    (fun s hs => by
      have hs : s ∈ [3] := hs
      simp only [List.mem_cons, List.not_mem_nil, or_false] at hs
      subst hs; rfl)
    (fun u s h => by
      unfold stau at h
      split at h
      · cases h; exact ⟨by show 3 ∈ [3]; decide, rfl⟩
      · cases h)
    (fun s hs => by
      have hs : s ∈ [3] := hs
      simp only [List.mem_cons, List.not_mem_nil, or_false] at hs
      subst hs; decide)
    put_slots
    (fun s hs => by
      have hs : s ∈ [3] := hs
      simp only [List.mem_cons, List.not_mem_nil, or_false] at hs
      subst hs
      exact ⟨_, _, _, _, _, g28, by simp [put_bxs], rfl, rfl⟩)
    (fun s => ⟨fun hs => by
      have hs : s ∈ [1] := hs
      simp only [List.mem_cons, List.not_mem_nil, or_false] at hs
      subst hs
      exact ⟨_, _, _, _, _, g23, rfl, rfl, rfl⟩, fun hs => by
      have hs : s ∉ [1] := hs
      simp only [List.mem_cons, List.not_mem_nil, or_false] at hs
      show Ab.look [(1, _)] s = _
      rw [look_cons, if_neg hs]; rfl⟩)
    put_nl
  refine Calls.mono hcalls ?_
  rintro e w6 ⟨rfl, gW, hIW⟩
  simp only
  rw [d74]
  obtain ⟨s10, f10, v10⟩ := hput a9 24 (.tuple #[]) s9 (by omega)
  generalize a9.put (some 24) (.tuple #[]) = a10 at s10 f10 v10
  unfold wpList
  show Code.wp _ _ _ _ _
  -- what comes back
  have hvv : Vals a10 8 = Vals a 8 := by
    rw [v10, if_neg (by decide), v9, if_neg (by decide), v8, if_neg (by decide), v7, if_neg (by decide), v6, if_neg (by decide), v5, if_neg (by decide), v4, if_neg (by decide)]
  have hlk : ∀ u, u ≠ 8 → Ab.look (boxT ssig put_bxs (L', ())) u = .dead := fun u hu => by
    show Ab.look [(8, _)] u = _
    rw [look_cons, if_neg hu]; rfl
  have hA7 : At w mu 26 ⟨fresh, boxT ssig put_bxs (L', ())⟩ a10 w6 := by
    refine ⟨⟨gW, ⟨fun u => ?_, hIW.stamps, hIW.cols, hIW.fr, hIW.far, hIW.lk⟩⟩, s10, by rw [f10, f9, f8, f7, f6, f5, f4, hdf], fun s v hs => (hpinN s v hs).elim⟩
    have h0 := hIW.slots u
    by_cases hu : u = 8
    · subst hu; rw [hvv]; exact h0
    · show SlotR _ _ _ u (Ab.look (boxT ssig put_bxs (L', ())) u) _
      rw [hlk u hu]; trivial
  refine code_sound hE0 hfar (N := 26) hN hp (draw_ok hE0 hfar hN hp) (fun id C _ _ _ _ _ _ hC => by cases hC) (fun _ _ h => by cases h) sB 0 _ (fun _ _ => none) _ (L', 0, ()) _ _ _ _ (by kernel_rfl) (codeS_none (fun _ => rfl) _) (stk_post L') hA7 ?_ (fun _ _ _ _ h => by cases h) ?_
  · intro st a' w' h5 hA'; exact hfin st a' w' h5 hA'
  · intro st a' w' h5 hA'; exact hfin st a' w' h5 hA'
end
end Go.Proofs.Ytoglkjmdloppcaa.S
