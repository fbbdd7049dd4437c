/- way.walk: its contract. -/
import Derived.Test.YtccbcbhiblohgaaWalkV
namespace Go.Proofs.Ytccbcbhiblohgaa.S
open Go Go.Ab
noncomputable section

/-! codemason way.walk -/
def way_walk_f (nf : Nat) (next : List (List Int)) : Option (List Int × Unit) :=
  bif decide (0 ≤ (next.length : Int)) && decide ((next.length : Int) ≤ (next.length : Int)) && decide ((next.length : Int) ≤ (lim : Int)) then
    Option.bind (visit_F nf [0] (List.replicate (next.length : Int).toNat false, [], ()) (next, ())) fun r => some (r.2.1, ())
  else
    none
def way_walk_F (nf : Nat) (x : denPs [.val (.sl (.sl (.int .i64))) (.bor true false)]) : Option (denL [(.sl (.int .i64), .own false (.bor false false))]) := way_walk_f nf x.1
def way_walk_C (nf : Nat) : Contract := ⟨[.val (.sl (.sl (.int .i64))) (.bor true false)], [(.sl (.int .i64), .own false (.bor false false))], way_walk_F nf, none⟩
theorem way_walk_ok : FnOK Try.prog 60 := ⟨Try.f60, codeOf Try.f60, Try.func60, by kernel_rfl, by kernel_rfl⟩

def cL : Code → Code | .seq x _ => x | c => c
def cR : Code → Code | .seq _ y => y | c => c
def cO : Code → Array Oper | .region _ os _ => os | _ => #[]
def wk1 : Code := cR (codeOf Try.f60)
def wk2 : Code := cR wk1
def wk3 : Code := cR wk2
def wk4 : Code := cR wk3
def wk5 : Code := cR wk4
def wk6 : Code := cR wk5
def wo0 : Array Oper := cO (cL (codeOf Try.f60))
def wo1 : Array Oper := cO (cL wk1)
def wo2 : Array Oper := cO (cL wk2)
def wo3 : Array Oper := cO (cL wk3)
def wo4 : Array Oper := cO (cL wk4)
def wo5 : Array Oper := cO (cL wk5)
theorem walk_body : codeOf Try.f60 = .seq (.region 0 wo0 false) (.seq (.region 1 wo1 false) (.seq (.region 2 wo2 false) (.seq (.region 3 wo3 false) (.seq (.region 4 wo4 false) (.seq (.region 5 wo5 false) wk6))))) := by kernel_rfl
def w30 : Oper := wo3.toList.getD 0 default
def w40 : Oper := wo4.toList.getD 0 default
def w41 : Oper := wo4.toList.getD 1 default
def w50 : Oper := wo5.toList.getD 0 default
def w51 : Oper := wo5.toList.getD 1 default
def w5c : Call := match w51.op with | .call c => c | _ => default
def i82 : TypeInfo := match Try.prog.info? 82 with | some i => i | none => default
def z82 : Value := match i82.zero with | some z => z | none => undef

def walk_st3 (next : List (List Int)) : St := ⟨1000016, [(4, .box 1000012 1000014 (.sl .bool) (.own false (.bor false false)) (List.replicate (next.length : Int).toNat false)), (8, .dead), (4, .box 1000012 1000013 (.sl .bool) (.own true (.bor false true)) []), (8, .ow 1000010 (.sl .bool) (.own false (.bor false false)) (List.replicate (next.length : Int).toNat false)), (7, .v (.int .i64) (.bor false true) (next.length : Int)), (6, .v (.sl (.sl (.int .i64))) (.bor true false) next), (3, .box 1000004 1000005 (.sl (.int .i64)) (.own true (.bor false true)) []), (2, .ow 1000002 (.sl (.int .i64)) (.own false (.bor false false)) []), (1, .box 1000000 1000001 (.sl (.sl (.int .i64))) (.bor true false) next), (0, .v (.sl (.sl (.int .i64))) (.bor true false) next)]⟩
theorem walk_pre (next : List (List Int)) : ops tab visit_phi wo0.toList (fun st => ops tab visit_phi wo1.toList (fun st => ops tab visit_phi wo2.toList (fun st => some st) wo2.toList st) wo1.toList st) wo0.toList ⟨fresh, initL [.val (.sl (.sl (.int .i64))) (.bor true false)] 0 (next, ())⟩ =
    bif decide (0 ≤ (next.length : Int)) && decide ((next.length : Int) ≤ (next.length : Int)) && decide ((next.length : Int) ≤ (lim : Int)) then some (walk_st3 next) else none := by kernel_rfl

def wsig (s : Nat) : Nat := match s with | 1 => 4 | 4 => 3 | 2 => 1 | _ => 0
def wtau (u : Nat) : Option Nat := match u with | 4 => some 1 | 3 => some 4 | _ => none
theorem walk_post (S' : List Bool) (L' : List Int) : code tab visit_phi (fun _ F => iter 0 F) visit_keep 0 wk6 (fin tab [(.sl (.int .i64), .own false (.bor false false))] (resL none Try.f60)) (fun _ _ => none) (fin tab [(.sl (.int .i64), .own false (.bor false false))] (resL none Try.f60)) ⟨fresh, boxT wsig visit_bxs (S', L', ())⟩ = some (L', ()) := by kernel_rfl

theorem way_walk_holds (nf : Nat) : Contract.Holds Try.prog 60 (way_walk_C nf) := by
  show ∀ (x : List (List Int) × Unit) (r : List Int × Unit), way_walk_f nf x.1 = some r → _
  intro x r hx args w mu g hsize hfar hpin1 hpin2 hI
  obtain ⟨next, u0⟩ := x
  have hE : EnvOK Try.prog tab visit_phi := ⟨tabs.1, tabs.2, ctx_nil, mixed⟩
  have hx : way_walk_f nf next = some r := hx
  unfold way_walk_f at hx
  have hpre := walk_pre next
  cases hgd : (decide (0 ≤ (next.length : Int)) && decide ((next.length : Int) ≤ (next.length : Int)) && decide ((next.length : Int) ≤ (lim : Int))) with
  | false => rw [hgd] at hx; cases hx
  | true =>
  rw [hgd] at hx hpre
  simp only [cond_true] at hx hpre
  obtain ⟨⟨S', L', u1⟩, hvis, hr⟩ := Option.bind_eq_some_iff.1 hx
  simp only [Option.some.injEq] at hr
  subst hr
  have hl : lentC.1 = 4000000000 := rfl
  have hnt : Try.f60.ntmps = 13 := by kernel_rfl
  have hN : (13 : Nat) ≤ lentC.1 := by decide
  have hs1 : args.size = 1 := hsize
  have hpinN : ∀ s v, mu.pin s = some v → False := fun s v h => by
    have := hpin1 s (by rw [h]; simp)
    cases this
  refine calls_of_wp Try.func60 (show Try.f60.body = some (codeOf Try.f60) by kernel_rfl) ?_
  rw [hnt, walk_body]
  have hVals : ∀ s, (args ++ Array.replicate (13 - args.size) undef).getD s undef = args.getD s undef := fun s => by
    simp only [Array.getD_eq_getD_getElem?]
    by_cases hs : s < args.size
    · rw [Array.getElem?_append_left hs]
    · rw [Array.getElem?_append_right (by omega), Array.getElem?_eq_none (by omega : args.size ≤ s)]
      simp only [Array.getElem?_replicate]
      split <;> rfl
  have hA : At w mu 13 ⟨fresh, initL [.val (.sl (.sl (.int .i64))) (.bor true false)] 0 (next, ())⟩ { tmps := args ++ Array.replicate (13 - args.size) undef, defers := [] } w :=
    ⟨⟨g, Inv_congr hI (fun _ => rfl) (fun s => hVals s)⟩, by simp; omega, rfl, fun s v hs => (hpinN s v hs).elim⟩
  have hp : ∀ s, mu.pin s ≠ none → s ∈ ([] : List Nat) := fun s h => by
    cases hq : mu.pin s with
    | none => exact absurd hq h
    | some v => exact (hpinN s v hq).elim
  have dst0 : ∀ o ∈ wo0.toList, ∀ d, o.dst = some d → d < 13 ∧ mu.pin d = none := dstB_ok (N := 13) hp (by kernel_rfl)
  have dst1 : ∀ o ∈ wo1.toList, ∀ d, o.dst = some d → d < 13 ∧ mu.pin d = none := dstB_ok (N := 13) hp (by kernel_rfl)
  have dst2 : ∀ o ∈ wo2.toList, ∀ d, o.dst = some d → d < 13 ∧ mu.pin d = none := dstB_ok (N := 13) hp (by kernel_rfl)
  -- what is made ahead
  refine wp_seq (wp_region_list (ops_sound hE hfar hN dst0 ?_ wo0.toList _ _ w dst0 hpre hA))
  intro st a w1 h hA
  refine wp_seq (wp_region_list (ops_sound hE hfar hN dst1 ?_ wo1.toList _ _ w1 dst1 h hA))
  intro st a w2 h hA
  refine wp_seq (wp_region_list (ops_sound hE hfar hN dst2 ?_ wo2.toList _ _ w2 dst2 h hA))
  intro st a w3 h hA
  simp only [Option.some.injEq] at h
  subst h
  obtain ⟨⟨g3, hI3⟩, hsz, hdf, _⟩ := hA
  clear hI hpre dst0 dst1 dst2 hVals
  -- the variable of the function
  have e30 : wo3.toList = [w30] := by kernel_rfl
  have e40 : wo4.toList = [w40, w41] := by kernel_rfl
  have e50 : wo5.toList = [w50, w51] := by kernel_rfl
  have k30 : w30.op = .alloc 82 := by kernel_rfl
  have d30 : w30.dst = some 5 := by kernel_rfl
  have g30 : w30.guard = none := by kernel_rfl
  have k40 : w40.op = .makeFunc (.func 76) #[] #[.tmp 4, .tmp 1, .tmp 5, .tmp 3] := by kernel_rfl
  have d40 : w40.dst = some 9 := by kernel_rfl
  have g40 : w40.guard = none := by kernel_rfl
  have k41 : w41.op = .store 82 (.tmp 5) (.tmp 9) := by kernel_rfl
  have d41 : w41.dst = none := by kernel_rfl
  have g41 : w41.guard = none := by kernel_rfl
  have k50 : w50.op = .load 82 (.tmp 5) := by kernel_rfl
  have d50 : w50.dst = some 10 := by kernel_rfl
  have g50 : w50.guard = none := by kernel_rfl
  have k51 : w51.op = .call w5c := by kernel_rfl
  have c51 : w5c.callee = .value (.tmp 10) := by kernel_rfl
  have a51 : w5c.args = #[.const (.int .i64 0)] := by kernel_rfl
  have d51 : w51.dst = some 11 := by kernel_rfl
  have g51 : w51.guard = none := by kernel_rfl
  have hi82 : Try.prog.info? 82 = some i82 := by kernel_rfl
  have hz82 : i82.zero = some z82 := by kernel_rfl
  have hzs : z82.cells.size = 1 := by kernel_rfl
  have hs82 : i82.size = 1 := by kernel_rfl
  obtain ⟨bv, hbv⟩ : ∃ bv, bv = w3.heap.size := ⟨_, rfl⟩
  obtain ⟨w4, hw4⟩ : ∃ w4, w4 = w3.alloc (.cells z82.cells 82) := ⟨_, rfl⟩
  have h4old : ∀ b, b < w3.heap.size → w4.heap[b]? = w3.heap[b]? := fun b hb => by
    rw [hw4]; simp only [World.alloc]; rw [Array.getElem?_push]; rw [if_neg (by omega)]
  have h4new : w4.heap[bv]? = some (.cells z82.cells 82 (0, 0)) := by
    rw [hw4, hbv]; simp only [World.alloc]; rw [Array.getElem?_push, if_pos rfl]
  refine wp_seq (wp_region_list ?_)
  rw [e30]
  unfold wpList
  rw [if_pos (by simp [Region.wanted, g30])]
  left
  unfold Oper.wp
  rw [show (execOp a.eval w30).run Try.prog w3 = .ok (.value (.pointer (some ⟨bv, 0, none⟩))) w4 by
    rw [hw4, hbv]; simp [execOp, k30, Instr.alloc, zeroValue, typeInfo, hi82, hz82, newVar, newRow], Oper.upon_value, d30]
  unfold wpList
  show Code.wp _ _ _ _ _
  -- its value
  have hput : ∀ (a : Act) (d : Nat) (v : Value), a.tmps.size = 13 → d < 13 → (a.put (some d) v).tmps.size = 13 ∧ (a.put (some d) v).defers = a.defers ∧ ∀ s, Vals (a.put (some d) v) s = if s = d then v else Vals a s := fun a d v h1 h2 =>
    ⟨by simp [Act.put, h1], rfl, fun s => Vals_put (by omega) v s⟩
  obtain ⟨s4, f4, v4⟩ := hput a 5 (.pointer (some ⟨bv, 0, none⟩)) hsz (by omega)
  generalize a.put (some 5) (.pointer (some ⟨bv, 0, none⟩)) = a4 at s4 f4 v4
  obtain ⟨us, hus⟩ : ∃ us : Array Value, us = #[Vals a4 4, Vals a4 1, Vals a4 5, Vals a4 3] := ⟨_, rfl⟩
  refine wp_seq (wp_region_list ?_)
  rw [e40]
  unfold wpList
  rw [if_pos (by simp [Region.wanted, g40])]
  left
  unfold Oper.wp
  rw [show (execOp a4.eval w40).run Try.prog w4 = .ok (.value (.func (.func 76) #[] us)) w4 by
    have h1 : execOp a4.eval w40 = (do pure (.value (← Instr.makeFunc (.func 76) (#[].map a4.eval) (#[.tmp 4, .tmp 1, .tmp 5, .tmp 3].map a4.eval)))) := by simp only [execOp, k40] <;> rfl
    rw [h1, hus]
    simp [Instr.makeFunc, Act.eval, Vals], Oper.upon_value, d40]
  obtain ⟨s5, f5, v5⟩ := hput a4 9 (.func (.func 76) #[] us) s4 (by omega)
  generalize a4.put (some 9) (.func (.func 76) #[] us) = a5 at s5 f5 v5
  unfold wpList
  rw [if_pos (by simp [Region.wanted, g41])]
  left
  obtain ⟨w5, hw5⟩ : ∃ w5, w5 = w4.setRow bv #[.func (.func 76) #[] us] := ⟨_, rfl⟩
  have hst : (execOp a5.eval w41).run Try.prog w4 = .ok .skip w5 := by
    have e1 : a5.eval (.tmp 5) = .pointer (some ⟨bv, 0, none⟩) := by
      have h1 := v5 5
      have h2 := v4 5
      simp only [show ¬ (5 : Nat) = 9 by decide, if_false, if_true] at h1 h2
      rw [h2] at h1; exact h1
    have e2 : a5.eval (.tmp 9) = .func (.func 76) #[] us := by
      have h1 := v5 9
      simp only [if_true] at h1
      exact h1
    have hsz0 : (sizeOf 82).run Try.prog w4 = .ok 1 w4 := by simp [sizeOf, typeInfo, hi82, hs82]
    have h1 := run_storeCells_at Try.prog bv 0 82 [.func (.func 76) #[] us] 0 z82.cells w4 h4new (by simp [hzs]) (fun v hv => by
      rw [List.mem_singleton] at hv; subst hv; rfl)
    have h2 : (List.take (0 + 0) z82.cells.toList ++ [Value.func (.func 76) #[] us] ++ List.drop (0 + 0 + [Value.func (.func 76) #[] us].length) z82.cells.toList).toArray = #[.func (.func 76) #[] us] := by
      have : List.drop 1 z82.cells.toList = [] := List.drop_eq_nil_of_le (by simp [hzs])
      simp [this]
    rw [h2] at h1
    have h3 : (Value.func (.func 76) #[] us).cells = #[.func (.func 76) #[] us] := rfl
    have hrun : (Instr.storeAt 82 (.pointer (some ⟨bv, 0, none⟩)) (.func (.func 76) #[] us)).run Try.prog w4 = .ok () w5 := by
      rw [hw5]
      simp [Instr.storeAt, Instr.sureAddr, storeVar, h3, hsz0, h1]
    simp [execOp, k41, e1, e2, hrun]
  unfold Oper.wp
  rw [hst, Oper.upon_skip, d41]
  unfold wpList
  show Code.wp _ _ _ _ _
  have hput0 : a5.put none undef = a5 := rfl
  rw [hput0]
  have h5new : w5.heap[bv]? = some (.cells #[.func (.func 76) #[] us] 82 (0, 0)) := by rw [hw5]; exact setRow_heap w4 bv _ _ _ _ h4new
  have h5old : ∀ b, b < w3.heap.size → w5.heap[b]? = w3.heap[b]? := fun b hb => by rw [hw5, setRow_other _ _ _ _ (by omega)]; exact h4old b hb
  have h5size : w3.heap.size ≤ w5.heap.size := by
    rw [hw5, setRow_size, hw4]
    show w3.heap.size ≤ (w3.heap.push _).size
    rw [Array.size_push]; omega
  have h5w : w5.os = w3.os ∧ w5.tape = w3.tape ∧ w5.output = w3.output := by rw [hw5, hw4]; exact ⟨rfl, rfl, rfl⟩
  -- the call
  refine wp_seq (wp_region_list ?_)
  rw [e50]
  unfold wpList
  rw [if_pos (by simp [Region.wanted, g50])]
  left
  have e5 : a5.eval (.tmp 5) = .pointer (some ⟨bv, 0, none⟩) := by
    have h1 := v5 5
    have h2 := v4 5
    simp only [show ¬ (5 : Nat) = 9 by decide, if_false, if_true] at h1 h2
    rw [h2] at h1; exact h1
  have hcell : w5.cell? ⟨bv, 0, none⟩ = some (.func (.func 76) #[] us) := by simp [World.cell?, h5new]
  have hagg : (isAgg 82).run Try.prog w5 = .ok false w5 := by kernel_rfl
  unfold Oper.wp
  rw [show (execOp a5.eval w50).run Try.prog w5 = .ok (.value (.func (.func 76) #[] us)) w5 by
    simp [execOp, k50, e5, Instr.loadAt, Instr.sureAddr, loadVar, hagg, hcell], Oper.upon_value, d50]
  obtain ⟨s6, f6, v6⟩ := hput a5 10 (.func (.func 76) #[] us) s5 (by omega)
  generalize a5.put (some 10) (.func (.func 76) #[] us) = a6 at s6 f6 v6
  unfold wpList
  rw [if_pos (by simp [Region.wanted, g51])]
  left
  have e10 : a6.eval (.tmp 10) = .func (.func 76) #[] us := by
    have h1 := v6 10
    simp only [if_true] at h1
    exact h1
  unfold Oper.wp
  rw [exec_call (fn := 76) (us := us) visit_ok k51 c51 e10, Oper.upon_enter, a51]
  have hav : ∀ s, s ≠ 5 → Vals a4 s = Vals a s := fun s hs => by rw [v4, if_neg hs]
  have hargs : (#[Operand.const (.int .i64 0)].map a6.eval ++ us) = #[.int .i64 0, Vals a 4, Vals a 1, .pointer (some ⟨bv, 0, none⟩), Vals a 3] := by
    rw [hus, hav 4 (by decide), hav 1 (by decide), hav 3 (by decide), v4 5, if_pos rfl]
    simp [Act.eval]
  rw [hargs]
  have hus2 : us = (#[.int .i64 0, Vals a 4, Vals a 1, .pointer (some ⟨bv, 0, none⟩), Vals a 3] : Array Value).extract 1 5 := by
    rw [hus, hav 4 (by decide), hav 1 (by decide), hav 3 (by decide), v4 5, if_pos rfl]
    rfl
  have gt4 : (walk_st3 next).get 4 = .box 1000012 1000014 (.sl .bool) (.own false (.bor false false)) (List.replicate (next.length : Int).toNat false) := rfl
  have gt3 : (walk_st3 next).get 3 = .box 1000004 1000005 (.sl (.int .i64)) (.own true (.bor false true)) [] := rfl
  have gt1 : (walk_st3 next).get 1 = .box 1000000 1000001 (.sl (.sl (.int .i64))) (.bor true false) next := rfl
  have hcalls := self_start (val := Vals a) (av := (walk_st3 next).get) hI3 hfar (visit_holds nf) hvis (args := #[.int .i64 0, Vals a 4, Vals a 1, .pointer (some ⟨bv, 0, none⟩), Vals a 3]) (bv := bv) (w5 := w5) (c := #[.func (.func 76) #[] us]) (el := 82) (σ := wsig) (τ := wtau)
    (by omega) h5old h5size h5w h5new (by rw [← hus2]; rfl) rfl rfl rfl (fun i hi => by
      have : i = 0 := by omega
      subst this; rfl) (by decide)
    (fun s hs => by
      have hs : s ∈ [1, 4] := hs
      simp only [List.mem_cons, List.not_mem_nil, or_false] at hs
      rcases hs with rfl | rfl <;> rfl)
    (fun u s h => by
      unfold wtau at h
      split at h
      · cases h; exact ⟨by show 1 ∈ [1, 4]; decide, rfl⟩
      · cases h; exact ⟨by show 4 ∈ [1, 4]; decide, rfl⟩
      · cases h)
    (fun s hs => by
      have hs : s ∈ [1, 4] := hs
      simp only [List.mem_cons, List.not_mem_nil, or_false] at hs
      rcases hs with rfl | rfl <;> decide)
    (fun s hs => by
      have hs : s ∈ [1, 4] ∨ s ∈ [2] := hs
      simp only [List.mem_cons, List.not_mem_nil, or_false] at hs
      omega)
    (fun s hs => by
      have hs : s ∈ [1, 4] := hs
      simp only [List.mem_cons, List.not_mem_nil, or_false] at hs
      rcases hs with rfl | rfl
      · exact ⟨_, _, _, _, _, gt4, by simp [visit_bxs], rfl, rfl⟩
      · exact ⟨_, _, _, _, _, gt3, by simp [visit_bxs], rfl, rfl⟩)
    (fun s => ⟨fun hs => by
      have hs : s ∈ [2] := hs
      simp only [List.mem_cons, List.not_mem_nil, or_false] at hs
      subst hs
      exact ⟨_, _, _, _, _, gt1, rfl, rfl, rfl⟩, fun hs => by
      have hs : s ∉ [2] := hs
      simp only [List.mem_cons, List.not_mem_nil, or_false] at hs
      show Ab.look [(2, _)] s = _
      rw [look_cons, if_neg hs]; rfl⟩)
    (by
      intro x hx
      simp only [visit_bxs, List.mem_cons, List.not_mem_nil, or_false] at hx
      rcases hx with rfl | rfl <;> rfl)
  refine Calls.mono hcalls ?_
  rintro e w6 ⟨rfl, gW, hIW⟩
  simp only
  rw [d51]
  obtain ⟨s7, f7, v7⟩ := hput a6 11 (.tuple #[]) s6 (by omega)
  generalize a6.put (some 11) (.tuple #[]) = a7 at s7 f7 v7
  unfold wpList
  show Code.wp _ _ _ _ _
  -- what comes back
  have hvv : ∀ s, s = 3 ∨ s = 4 → Vals a7 s = Vals a s := fun s hs => by
    rw [v7, if_neg (by omega), v6, if_neg (by omega), v5, if_neg (by omega), v4, if_neg (by omega)]
  have hlk : ∀ u, (u = 3 ∨ u = 4) ∨ Ab.look (boxT wsig visit_bxs (S', L', u1)) u = .dead := fun u => by
    by_cases h4 : u = 4
    · exact .inl (.inr h4)
    · by_cases h3 : u = 3
      · exact .inl (.inl h3)
      · right
        show Ab.look [(4, _), (3, _)] u = _
        rw [look_cons, if_neg h4, look_cons, if_neg h3]; rfl
  have hA7 : At w mu 13 ⟨fresh, boxT wsig visit_bxs (S', L', ())⟩ a7 w6 := by
    refine ⟨⟨gW, ⟨fun u => ?_, hIW.stamps, hIW.cols, hIW.fr, hIW.far, hIW.lk⟩⟩, s7, by rw [f7, f6, f5, f4, hdf], fun s v hs => (hpinN s v hs).elim⟩
    have h0 := hIW.slots u
    rcases hlk u with h | h
    · rw [hvv u h]
      rcases h with rfl | rfl <;> exact h0
    · show SlotR _ _ _ u (Ab.look (boxT wsig visit_bxs (S', L', u1)) u) _
      rw [h]; trivial
  have hfin : ∀ st a' w', fin tab [(.sl (.int .i64), .own false (.bor false false))] (resL none Try.f60) st = some (L', ()) → At w mu 13 st a' w' → a'.defers = [] ∧ ∃ v, (results Try.f60 a'.tmps).run Try.prog w' = .ok v w' ∧
      ∃ vs g', Ending.returned v = .returned (retV ((way_walk_C nf).outV vs)) ∧ Fr w mu w' ∧ ResR w' g' (way_walk_C nf).rs (L', ()) 0 vs ∧ (∀ p, (way_walk_C nf).io = some p → ∃ vs', vs = args.getD p undef :: vs') ∧ (∀ b k, g'.col b = some k → b < w'.heap.size ∧ (k = lentC ∨ w.heap.size ≤ b ∨ mu b)) ∧ (∀ b, mu.L b → g'.col b = some lentC) := by
    intro st a' w' h5 hA'
    obtain ⟨g', hI'⟩ := hA'.inv
    obtain ⟨y, g1, st1, vs, h6, hR, ht, hI1, _⟩ := retD_sound hE.tab hfar _ (resL none Try.f60) 0 st g' h5 hI'
    simp only [Option.some.injEq] at h6
    subst h6
    exact ⟨hA'.defers, _, results_run ht, vs, g1, rfl, hI1.fr, hR, fun _ h => (by cases h), hI1.cols, hI1.lk⟩
  refine code_sound hE hfar (N := 13) hN hp (draw_ok hE hfar hN hp) (fun id C _ _ _ _ _ _ hC => by cases hC) wk6 0 _ (fun _ _ => none) _ (L', ()) _ _ _ _ (by kernel_rfl) (codeS_none (fun _ => rfl) _) (walk_post S' L') hA7 ?_ (fun _ _ _ _ h => by cases h) ?_
  · intro st a' w' h5 hA'; exact hfin st a' w' h5 hA'
  · intro st a' w' h5 hA'; exact hfin st a' w' h5 hA'
end
end Go.Proofs.Ytccbcbhiblohgaa.S
