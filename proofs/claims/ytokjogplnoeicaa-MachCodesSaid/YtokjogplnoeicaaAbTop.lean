/- The arguments of a law, read as data; a law's statement out of its contract. -/
import Derived.Test.YtokjogplnoeicaaAbFn
import Derived.ProofKit
import Derived.WideKeyArgs
import Derived.Deep.Slices
import Derived.OpenShut
namespace Go.Ab
open Go.ChangeShapes Go.WideShapes Go.RowKit Go.Deep

section
variable {H : Type} {enc : TypeId × Value → H} {P : Program} {w : World} {base : Nat} {held : Bool}

/-- numbers in their range, lengths that a machine has -/
def wfD : (t : Ty) → den t → Prop
 | .int k, (x : Int) => k.min ≤ x ∧ x ≤ k.max
 | .bool, _ => True
 | .sl e, x => List.length x ≤ maxLen ∧ ∀ i, i < List.length x → wfD e (List.getD x i (dflt e))
 | .pair a b, x => wfD a x.1 ∧ wfD b x.2
 | .unit, _ => True
 | .mp _ _, _ => False
 | .bx _, _ => False

/-- types of a law's arguments -/
def argT : Ty → Bool
 | .sl e => argT e
 | .pair a b => argT a && argT b
 | .mp _ _ | .bx _ => false
 | _ => true

/-- all that came in is lent -/
def colT (w : World) (b : Nat) : Option (Nat × List Stp) := if b < w.heap.size then some lentC else none

theorem TM_cells {ty : Ty} {t : TypeId} (h : TM P ty t) : P.cellsOf t = sz ty := by
 obtain ⟨i, h1, h2, _⟩ := TM_info h
 simp [Program.cellsOf, h1, h2]

theorem exists_list {α : Type} {Q : Nat → α → Prop} (d : α) : ∀ (n : Nat), (∀ i, i < n → ∃ y, Q i y) → ∃ ys : List α, ys.length = n ∧ ∀ i, i < n → Q i (ys.getD i d)
 | 0, _ => ⟨[], rfl, fun i hi => absurd hi (Nat.not_lt_zero i)⟩
 | n + 1, h => by
  obtain ⟨ys, h1, h2⟩ := exists_list d n fun i hi => h i (by omega)
  obtain ⟨y, hy⟩ := h n (by omega)
  refine ⟨ys ++ [y], by simp [h1], fun i hi => ?_⟩
  rw [getD_app]
  by_cases hin : i < n
  ·rw [if_pos (by omega)]; exact h2 i hin
  ·have : i = n := by omega
   subst this
   rw [if_neg (by omega), h1, Nat.sub_self]; exact hy

theorem trod_RO : ∀ (ty : Ty), argT ty = true → (∀ (t : TypeId) (fuel : Nat) (cs : List Value) (x : DataW H × List MemPlace), TM P ty t → DataW.trod enc P w base (fun _ => true) held fuel t cs = some x → cs.length = sz ty ∧ ∃ y : den ty, RO w (colT w) true ty (fun j => cs[j]?) 0 y ∧ wfD ty y) ∧
  (∀ (fld : Nat → Option TypeId) (k : Nat) (cs : List Value), (TM2 P ty).2 fld k → (∀ j tf, k ≤ j → j < k + sz ty → fld j = some tf → ∃ v n x, cs[j]? = some v ∧ DataW.trod enc P w base (fun _ => true) held n tf [v] = some x) → ∃ y : den ty, RO w (colT w) true ty (fun j => cs[j]?) k y ∧ wfD ty y) := by
 intro ty
 induction ty with
 | int kd =>
  intro _
  refine ⟨fun t fuel cs x hT h => ?_, fun fld k cs hT => hT.elim⟩
  obtain ⟨n, rfl, _, hwf⟩ := DataW.trod_int hT.1 h
  refine ⟨rfl, n, rfl, ?_⟩
  simp only [Lit.wf, Bool.and_eq_true, decide_eq_true_eq] at hwf
  exact hwf
 | bool =>
  intro _
  refine ⟨fun t fuel cs x hT h => ?_, fun fld k cs hT => hT.elim⟩
  obtain ⟨b, rfl, _⟩ := DataW.trod_bool hT.1 h
  exact ⟨rfl, b, rfl, trivial⟩
 | unit => intro _; exact ⟨fun t fuel cs x hT => hT.elim, fun fld k cs _ _ => ⟨(), trivial, trivial⟩⟩
 | mp => intro ha; cases ha
 | bx => intro ha; cases ha
 | sl e ih =>
  intro ha
  have ih := ih ha
  refine ⟨fun t fuel cs x hT h => ?_, fun fld k cs hT => hT.elim⟩
  obtain ⟨te, h1, h2, _⟩ := hT
  rcases open_slice h1 h with ⟨rfl, _⟩ | ⟨a, len, cap, m, n, D, Pl, rfl, hb, hl, hm, hmm, _, hel⟩
  ·exact ⟨rfl, [], ⟨none, 0, rfl, Nat.le_refl _, rfl, rfl⟩, by simp [wfD]⟩
  ·simp only [if_true] at hmm
   subst hmm
   have hce := TM_cells h2
   obtain ⟨ys, hy1, hy2⟩ := exists_list (Q := fun i (y : den e) => RO w (colT w) true e (fun j => w.cell? (a.add (i * sz e + j))) 0 y ∧ wfD e y) (dflt e) len fun i hi => by
    obtain ⟨cs', hc, ht⟩ := hel i (by omega)
    obtain ⟨hlen, y, hy, hw⟩ := ih.1 te n cs' _ h2 ht
    obtain ⟨_, hc2, hc3⟩ := World.cells?_some hc
    refine ⟨y, RO_shift e _ _ 0 0 y hy fun j hj => ?_, hw⟩
    rw [Nat.zero_add]
    have := hc3 j (by rw [hce]; exact hj)
    rw [← this, hce, add_add]
   refine ⟨rfl, ys, ⟨some a, m, by simp [hy1], by rw [hy1]; exact hl, ?_⟩, by rw [hy1]; exact Nat.le_trans hl hm, fun i hi => (hy2 i (by rw [← hy1]; exact hi)).2⟩
   by_cases hc0 : m = 0
   ·exact .inl hc0
   ·-- the first cell is there
    have hsz : 0 < sz e := by
     rcases Nat.eq_zero_or_pos (sz e) with h0 | h0
     ·exfalso
      cases e with
      | unit => exact h2.elim
      | pair a b => simp [sz] at h0
      | _ => simp [sz] at h0
     ·exact h0
    obtain ⟨cs', hc, _⟩ := hel 0 (by omega)
    obtain ⟨_, hc2, hc3⟩ := World.cells?_some hc
    have hcell := hc3 0 (by rw [hce]; exact hsz)
    obtain ⟨v, hv⟩ : ∃ v, cs'[0]? = some v := ⟨cs'[0]'(by rw [hc2, hce]; exact hsz), by simp⟩
    rw [hv, Nat.zero_mul] at hcell
    obtain ⟨blk, off, sp⟩ := a
    have hsp : sp = none := by
     have := World.cell?_spot hcell
     simpa [Addr.add] using this
    subst hsp
    rw [addr_add, addr_add] at hcell
    have hblk := cell_block hcell
    refine .inr ⟨rfl, hblk, .inr ⟨rfl, by simp only [colT]; rw [if_pos hblk]⟩, fun i hi => ?_⟩
    have := (hy2 i (by rw [← hy1]; exact hi)).1
    exact RO_shift e _ _ 0 0 _ this fun j hj => by rw [Nat.zero_add, addr_add, Nat.add_assoc]
 | pair ta tb iha ihb =>
  intro ha
  simp only [argT, Bool.and_eq_true] at ha
  have iha := iha ha.1
  have ihb := ihb ha.2
  have hfields : ∀ (fld : Nat → Option TypeId) (k : Nat) (cs : List Value), (TM2 P (.pair ta tb)).2 fld k → (∀ j tf, k ≤ j → j < k + sz (.pair ta tb) → fld j = some tf → ∃ v n x, cs[j]? = some v ∧ DataW.trod enc P w base (fun _ => true) held n tf [v] = some x) →
    ∃ y : den (.pair ta tb), RO w (colT w) true (.pair ta tb) (fun j => cs[j]?) k y ∧ wfD (.pair ta tb) y := by
   intro fld k cs hT hf
   obtain ⟨hc, hcb, t1, h1, h2, h3⟩ := hT
   have hsp : sz (.pair ta tb) = 1 + sz tb := rfl
   obtain ⟨v, n, x, hv, ht⟩ := hf k t1 (Nat.le_refl _) (by omega) h1
   obtain ⟨_, y1, hy1, hw1⟩ := iha.1 t1 n [v] x h2 ht
   obtain ⟨y2, hy2, hw2⟩ := ihb.2 fld (k + 1) cs h3 fun j tf hj1 hj2 => hf j tf (by omega) (by omega)
   refine ⟨(y1, y2), ⟨hc, hcb, RO_shift ta _ _ 0 k y1 hy1 fun j hj => ?_, hy2⟩, hw1, hw2⟩
   rw [sz_cell hc] at hj
   have : j = 0 := by omega
   subst this
   rw [Nat.add_zero, hv]; rfl
  refine ⟨fun t fuel cs x hT h => ?_, hfields⟩
  have hT0 := hT
  obtain ⟨fld, i, zs, hF, hc, hcb, ⟨t1, hf1, hf2, hf3⟩, _⟩ := hT
  have hcells := TM_cells hT0
  have key : ∀ {n : Nat} {xs : List (DataW H × List MemPlace)}, cs.length = sz (.pair ta tb) → (∀ j tf, j < sz (.pair ta tb) → fld j = some tf → ∃ y, DataW.trod enc P w base (fun _ => true) held n tf ((cs.drop j).take 1) = some y) → cs.length = sz (.pair ta tb) ∧ ∃ y : den (.pair ta tb), RO w (colT w) true (.pair ta tb) (fun j => cs[j]?) 0 y ∧ wfD (.pair ta tb) y := by
   intro n xs hlen hj
   refine ⟨hlen, hfields fld 0 cs ⟨hc, hcb, t1, hf1, hf2, hf3⟩ fun j tf _ h2 h3 => ?_⟩
   have hjl : j < cs.length := by rw [hlen]; omega
   obtain ⟨y, hy⟩ := hj j tf (by omega) h3
   refine ⟨cs[j], n, y, by simp, ?_⟩
   rw [List.drop_eq_getElem_cons hjl] at hy
   exact hy
  have hcell1 : ∀ j tf, j < sz (.pair ta tb) → fld j = some tf → P.cellsOf tf = 1 := by
   intro j tf hj hfj
   obtain ⟨tf', ty', h4, h5, h6⟩ := TM2_fld (P := P) (.pair ta tb) fld 0 ⟨hc, hcb, t1, hf1, hf2, hf3⟩ j (Nat.zero_le _) (by omega)
   rw [hfj] at h4
   obtain rfl := Option.some.inj h4
   rw [TM_cells h6, sz_cell h5]
  rcases hF with ⟨fs, h1, h2, h3⟩ | ⟨_, te, h1, _, h3⟩
  ·obtain ⟨xs, n, _, _, hlen, hxl, hf⟩ := DataW.trod_struct h1 h
   refine key (n := n) (xs := xs) (by rw [hlen, hcells]) fun j tf hj hfj => ?_
   obtain ⟨f, h4, h5, h6⟩ := h3 j (by simpa [sz] using hj)
   rw [hfj] at h6
   obtain rfl := Option.some.inj h6
   have h7 := hf j f h4
   rw [h5, hcell1 j _ hj hfj] at h7
   have hjx : j < xs.length := by rw [hxl, h2]; simpa [sz] using hj
   exact ⟨xs[j], by rw [h7]; simp⟩
  ·obtain ⟨xs, n, _, _, hlen, hxl, hf⟩ := DataW.trod_array h1 h
   refine key (n := n) (xs := xs) (by rw [hlen, hcells]) fun j tf hj hfj => ?_
   have h6 := h3 j (by simpa [sz] using hj)
   rw [hfj] at h6
   obtain rfl := Option.some.inj h6
   have h7 := hf j (by simpa [sz] using hj)
   rw [hcell1 j _ hj hfj, Nat.mul_one] at h7
   have hjx : j < xs.length := by rw [hxl]; simpa [sz] using hj
   exact ⟨xs[j], by rw [h7]; simp⟩

/-- an argument's outer form -/
theorem shape_arg {ty : Ty} {t : TypeId} (ha : argT ty = true) (hT : TM P ty t) {r : Reach} {b0 : Nat} {v : Value} (hv : Value.okWide P w r b0 t v) {d : DataW H} {p : List MemPlace} (h : DataW.Trod enc P w base (fun _ => true) held t v d p) : shapeV ty v := by
 cases ty with
 | int k => obtain ⟨n, rfl⟩ := okWide_int hT.1 hv; rfl
 | bool => obtain ⟨b, rfl⟩ := okWide_bool hT.1 hv; rfl
 | sl e => obtain ⟨te, h1, _⟩ := hT; obtain ⟨a, len, cap, rfl⟩ := okWide_slice h1 hv; rfl
 | pair a b =>
  have hT0 := hT
  obtain ⟨fld, i, zs, hF, _⟩ := hT
  rcases hF with ⟨fs, h1, _⟩ | ⟨_, te, h1, _⟩
  ·obtain ⟨cs, rfl, h2⟩ := okWide_struct h1 hv
   exact ⟨cs, rfl, by rw [h2, TM_cells hT0]⟩
  ·simp only [Value.okWide, h1] at hv
   obtain ⟨cs, rfl, h2, _⟩ := hv
   exact ⟨cs, rfl, by rw [h2, TM_cells hT0]⟩
 | unit => exact hT.elim
 | mp => cases ha
 | bx => cases ha

/-- parameters of a law -/
def lawPs : List Ty → List PT
 | [] => []
 | t :: r => .val t (.bor false false) :: lawPs r
def wfPs : (ts : List Ty) → denPs (lawPs ts) → Prop
 | [], _ => True
 | t :: r, x => wfD t x.1 ∧ wfPs r x.2
def TMs (P : Program) : List Ty → List TypeId → Prop
 | [], [] => True
 | ty :: r, t :: l => (TM P ty t ∧ argT ty = true) ∧ P.readableRec t = true ∧ t < P.types.size ∧ TMs P r l
 | _, _ => False
theorem lawPs_length : ∀ ts, (lawPs ts).length = ts.length
 | [] => rfl
 | _ :: r => by simp [lawPs, lawPs_length r]

def ghT (_ : World) : Gh := { col := fun _ => none, H := fun _ _ => undef, A := fun _ _ => (0, 0) }
def muT (_ : World) : Mu := { h := fun _ => False, L := fun _ => False, far := fun s => lentC.1 ≤ s, hfar := Nat.le_refl _, pin := fun _ => none }

theorem RO_convF {l : Bool} {col : Nat → Option (Nat × List Stp)} : ∀ (t : Ty) (rd : Nat → Option Value) (k : Nat) (x : den t), RO w col l t rd k x → RO w (fun _ => none) false t rd k x := by
 intro t
 induction t with
 | int kd => intro rd k x h; exact h
 | bool => intro rd k x h; exact h
 | unit => intros; trivial
 | pair a b iha ihb => intro rd k x h; simp only [RO] at *; exact ⟨h.1, h.2.1, iha _ _ _ h.2.2.1, ihb _ _ _ h.2.2.2⟩
 | sl e ih =>
  intro rd k x h
  simp only [RO] at *
  obtain ⟨a, cap, h1, h2, h3⟩ := h
  refine ⟨a, cap, h1, h2, ?_⟩
  cases a with
  | none => exact h3
  | some ad =>
   rcases h3 with h3 | ⟨h4, h5, _, h7⟩
   ·exact .inl h3
   ·exact .inr ⟨h4, h5, .inl rfl, fun i hi => ih _ _ _ (h7 i hi)⟩
 | mp k e _ _ =>
  intro rd k x h
  simp only [RO] at *
  obtain ⟨r, h1, h2⟩ := h
  refine ⟨r, h1, ?_⟩
  cases r with
  | none => exact h2
  | some b => exact ⟨h2.1, .inl rfl, h2.2.2⟩
 | bx e ih =>
  intro rd k x h
  simp only [RO] at *
  obtain ⟨r, h1, h2⟩ := h
  refine ⟨r, h1, ?_⟩
  match r, x, h2 with
  | none, none, _ => trivial
  | some ad, some y, h2 => exact ⟨h2.1, h2.2.1, .inl rfl, ih _ _ _ h2.2.2.2⟩

theorem law_params : ∀ (tys : List Ty) (ts : List TypeId) (vs : List Value) (ds : List (DataW H)) (ps : List MemPlace) (i : Nat), TMs P tys ts → DataW.TrodAll enc P w base (fun _ => true) held ts vs ds ps → (∀ (j : Nat) (t : TypeId) (v : Value), ts[j]? = some t → vs[j]? = some v → ∃ r b0, Value.okWide P w r b0 t v) →
  ∃ x : denPs (lawPs tys), ParL w (ghT w) (lawPs tys) x i vs ∧ wfPs tys x ∧ vs.length = tys.length
 | [], [], [], [], _, _, _, _, _ => ⟨(), rfl, trivial, rfl⟩
 | [], [], _ :: _, _, _, _, _, h, _ => h.elim
 | [], [], [], _ :: _, _, _, _, h, _ => h.elim
 | [], _ :: _, _, _, _, _, h, _, _ => h.elim
 | _ :: _, [], _, _, _, _, h, _, _ => h.elim
 | _ :: _, _ :: _, [], _, _, _, _, h, _ => h.elim
 | _ :: _, _ :: _, _ :: _, [], _, _, _, h, _ => h.elim
 | ty :: tys, t :: ts, v :: vs, d :: ds, ps, i, hT, h, hv => by
  obtain ⟨h1, _, _, h2⟩ := hT
  obtain ⟨p, q, h3, h4, _⟩ := h
  obtain ⟨xs, h5, h6, h7⟩ := law_params tys ts vs ds q (i + 1) h2 h4 fun j t v hj hv' => hv (j + 1) t v hj hv'
  obtain ⟨r, b0, hok⟩ := hv 0 t v rfl rfl
  have hshape := shape_arg h1.2 h1.1 hok h3
  obtain ⟨fuel, h8⟩ := h3
  obtain ⟨_, y, hy, hw⟩ := (trod_RO ty h1.2).1 t fuel _ _ h1.1 h8
  have hy := RO_convF ty _ _ _ hy
  refine ⟨(y, xs), ⟨v, vs, rfl, fun av => ⟨rfl, hshape, ?_⟩, h5⟩, ⟨hw, h6⟩, by simp [h7]⟩
  exact RO_RR (g := ghT w) (s := 0) ty [] _ v.cells 0 y hy fun j _ => by simp

theorem trodAll_stays (hl : laidOutB P = true) {W W' : World} {sp : Nat → Bool} : ∀ (tys : List Ty) (ts : List TypeId) (vs : List Value) (ds : List (DataW H)) (ps : List MemPlace), TMs P tys ts → DataW.TrodAll enc P W base (fun _ => true) true ts vs ds ps → (∀ p ∈ ps, W.sameAt W' p) → (∀ p ∈ ps, sp p.block = true) →
  DataW.TrodAll enc P W' base sp true ts vs ds ps
 | [], [], [], [], _, _, h, _, _ => h
 | [], [], _ :: _, _, _, _, h, _, _ => h.elim
 | [], [], [], _ :: _, _, _, h, _, _ => h.elim
 | [], _ :: _, _, _, _, h, _, _, _ => h.elim
 | _ :: _, [], _, _, _, h, _, _, _ => h.elim
 | _ :: _, _ :: _, [], _, _, _, h, _, _ => h.elim
 | _ :: _, _ :: _, _ :: _, [], _, _, h, _, _ => h.elim
 | ty :: tys, t :: ts, v :: vs, d :: ds, ps, hT, h, hs, hsp => by
  obtain ⟨_, hr, hrow, h2⟩ := hT
  obtain ⟨p, q, h3, h4, rfl⟩ := h
  exact ⟨p, q, WideElems.Trod_stays hl hr hrow h3 (fun x hx => hs x (List.mem_append_left _ hx)) (fun x hx => hsp x (List.mem_append_left _ hx)),
   trodAll_stays hl tys ts vs ds q h2 h4 (fun x hx => hs x (List.mem_append_right _ hx)) (fun x hx => hsp x (List.mem_append_right _ hx)), rfl⟩

/-- what a law answers -/
def lawRs : List (Ty × Md) := [(.bool, .bor false true)]

theorem law_calls {tys : List Ty} {ts : List TypeId} (hT : TMs P tys ts) (hlen : tys.length ≤ 1000) {args : Array Value} {ds : List (DataW H)} {ps : List MemPlace} (hA : DataW.TrodAll enc P w base (fun _ => true) held ts args.toList ds ps)
  (hv : ∀ (j : Nat) (t : TypeId) (v : Value), ts[j]? = some t → args[j]? = some v → ∃ r b0, Value.okWide P w r b0 t v) {f : FuncId} {F : Nat → denPs (lawPs tys) → Option (denL lawRs)} (hH : ∀ n, Contract.Holds P f ⟨lawPs tys, lawRs, F n, []⟩) (hlaw : ∀ x, wfPs tys x → ∃ n, F n x = some (true, ())) :
  Calls P f args w fun e w' => e = .returned (.bool true) ∧ Below w.heap.size w w' := by
 obtain ⟨x, h1, h2, h3⟩ := law_params tys ts args.toList ds ps 0 hT hA (fun j t v hj hv' => hv j t v hj (by simpa using hv'))
 obtain ⟨n, hn⟩ := hlaw x h2
 have hinit := init_inv (mu' := muT w) (w := w) (g := ghT w) (fun s => Iff.rfl) h1 (by rw [lawPs_length]; exact hlen) (fun b k hb => by cases hb) (fun b hb => hb.elim)
 rw [Array.toArray_toList] at hinit
 refine Calls.mono (hH n x (true, ()) hn args w (muT w) (ghT w) (by simpa [lawPs_length] using h3) (fun s => Iff.rfl) (fun _ h => absurd rfl h) (fun _ h => by cases h) hinit) ?_
 rintro e w' ⟨vs, g', rfl, hFr, hR, _, _, _⟩
 obtain ⟨v, vs', rfl, h4, h5, h6⟩ := hR
 obtain rfl : vs' = [] := h6
 rw [shape_cell rfl h4] at h5
 have hvt : v = .bool true := by simpa [RR, rdS] using h5
 exact ⟨by simp [retV, Contract.outV, hvt], hFr.os, hFr.tape, hFr.output, hFr.size, fun k hk => hFr.old k hk (fun h => h)⟩

theorem post_below {f : Func} {s : ChangeSpec} {apart fresh handsOn again : Bool} {W W' : World} {args : Array Value} {v : Value} {ds gs : List (DataW H)} {before pa pv : List MemPlace}
  (hW : DataW.Whole enc P f.params.toList s.vars apart W args.toList ds gs before)
  (hres : ∀ (b : Nat) (sp : Nat → Bool) (hd : Bool), DataW.TrodAll enc P W' b sp hd f.resultTypes.toList (v.resultList f.resultTypes.size) (s.fn H (ds ++ gs)).results [])
  (hargs : ∀ sp : Nat → Bool, (∀ p ∈ before, sp p.block = true) → DataW.TrodAll enc P W' 0 sp true f.params.toList args.toList (s.fn H (ds ++ gs)).args pa)
  (hvars : ∀ sp : Nat → Bool, (∀ p ∈ before, sp p.block = true) → DataW.TrodVars enc P W' sp s.vars (s.fn H (ds ++ gs)).vars pv)
  (hps : before = pa ++ pv) (hb : Below W.heap.size W W')
  (hok : ∀ (j : Nat) (t : TypeId) (r : Value), f.resultTypes[j]? = some t → (v.resultList f.resultTypes.size)[j]? = some r → Value.okWide P W' .any 0 t r) :
  s.post enc P f apart fresh handsOn again W args v W' := by
 have hlt : ∀ p ∈ before, p.block < W.heap.size := fun p hp => hW.lt p hp
 have hold : ∀ p ∈ before, (fun b => decide (b < W.heap.size)) p.block = true := fun p hp => by simpa using hlt p hp
 refine ⟨ds, gs, before, [], pa, pv, hW, hres _ _ _, hargs _ hold, hvars _ hold, World.keptBut_mono (fun p hp => ⟨hp, ?_⟩) (hb.frame (· ∈ before)), fun _ => ?_⟩
 ·rw [hps, List.mem_append] at hp
  exact Or.inr hp
 ·obtain ⟨_, _, _, _, _, hz, hn⟩ := hW
  refine ⟨hok, _, _, ([] ++ pa) ++ pv, ⟨[] ++ pa, pv, trodAll_append (hargs _ (fun _ _ => rfl)) (hres _ _ _), hvars _ (fun _ _ => rfl), rfl, ?_, ?_⟩, ?_⟩
  ·intro b off hp
   have hin : MemPlace.cell b off ∈ before := by rw [hps]; simpa using hp
   rw [hb.frozen (hlt _ hin)]
   exact hz b off hin
  ·intro ha
   have := hn ha
   rw [hps] at this
   simpa using this
  ·intro p hp _
   rw [hps]
   simpa using hp
end
end Go.Ab
