/- A law's row out of its contract: whatever the arguments, the answer is true and the arguments read as before. -/
import Derived.Test.YtokjogplnoeicaaAbTop
import Derived.Test.YtokjogplnoeicaaAbCheck
import Derived.SizedLaws
namespace Go.Ab
open Go.ChangeShapes Go.WideShapes Go.RowKit Go.Deep

section
variable {H : Type} {enc : TypeId × Value → H} {P : Program}

theorem trodAll_len {w : World} {base : Nat} {sp : Nat → Bool} {held : Bool} : ∀ (ts : List TypeId) (vs : List Value) (ds : List (DataW H)) (ps : List MemPlace), DataW.TrodAll enc P w base sp held ts vs ds ps → ds.length = ts.length
 | [], [], [], _, _ => rfl
 | [], _ :: _, _, _, h => h.elim
 | [], [], _ :: _, _, h => h.elim
 | _ :: _, [], _, _, h => h.elim
 | _ :: _, _ :: _, [], _, h => h.elim
 | _ :: ts, _ :: vs, _ :: ds, _, h => by
  obtain ⟨p, q, _, h2, _⟩ := h
  simp [trodAll_len ts vs ds q h2]

theorem TMs_len : ∀ (tys : List Ty) (ts : List TypeId), TMs P tys ts → ts.length = tys.length
 | [], [], _ => rfl
 | [], _ :: _, h => h.elim
 | _ :: _, [], h => h.elim
 | _ :: r, _ :: l, h => by simp [TMs_len r l h.2.2.2]

/-- the parameters' types, looked up in the table -/
def tmsB (P : Program) (T : Tab) : List Ty → List TypeId → Bool
 | [], [] => true
 | ty :: r, t :: l => decide (T.ty t = some ty) && argT ty && P.readableRec t && decide (t < P.types.size) && tmsB P T r l
 | _, _ => false
theorem tms_ok {T : Tab} (hT : TabOK P T) : ∀ (tys : List Ty) (ts : List TypeId), tmsB P T tys ts = true → TMs P tys ts
 | [], [], _ => trivial
 | [], _ :: _, h => by cases h
 | _ :: _, [], h => by cases h
 | ty :: r, t :: l, h => by
  simp only [tmsB, Bool.and_eq_true, decide_eq_true_eq] at h
  exact ⟨⟨((hT t).1 ty h.1.1.1.1).1, h.1.1.1.2⟩, h.1.1.2, h.1.2, tms_ok hT r l h.2⟩

theorem law_post {f : Func} {n : FuncId} {s : ChangeSpec} {apart fresh handsOn again : Bool} {tys : List Ty} {ts : List TypeId} {tb : TypeId}
  (hl : laidOutB P = true) (hp : f.params.toList = ts) (hT : TMs P tys ts) (hlen : tys.length ≤ 1000) (hrt : f.resultTypes = #[tb]) (hb : P.underlying tb = some .bool) (hvars : s.vars = [])
  (hfn : ∀ ds : List (DataW H), ds.length = tys.length → s.fn H ds = { results := [.lit (.bool true)], args := ds })
  {F : Nat → denPs (lawPs tys) → Option (denL lawRs)} (hH : ∀ k, Contract.Holds P n ⟨lawPs tys, lawRs, F k, []⟩) (hlaw : ∀ x, wfPs tys x → ∃ k, F k x = some (true, ()))
  {W : World} {base : Nat} {args : Array Value} {ds gs : List (DataW H)} {before : List MemPlace}
  (hval : ∀ (j : Nat) t v, f.params[j]? = some t → args[j]? = some v → Value.okWide P W .any base t v)
  (hW : DataW.Whole enc P f.params.toList s.vars apart W args.toList ds gs before) :
  Calls P n args W fun e W' => ∃ v, e = .returned v ∧ s.post enc P f apart fresh handsOn again W args v W' := by
 have hW' := hW
 obtain ⟨p, q, hA, hV, rfl, hfz, hnd⟩ := hW
 have hWt := hW'.lt
 rw [hvars] at hV
 obtain ⟨rfl, rfl⟩ := trodVars_none hV
 rw [hp] at hA
 have hdl : ds.length = tys.length := by rw [trodAll_len ts _ ds p hA, TMs_len tys ts hT]
 have hs : s.fn H (ds ++ []) = { results := [.lit (.bool true)], args := ds } := by rw [List.append_nil]; exact hfn ds hdl
 refine (law_calls hT hlen hA (fun j t v h1 h2 => ⟨_, _, hval j t v (by rw [← Array.getElem?_toList, hp]; exact h1) h2⟩) hH hlaw).mono fun e W' ⟨he, hbel⟩ => ⟨_, he, ?_⟩
 refine post_below (pa := p) (pv := []) hW' (fun b sp hd => ?_) (fun sp hsp => ?_) (fun sp _ => ?_) rfl hbel (ok_one hrt rfl (okWide_bool_mk hb true))
 ·rw [hs, hrt]; exact trodAll_mk1 (shut_bool hb true)
 ·rw [hs, hp]
  exact trodAll_stays hl tys ts _ ds p hT hA (fun x hx => hbel.same (hWt x (by simpa using hx))) (fun x hx => hsp x (by simpa using hx))
 ·rw [hs, hvars]; exact rfl
end
end Go.Ab

/-! A law's arguments are no longer than memory reaches. -/
namespace Go.Ab
open Go.ChangeShapes Go.WideShapes Go.RowKit Go.Deep

section
variable {H : Type} {enc : TypeId × Value → H} {P : Program} {w : World} {base : Nat} {held : Bool}

def szD : (t : Ty) → den t → Prop
 | .sl e, x => List.length x ≤ reachBytes ∧ ∀ i, i < List.length x → szD e (List.getD x i (dflt e))
 | .pair a b, x => szD a x.1 ∧ szD b x.2
 | _, _ => True
def szPs : (ts : List Ty) → denPs (lawPs ts) → Prop
 | [], _ => True
 | t :: r, x => szD t x.1 ∧ szPs r x.2

/-- what takes cells takes bytes -/
def byB (P : Program) : Bool := (List.range P.types.size).all fun t => match P.underlying t with
 | some (.slice e) => Nat.blt e P.types.size && (Nat.beq (P.cellsOf e) 0 || Nat.ble 1 (P.bytesOf e))
 | some (.struct fs) => fs.toList.all fun f => Nat.blt f.type P.types.size
 | some (.array _ e) => Nat.blt e P.types.size
 | _ => true
theorem by_sl (h : byB P = true) {t e : TypeId} (ht : t < P.types.size) (hu : P.underlying t = some (.slice e)) : e < P.types.size ∧ (0 < P.cellsOf e → 1 ≤ P.bytesOf e) := by
 have := List.all_eq_true.1 h t (by simpa using ht)
 simp only [hu, Bool.and_eq_true, Bool.or_eq_true, Nat.blt_eq] at this
 refine ⟨this.1, fun hc => ?_⟩
 rcases this.2 with h1 | h1
 ·have := Nat.eq_of_beq_eq_true h1; omega
 ·exact Nat.le_of_ble_eq_true h1
theorem by_st (h : byB P = true) {t : TypeId} {fs : Array Field} (ht : t < P.types.size) (hu : P.underlying t = some (.struct fs)) {j : Nat} {f : Field} (hf : fs[j]? = some f) : f.type < P.types.size := by
 have := List.all_eq_true.1 h t (by simpa using ht)
 simp only [hu] at this
 have := List.all_eq_true.1 this f (by rw [Array.mem_toList_iff]; exact Array.mem_of_getElem? hf)
 simpa [Nat.blt_eq] using this
theorem by_ar (h : byB P = true) {t e : TypeId} {n : Nat} (ht : t < P.types.size) (hu : P.underlying t = some (.array n e)) : e < P.types.size := by
 have := List.all_eq_true.1 h t (by simpa using ht)
 simpa [hu, Nat.blt_eq] using this

theorem mem_weightsAll {e : TypeId} : ∀ {l : List (DataW H)} {d : DataW H}, d ∈ l → ∀ n ∈ d.weights P e, n ∈ DataW.weightsAll P e l
 | d0 :: l, d, hd, n, hn => by
  simp only [DataW.weightsAll, List.mem_append]
  rcases List.mem_cons.1 hd with rfl | hd
  ·exact .inl hn
  ·exact .inr (mem_weightsAll hd n hn)

theorem trod_sz (hby : byB P = true) : ∀ (ty : Ty), argT ty = true → (∀ (t : TypeId) (fuel : Nat) (cs : List Value) (x : DataW H × List MemPlace) (y : den ty), t < P.types.size → TM P ty t → DataW.trod enc P w base (fun _ => true) held fuel t cs = some x →
   RO w (colT w) true ty (fun j => cs[j]?) 0 y → (∀ n ∈ x.1.weights P t, n ≤ reachBytes) → szD ty y) ∧
  (∀ (fld : Nat → Option TypeId) (k : Nat) (cs : List Value) (y : den ty), (TM2 P ty).2 fld k → (∀ j tf, k ≤ j → j < k + sz ty → fld j = some tf → ∃ v n x, cs[j]? = some v ∧ DataW.trod enc P w base (fun _ => true) held n tf [v] = some x ∧ tf < P.types.size ∧ ∀ m ∈ x.1.weights P tf, m ≤ reachBytes) →
   RO w (colT w) true ty (fun j => cs[j]?) k y → szD ty y) := by
 intro ty
 induction ty with
 | int kd => intro _; exact ⟨fun _ _ _ _ _ _ _ _ _ _ => trivial, fun _ _ _ _ _ _ _ => trivial⟩
 | bool => intro _; exact ⟨fun _ _ _ _ _ _ _ _ _ _ => trivial, fun _ _ _ _ _ _ _ => trivial⟩
 | unit => intro _; exact ⟨fun _ _ _ _ _ _ _ _ _ _ => trivial, fun _ _ _ _ _ _ _ => trivial⟩
 | mp => intro ha; cases ha
 | bx => intro ha; cases ha
 | sl e ih =>
  intro ha
  have ih := (ih ha).1
  refine ⟨fun t fuel cs x y hts hT h hy hw => ?_, fun fld k cs y hT => hT.elim⟩
  obtain ⟨te, h1, h2, _⟩ := hT
  have hce := TM_cells h2
  simp only [RO] at hy
  obtain ⟨a', cap', hy1, hy2, hy3⟩ := hy
  rcases open_slice h1 h with ⟨rfl, _⟩ | ⟨a, len, cap, m, n, D, Pl, rfl, hb, hl, hm, hmm, rfl, hel⟩
  ·simp only [List.getElem?_cons_zero, Option.some.injEq, Value.slice.injEq] at hy1
   have : y.length = 0 := by omega
   exact ⟨by omega, fun i hi => by omega⟩
  ·simp only [List.getElem?_cons_zero, Option.some.injEq, Value.slice.injEq] at hy1
   obtain ⟨rfl, hlen, rfl⟩ := hy1
   simp only [if_true] at hmm
   subst hmm
   have hsz : 0 < sz e := by
    rcases Nat.eq_zero_or_pos (sz e) with h0 | h0
    ·exfalso
     cases e with
     | unit => exact h2.elim
     | pair a b => simp [sz] at h0
     | _ => simp [sz] at h0
    ·exact h0
   obtain ⟨hte, hbt⟩ := by_sl hby hts h1
   have hbt := hbt (by rw [hce]; exact hsz)
   simp only [DataW.weights, h1, List.mem_cons, List.mem_append] at hw
   refine ⟨?_, fun i hi => ?_⟩
   ·have := hw _ (.inl rfl)
    simp only [List.length_map, List.length_range] at this
    have h3 : len * 1 ≤ (len + (m - len)) * P.bytesOf te := Nat.mul_le_mul (by omega) hbt
    omega
   ·have hil : i < len := by omega
    rcases hy3 with hy3 | ⟨h4, h5, _, h7⟩
    ·omega
    ·obtain ⟨cs', hc, ht⟩ := hel i (by omega)
     obtain ⟨_, hc2, hc3⟩ := World.cells?_some hc
     refine ih te n cs' _ _ hte h2 ht ?_ fun q hq => hw q (.inr (.inl (mem_weightsAll (List.mem_map_of_mem (List.mem_range.2 hil)) q hq)))
     refine RO_shift e _ _ 0 0 _ (h7 i hi) fun j hj => ?_
     rw [Nat.zero_add]
     have := hc3 j (by rw [hce]; exact hj)
     rw [← this, hce]
     obtain ⟨blk, off, sp⟩ := a
     simp only at h4
     subst h4
     rw [addr_add, addr_add, Nat.add_assoc]
 | pair ta tb iha ihb =>
  intro ha
  simp only [argT, Bool.and_eq_true] at ha
  have iha := iha ha.1
  have ihb := ihb ha.2
  have hfields : ∀ (fld : Nat → Option TypeId) (k : Nat) (cs : List Value) (y : den (.pair ta tb)), (TM2 P (.pair ta tb)).2 fld k → (∀ j tf, k ≤ j → j < k + sz (.pair ta tb) → fld j = some tf → ∃ v n x, cs[j]? = some v ∧ DataW.trod enc P w base (fun _ => true) held n tf [v] = some x ∧ tf < P.types.size ∧ ∀ m ∈ x.1.weights P tf, m ≤ reachBytes) →
    RO w (colT w) true (.pair ta tb) (fun j => cs[j]?) k y → szD (.pair ta tb) y := by
   intro fld k cs y hT hf hy
   obtain ⟨hc, hcb, t1, h1, h2, h3⟩ := hT
   have hsp : sz (.pair ta tb) = 1 + sz tb := rfl
   simp only [RO] at hy
   obtain ⟨_, _, hy1, hy2⟩ := hy
   obtain ⟨v, n, x, hv, ht, htf, hw⟩ := hf k t1 (Nat.le_refl _) (by omega) h1
   refine ⟨iha.1 t1 n [v] x y.1 htf h2 ht (RO_shift ta _ _ k 0 _ hy1 fun j hj => ?_) hw, ihb.2 fld (k + 1) cs y.2 h3 (fun j tf hj1 hj2 => hf j tf (by omega) (by omega)) hy2⟩
   rw [sz_cell hc] at hj
   have : j = 0 := by omega
   subst this
   show [v][0]? = cs[k]?
   rw [hv]; rfl
  refine ⟨fun t fuel cs x y hts hT h hy hw => ?_, hfields⟩
  have hT0 := hT
  obtain ⟨fld, i, zs, hF, hc, hcb, ⟨t1, hf1, hf2, hf3⟩, _⟩ := hT
  have hcells := TM_cells hT0
  have hcell1 : ∀ j tf, j < sz (.pair ta tb) → fld j = some tf → P.cellsOf tf = 1 := by
   intro j tf hj hfj
   obtain ⟨tf', ty', h4, h5, h6⟩ := TM2_fld (P := P) (.pair ta tb) fld 0 ⟨hc, hcb, t1, hf1, hf2, hf3⟩ j (Nat.zero_le _) (by omega)
   rw [hfj] at h4
   obtain rfl := Option.some.inj h4
   rw [TM_cells h6, sz_cell h5]
  have key : ∀ {n : Nat}, cs.length = sz (.pair ta tb) → (∀ j tf, j < sz (.pair ta tb) → fld j = some tf → ∃ y, DataW.trod enc P w base (fun _ => true) held n tf ((cs.drop j).take 1) = some y ∧ tf < P.types.size ∧ ∀ m ∈ y.1.weights P tf, m ≤ reachBytes) → szD (.pair ta tb) y := by
   intro n hlen hj
   refine hfields fld 0 cs y ⟨hc, hcb, t1, hf1, hf2, hf3⟩ (fun j tf _ h2 h3 => ?_) hy
   have hjl : j < cs.length := by rw [hlen]; omega
   obtain ⟨z, hz, hzw⟩ := hj j tf (by omega) h3
   refine ⟨cs[j], n, z, by simp, ?_, hzw⟩
   rw [List.drop_eq_getElem_cons hjl] at hz
   exact hz
  rcases hF with ⟨fs, h1, h2, h3⟩ | ⟨_, te, h1, _, h3⟩
  ·obtain ⟨xs, n, _, rfl, hlen, hxl, hf⟩ := DataW.trod_struct h1 h
   simp only [DataW.weights, h1] at hw
   refine key (n := n) (by rw [hlen, hcells]) fun j tf hj hfj => ?_
   obtain ⟨f, h4, h5, h6⟩ := h3 j (by simpa [sz] using hj)
   rw [hfj] at h6
   obtain rfl := Option.some.inj h6
   have h7 := hf j f h4
   rw [h5, hcell1 j _ hj hfj] at h7
   have hjx : j < xs.length := by rw [hxl, h2]; simpa [sz] using hj
   refine ⟨xs[j], by rw [h7]; simp, by_st hby hts h1 h4, fun m hm => hw m (DataW.weights_mem_each (j := j) (t := f.type) (d := xs[j].1) ?_ ?_ m hm)⟩
   ·rw [List.getElem?_map, Array.getElem?_toList, h4]; rfl
   ·rw [List.getElem?_map, List.getElem?_eq_getElem hjx]; rfl
  ·obtain ⟨xs, n, _, rfl, hlen, hxl, hf⟩ := DataW.trod_array h1 h
   simp only [DataW.weights, h1] at hw
   refine key (n := n) (by rw [hlen, hcells]) fun j tf hj hfj => ?_
   have h6 := h3 j (by simpa [sz] using hj)
   rw [hfj] at h6
   obtain rfl := Option.some.inj h6
   have h7 := hf j (by simpa [sz] using hj)
   rw [hcell1 j _ hj hfj, Nat.mul_one] at h7
   have hjx : j < xs.length := by rw [hxl]; simpa [sz] using hj
   exact ⟨xs[j], by rw [h7]; simp, by_ar hby hts h1, fun m hm => hw m (mem_weightsAll (List.mem_map_of_mem (List.getElem_mem hjx)) m hm)⟩

theorem law_sized (hby : byB P = true) : ∀ (tys : List Ty) (ts : List TypeId) (vs : List Value) (ds : List (DataW H)) (ps : List MemPlace) (i : Nat), TMs P tys ts → DataW.TrodAll enc P w base (fun _ => true) held ts vs ds ps → (∀ (j : Nat) (t : TypeId) (v : Value), ts[j]? = some t → vs[j]? = some v → ∃ r b0, Value.okWide P w r b0 t v) →
  (∀ n ∈ DataW.weightsEach P ts ds, n ≤ reachBytes) → ∃ x : denPs (lawPs tys), ParL w (ghT w) (lawPs tys) x i vs ∧ wfPs tys x ∧ vs.length = tys.length ∧ szPs tys x
 | [], [], [], [], _, _, _, _, _, _ => ⟨(), rfl, trivial, rfl, trivial⟩
 | [], [], _ :: _, _, _, _, _, h, _, _ => h.elim
 | [], [], [], _ :: _, _, _, _, h, _, _ => h.elim
 | [], _ :: _, _, _, _, _, h, _, _, _ => h.elim
 | _ :: _, [], _, _, _, _, h, _, _, _ => h.elim
 | _ :: _, _ :: _, [], _, _, _, _, h, _, _ => h.elim
 | _ :: _, _ :: _, _ :: _, [], _, _, _, h, _, _ => h.elim
 | ty :: tys, t :: ts, v :: vs, d :: ds, ps, i, hT, h, hv, hw => by
  obtain ⟨h1, _, hts, h2⟩ := hT
  obtain ⟨p, q, h3, h4, _⟩ := h
  simp only [DataW.weightsEach, List.mem_append] at hw
  obtain ⟨xs, h5, h6, h7, h7s⟩ := law_sized hby tys ts vs ds q (i + 1) h2 h4 (fun j t v hj hv' => hv (j + 1) t v hj hv') fun n hn => hw n (.inr hn)
  obtain ⟨r, b0, hok⟩ := hv 0 t v rfl rfl
  have hshape := shape_arg h1.2 h1.1 hok h3
  obtain ⟨fuel, h8⟩ := h3
  obtain ⟨_, y, hy, hwf⟩ := (trod_RO ty h1.2).1 t fuel _ _ h1.1 h8
  have hsz := (trod_sz hby ty h1.2).1 t fuel _ _ y hts h1.1 h8 hy fun n hn => hw n (.inl hn)
  have hy := RO_convF ty _ _ _ hy
  refine ⟨(y, xs), ⟨v, vs, rfl, fun av => ⟨rfl, hshape, ?_⟩, h5⟩, ⟨hwf, h6⟩, by simp [h7], hsz, h7s⟩
  exact RO_RR (g := ghT w) (s := 0) ty [] _ v.cells 0 y hy fun j _ => by simp

theorem law_calls_sz (hby : byB P = true) {tys : List Ty} {ts : List TypeId} (hT : TMs P tys ts) (hlen : tys.length ≤ 1000) {args : Array Value} {ds : List (DataW H)} {ps : List MemPlace} (hA : DataW.TrodAll enc P w base (fun _ => true) held ts args.toList ds ps)
  (hv : ∀ (j : Nat) (t : TypeId) (v : Value), ts[j]? = some t → args[j]? = some v → ∃ r b0, Value.okWide P w r b0 t v) (hw : ∀ n ∈ DataW.weightsEach P ts ds, n ≤ reachBytes) {f : FuncId} {F : Nat → denPs (lawPs tys) → Option (denL lawRs)} (hH : ∀ n, Contract.Holds P f ⟨lawPs tys, lawRs, F n, []⟩) (hlaw : ∀ x, wfPs tys x → szPs tys x → ∃ n, F n x = some (true, ())) :
  Calls P f args w fun e w' => e = .returned (.bool true) ∧ Below w.heap.size w w' := by
 obtain ⟨x, h1, h2, h3, h4⟩ := law_sized hby tys ts args.toList ds ps 0 hT hA (fun j t v hj hv' => hv j t v hj (by simpa using hv')) hw
 obtain ⟨n, hn⟩ := hlaw x h2 h4
 have hinit := init_inv (mu' := muT w) (w := w) (g := ghT w) (fun s => Iff.rfl) h1 (by rw [lawPs_length]; exact hlen) (fun b k hb => by cases hb) (fun b hb => hb.elim)
 rw [Array.toArray_toList] at hinit
 refine Calls.mono (hH n x (true, ()) hn args w (muT w) (ghT w) (by simpa [lawPs_length] using h3) (fun s => Iff.rfl) (fun _ h => absurd rfl h) (fun _ h => by cases h) hinit) ?_
 rintro e w' ⟨vs, g', rfl, hFr, hR, _, _, _⟩
 obtain ⟨v, vs', rfl, h4, h5, h6⟩ := hR
 obtain rfl : vs' = [] := h6
 rw [shape_cell rfl h4] at h5
 have hvt : v = .bool true := by simpa [RR, rdS] using h5
 exact ⟨by simp [retV, Contract.outV, hvt], hFr.os, hFr.tape, hFr.output, hFr.size, fun k hk => hFr.old k hk (fun h => h)⟩

theorem law_post_sz {f : Func} {n : FuncId} {s : ChangeSpec} {apart fresh handsOn again : Bool} {tys : List Ty} {ts : List TypeId} {tb : TypeId} (hby : byB P = true)
  (hl : laidOutB P = true) (hp : f.params.toList = ts) (hT : TMs P tys ts) (hlen : tys.length ≤ 1000) (hrt : f.resultTypes = #[tb]) (hb : P.underlying tb = some .bool) (hvars : s.vars = [])
  (hfn : ∀ ds : List (DataW H), ds.length = tys.length → s.fn H ds = { results := [.lit (.bool true)], args := ds })
  {F : Nat → denPs (lawPs tys) → Option (denL lawRs)} (hH : ∀ k, Contract.Holds P n ⟨lawPs tys, lawRs, F k, []⟩) (hlaw : ∀ x, wfPs tys x → szPs tys x → ∃ k, F k x = some (true, ()))
  {W : World} {base : Nat} {args : Array Value} {ds gs : List (DataW H)} {before : List MemPlace}
  (hval : ∀ (j : Nat) t v, f.params[j]? = some t → args[j]? = some v → Value.okWide P W .any base t v)
  (hW : DataW.Whole enc P f.params.toList s.vars apart W args.toList ds gs before)
  (hwt : (DataW.weightsEach P (f.params.toList ++ s.plain.varTypes P) (ds ++ gs)).all (· ≤ reachBytes) = true) :
  Calls P n args W fun e W' => ∃ v, e = .returned v ∧ s.post enc P f apart fresh handsOn again W args v W' := by
 have hW' := hW
 obtain ⟨p, q, hA, hV, rfl, hfz, hnd⟩ := hW
 have hWt := hW'.lt
 rw [hvars] at hV
 obtain ⟨rfl, rfl⟩ := trodVars_none hV
 rw [hp] at hA
 have hdl : ds.length = tys.length := by rw [trodAll_len ts _ ds p hA, TMs_len tys ts hT]
 have hs : s.fn H (ds ++ []) = { results := [.lit (.bool true)], args := ds } := by rw [List.append_nil]; exact hfn ds hdl
 have hw : ∀ n ∈ DataW.weightsEach P ts ds, n ≤ reachBytes := fun m hm => by
  have hvt : s.plain.varTypes P = [] := by
   simp [ChangeSpec.plain, hvars, DataSpec.varTypes]
  rw [hvt, List.append_nil, List.append_nil, hp] at hwt
  simpa using List.all_eq_true.1 hwt m hm
 refine (law_calls_sz hby hT hlen hA (fun j t v h1 h2 => ⟨_, _, hval j t v (by rw [← Array.getElem?_toList, hp]; exact h1) h2⟩) hw hH hlaw).mono fun e W' ⟨he, hbel⟩ => ⟨_, he, ?_⟩
 refine post_below (pa := p) (pv := []) hW' (fun b sp hd => ?_) (fun sp hsp => ?_) (fun sp _ => ?_) rfl hbel (ok_one hrt rfl (okWide_bool_mk hb true))
 ·rw [hs, hrt]; exact trodAll_mk1 (shut_bool hb true)
 ·rw [hs, hp]
  exact trodAll_stays hl tys ts _ ds p hT hA (fun x hx => hbel.same (hWt x (by simpa using hx))) (fun x hx => hsp x (by simpa using hx))
 ·rw [hs, hvars]; exact rfl
end
end Go.Ab
