/- Operations that leave memory as it is: fields of values, lengths, parts of slices, numbers. -/
import Derived.Test.YtokjogplnoeicaaAbStepS
namespace Go.Ab

section
variable {P : Program} {w0 w : World} {mu : Mu} {st : St} {a : Act} {g : Gh} {R : Type} {U : Nat → Prop}

theorem part_run {t : Ty} {tt : TypeId} (hT : TM P t tt) (hc : isCell t = true) {cs : Array Value} {n : Nat} {v : Value} (h : cs[n]? = some v) : (part tt cs n).run P w = .ok v w := by
 simp [part, TM_isAgg hT, hc, h]

/-- a field of a value -/
theorem v_field {t : Ty} {m : Md} {x : den t} {v : Value} (hv : VR w g st.get (.v t m x) v) {n : Nat} {tv : TV} (hf : fieldOf t m x n = some tv) :
  ∃ cs v', v = .agg cs ∧ cs[n]? = some v' ∧ VR w g st.get (.v tv.t tv.m tv.x) v' := by
 obtain ⟨hm, hs, hr⟩ := hv
 have hc : isCell t = false := by cases t <;> first | rfl | (simp [fieldOf, fieldK] at hf)
 obtain ⟨h1, h2, h3, _, _, _⟩ := RR_field _ _ _ _ _ _ hr hf
 obtain ⟨ds, h4, h5, h6⟩ := RR_cells _ _ _ _ _ _ h1
 rw [sz_cell h2] at h4
 match ds, h4 with
 | [v'], _ =>
  have h7 := h5 0 v' rfl
  unfold shapeV at hs
  rw [hc] at hs
  obtain ⟨cs, rfl, _⟩ := hs
  have hv' := oneCell_cells (h6 v' (by simp))
  refine ⟨cs, v', rfl, h7, by rw [h3]; exact hasOwn_fld hm n, by unfold shapeV; rw [h2]; exact hv', ?_⟩
  refine RR_free (Nat.le_refl _) (fun b l0 _ hb => ⟨rfl, hb⟩) _ _ _ [] _ _ n 0 _ h1 (by rw [h3]; exact hasOwn_fld hm n) (fun h => by rw [h2] at h; cases h) fun j hj => ?_
  rw [sz_cell h2] at hj
  have : j = 0 := by omega
  subst this
  rw [h7, hv']; rfl

theorem field_run {ty : Ty} {t : TypeId} (hT : TM P ty t) {arr : Bool} (ha : ∀ n te, P.underlying t = some (.array n te) → arr = true) (harr : arr = false) {m : Md} {n : Nat} {x : den ty} {tv : TV} (hf : fieldOf ty m x n = some tv) {cs : Array Value} {v : Value} (h : cs[n]? = some v) :
  (Instr.field t (.agg cs) n).run P w = .ok v w := by
 obtain ⟨h1, h2, h3⟩ := TM_field hT hf
 rcases h3 with ⟨fs, f, h4, h5, h6, h7⟩ | ⟨te, h4, _⟩
 ·simp [Instr.field, run_underlying h4, h5, asAgg, h6, part_run h7 h1 h]
 ·rw [ha _ _ h4] at harr; cases harr
theorem index_run {ty : Ty} {t : TypeId} (hT : TM P ty t) {arr : Bool} (ha : ∀ fs, P.underlying t = some (.struct fs) → arr = false) (harr : arr = true) {m : Md} {i : Int} (hi : 0 ≤ i) {x : den ty} {tv : TV} (hf : fieldOf ty m x i.toNat = some tv) (kd : IntKind) {cs : Array Value} {v : Value} (h : cs[i.toNat]? = some v) :
  (Instr.index t (.agg cs) (.int kd i)).run P w = .ok v w := by
 obtain ⟨h1, h2, h3⟩ := TM_field hT hf
 rcases h3 with ⟨fs, f, h4, h5, h6, h7⟩ | ⟨te, h4, _, h7⟩
 ·rw [ha _ h4] at harr; cases harr
 ·have hs := TM_sizeOf h7 w
  rw [sz_cell h1] at hs
  have : i < (sz ty : Int) := by omega
  simp [Instr.index, run_underlying h4, asIntOf, hi, this, hs, part_run h7 h1 h]

/-- the slice that a value is -/
theorem asList_sound (hI : Inv w0 mu st.get (Vals a) U w g) {av : AV} {v : Value} {k : (e : Ty) → Md → List (den e) → Option R} {r : R} (h : asList st av k = some r) (hv : VR w g st.get av v) :
  ∃ e m x ad cap, k e m x = some r ∧ v = .slice ad x.length cap := by
 unfold asList at h
 split at h
 ·rename_i e m x
  obtain ⟨hm, hs, hr⟩ := hv
  have hmo := isOwn_hasOwn hm
  simp only [RR, hmo, RO] at hr
  obtain ⟨⟨ad, cap, h1, h2, h3⟩, _⟩ := hr
  rw [shape_cell rfl hs] at h1
  simp only [rdS] at h1
  exact ⟨e, _, x, ad, cap, h, by simpa using h1⟩
 ·rename_i s n p
  split at h
  ·rename_i o ho
   obtain ⟨e, m, x, hat, hm, h⟩ := Own.sl_some h
   obtain ⟨h1, hok⟩ := hv o ho
   obtain ⟨ad, cap, h2, _⟩ := alias_node hI ho hok hat hm
   exact ⟨e, _, x, ad, cap, h, by rw [h1, h2]⟩
  ·cases h
 ·rename_i s n p lo len cp
  split at h
  ·rename_i o ho
   obtain ⟨e, m, x, hat, hm, h⟩ := Own.sl_some h
   obtain ⟨hok, e', m', x', ad, c, M, h1, h2, h3, h4, h5, h6, h7⟩ := hv o ho
   rw [hat] at h1
   simp only [Option.some.injEq, TV.mk.injEq, Ty.sl.injEq] at h1
   obtain ⟨rfl, rfl, h1⟩ := h1
   have h1 := eq_of_heq h1
   subst h1
   have hlen : ((x.drop lo).take len).length = len := by simp; omega
   exact ⟨e, _, _, _, _, h, by rw [hlen]; exact h7⟩
  ·cases h
 ·cases h

theorem asMap_sound (hI : Inv w0 mu st.get (Vals a) U w g) {av : AV} {v : Value} {f : (k e : Ty) → List (den k × den e) → Option R} {r : R} (h : asMap st av f = some r) (hv : VR w g st.get av v) :
  ∃ k e x m, f k e x = some r ∧ v = .map m ∧ match m with | none => x = [] | some b => ∃ es c, w.heap[b]? = some (.map es c) ∧ MapR k e es c x := by
 unfold asMap at h
 split at h
 ·rename_i k e m x
  obtain ⟨hm, hs, hr⟩ := hv
  have hmo := isOwn_hasOwn hm
  simp only [RR, hmo, RO] at hr
  obtain ⟨q, h1, h2⟩ := hr
  rw [shape_cell rfl hs] at h1
  refine ⟨k, e, x, q, h, by simpa [rdS] using h1, ?_⟩
  cases q with
  | none => exact h2
  | some b => exact h2.2.2
 ·rename_i s n p
  split at h
  ·rename_i o ho
   obtain ⟨k, e, m, x, hat, hm, h⟩ := Own.mp_some h
   split at h
   ·rename_i hnz
    obtain ⟨h1, hok⟩ := hv o ho
    obtain ⟨b, h2, h3⟩ := alias_map hI ho hok hat hm hnz
    simp only [RR, hm] at h3
    obtain ⟨q, h4, _, h5⟩ := h3
    rw [h2] at h4
    have h4 : some (Value.map (some b)) = some (.map q) := h4
    simp only [Option.some.injEq, Value.map.injEq] at h4
    subst h4
    exact ⟨k, e, x, some b, h, by rw [h1, h2], h5.2.2⟩
   ·cases h
  ·cases h
 ·cases h

theorem MapR.size {k e : Ty} {es : Array MapEntry} {c : Nat} {x : List (den k × den e)} (h : MapR k e es c x) : es.size = x.length := by
 have := congrArg List.length h.1
 simpa using this

theorem lenD_sound {T : Tab} (hT : TabOK P T) (hI : Inv w0 mu st.get (Vals a) U w g) {t : TypeId} {ty : Ty} (ht : T.ty t = some ty) {av : AV} {v : Value} {k : Int → Option R} {r : R} (h : lenD st ty av k = some r) (hv : VR w g st.get av v) (tr : TypeId) :
  ∃ n, k n = some r ∧ (Builtin.len_ #[t] tr #[v]).run P w = .ok (.int .i64 n) w := by
 obtain ⟨hTM, _, _⟩ := (hT _).1 _ ht
 unfold lenD at h
 split at h
 ·rename_i e
  obtain ⟨te, h1, _⟩ := hTM
  split at h
  ·obtain rfl : v = .slice none 0 0 := hv
   exact ⟨0, h, by simp [Builtin.len_, run_underlying h1, goInt]⟩
  ·obtain ⟨e', m, x, ad, cap, h2, rfl⟩ := asList_sound hI h hv
   exact ⟨_, h2, by simp [Builtin.len_, run_underlying h1, goInt]⟩
 ·rename_i kt et
  obtain ⟨tk, te, h1, _⟩ := hTM
  obtain ⟨k', e', x, q, h2, rfl, h3⟩ := asMap_sound hI h hv
  refine ⟨_, h2, ?_⟩
  cases q with
  | none => subst h3; simp [Builtin.len_, run_underlying h1, goInt]
  | some b =>
   obtain ⟨es, c, h4, h5⟩ := h3
   have hg : (getObj b).run P w = .ok (.map es c) w := by simp [getObj, Sem.run, h4]
   simp [Builtin.len_, run_underlying h1, hg, goInt, h5.size]
 ·cases h

/-- is a slice nil? -/
theorem nilD_sound (hI : Inv w0 mu st.get (Vals a) U w g) {av : AV} {v : Value} {k : Bool → Option R} {r : R} (h : nilD st av k = some r) (hv : VR w g st.get av v) :
  ∃ ad len cap, v = .slice ad len cap ∧ k ad.isNone = some r := by
 unfold nilD at h
 split at h
 ·rename_i e m x
  obtain ⟨hm, hs, hr⟩ := hv
  have hmo := isOwn_hasOwn hm
  simp only [RR, hmo, RO] at hr
  obtain ⟨⟨ad, cap, h1, h2, h3⟩, h4⟩ := hr
  rw [shape_cell rfl hs] at h1 h4
  simp only [rdS] at h1 h4
  refine ⟨ad, x.length, cap, by simpa using h1, ?_⟩
  split at h
  ·rename_i hz
   rw [← h]; congr 1
   cases hx : x with
   | nil =>
    obtain ⟨l, c, h5⟩ := h4 hz hx
    rw [h1] at h5
    simp only [Option.some.injEq, Value.slice.injEq] at h5
    rw [h5.1]; rfl
   | cons y ys =>
    cases ad with
    | none => rw [h3.1] at hx; cases hx
    | some ad => rfl
  ·split at h
   ·obtain ⟨b1, b2⟩ := both_some h
    cases ad with
    | none => exact b1
    | some ad => exact b2
   ·rename_i hx
    cases ad with
    | none => rw [h3.1] at hx; cases hx
    | some ad => exact h
 ·rename_i s n p
  split at h
  ·rename_i o ho
   obtain ⟨e, m, x, hat, hm, h⟩ := Own.sl_some h
   obtain ⟨h1, hok⟩ := hv o ho
   obtain ⟨ad, cap, h2, h3⟩ := alias_node hI ho hok hat hm
   simp only [RR, hm] at h3
   obtain ⟨ad', cap', h4, h5, h6, h7, h8⟩ := h3
   rw [h2] at h5
   simp only [Value.slice.injEq] at h5
   obtain ⟨rfl, _, rfl⟩ := h5
   refine ⟨ad, x.length, cap, by rw [h1, h2], ?_⟩
   split at h
   ·rename_i hz
    rw [← h]; congr 1
    cases hx : x with
    | nil => rw [h7 hz hx]; rfl
    | cons y ys =>
     cases ad with
     | none => rw [h8.1] at hx; cases hx
     | some ad => rfl
   ·split at h
    ·obtain ⟨b1, b2⟩ := both_some h
     cases ad with
     | none => exact b1
     | some ad => exact b2
    ·rename_i hx
     cases ad with
     | none => rw [h8.1] at hx; cases hx
     | some ad => exact h
  ·cases h
 ·obtain rfl : v = .slice none 0 0 := hv
  exact ⟨none, 0, 0, rfl, h⟩
 ·cases h


/-- equality with nil -/
theorem nilEq_run {t te : TypeId} (h : P.underlying t = some (.slice te)) (ad : Option Addr) (n c : Nat) (x y : Operand) :
  (do eqGuard .eql t x y (.slice ad n c) (.slice none 0 0); binOp .eql t (.slice ad n c) (.slice none 0 0) : Sem Value).run P w = .ok (.bool ad.isNone) w ∧
  (do eqGuard .neq t x y (.slice ad n c) (.slice none 0 0); binOp .neq t (.slice ad n c) (.slice none 0 0) : Sem Value).run P w = .ok (.bool !ad.isNone) w := by
 have he : ∀ d, (Op.equalIn (d + 1) t (.slice ad n c) (.slice none 0 0)).run P w = .ok ad.isNone w := fun d => by
  cases ad <;> simp [Op.equalIn, run_underlying h]
 rw [eqGuard_at_slice, eqGuard_at_slice]
 simp only [binOp]
 constructor <;> simp [Op.equal, Op.maxDepth, he 9999]

theorem bound_sound (hI : Inv w0 mu st.get (Vals a) U w g) {x : Option Operand} {d : Nat} {k : Int → Option R} {r : R} (h : bound st x d k = some r) :
  ∃ n, k n = some r ∧ ((x = none ∧ n = d) ∨ ∃ kd, x.map a.eval = some (.int kd n)) := by
 unfold bound at h
 split at h
 ·exact ⟨_, h, .inl ⟨rfl, rfl⟩⟩
 ·obtain ⟨av, h, hv, _⟩ := opd_sound hI h
  obtain ⟨kd, n, h, hv⟩ := asInt_sound h hv
  exact ⟨n, h, .inr ⟨kd, by simp [hv]⟩⟩

def sliceGo (st : St) (lo hi mx : Option Operand) (len : Nat) (k : Nat → Nat → Bool → Option R) : Option R :=
 bound st hi len fun h => bound st lo 0 fun l =>
  match mx with
  | none => guardB (decide (0 ≤ l) && decide (l ≤ h) && decide (h ≤ (len : Int))) (k l.toNat (h - l).toNat false)
  | some m => opd st m fun a => asInt a fun _ m =>
   guardB (hi.isSome && decide (0 ≤ l) && decide (l ≤ h) && decide (h = m) && decide (h ≤ (len : Int))) (k l.toNat (h - l).toNat true)

theorem sliceGo_sound (hI : Inv w0 mu st.get (Vals a) U w g) {lo hi mx : Option Operand} {len cap : Nat} (hcap : len ≤ cap) {k : Nat → Nat → Bool → Option R} {r : R} (h : sliceGo st lo hi mx len k = some r) :
  ∃ l n M cp, k l n cp = some r ∧ l + n ≤ len ∧ l + n ≤ M ∧ M ≤ cap ∧ (cp = true → M = l + n) ∧
   (Instr.sliceBounds true len cap (lo.map a.eval) (hi.map a.eval) (mx.map a.eval)).run P w = .ok (l, l + n, M) w := by
 unfold sliceGo at h
 obtain ⟨hh, h, h1⟩ := bound_sound hI h
 obtain ⟨ll, h, h2⟩ := bound_sound hI h
 cases mx with
 | none =>
  obtain ⟨hg, h⟩ := guardB_some h
  simp only [Bool.and_eq_true, decide_eq_true_eq] at hg
  obtain ⟨⟨g1, g2⟩, g3⟩ := hg
  refine ⟨_, _, cap, false, h, by omega, by omega, Nat.le_refl _, (fun h => by cases h), ?_⟩
  have e0 : ll.toNat + (hh - ll).toNat = hh.toNat := by omega
  have e1 : (hh.toNat : Int) = hh := by omega
  rw [e0]
  have b1 : hh ≤ (cap : Int) := by omega
  have b2 : (0 : Int) ≤ hh := by omega
  rcases h1 with ⟨rfl, rfl⟩ | ⟨kd, h1⟩ <;> rcases h2 with ⟨rfl, rfl⟩ | ⟨kd', h2⟩
  ·simp [Instr.sliceBounds]
  ·rw [h2]; simp [Instr.sliceBounds, Instr.sliceBound, asIntOf, g1, g2]
  ·rw [h1]; simp [Instr.sliceBounds, Instr.sliceBound, asIntOf, b1, b2]
  ·rw [h1, h2]; simp [Instr.sliceBounds, Instr.sliceBound, asIntOf, b1, b2, g1, g2, e1]
 | some m =>
  obtain ⟨av, h, hv, _⟩ := opd_sound hI h
  obtain ⟨kd, n, h, hv⟩ := asInt_sound h hv
  obtain ⟨hg, h⟩ := guardB_some h
  simp only [Bool.and_eq_true, decide_eq_true_eq] at hg
  obtain ⟨⟨⟨⟨g0, g1⟩, g2⟩, g4⟩, g3⟩ := hg
  refine ⟨ll.toNat, (hh - ll).toNat, hh.toNat, true, h, by omega, by omega, by omega, (fun _ => by omega), ?_⟩
  have e0 : ll.toNat + (hh - ll).toNat = hh.toNat := by omega
  have e1 : (hh.toNat : Int) = hh := by omega
  rw [e0]
  rcases h1 with ⟨rfl, rfl⟩ | ⟨kd, h1⟩
  ·cases g0
  ·have b1 : hh ≤ (cap : Int) := by omega
   have b2 : (0 : Int) ≤ hh := by omega
   subst g4
   rcases h2 with ⟨rfl, rfl⟩ | ⟨kd', h2⟩
   ·rw [h1]; simp [Instr.sliceBounds, Instr.sliceBound, asIntOf, b1, b2, e1, hv]
   ·rw [h1, h2]; simp [Instr.sliceBounds, Instr.sliceBound, asIntOf, b1, b2, g1, g2, e1, hv]

theorem sliceAt_run {e : Ty} {t : TypeId} (hT : TM P (.sl e) t) {ad : Option Addr} {len cap l n M : Nat} {lo hi mx : Option Value} (h : (Instr.sliceBounds true len cap lo hi mx).run P w = .ok (l, l + n, M) w) :
  (Instr.sliceAt t (.slice ad len cap) lo hi mx).run P w = .ok (.slice (if M = l then ad else ad.map (·.add (l * sz e))) n (M - l)) w := by
 obtain ⟨te, h1, h2, _⟩ := hT
 have hs := TM_sizeOf h2 w
 have he : P.elem t = te := by simp [Program.elem, h1]
 rw [run_sliceAt_slice (h := by rw [he]; exact h1), run_slice_any (ht := by rw [he]; exact h1), h]
 simp [he, hs, sliced]

/-- a part of what is only read -/
theorem RO_sub {col : Nat → Option (Nat × List Stp)} {b : Bool} {e : Ty} {x : List (den e)} {ad : Option Addr} {cap l n M : Nat} (h : RO w col b (.sl e) (fun _ => some (.slice ad x.length cap)) 0 x) (h1 : l + n ≤ x.length) (h2 : l + n ≤ M) (h3 : M ≤ cap) {v : Value}
  (hv : v = .slice (if M = l then ad else ad.map (·.add (l * sz e))) n (M - l)) : RO w col b (.sl e) (fun _ => some v) 0 ((x.drop l).take n) := by
 have hlen : ((x.drop l).take n).length = n := by simp; omega
 simp only [RO] at h ⊢
 obtain ⟨ad', cap', h4, h5, h6⟩ := h
 simp only [Option.some.injEq, Value.slice.injEq] at h4
 obtain ⟨rfl, _, rfl⟩ := h4
 refine ⟨_, M - l, by rw [hlen, hv], by omega, ?_⟩
 cases ad with
 | none =>
  obtain ⟨hx, hc⟩ := h6
  subst hx; subst hc
  simp at h1
  have : M = 0 := by omega
  subst M
  simp
 | some ad =>
  by_cases hM : M = l
  ·have : n = 0 := by omega
   subst this
   simp only [hM, if_true]
   exact .inl (by omega)
  ·obtain ⟨h7, h8, h9, h10⟩ := h6.resolve_left (by intro h; omega)
   simp only [hM, if_false, Option.map_some]
   refine .inr ?_
   obtain ⟨blk, off, sp⟩ := ad
   simp only at h7 h8 h9 h10
   subst h7
   simp only [addr_add, true_and]
   refine ⟨h8, h9, fun i hi => ?_⟩
   rw [hlen] at hi
   rw [getD_sub x _ h1 hi]
   have := h10 (l + i) (by omega)
   rw [Nat.add_mul] at this
   simpa [Nat.add_assoc] using this

theorem sliceD_sound {T : Tab} (hT : TabOK P T) (hI : Inv w0 mu st.get (Vals a) U w g) {t : TypeId} {ty : Ty} (ht : T.ty t = some ty) {av : AV} {v : Value} {lo hi mx : Option Operand} {k : AV → St → Option R} {r : R} (h : sliceD st ty av lo hi mx k = some r)
  (hv : VR w g st.get av v) : ∃ av' v', k av' st = some r ∧ (Instr.sliceAt t v (lo.map a.eval) (hi.map a.eval) (mx.map a.eval)).run P w = .ok v' w ∧ VR w g st.get av' v' ∧ stampOK U av' ∧ isOw av' = false := by
 obtain ⟨hTM, _, _⟩ := (hT _).1 _ ht
 unfold sliceD at h
 simp only at h
 split at h
 ·rename_i e b nz x
  obtain ⟨hty, hk⟩ := sameTy_some h
  clear h
  subst hty
  obtain ⟨hm, hs, hr⟩ := hv
  simp only [RR, Md.isOwn, Md.lent?, Md.nz?] at hr
  obtain ⟨hr, _⟩ := hr
  have hr0 := hr
  simp only [RO] at hr0
  obtain ⟨ad, cap, h1, h2, _⟩ := hr0
  rw [shape_cell rfl hs] at h1
  simp only [rdS] at h1
  obtain rfl : v = .slice ad x.length cap := by simpa using h1
  obtain ⟨l, n, M, cp, hk, g1, g2, g3, g4, g5⟩ := sliceGo_sound (P := P) hI h2 (k := fun lo len _ => k (.v (.sl e) (.bor b false) ((List.drop lo x).take len)) st) hk
  refine ⟨.v (.sl e) (.bor b false) ((List.drop l x).take n), _, hk, sliceAt_run hTM g5, ⟨rfl, rfl, ?_⟩, trivial, rfl⟩
  simp only [RR, Md.isOwn, Md.lent?, Md.nz?]
  refine ⟨?_, fun h => by cases h⟩
  have h5 := RO_sub (v := _) (RO_shift (.sl e) _ (fun _ => some (.slice ad x.length cap)) 0 0 x hr (fun j hj => by simp [sz] at hj; subst hj; rfl)) g1 g2 g3 rfl
  exact RO_shift (.sl e) _ _ 0 0 _ h5 (fun j hj => by simp [sz] at hj; subst hj; rfl)
 ·rename_i s n p
  split at h
  ·rename_i o ho
   obtain ⟨e, m, x, hat, hm, h⟩ := Own.sl_some h
   obtain ⟨hty, hk⟩ := sameTy_some h
   clear h
   subst hty
   obtain ⟨h1, hok⟩ := hv o ho
   obtain ⟨ad, cap, h2, h3⟩ := alias_node hI ho hok hat hm
   have hcap : x.length ≤ cap := by
    simp only [RR, hm] at h3
    obtain ⟨ad', cap', h4, h5, h6, _⟩ := h3
    rw [h2] at h5
    simp only [Value.slice.injEq] at h5
    rw [h5.2.2]; exact h6
   obtain ⟨l, n', M, cp, hk, g1, g2, g3, g4, g5⟩ := sliceGo_sound (P := P) hI hcap (k := fun lo len c => k (.sub s n p lo len c) st) hk
   refine ⟨.sub s n p l n' cp, _, hk, by rw [h1, h2]; exact sliceAt_run hTM g5, ?_, own_stamp hI ho, rfl⟩
   intro o' ho'
   rw [ho] at ho'
   simp only [Option.some.injEq] at ho'
   subst ho'
   exact ⟨hok, e, m, x, ad, cap, M, hat, h2, g1, g2, g3, g4, rfl⟩
  ·cases h
 ·cases h
end
end Go.Ab
