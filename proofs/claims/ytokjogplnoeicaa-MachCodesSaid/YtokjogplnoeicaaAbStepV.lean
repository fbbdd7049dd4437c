/- The operations that leave memory as it is, one by one. -/
import Derived.Test.YtokjogplnoeicaaAbStepU
namespace Go.Ab

/-- an operation does as its step says -/
def StepOK {R : Type} (P : Program) (w0 : World) (mu : Mu) (U : Nat → Prop) (o : Oper) (a : Act) (w : World) (K : AV → St → Option R) (r : R) : Prop :=
 ∃ av st', K av st' = some r ∧ ∀ next Q, NextOK w0 mu o a U st' av next → o.wp P a w next Q

section
variable {P : Program} {T : Tab} {Φ : Nat → Option Contract} {w0 w : World} {mu : Mu} {st : St} {a : Act} {g : Gh} {R : Type} {o : Oper} {K : AV → St → Option R} {r : R} {U : Nat → Prop}

theorem exec_v {ρ : Operand → Value} {s : Sem Value} {v : Value} {w' : World} (h : execOp ρ o = (do pure (.value (← s)))) (hs : s.run P w = .ok v w') : (execOp ρ o).run P w = .ok (.value v) w' := by
 rw [h, Sem.run_bind, hs]; rfl

/-- an operation that leaves the machine and the state as they are -/
def StepS {R : Type} (P : Program) (U : Nat → Prop) (o : Oper) (a : Act) (w : World) (g : Gh) (st : St) (K : AV → St → Option R) (r : R) : Prop :=
 ∃ av v, K av st = some r ∧ (execOp a.eval o).run P w = .ok (.value v) w ∧ VR w g st.get av v ∧ stampOK U av ∧ isOw av = false

theorem StepS.ok (hI : Inv w0 mu st.get (Vals a) U w g) (hd : DstOK mu o a) (h : StepS P U o a w g st K r) : StepOK P w0 mu (Nw U st.c) o a w K r := by
 obtain ⟨av, v, hK, hs, hv, hst, how⟩ := h
 exact ⟨av, st, hK, fun _ _ hn => S_done hI hd hs hv hst how fun a' w' g' h => hn a' w' g' (h.monoU fun _ => Nw_old)⟩

theorem S_ok (_ : Inv w0 mu st.get (Vals a) U w g) (_ : DstOK mu o a) {av : AV} {v : Value} {s : Sem Value} (hK : K av st = some r) (he : execOp a.eval o = (do pure (.value (← s)))) (hs : s.run P w = .ok v w)
  (hv : VR w g st.get av v) (hst : stampOK U av) (how : isOw av = false) : StepS P U o a w g st K r :=
 ⟨av, v, hK, exec_v he hs, hv, hst, how⟩

/-- another slot's number, when it was looked at, is the same -/
theorem step_move_tmp (hI : Inv w0 mu st.get (Vals a) U w g) (hd : DstOK mu o a) {x : Operand} (ho : o.op = .move x) (h : (opd st x fun a => K a st) = some r) : StepS P U o a w g st K r := by
 obtain ⟨av, hk, hv, hst, how⟩ := opd_sound hI h
 exact S_ok (s := pure (a.eval x)) hI hd hk (by simp [execOp, ho]) (by simp) hv hst how

theorem step_pick (hI : Inv w0 mu st.get (Vals a) U w g) (hd : DstOK mu o a) {c x y : Operand} (ho : o.op = .pick c x y) (h : step T Φ o st K = some r) : StepS P U o a w g st K r := by
 unfold step at h; rw [ho] at h; simp only at h
 obtain ⟨av, h, hv, hst, how⟩ := opd_sound hI h
 obtain ⟨b, h, hv⟩ := asBool_sound h hv
 cases b with
 | true =>
  obtain ⟨av, h, hv', hst, how⟩ := opd_sound hI h
  exact S_ok (s := pure (a.eval x)) hI hd h (by simp [execOp, ho, hv, asBool]; rfl) (by simp) hv' hst how
 | false =>
  obtain ⟨av, h, hv', hst, how⟩ := opd_sound hI h
  exact S_ok (s := pure (a.eval y)) hI hd h (by simp [execOp, ho, hv, asBool]; rfl) (by simp) hv' hst how

theorem step_binOp (hT : TabOK P T) (hE : EqOK P T) (hI : Inv w0 mu st.get (Vals a) U w g) (hd : DstOK mu o a) {op : BinOp} {t u : TypeId} {x y : Operand} (ho : o.op = .binOp op t x y u) (h : step T Φ o st K = some r) : StepS P U o a w g st K r := by
 unfold step at h; rw [ho] at h; simp only at h
 obtain ⟨ax, h, hx, _, _⟩ := opd_sound hI h
 obtain ⟨ay, h, hy, _, _⟩ := opd_sound hI h
 split at h
 ·have hy' : a.eval y = .slice none 0 0 := hy
  split at h
  ·rename_i e ht
   obtain ⟨te, h1, _⟩ := ((hT _).1 _ ht).1
   split at h
   ·obtain ⟨ad, n, c, h2, hk⟩ := nilD_sound hI h hx
    exact S_ok hI hd hk (by simp only [execOp, ho] <;> rfl) (by rw [h2, hy']; exact (nilEq_run h1 ad n c x y).1) (VR_of_bool _) trivial rfl
   ·obtain ⟨ad, n, c, h2, hk⟩ := nilD_sound hI h hx
    exact S_ok hI hd hk (by simp only [execOp, ho] <;> rfl) (by rw [h2, hy']; exact (nilEq_run h1 ad n c x y).2) (VR_of_bool _) trivial rfl
   ·cases h
  ·cases h
 ·obtain ⟨av, v, hk, h1, h2, h3, h4⟩ := binD_sound hT hE h hx hy
  exact S_ok hI hd hk (by simp only [execOp, ho] <;> rfl) h1 h2 h3 h4

theorem step_unOp (hI : Inv w0 mu st.get (Vals a) U w g) (hd : DstOK mu o a) {op : UnOp} {t : TypeId} {x : Operand} (ho : o.op = .unOp op t x) (h : step T Φ o st K = some r) : StepS P U o a w g st K r := by
 unfold step at h; rw [ho] at h; simp only at h
 obtain ⟨ax, h', hx, hq1, hq2⟩ := opd_sound hI h
 clear h
 have h := h'
 clear h'
 split at h
 ·have := VR_bool hx
  exact S_ok hI hd h (by simp only [execOp, ho] <;> rfl) (by rw [this]; rfl) (VR_of_bool _) trivial rfl
 ·have := VR_int hx
  exact S_ok hI hd h (by simp only [execOp, ho] <;> rfl) (by rw [this]; rfl) (VR_of_int _ _) trivial rfl
 ·have := VR_int hx
  rename_i k m n
  have hb : ∀ z, bitsI .xor k z n = some (k.wrap (BitVec.ofInt k.bits z ^^^ BitVec.ofInt k.bits n).toNat) := fun _ => rfl
  rw [hb] at h
  refine S_ok hI hd h (by simp only [execOp, ho] <;> rfl) (v := .int k (k.wrap (BitVec.ofInt k.bits (match k.signed with | true => -1 | false => k.max) ^^^ BitVec.ofInt k.bits n).toNat)) ?_ (VR_of_int _ _) trivial rfl
  rw [this]
  cases k <;> rfl
 ·cases h

theorem step_convert (hT : TabOK P T) (hI : Inv w0 mu st.get (Vals a) U w g) (hd : DstOK mu o a) {s d : TypeId} {x : Operand} (ho : o.op = .convert s d x) (h : step T Φ o st K = some r) : StepS P U o a w g st K r := by
 unfold step at h; rw [ho] at h; simp only at h
 split at h
 ·rename_i k0 k ht0 ht
  obtain ⟨h1, _⟩ := ((hT _).1 _ ht).1
  obtain ⟨h0, _⟩ := ((hT _).1 _ ht0).1
  obtain ⟨ax, h, hx, _, _⟩ := opd_sound hI h
  obtain ⟨kd, n, h, hv⟩ := asInt_sound h hx
  refine S_ok hI hd h (by simp only [execOp, ho] <;> rfl) (v := .int k (k.wrap n)) ?_ (VR_of_int _ _) trivial rfl
  rw [hv]
  have hk : P.intKind d = k := by simp [Program.intKind, h1]
  have := run_convert_int (P := P) w s d kd n (by rw [h0]; rfl) (by rw [hk]; exact h1)
  rw [hk] at this; exact this
 ·cases h

theorem opd_bind (x : Operand) (k : AV → Option R) : opd st x k = (opd st x some).bind k := by
 cases x with
 | tmp t =>
  simp only [opd]
  cases st.get t with
  | ow n ty m x =>
   simp only
   split
   ·rfl
   ·split <;> rfl
   ·rfl
  | _ => rfl
 | const v =>
  cases v with
  | pointer r => cases r <;> rfl
  | slice ad len cap =>
   cases ad with
   | none =>
    cases len with
    | zero => cases cap <;> rfl
    | succ _ => rfl
   | some _ => rfl
  | _ => rfl
 | _ => rfl

theorem step_load (hT : TabOK P T) (hI : Inv w0 mu st.get (Vals a) U w g) (hd : DstOK mu o a) {t : TypeId} {x : Operand} (ho : o.op = .load t x) (hm : noTup st o = true) (h : step T Φ o st K = some r) : StepS P U o a w g st K r := by
 unfold step at h; rw [ho] at h; simp only at h
 split at h
 ·rename_i ty ht
  rw [opd_bind] at h
  cases hq : opd st x some with
  | none => rw [hq] at h; cases h
  | some ax =>
   rw [hq, Option.bind_some] at h
   obtain ⟨ax', h', hx, _, _⟩ := opd_sound hI hq
   obtain rfl := Option.some.inj h'
   have hn : frz st ax' = none := by
    unfold noTup at hm
    rw [ho] at hm
    simp only [hq] at hm
    cases hf : frz st ax' with
    | none => rfl
    | some _ => rw [hf] at hm; cases hm
   rw [hn] at h
   obtain ⟨av, v, hk, h1, h2, h3, h4⟩ := loadD_sound hT hI ht h hx
   exact S_ok hI hd hk (by simp only [execOp, ho] <;> rfl) h1 h2 h3 h4
 ·cases h

theorem step_fieldAddr (hT : TabOK P T) (hI : Inv w0 mu st.get (Vals a) U w g) (hd : DstOK mu o a) {t : TypeId} {x : Operand} {f : Nat} (ho : o.op = .fieldAddr t x f) (h : step T Φ o st K = some r) : StepS P U o a w g st K r := by
 unfold step at h; rw [ho] at h; simp only at h
 split at h
 ·rename_i ty ht
  obtain ⟨ax, h, hx, _, _⟩ := opd_sound hI h
  obtain ⟨harr, h⟩ := guardB_some h
  obtain ⟨av, v, hk, h1, h2, h3, h4⟩ := fieldD_sound hT hI ht (by simpa using harr) h hx
  exact S_ok hI hd hk (by simp only [execOp, ho] <;> rfl) h1 h2 h3 h4
 ·cases h

theorem step_field (hT : TabOK P T) (hI : Inv w0 mu st.get (Vals a) U w g) (hd : DstOK mu o a) {t : TypeId} {x : Operand} {f : Nat} (ho : o.op = .field t x f) (h : step T Φ o st K = some r) : StepS P U o a w g st K r := by
 unfold step at h; rw [ho] at h; simp only at h
 split at h
 ·rename_i ty ht
  obtain ⟨ax, h, hx, _, _⟩ := opd_sound hI h
  split at h
  ·rename_i t1 m z
   obtain ⟨hty, hk⟩ := sameTy_some h
   clear h
   subst hty
   obtain ⟨harr, hk⟩ := guardB_some hk
   split at hk
   ·rename_i t' m' y hf
    obtain ⟨cs, v', h1, h2, h3⟩ := v_field hx hf
    refine S_ok hI hd hk (by simp only [execOp, ho] <;> rfl) ?_ h3 trivial rfl
    rw [h1]
    exact field_run ((hT _).1 _ ht).1 ((hT _).1 _ ht).2.1 (by simpa using harr) hf h2
   ·cases hk
  ·cases h
 ·cases h

theorem step_indexAddr (hT : TabOK P T) (hI : Inv w0 mu st.get (Vals a) U w g) (hd : DstOK mu o a) {t : TypeId} {x i : Operand} (ho : o.op = .indexAddr t x i) (h : step T Φ o st K = some r) : StepS P U o a w g st K r := by
 unfold step at h; rw [ho] at h; simp only at h
 split at h
 ·rename_i ty ht
  obtain ⟨ax, h, hx, _, _⟩ := opd_sound hI h
  obtain ⟨ai, h, hi, _, _⟩ := opd_sound hI h
  obtain ⟨kd, n, h, hv⟩ := asInt_sound h hi
  obtain ⟨av, v, hk, h1, h2, h3, h4⟩ := indexD_sound (kd := kd) hT hI ht h hx
  exact S_ok hI hd hk (by simp only [execOp, ho, hv] <;> rfl) h1 h2 h3 h4
 ·cases h

theorem index_str_run {t : TypeId} (hT : P.underlying t = some .string) (kd : IntKind) {i : Int} {s : ByteArray} (h : inb i (bytesOf s).length = true) :
  (Instr.index t (.string s) (.int kd i)).run P w = .ok (.int .u8 ((bytesOf s).getD i.toNat 0)) w := by
 simp only [inb, bytesOf, List.length_map, Array.length_toList, Bool.and_eq_true, decide_eq_true_eq] at h
 have h1 : i.toNat < s.size := by have := h.2; show i.toNat < s.data.size; omega
 have h2 : s[i.toNat]? = some s[i.toNat] := getElem?_pos s i.toNat h1
 have h3 : (bytesOf s).getD i.toNat 0 = ((s[i.toNat].toNat : Nat) : Int) := by
  have h4 : i.toNat < s.data.toList.length := by have := h.2; simp; omega
  simp only [bytesOf, List.getD_eq_getElem?_getD, List.getElem?_map, List.getElem?_eq_getElem h4, Option.map_some, Option.getD_some]
  rfl
 rw [h3]
 simp [Instr.index, run_underlying hT, asIntOf, h.1, h2]

theorem step_index (hT : TabOK P T) (hI : Inv w0 mu st.get (Vals a) U w g) (hd : DstOK mu o a) {t : TypeId} {x i : Operand} (ho : o.op = .index t x i) (h : step T Φ o st K = some r) : StepS P U o a w g st K r := by
 unfold step at h; rw [ho] at h; simp only at h
 split at h
 ·rename_i ty ht
  obtain ⟨ax, h, hx, _, _⟩ := opd_sound hI h
  obtain ⟨ai, h, hi, _, _⟩ := opd_sound hI h
  obtain ⟨kd, n, h, hv⟩ := asInt_sound h hi
  split at h
  ·rename_i t1 m z
   obtain ⟨hty, hk⟩ := sameTy_some h
   clear h
   subst hty
   obtain ⟨hg, hk⟩ := guardB_some hk
   simp only [Bool.and_eq_true, decide_eq_true_eq] at hg
   split at hk
   ·rename_i t' m' y hf
    obtain ⟨cs, v', h1, h2, h3⟩ := v_field hx hf
    refine S_ok hI hd hk (by simp only [execOp, ho] <;> rfl) ?_ h3 trivial rfl
    rw [h1, hv]
    exact index_run ((hT _).1 _ ht).1 ((hT _).1 _ ht).2.2 hg.1 hg.2 hf kd h2
   ·cases hk
  ·cases h
 ·split at h
  ·rename_i s
   obtain ⟨hstr, h⟩ := guardB_some h
   obtain ⟨ai, h, hi, _, _⟩ := opd_sound hI h
   obtain ⟨kd, n, h, hv⟩ := asInt_sound h hi
   obtain ⟨hin, hk⟩ := guardB_some h
   refine S_ok hI hd hk (by simp only [execOp, ho] <;> rfl) ?_ (VR_of_int _ _) trivial rfl
   rw [hv]
   exact index_str_run ((hT _).2.1 hstr) kd hin
  ·cases h

theorem step_slice (hT : TabOK P T) (hI : Inv w0 mu st.get (Vals a) U w g) (hd : DstOK mu o a) {t : TypeId} {x : Operand} {lo hi mx : Option Operand} (ho : o.op = .slice t x lo hi mx) (h : step T Φ o st K = some r) : StepS P U o a w g st K r := by
 unfold step at h; rw [ho] at h; simp only at h
 split at h
 ·rename_i ty ht
  obtain ⟨ax, h, hx, _, _⟩ := opd_sound hI h
  obtain ⟨av, v, hk, h1, h2, h3, h4⟩ := sliceD_sound hT hI ht h hx
  exact S_ok hI hd hk (by simp only [execOp, ho] <;> rfl) h1 h2 h3 h4
 ·cases h

theorem opds_sound (hI : Inv w0 mu st.get (Vals a) U w g) : ∀ (l : List Operand) {k : List AV → Option R} {r : R}, opds st l k = some r →
  ∃ avs, k avs = some r ∧ avs.length = l.length ∧ ∀ i, i < l.length → ∀ x, l[i]? = some x → VR w g st.get (avs.getD i .dead) (a.eval x) ∧ stampOK U (avs.getD i .dead) ∧ isOw (avs.getD i .dead) = false := by
 intro l
 induction l with
 | nil => intro k r h; exact ⟨[], h, rfl, fun i hi => absurd hi (Nat.not_lt_zero i)⟩
 | cons x l ih =>
  intro k r h
  obtain ⟨av, h, hv, hst, how⟩ := opd_sound hI h
  obtain ⟨avs, h, hl, hr⟩ := ih h
  refine ⟨av :: avs, h, by simp [hl], fun i hi y hy => ?_⟩
  cases i with
  | zero => simp at hy; subst hy; exact ⟨hv, hst, how⟩
  | succ i => simp only [List.getElem?_cons_succ] at hy; simpa using hr i (by simpa using hi) y hy


theorem VR_notClo {av : AV} {v : Value} (h : VR w g st.get av v) (hn : notClo av = true) : VR0 w g st.get av v := by
 cases av <;> first | exact h | cases hn
theorem stamp_notClo {av : AV} (h : stampOK U av) (hn : notClo av = true) : stampOK0 U av := by
 cases av <;> first | exact h | cases hn

theorem step_makeFunc (hI : Inv w0 mu st.get (Vals a) U w g) (hd : DstOK mu o a) {first caps : Array Operand} {f : Fn} (ho : o.op = .makeFunc f first caps) (h : step T Φ o st K = some r) : StepS P U o a w g st K r := by
 unfold step at h; rw [ho] at h
 cases f with
 | func f =>
  simp only at h
  split at h
  ·rename_i hf
   obtain ⟨avs, h, hl, hr⟩ := opds_sound hI caps.toList h
   obtain ⟨hg, h⟩ := guardB_some h
   rw [List.all_eq_true] at hg
   have hfirst : first = #[] := by simpa using hf
   have hget : ∀ i, i < avs.length → avs.getD i .dead ∈ avs := fun i hi => by
    rw [List.getD_eq_getElem?_getD, List.getElem?_eq_getElem hi]; exact List.getElem_mem hi
   refine S_ok (v := .func (.func f) #[] (caps.map a.eval)) hI hd h (by simp only [execOp, ho] <;> rfl) ?_ ⟨_, rfl, by simp [hl], fun i hi => ?_⟩ ?_ rfl
   ·rw [hfirst]; simp [Instr.makeFunc]
   ·have hi' : i < caps.toList.length := by omega
    obtain ⟨h1, _, _⟩ := hr i hi' (caps.toList[i]) (by simp [hi'])
    have hi2 : i < caps.size := by simpa using hi'
    have : (caps.map a.eval).getD i undef = a.eval (caps.toList[i]) := by
     simp [Array.getD_eq_getD_getElem?, hi2]
    rw [this]
    exact VR_notClo h1 (hg _ (hget i hi))
   ·intro av hav
    obtain ⟨i, hi, rfl⟩ := List.getElem_of_mem hav
    have hi' : i < caps.toList.length := by omega
    obtain ⟨_, h1, _⟩ := hr i hi' (caps.toList[i]) (by simp [hi'])
    rw [List.getD_eq_getElem?_getD, List.getElem?_eq_getElem hi] at h1
    exact stamp_notClo h1 (hg _ hav)
  ·cases h
 | _ => cases h

end
end Go.Ab
