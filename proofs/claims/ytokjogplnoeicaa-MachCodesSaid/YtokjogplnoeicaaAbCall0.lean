/- Built-in functions of numbers and lengths; constants. -/
import Derived.Test.YtokjogplnoeicaaAbBox
namespace Go.Ab

section
variable {P : Program} {T : Tab} {Φ : Nat → Option Contract} {w0 w : World} {mu : Mu} {st : St} {a : Act} {g : Gh} {R : Type} {o : Oper} {K : AV → St → Option R} {r : R} {val : Nat → Value} {U : Nat → Prop}

theorem toList_one {α : Type} {x : Array α} {y : α} (h : x.toList = [y]) : x = #[y] := by
 cases x; simp at h; subst h; rfl
theorem toList_two {α : Type} {x : Array α} {y z : α} (h : x.toList = [y, z]) : x = #[y, z] := by
 cases x; simp at h; subst h; rfl

theorem exec_builtin {ρ : Operand → Value} {c : Call} {b : Builtin} (ho : o.op = .call c) (hc : c.callee = .builtin b) :
  ∃ cs, execOp ρ o = builtin b c.argTypes o.type cs (c.args.map ρ) := by
 refine ⟨c.args.map fun | .const _ => true | _ => false, ?_⟩
 simp only [execOp, ho, resolve, hc, pure_bind, invoke]
 rfl

theorem toList_three {α : Type} {x : Array α} {y z u : α} (h : x.toList = [y, z, u]) : x = #[y, z, u] := by
 cases x; simp at h; subst h; rfl

theorem step_len (hT : TabOK P T) (hI : Inv w0 mu st.get (Vals a) U w g) (hd : DstOK mu o a) {c : Call} (ho : o.op = .call c) (hc : c.callee = .builtin .len) (h : step T Φ o st K = some r) : StepS P U o a w g st K r := by
 unfold step at h; rw [ho] at h; simp only [hc] at h
 split at h
 ·rename_i x hx
  split at h
  ·rename_i t ht
   split at h
   ·rename_i ty hty
    obtain ⟨av, h, hv, _, _⟩ := opd_sound hI h
    obtain ⟨cs, he⟩ := exec_builtin (ρ := a.eval) ho hc
    obtain ⟨n, hk, h1⟩ := lenD_sound hT hI hty h hv o.type
    refine S_ok (s := Builtin.len_ c.argTypes o.type (c.args.map a.eval)) hI hd hk (by rw [he]; rfl) (v := .int .i64 n) ?_ (VR_of_int _ _) trivial rfl
    rw [toList_one hx, toList_one ht]
    simpa using h1
   ·cases h
  ·cases h
 ·cases h

theorem step_min (hI : Inv w0 mu st.get (Vals a) U w g) (hd : DstOK mu o a) {c : Call} (ho : o.op = .call c) (hc : c.callee = .builtin .min) (h : step T Φ o st K = some r) : StepS P U o a w g st K r := by
 unfold step at h; rw [ho] at h; simp only [hc] at h
 split at h
 ·rename_i x y hx
  obtain ⟨ax, h, hvx, _, _⟩ := opd_sound hI h
  obtain ⟨ay, h, hvy, _, _⟩ := opd_sound hI h
  obtain ⟨k, n, h, h1⟩ := asInt_sound h hvx
  obtain ⟨k', n', h, h2⟩ := asInt_sound h hvy
  obtain ⟨cs, he⟩ := exec_builtin (ρ := a.eval) ho hc
  refine S_ok (s := Builtin.min_ c.argTypes o.type (c.args.map a.eval)) hI hd h (by rw [he]; rfl) (v := .int k (if n' < n then n' else n)) ?_ (VR_of_int _ _) trivial rfl
  rw [toList_two hx]
  simp only [List.map_toArray, List.map_cons, List.map_nil, h1, h2]
  exact run_min_int2 w _ _ _ _ _ _
 ·rename_i x y z hx
  obtain ⟨ax, h, hvx, _, _⟩ := opd_sound hI h
  obtain ⟨ay, h, hvy, _, _⟩ := opd_sound hI h
  obtain ⟨az, h, hvz, _, _⟩ := opd_sound hI h
  obtain ⟨k, n, h, h1⟩ := asInt_sound h hvx
  obtain ⟨k', n', h, h2⟩ := asInt_sound h hvy
  obtain ⟨k2, n2, h, h3⟩ := asInt_sound h hvz
  obtain ⟨cs, he⟩ := exec_builtin (ρ := a.eval) ho hc
  refine S_ok (s := Builtin.min_ c.argTypes o.type (c.args.map a.eval)) hI hd h (by rw [he]; rfl) (v := .int k (if n2 < (if n' < n then n' else n) then n2 else (if n' < n then n' else n))) ?_ (VR_of_int _ _) trivial rfl
  rw [toList_three hx]
  simp only [List.map_toArray, List.map_cons, List.map_nil, h1, h2, h3]
  simp [Builtin.min_, Builtin.min2]
 ·cases h
theorem step_max (hI : Inv w0 mu st.get (Vals a) U w g) (hd : DstOK mu o a) {c : Call} (ho : o.op = .call c) (hc : c.callee = .builtin .max) (h : step T Φ o st K = some r) : StepS P U o a w g st K r := by
 unfold step at h; rw [ho] at h; simp only [hc] at h
 split at h
 ·rename_i x y hx
  obtain ⟨ax, h, hvx, _, _⟩ := opd_sound hI h
  obtain ⟨ay, h, hvy, _, _⟩ := opd_sound hI h
  obtain ⟨k, n, h, h1⟩ := asInt_sound h hvx
  obtain ⟨k', n', h, h2⟩ := asInt_sound h hvy
  obtain ⟨cs, he⟩ := exec_builtin (ρ := a.eval) ho hc
  refine S_ok (s := Builtin.max_ c.argTypes o.type (c.args.map a.eval)) hI hd h (by rw [he]; rfl) (v := .int k (if n' > n then n' else n)) ?_ (VR_of_int _ _) trivial rfl
  rw [toList_two hx]
  simp only [List.map_toArray, List.map_cons, List.map_nil, h1, h2]
  exact run_max_int2 w _ _ _ _ _ _
 ·rename_i x y z hx
  obtain ⟨ax, h, hvx, _, _⟩ := opd_sound hI h
  obtain ⟨ay, h, hvy, _, _⟩ := opd_sound hI h
  obtain ⟨az, h, hvz, _, _⟩ := opd_sound hI h
  obtain ⟨k, n, h, h1⟩ := asInt_sound h hvx
  obtain ⟨k', n', h, h2⟩ := asInt_sound h hvy
  obtain ⟨k2, n2, h, h3⟩ := asInt_sound h hvz
  obtain ⟨cs, he⟩ := exec_builtin (ρ := a.eval) ho hc
  refine S_ok (s := Builtin.max_ c.argTypes o.type (c.args.map a.eval)) hI hd h (by rw [he]; rfl) (v := .int k (if n2 > (if n' > n then n' else n) then n2 else (if n' > n then n' else n))) ?_ (VR_of_int _ _) trivial rfl
  rw [toList_three hx]
  simp only [List.map_toArray, List.map_cons, List.map_nil, h1, h2, h3]
  simp [Builtin.max_, Builtin.max2]
 ·cases h

/-- a constant is assigned -/
theorem step_assign_const (hU : New U st.c) (hI : Inv w0 mu st.get (Vals a) U w g) (hd : DstOK mu o a) {x : Operand} (hx : ∀ t, x ≠ .tmp t) (ho : o.op = .assign x) (h : step T Φ o st K = some r) : StepOK P w0 mu (Nw U st.c) o a w K r := by
 cases hnm : nilMap x with
 | true =>
  have hxe : x = .const (.map none) := by
   unfold nilMap at hnm
   split at hnm
   ·rfl
   ·cases hnm
  subst hxe
  unfold step at h; rw [ho] at h
  simp only [nilMap] at h
  split at h
  ·rename_i k e hty
   exact (S_ok (s := pure (.map none)) (v := .map none) hI hd h (by simp [execOp, ho, Act.eval]) (by simp) ⟨rfl, rfl, by
    simp only [RR, Md.isOwn, RO]
    exact ⟨none, rfl, trivial⟩⟩ trivial rfl).ok hI hd
  ·cases h
 | false =>
 have h' : (opd st x fun a => match a with
  | .nilS => match T.ty o.type with
   | some (.sl e) => made st (.sl e) (T.md o.type) [] (ownK o K)
   | _ => none
  | a => K a st) = some r := by
  unfold step at h; rw [ho] at h
  cases x <;> first | exact absurd rfl (hx _) | (simp only [hnm] at h; exact h)
 clear h
 obtain ⟨av, h, hv, hst, how⟩ := opd_sound hI h'
 split at h
 ·split at h
  ·rename_i e ht
   have rfl' : a.eval x = .slice none 0 0 := hv
   unfold made at h
   split at h
   ·rename_i hm
    obtain ⟨d, hdst, hK⟩ := ownK_some h
    obtain ⟨h1, h2⟩ := hd d hdst
    refine ⟨_, _, hK, fun next Q hn => M_done hdst h1 (w' := w) (v := .slice none 0 0) (by simp [execOp, ho, rfl']) ((loose_nil hI d [] e (T.md o.type)).put hU hI h2) hn⟩
   ·rename_i hm
    obtain ⟨d, hdst, hK⟩ := ownK_some h
    exact (S_ok (s := pure (a.eval x)) (v := .slice none 0 0) hI hd hK (by simp [execOp, ho]) (by simp [rfl']) (VR_nil hm) trivial rfl).ok hI hd
  ·cases h
 ·exact (S_ok (s := pure (a.eval x)) hI hd h (by simp [execOp, ho]) (by simp) hv hst how).ok hI hd
end
end Go.Ab
