/- Operations that leave memory as it is: places of elements, parts of slices. -/
import Derived.Test.YtmndifhjmbiodaaAbStepS
namespace Go.Ab

section
variable {P : Program} {w0 w : World} {mu : Mu} {st : St} {a : Act} {g : Gh} {R : Type} {U : Nat → Prop}

theorem inb_some {i : Int} {n : Nat} (h : inb i n = true) : 0 ≤ i ∧ i < n ∧ i.toNat < n := by
  simp only [inb, Bool.and_eq_true, decide_eq_true_eq] at h
  exact ⟨h.1, h.2, by omega⟩

theorem indexAt_slice_run {e : Ty} {t : TypeId} (hT : TM P (.sl e) t) {blk off len cap : Nat} {kd : IntKind} {i : Int} (h : inb i len = true) :
    (Instr.indexAt t (.slice (some ⟨blk, off, none⟩) len cap) (.int kd i)).run P w = .ok (.pointer (some ⟨blk, off + i.toNat * sz e, none⟩)) w := by
  obtain ⟨te, h1, h2, _⟩ := hT
  obtain ⟨h3, h4, _⟩ := inb_some h
  have hs := TM_sizeOf h2 w
  simp [Instr.indexAt, run_underlying h1, asIntOf, h3, h4, hs, addr_add]

theorem indexAt_array_run {ty : Ty} {t : TypeId} (hT : TM P ty t) {arr : Bool} (ha : ∀ fs, P.underlying t = some (.struct fs) → arr = false) (harr : arr = true) {m : Md} {i : Int} (hi : 0 ≤ i) {x : den ty} {tv : TV} (hf : fieldOf ty m x i.toNat = some tv) (kd : IntKind) (b o : Nat) :
    (Instr.indexAt t (.pointer (some ⟨b, o, none⟩)) (.int kd i)).run P w = .ok (.pointer (some ⟨b, o + i.toNat, none⟩)) w := by
  obtain ⟨h1, h2, h3⟩ := TM_field hT hf
  rcases h3 with ⟨fs, f, h4, h5, h6, h7⟩ | ⟨te, h4, _, h7⟩
  · rw [ha _ h4] at harr; cases harr
  · have hs := TM_sizeOf h7 w
    rw [sz_cell h1] at hs
    have : i < (sz ty : Int) := by omega
    simp [Instr.indexAt, run_underlying h4, asIntOf, Instr.sureAddr, hi, this, hs, addr_add]

/-- the place of an element of an owned slice -/
theorem pl_el (hI : Inv w0 mu st.get (Vals a) U w g) {s n : Nat} {p : List Stp} {o : Own} (ho : own? (st.get s) n = some o) (hok : o.ok p) {e : Ty} {m : Md} {x : List (den e)} (hat : o.at p = some ⟨.sl e, m, x⟩) (hm : m.isOwn = true)
    {i : Nat} (hi : i < x.length) : ∃ blk off cap, g.H s p = .slice (some ⟨blk, off, none⟩) x.length cap ∧ VR w g st.get (.pl s n (p ++ [.el i])) (.pointer (some ⟨blk, off + i * sz e, none⟩)) := by
  obtain ⟨ad, cap, h1, h2⟩ := alias_node hI ho hok hat hm
  simp only [RR, hm] at h2
  obtain ⟨ad', cap', h3, h4, h5, h6, h7⟩ := h2
  rw [h1] at h4
  simp only [Value.slice.injEq] at h4
  obtain ⟨rfl, _, rfl⟩ := h4
  cases ad with
  | none => obtain ⟨hx, _⟩ := h7; subst hx; simp at hi
  | some ad =>
    obtain ⟨blk, off, sp⟩ := ad
    obtain ⟨h8, h9, h10, h11⟩ := h7
    simp only at h8
    subst h8
    obtain ⟨h12, _⟩ := h11 i hi
    refine ⟨blk, off, cap, h1, fun o' ho' => ?_⟩
    have := own_same ho' ho
    subst this
    refine ⟨by rw [h12], Own.ok_app hok hat ⟨hm, hi, trivial⟩, ?_⟩
    by_cases hb : o.box = true
    · exact .inl hb
    · exact .inr ⟨i, by simp⟩

/-- the place of an element of what is only read -/
theorem rop_el {e : Ty} {m : Md} {x : List (den e)} {v : Value} (hv : VR w g st.get (.v (.sl e) m x) v) {i : Nat} (hi : i < x.length) :
    ∃ blk off cap, v = .slice (some ⟨blk, off, none⟩) x.length cap ∧ VR w g st.get (.rop e m.el (x.getD i (dflt e))) (.pointer (some ⟨blk, off + i * sz e, none⟩)) := by
  obtain ⟨hm, hs, hr⟩ := hv
  have hmo := isOwn_hasOwn hm
  simp only [RR, hmo, RO] at hr
  obtain ⟨⟨ad, cap, h1, h2, h3⟩, _⟩ := hr
  rw [shape_cell rfl hs] at h1
  simp only [rdS] at h1
  have hv : v = .slice ad x.length cap := by simpa using h1
  cases ad with
  | none => obtain ⟨hx, _⟩ := h3; subst hx; simp at hi
  | some ad =>
    obtain ⟨blk, off, sp⟩ := ad
    obtain ⟨h4, h5, h6, h7⟩ := h3.resolve_left (by intro h; omega)
    simp only at h4 h5 h6 h7
    subst h4
    exact ⟨blk, off, cap, hv, m.lent?, false, el_bor hmo, ⟨blk, off + i * sz e, none⟩, rfl, rfl, h5, h6, h7 i hi, fun h => by cases h⟩

theorem indexD_sound {T : Tab} (hT : TabOK P T) (hI : Inv w0 mu st.get (Vals a) U w g) {t : TypeId} {ty : Ty} (ht : T.ty t = some ty) {av : AV} {v : Value} {kd : IntKind} {i : Int} {k : AV → Option R} {r : R} (h : indexD (T.arr t) st ty av i k = some r)
    (hv : VR w g st.get av v) : ∃ av' v', k av' = some r ∧ (Instr.indexAt t v (.int kd i)).run P w = .ok v' w ∧ VR w g st.get av' v' ∧ stampOK U av' ∧ isOw av' = false := by
  obtain ⟨hTM, _, ha⟩ := (hT _).1 _ ht
  unfold indexD at h
  split at h
  · rename_i e m x
    obtain ⟨hty, hk⟩ := sameTy_some h
    clear h
    subst hty
    obtain ⟨hi, hk⟩ := guardB_some hk
    obtain ⟨blk, off, cap, rfl, h1⟩ := rop_el hv (inb_some hi).2.2
    exact ⟨_, _, hk, indexAt_slice_run hTM hi, h1, trivial, rfl⟩
  · rename_i s n p
    split at h
    · rename_i o ho
      obtain ⟨e, m, x, hat, hm, h⟩ := Own.sl_some h
      obtain ⟨hty, hk⟩ := sameTy_some h
      clear h
      subst hty
      obtain ⟨hi, hk⟩ := guardB_some hk
      obtain ⟨h1, hok⟩ := hv o ho
      obtain ⟨blk, off, cap, h2, h3⟩ := pl_el hI ho hok hat hm (inb_some hi).2.2
      refine ⟨_, _, hk, ?_, h3, own_stamp hI ho, rfl⟩
      rw [h1, h2]
      exact indexAt_slice_run hTM hi
    · cases h
  · rename_i s n p lo len cp
    split at h
    · rename_i o ho
      obtain ⟨e, m, x, hat, hm, h⟩ := Own.sl_some h
      obtain ⟨hty, hk⟩ := sameTy_some h
      clear h
      subst hty
      obtain ⟨hi, hk⟩ := guardB_some hk
      obtain ⟨hok, e', m', x', ad, c, M, h1, h2, h3, h4, h5, h6, h7⟩ := hv o ho
      rw [hat] at h1
      simp only [Option.some.injEq, TV.mk.injEq, Ty.sl.injEq] at h1
      obtain ⟨rfl, rfl, h1⟩ := h1
      have h1 := eq_of_heq h1
      subst h1
      have hlen : ((x.drop lo).take len).length = len := by simp; omega
      rw [hlen] at hi
      obtain ⟨hi0, hi1, hi2⟩ := inb_some hi
      obtain ⟨blk, off, cap, h8, h9⟩ := pl_el hI ho hok hat hm (i := lo + i.toNat) (by omega)
      rw [h2] at h8
      simp only [Value.slice.injEq] at h8
      obtain ⟨rfl, _, rfl⟩ := h8
      refine ⟨_, _, hk, ?_, h9, own_stamp hI ho, rfl⟩
      have hM : M ≠ lo := by omega
      rw [h7]
      simp only [hM, if_false, Option.map_some, addr_add]
      rw [indexAt_slice_run hTM hi, Nat.add_mul, Nat.add_assoc]
    · cases h
  · rename_i s n p
    obtain ⟨hg, h⟩ := guardB_some h
    simp only [Bool.and_eq_true, decide_eq_true_eq] at hg
    split at h
    · rename_i o ho
      split at h
      · rename_i t' m x hat
        obtain ⟨hty, hk⟩ := sameTy_some h
        clear h
        subst hty
        split at hk
        · rename_i tv hf
          obtain ⟨b, off, rfl, h1⟩ := pl_field hI ho hv hat hf
          exact ⟨_, _, hk, indexAt_array_run hTM ha hg.1 hg.2 hf kd b off, h1, ownP_stamp hI ho, rfl⟩
        · cases hk
      · cases h
    · cases h
  · rename_i t' m x
    obtain ⟨hty, hk⟩ := sameTy_some h
    clear h
    subst hty
    obtain ⟨hg, hk⟩ := guardB_some hk
    simp only [Bool.and_eq_true, decide_eq_true_eq] at hg
    split at hk
    · rename_i t1 m1 y hf
      obtain ⟨b, off, rfl, h1⟩ := rop_field hv hf
      exact ⟨_, _, hk, indexAt_array_run hTM ha hg.1 hg.2 hf kd b off, h1, trivial, rfl⟩
    · cases hk
  · cases h
end
end Go.Ab
