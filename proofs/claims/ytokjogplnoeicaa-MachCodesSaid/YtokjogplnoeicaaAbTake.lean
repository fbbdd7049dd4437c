/- Reading and taking values. -/
import Derived.Test.YtokjogplnoeicaaAbInv
namespace Go.Ab

theorem own?_ow {a : AV} {n : Nat} {o : Own} (h : own? a n = some o) : (o.box = false ∧ a = .ow n o.t o.m o.x) ∨ (o.box = true ∧ ∃ n1, a = .box n1 n o.t o.m o.x) := by
 cases a with
 | ow n' t m x =>
  simp only [own?] at h
  cases hb : Nat.beq n n' with
  | true => rw [hb] at h; simp only [Option.some.injEq] at h; subst h; have := Nat.eq_of_beq_eq_true hb; subst this; exact .inl ⟨rfl, rfl⟩
  | false => rw [hb] at h; cases h
 | box n1 n' t m x =>
  simp only [own?] at h
  cases hb : Nat.beq n n' with
  | true => rw [hb] at h; simp only [Option.some.injEq] at h; subst h; have := Nat.eq_of_beq_eq_true hb; subst this; exact .inr ⟨rfl, n1, rfl⟩
  | false => rw [hb] at h; cases h
 | _ => cases h

/-- an owner behind a pointer -/
theorem ownP?_ow {a : AV} {n : Nat} {p : List Stp} {o : Own} (h : ownP? a n p = some o) : (o.box = false ∧ a = .ow n o.t o.m o.x) ∨ (o.box = true ∧ ∃ n1 n2, a = .box n1 n2 o.t o.m o.x) := by
 cases a with
 | ow n' t m x =>
  simp only [ownP?] at h
  cases hb : Nat.beq n n' with
  | true => rw [hb] at h; simp only [Option.some.injEq] at h; subst h; have := Nat.eq_of_beq_eq_true hb; subst this; exact .inl ⟨rfl, rfl⟩
  | false => rw [hb] at h; cases h
 | box n1 n' t m x =>
  simp only [ownP?] at h
  split at h
  ·simp only [Option.some.injEq] at h; subst h; exact .inr ⟨rfl, n1, n', rfl⟩
  ·cases h
 | _ => cases h

/-- the node at a path of an owner -/
theorem owner_node {w : World} {g : Gh} {av : Nat → AV} {s : Nat} {a : AV} {v : Value} {o : Own} {p : List Stp} {tv : TV} (h : SlotR w g av s a v)
  (ha : (o.box = false ∧ ∃ n, a = .ow n o.t o.m o.x) ∨ (o.box = true ∧ ∃ n1 n2, a = .box n1 n2 o.t o.m o.x)) (hok : o.ok p) (hat : o.at p = some tv) :
  ∃ src k, RR w g s tv.t tv.m p src k tv.x ∧ (isCell tv.t = false → k = 0) ∧ (∀ b off, src = .mem b off → g.A s p = (b, off + k)) ∧ (o.mem p → ∃ b off, src = .mem b off) := by
 obtain ⟨ob, ot, om, ox⟩ := o
 rcases ha with ⟨hb, n, rfl⟩ | ⟨hb, n1, n2, rfl⟩
 ·simp only at hb; subst hb
  obtain ⟨h1, h2⟩ := h
  have hw : walkP p ot om ox = some tv := by
   cases p with
   | nil => simpa [Own.at] using hat
   | cons c p => cases c <;> simp [Own.at] at hat ⊢ <;> exact hat
  have hok' : okP p ot om ox := by
   cases p with
   | nil => trivial
   | cons c p => cases c <;> simpa [Own.ok] using hok
  obtain ⟨src, k, h3, h4, h5, _, h6⟩ := RR_at p ot om [] _ 0 ox tv h2 (fun _ => rfl) hok' hw (fun _ _ h => by cases h)
  refine ⟨src, k, by simpa using h3, h4, by simpa using h5, fun hm => h6 (.inr ?_)⟩
  rcases hm with hm | hm
  ·cases hm
  ·exact hm
 ·simp only at hb; subst hb
  obtain ⟨b, c, el, h1, h2, h3, h4, h5, h6⟩ := h
  cases p with
  | nil => simp [Own.ok] at hok
  | cons q p =>
   cases q with
   | dr =>
    have hw : walkP p ot om ox = some tv := by simpa [Own.at] using hat
    have hok' : okP p ot om ox := by simpa [Own.ok] using hok
    obtain ⟨src, k, h7, h8, h9, _, h10⟩ := RR_at p ot om [.dr] _ 0 ox tv h6 (fun _ => rfl) hok' hw (fun b' off hb' => by cases hb'; simpa using h5)
    exact ⟨src, k, by simpa using h7, h8, by simpa using h9, fun _ => h10 (.inl ⟨_, _, rfl⟩)⟩
   | fld n => simp [Own.ok] at hok
   | el i => simp [Own.ok] at hok

theorem Own.sl_some {R : Type} {o : Own} {p : List Stp} {k : (e : Ty) → Md → List (den e) → Option R} {r : R} (h : o.sl p k = some r) :
  ∃ e m x, o.at p = some ⟨.sl e, m, x⟩ ∧ m.isOwn = true ∧ k e m x = some r := by
 unfold Own.sl at h
 split at h
 ·rename_i e m x hat
  cases hm : m.isOwn with
  | true => rw [hm] at h; exact ⟨e, m, x, hat, hm, h⟩
  | false => rw [hm] at h; cases h
 ·cases h

theorem Own.mp_some {R : Type} {o : Own} {p : List Stp} {f : (k e : Ty) → Md → List (den k × den e) → Option R} {r : R} (h : o.mp p f = some r) :
  ∃ k e m x, o.at p = some ⟨.mp k e, m, x⟩ ∧ m.isOwn = true ∧ f k e m x = some r := by
 unfold Own.mp at h
 split at h
 ·rename_i k e m x hat
  cases hm : m.isOwn with
  | true => rw [hm] at h; exact ⟨k, e, m, x, hat, hm, h⟩
  | false => rw [hm] at h; cases h
 ·cases h

/-- an owned map, as a value -/
theorem RR_own_map {w : World} {g : Gh} {s : Nat} {kt et : Ty} {m : Md} {p : List Stp} {src : Src} {k : Nat} {x : List (den kt × den et)} (h : RR w g s (.mp kt et) m p src k x) (hm : m.isOwn = true) (hnz : m.nz? = true) :
  ∃ b, g.H s p = .map (some b) ∧ RR w g s (.mp kt et) m p (.val (g.H s p).cells) 0 x := by
 simp only [RR, hm] at h
 obtain ⟨r, h1, h2, h3⟩ := h
 cases r with
 | none => exact absurd rfl (h2 hnz)
 | some b =>
  refine ⟨b, h3.1, ?_⟩
  simp only [RR, hm]
  exact ⟨some b, by rw [h3.1]; rfl, h2, h3⟩

/-- an owned slice, as a value -/
theorem RR_own_val {w : World} {g : Gh} {s : Nat} {e : Ty} {m : Md} {p : List Stp} {src : Src} {k : Nat} {x : List (den e)} (h : RR w g s (.sl e) m p src k x) (hm : m.isOwn = true) :
  ∃ a cap, g.H s p = .slice a x.length cap ∧ RR w g s (.sl e) m p (.val (g.H s p).cells) 0 x := by
 simp only [RR, hm] at h
 obtain ⟨a, cap, h1, h2, h3⟩ := h
 refine ⟨a, cap, h2, ?_⟩
 simp only [RR, hm]
 exact ⟨a, cap, by rw [h2]; rfl, h2, h3⟩

/-- weaker modes of what owns nothing -/
theorem RR_weak {w : World} {g : Gh} {s : Nat} : ∀ (t : Ty) (m m' : Md) (p : List Stp) (src : Src) (k : Nat) (x : den t), RR w g s t m p src k x → leM t k m m' = true → m.hasOwn = false → m'.hasOwn = false →
  RR w g s t m' p src k x := by
 intro t
 induction t with
 | int kd => intro m m' p src k x h _ _ _; exact h
 | bool => intro m m' p src k x h _ _ _; exact h
 | unit => intros; trivial
 | mp kt et _ _ =>
  intro m m' p src k x h hl hm hm'
  have h1 := isOwn_hasOwn hm
  have h2 := isOwn_hasOwn hm'
  simp only [leM, Bool.and_eq_true] at hl
  simp only [RR, h1, h2] at h ⊢
  have hb : bimp m.lent? m'.lent? = true := by
   cases m' with
   | bor l nz => simpa [Md.fits, h1, Md.lent?] using hl.1
   | own => cases h2
   | pair => simp [Md.fits] at hl
  exact RO_conv hb (Nat.le_refl _) (fun b _ hs => ⟨rfl, shared_imp hs hb⟩) (.mp kt et) _ _ _ _ h (fun _ _ => rfl)
 | bx e _ =>
  intro m m' p src k x h hl hm hm'
  have h1 := isOwn_hasOwn hm
  have h2 := isOwn_hasOwn hm'
  simp only [leM, Bool.and_eq_true] at hl
  simp only [RR, h1, h2] at h ⊢
  have hb : bimp m.lent? m'.lent? = true := by
   cases m' with
   | bor l nz => simpa [Md.fits, h1, Md.lent?] using hl.1
   | own => cases h2
   | pair => simp [Md.fits] at hl
  exact RO_conv hb (Nat.le_refl _) (fun b _ hs => ⟨rfl, shared_imp hs hb⟩) (.bx e) _ _ _ _ h (fun _ _ => rfl)
 | pair a b iha ihb =>
  intro m m' p src k x h hl hm hm'
  simp only [RR, leM, Bool.and_eq_true] at *
  obtain ⟨hc, hcb, ha, h1, h2⟩ := h
  exact ⟨hc, hcb, ha, iha _ _ _ _ _ _ h1 (by rw [leM_cell hc k 0]; exact hl.1) (hasOwn_fld hm _) (hasOwn_fld hm' _), ihb _ _ _ _ _ _ h2 hl.2 hm hm'⟩
 | sl e ih =>
  intro m m' p src k x h hl hm hm'
  have h1 := isOwn_hasOwn hm
  have h2 := isOwn_hasOwn hm'
  simp only [leM, Bool.and_eq_true] at hl
  obtain ⟨⟨hl1, hl2⟩, _⟩ := hl
  simp only [RR, h1, h2] at h ⊢
  have hb : bimp m.lent? m'.lent? = true := by
   cases m' with
   | bor l nz => simpa [Md.fits, h1, Md.lent?] using hl1
   | own => cases h2
   | pair => simp [Md.fits] at hl1
  exact ⟨RO_conv hb (Nat.le_refl _) (fun b _ hs => ⟨rfl, shared_imp hs hb⟩) (.sl e) _ _ _ _ h.1 (fun _ _ => rfl), fun hz hx => h.2 (by cases hq : m.nz? <;> simp_all [bimp]) hx⟩

theorem RR_fieldA {w : World} {g : Gh} {s : Nat} {p : List Stp} {b off : Nat} : ∀ (t : Ty) (m : Md) (src : Src) (k : Nat) (x : den t), RR w g s t m p (.mem b off) k x → isCell t = false → ∀ n, k ≤ n → n < k + sz t →
  g.A s (p ++ [.fld n]) = (b, off + n) := by
 intro t
 induction t with
 | pair a c _ ihb =>
  intro m src k x h _ n hn hn'
  simp only [RR] at h
  obtain ⟨hc, hcb, ha, h1, h2⟩ := h
  have hsp : sz (.pair a c) = 1 + sz c := rfl
  by_cases hk : n = k
  ·subst hk; exact ha _ _ rfl
  ·exact ihb _ src _ _ h2 hcb n (by omega) (by omega)
 | unit => intro m src k x _ _ n hn hn'; simp [sz] at hn'; omega
 | _ => intro m src k x _ h; cases h

/-- what owns nothing, under another path -/
theorem RR_repath {w w' : World} {g g' : Gh} {s s' : Nat} (hsz : w.heap.size ≤ w'.heap.size)
  (hsh : ∀ b l0, b < w.heap.size → shared g.col l0 b → w'.heap[b]? = w.heap[b]? ∧ shared g'.col l0 b) :
  ∀ (t : Ty) (m : Md) (p p' : List Stp) (src src' : Src) (k : Nat) (x : den t), RR w g s t m p src k x → m.hasOwn = false →
   (isCell t = false → ∀ n b off, src' = .mem b off → k ≤ n → n < k + sz t → g'.A s' (p' ++ [.fld n]) = (b, off + n)) →
   (∀ j, j < sz t → rdS w' src' (k + j) = rdS w src (k + j)) → RR w' g' s' t m p' src' k x := by
 intro t
 induction t with
 | int kd => intro m p p' src src' k x h _ _ hr; simp only [RR] at *; have := hr 0 (by simp [sz]); simp at this; rw [this]; exact h
 | bool => intro m p p' src src' k x h _ _ hr; simp only [RR] at *; have := hr 0 (by simp [sz]); simp at this; rw [this]; exact h
 | unit => intros; trivial
 | mp kt et _ _ =>
  intro m p p' src src' k x h hm _ hr
  have hr0 := hr 0 (by simp [sz]); simp only [Nat.add_zero] at hr0
  have hmo := isOwn_hasOwn hm
  simp only [RR, hmo] at h ⊢
  exact RO_conv (l := m.lent?) (l' := m.lent?) (by cases m.lent? <;> rfl) hsz (fun b hb hs => hsh b _ hb hs) (.mp kt et) _ _ k x h hr
 | bx e _ =>
  intro m p p' src src' k x h hm _ hr
  have hr0 := hr 0 (by simp [sz]); simp only [Nat.add_zero] at hr0
  have hmo := isOwn_hasOwn hm
  simp only [RR, hmo] at h ⊢
  exact RO_conv (l := m.lent?) (l' := m.lent?) (by cases m.lent? <;> rfl) hsz (fun b hb hs => hsh b _ hb hs) (.bx e) _ _ k x h hr
 | pair a b iha ihb =>
  intro m p p' src src' k x h hm hA hr
  simp only [RR] at *
  obtain ⟨hc, hcb, ha, h1, h2⟩ := h
  have hsa := sz_cell hc
  have hsp : sz (.pair a b) = 1 + sz b := rfl
  have hm' := hasOwn_fld hm k
  refine ⟨hc, hcb, fun b' off hb' => hA rfl k b' off hb' (by omega) (by omega), ?_, ihb _ _ _ _ _ _ _ h2 hm (fun _ n b' off hb' hn hn' => hA rfl n b' off hb' (by omega) (by omega)) fun j hj => ?_⟩
  ·exact iha _ _ _ _ _ _ _ h1 hm' (fun hcc => by rw [hc] at hcc; cases hcc) (fun j hj => hr j (by omega))
  ·have := hr (j + 1) (by omega)
   rw [show k + 1 + j = k + (j + 1) by omega]; exact this
 | sl e ih =>
  intro m p p' src src' k x h hm _ hr
  have hr0 := hr 0 (by simp [sz]); simp only [Nat.add_zero] at hr0
  have hmo := isOwn_hasOwn hm
  simp only [RR, hmo] at h ⊢
  refine ⟨?_, fun hz hx => by obtain ⟨l, c, h1⟩ := h.2 hz hx; exact ⟨l, c, by rw [hr0]; exact h1⟩⟩
  exact RO_conv (l := m.lent?) (l' := m.lent?) (by cases m.lent? <;> rfl) hsz (fun b hb hs => hsh b _ hb hs) (.sl e) _ _ k x h.1 hr

theorem getD_sub {α : Type} (x : List α) (d : α) {lo len i : Nat} (h : lo + len ≤ x.length) (hi : i < len) : ((x.drop lo).take len).getD i d = x.getD (lo + i) d := by
 rw [List.getD_eq_getElem?_getD, List.getD_eq_getElem?_getD, List.getElem?_take_of_lt hi, List.getElem?_drop]

/-- a part of an owned slice, its elements not owned: under another header -/
theorem RR_sub {w : World} {g g1 : Gh} {s : Nat} {e : Ty} {nz : Bool} {me : Md} {p : List Stp} {src : Src} {k : Nat} {x : List (den e)} {a : Option Addr} {c lo len M : Nat} {v : Value}
  (h : RR w g s (.sl e) (.own nz me) p src k x) (hme : me.hasOwn = false) (hH : g.H s p = .slice a x.length c) (h1 : lo + len ≤ x.length) (h2 : lo + len ≤ M) (h3 : M ≤ c)
  (hv : v = .slice (if M = lo then a else a.map (·.add (lo * sz e))) len (M - lo)) (hcol : g1.col = g.col) (hH1 : g1.H s p = v)
  (hA1 : ∀ i r, g1.A s (p ++ .el i :: r) = g.A s (p ++ .el (lo + i) :: r)) :
  RR w g1 s (.sl e) (.own false me) p (.val v.cells) 0 ((x.drop lo).take len) := by
 have hlen : ((x.drop lo).take len).length = len := by simp; omega
 simp only [RR, Md.isOwn] at h ⊢
 obtain ⟨a', cap, h4, h5, h6, h7, h8⟩ := h
 rw [hH] at h5
 simp only [Value.slice.injEq] at h5
 obtain ⟨rfl, _, rfl⟩ := h5
 rw [hlen]
 refine ⟨_, M - lo, by rw [hH1, hv]; rfl, by rw [hH1, hv], by omega, (fun h => by cases h), ?_⟩
 cases a with
 | none =>
  obtain ⟨hx, hc⟩ := h8
  subst hx; subst hc
  have : M = 0 := by omega
  have : lo = 0 := by simp at h1; omega
  subst M; subst lo
  simp
 | some ad =>
  obtain ⟨h9, h10, ⟨cc, el, h11, h12⟩, h13⟩ := h8
  by_cases hM : M = lo
  ·have hl0 : len = 0 := by omega
   subst hl0
   simp only [hM, if_true]
   exact ⟨h9, by rw [hcol]; exact h10, ⟨cc, el, h11, by simp; omega⟩, fun i hi => absurd hi (Nat.not_lt_zero i)⟩
  ·simp only [hM, if_false, Option.map_some]
   have hb : (ad.add (lo * sz e)).block = ad.block := by unfold Addr.add; split <;> rfl
   have ho : (ad.add (lo * sz e)).off = ad.off + lo * sz e := by unfold Addr.add; split <;> simp_all
   have hs : (ad.add (lo * sz e)).spot = none := by unfold Addr.add; split <;> simp_all
   refine ⟨hs, by rw [hb, hcol]; exact h10, ⟨cc, el, by rw [hb]; exact h11, ?_⟩, fun i hi => ?_⟩
   ·rw [ho]
    have : lo * sz e + (M - lo) * sz e = M * sz e := by rw [← Nat.add_mul]; congr 1; omega
    have : M * sz e ≤ c * sz e := Nat.mul_le_mul_right _ h3
    omega
   ·obtain ⟨h14, h15⟩ := h13 (lo + i) (by omega)
    have hoff : ad.off + (lo + i) * sz e = ad.off + lo * sz e + i * sz e := by rw [Nat.add_mul]; omega
    rw [hoff] at h14 h15
    rw [hb, ho, getD_sub x _ h1 hi]
    refine ⟨by rw [hA1]; exact h14, RR_repath (Nat.le_refl _) (fun b l0 _ hs => ⟨rfl, by rw [hcol]; exact hs⟩) e me _ _ _ _ 0 _ h15 (by simpa [Md.el] using hme) ?_ (fun _ _ => rfl)⟩
    intro hce n b' off' hb' hn hn'
    cases hb'
    have := hA1 i [.fld n]
    simp only [List.append_assoc, List.cons_append, List.nil_append]
    rw [this]
    simpa using RR_fieldA e _ (.mem 0 0) 0 _ h15 hce n hn hn'

theorem shape_cell {t : Ty} {v : Value} (hc : isCell t = true) (h : shapeV t v) : v.cells = #[v] := by
 unfold shapeV at h; rw [hc] at h; exact h
theorem VR_int {w : World} {g : Gh} {av : Nat → AV} {kd : IntKind} {m : Md} {n : Int} {v : Value} (h : VR w g av (.v (.int kd) m n) v) : v = .int kd n := by
 obtain ⟨_, h1, h2⟩ := h
 rw [shape_cell rfl h1] at h2
 simpa [RR, rdS] using h2
theorem VR_bool {w : World} {g : Gh} {av : Nat → AV} {m : Md} {n : Bool} {v : Value} (h : VR w g av (.v .bool m n) v) : v = .bool n := by
 obtain ⟨_, h1, h2⟩ := h
 rw [shape_cell rfl h1] at h2
 simpa [RR, rdS] using h2
theorem VR_of_int {w : World} {g : Gh} {av : Nat → AV} (kd : IntKind) (n : Int) : VR w g av (.v (.int kd) (.bor false true) n) (.int kd n) :=
 ⟨rfl, rfl, rfl⟩
theorem VR_of_bool {w : World} {g : Gh} {av : Nat → AV} (n : Bool) : VR w g av (.v .bool (.bor false true) n) (.bool n) :=
 ⟨rfl, rfl, rfl⟩

section
variable {w0 w : World} {mu : Mu} {st : St} {val : Nat → Value} {g : Gh} {R : Type} {U : Nat → Prop}

/-- an owned slice behind an alias -/
theorem alias_node (hI : Inv w0 mu st.get val U w g) {s n : Nat} {p : List Stp} {o : Own} (ho : own? (st.get s) n = some o) (hok : o.ok p) {e : Ty} {m : Md} {x : List (den e)} (hat : o.at p = some ⟨.sl e, m, x⟩) (hm : m.isOwn = true) :
  ∃ a cap, g.H s p = .slice a x.length cap ∧ RR w g s (.sl e) m p (.val (g.H s p).cells) 0 x := by
 have ha := own?_ow ho
 obtain ⟨src, k, h1, _⟩ := owner_node (tv := ⟨.sl e, m, x⟩) (hI.slots s) (by rcases ha with ⟨h1, h2⟩ | ⟨h1, n1, h2⟩; exact .inl ⟨h1, n, h2⟩; exact .inr ⟨h1, n1, n, h2⟩) hok hat
 exact RR_own_val h1 hm

/-- an owned map behind an alias -/
theorem alias_map (hI : Inv w0 mu st.get val U w g) {s n : Nat} {p : List Stp} {o : Own} (ho : own? (st.get s) n = some o) (hok : o.ok p) {kt et : Ty} {m : Md} {x : List (den kt × den et)} (hat : o.at p = some ⟨.mp kt et, m, x⟩) (hm : m.isOwn = true) (hnz : m.nz? = true) :
  ∃ b, g.H s p = .map (some b) ∧ RR w g s (.mp kt et) m p (.val (g.H s p).cells) 0 x := by
 have ha := own?_ow ho
 obtain ⟨src, k, h1, _⟩ := owner_node (tv := ⟨.mp kt et, m, x⟩) (hI.slots s) (by rcases ha with ⟨h1, h2⟩ | ⟨h1, n1, h2⟩; exact .inl ⟨h1, n, h2⟩; exact .inr ⟨h1, n1, n, h2⟩) hok hat
 exact RR_own_map h1 hm hnz

theorem eqP_ok : ∀ {p q : List Stp}, eqP p q = true → p = q
 | [], [], _ => rfl
 | .dr :: p, .dr :: q, h => by rw [eqP_ok (p := p) (q := q) h]
 | .fld i :: p, .fld j :: q, h => by
  simp only [eqP, Bool.and_eq_true] at h
  rw [Nat.eq_of_beq_eq_true h.1, eqP_ok h.2]
 | .el i :: p, .el j :: q, h => by
  simp only [eqP, Bool.and_eq_true] at h
  rw [Nat.eq_of_beq_eq_true h.1, eqP_ok h.2]
 | [], _ :: _, h => by cases h
 | _ :: _, [], h => by simp [eqP] at h
 | .dr :: _, .fld _ :: _, h => by simp [eqP] at h
 | .dr :: _, .el _ :: _, h => by simp [eqP] at h
 | .fld _ :: _, .dr :: _, h => by simp [eqP] at h
 | .fld _ :: _, .el _ :: _, h => by simp [eqP] at h
 | .el _ :: _, .dr :: _, h => by simp [eqP] at h
 | .el _ :: _, .fld _ :: _, h => by simp [eqP] at h

/-- a box, as a value -/
theorem box_val {w : World} {g : Gh} {av : Nat → AV} {s n u : Nat} {t : Ty} {m : Md} {x : den t} {v : Value} (h : SlotR w g av s (.box n u t m x) v) (nz : Bool) : v.cells = #[v] ∧ RR w g s (.bx t) (.own nz m) [] (.val v.cells) 0 (some x) := by
 obtain ⟨b, c, el, rfl, h2, h3, h4, h5, h6⟩ := h
 refine ⟨rfl, ?_⟩
 simp only [RR, Md.isOwn, Md.el]
 exact ⟨some ⟨b, 0, none⟩, rfl, rfl, rfl, h2, ⟨c, el, h3, h4⟩, h5, h6⟩
theorem val_box {w : World} {g : Gh} {av : Nat → AV} {s n u : Nat} {t : Ty} {m : Md} {x : den t} {v : Value} (hc : v.cells = #[v]) (hm : m.isOwn = true) (h : RR w g s (.bx t) m [] (.val v.cells) 0 (some x)) : SlotR w g av s (.box n u t m.el x) v := by
 simp only [RR, hm] at h
 obtain ⟨r, h1, h2⟩ := h
 rw [hc] at h1
 simp only [rdS, List.getElem?_toArray, List.getElem?_cons_zero, Option.some.injEq] at h1
 cases r with
 | none => exact h2.elim
 | some ad =>
  obtain ⟨b, off, sp⟩ := ad
  obtain ⟨rfl, rfl, h5, ⟨c, el, h6, h7⟩, h8, h9⟩ := h2
  exact ⟨b, c, el, h1, h5, h6, h7, h8, h9⟩
theorem val_nilP {w : World} {g : Gh} {s : Nat} {t : Ty} {m : Md} {v : Value} (hc : v.cells = #[v]) (h : RR w g s (.bx t) m [] (.val v.cells) 0 none) : v = .pointer none := by
 cases hm : m.isOwn with
 | true =>
  simp only [RR, hm] at h
  obtain ⟨r, h1, h2⟩ := h
  rw [hc] at h1
  cases r with
  | none => simpa [rdS] using h1
  | some _ => exact h2.elim
 | false =>
  simp only [RR, hm, RO] at h
  obtain ⟨r, h1, h2⟩ := h
  rw [hc] at h1
  cases r with
  | none => simpa [rdS] using h1
  | some _ => exact h2.elim

theorem own_not_far (hI : Inv w0 mu st.get val U w g) {s n : Nat} {o : Own} (ho : own? (st.get s) n = some o) : ¬ mu.far s := by
 intro h; rw [hI.far s h] at ho; cases ho
theorem own_ne_lent (hI : Inv w0 mu st.get val U w g) {s n : Nat} {o : Own} (ho : own? (st.get s) n = some o) : s ≠ lentC.1 := by
 intro h; subst h; rw [hI.lent] at ho; cases ho

/-- ghosts under another header for slot s -/
def Gh.reslice (g : Gh) (s : Nat) (p : List Stp) (lo : Nat) (v : Value) : Gh where
 col := g.col
 H s' q := if s' = s ∧ q = p then v else g.H s' q
 A s' q := if s' = s then (match strip p q with | some (.el i :: r) => g.A s' (p ++ .el (lo + i) :: r) | _ => g.A s' q) else g.A s' q

theorem sub_node (hI : Inv w0 mu st.get val U w g) {s n : Nat} {p : List Stp} {lo len : Nat} {cp : Bool} {o : Own} {v : Value} (ho : own? (st.get s) n = some o)
  (hv : VR w g st.get (.sub s n p lo len cp) v) {e : Ty} {nz : Bool} {me : Md} {x : List (den e)} (hat : o.at p = some ⟨.sl e, .own nz me, x⟩) (hme : me.hasOwn = false) :
  RR w (g.reslice s p lo v) s (.sl e) (.own false me) p (.val v.cells) 0 ((x.drop lo).take len) ∧ v.cells = #[v] ∧ lo + len ≤ x.length := by
 obtain ⟨hok, e', m', x', a, c, M, h1, h2, h3, h4, h5, h6, h7⟩ := hv o ho
 rw [hat] at h1
 simp only [Option.some.injEq, TV.mk.injEq, Ty.sl.injEq] at h1
 obtain ⟨rfl, rfl, h1⟩ := h1
 have h1 := eq_of_heq h1
 subst h1
 obtain ⟨a', cap, h8, h9⟩ := alias_node hI ho hok hat rfl
 refine ⟨RR_sub h9 hme h2 h3 h4 h5 h7 rfl (by simp [Gh.reslice]) (fun i r => by simp [Gh.reslice, strip_app]), by rw [h7]; rfl, h3⟩

/-- what has something in it may be said not to be nil -/
theorem RR_nzOn {w : World} {g : Gh} {s : Nat} {e : Ty} {m : Md} {p : List Stp} {src : Src} {k : Nat} {x : List (den e)} (h : RR w g s (.sl e) m p src k x) (hm : m.isOwn = true) (hx : x ≠ []) : RR w g s (.sl e) m.nzOn p src k x := by
 cases m with
 | own nz me =>
  simp only [RR, Md.isOwn, Md.nzOn, Md.nz?, Md.el] at h ⊢
  obtain ⟨a, cap, h1, h2, h3, _, h5⟩ := h
  exact ⟨a, cap, h1, h2, h3, fun _ hn => absurd hn hx, h5⟩
 | bor => cases hm
 | pair => cases hm

theorem take_sound {a : AV} {t : Ty} {m : Md} {k : den t → St → Option R} {r : R} {v : Value} (h : take st a t m k = some r) (hI : Inv w0 mu st.get val U w g) (hv : VR w g st.get a v) :
  ∃ y st1, k y st1 = some r ∧
   ((st1 = st ∧ ((∃ m', a = .v t m' y ∧ leM t 0 m' m = true) ∨ (∃ e, ∃ ht : Ty.sl e = t, a = .nilS ∧ v = .slice none 0 0 ∧ y = (ht ▸ (show den (.sl e) from []) : den t)) ∨ (∃ e, ∃ ht : Ty.bx e = t, a = .nilP ∧ v = .pointer none ∧ y = (ht ▸ (show den (.bx e) from none) : den t)))) ∨
    (∃ s0 g1 m0 p0, ¬ mu.far s0 ∧ st1 = st.set s0 .dead ∧ g1.col = g.col ∧ (∀ s, s ≠ s0 → g1.H s = g.H s) ∧ (∀ s, s ≠ s0 → g1.A s = g.A s) ∧ shapeV t v ∧
     RR w g1 s0 t m0 p0 (.val v.cells) 0 y ∧ leM t 0 m0 m = true)) := by
 cases a with
 | v t' m' x =>
  simp only [take] at h
  split at h
  ·rename_i ht; subst ht
   split at h
   ·rename_i hl
    exact ⟨x, st, h, .inl ⟨rfl, .inl ⟨m', rfl, hl⟩⟩⟩
   ·cases h
  ·cases h
 | nilS =>
  cases t with
  | sl e => exact ⟨[], st, h, .inl ⟨rfl, .inr (.inl ⟨e, rfl, rfl, hv, rfl⟩)⟩⟩
  | _ => cases h
 | nilP =>
  cases t with
  | bx e => exact ⟨none, st, h, .inl ⟨rfl, .inr (.inr ⟨e, rfl, rfl, hv, rfl⟩)⟩⟩
  | _ => cases h
 | al s n p =>
  simp only [take] at h
  split at h
  ·rename_i o ho
   split at h
   ·obtain ⟨k1, e1, m', x, hat, hm', h⟩ := Own.mp_some h
    split at h
    ·rename_i ht; cases ht
     split at h
     ·rename_i hl
      simp only [Bool.and_eq_true] at hl
      obtain ⟨hv1, hok⟩ := hv o ho
      obtain ⟨b, h8, h9⟩ := alias_map hI ho hok hat hm' hl.1
      refine ⟨x, _, h, .inr ⟨s, g, m', p, own_not_far hI ho, rfl, rfl, fun _ _ => rfl, fun _ _ => rfl, ?_, by rw [hv1]; exact h9, hl.2⟩⟩
      rw [hv1, h8]; rfl
     ·cases h
    ·cases h
   ·obtain ⟨e, m', x, hat, hm', h⟩ := Own.sl_some h
    split at h
    ·rename_i ht; subst ht
     split at h
     ·rename_i hl
      obtain ⟨hv1, hok⟩ := hv o ho
      obtain ⟨a, cap, h8, h9⟩ := alias_node hI ho hok hat hm'
      refine ⟨x, _, h, .inr ⟨s, g, m', p, own_not_far hI ho, rfl, rfl, fun _ _ => rfl, fun _ _ => rfl, ?_, by rw [hv1]; exact h9, hl⟩⟩
      rw [hv1, h8]; rfl
     ·split at h
      ·rename_i hl
       obtain ⟨hne, h⟩ : x ≠ [] ∧ k x (st.set s .dead) = some r := by
        cases hq : List.isEmpty x with
        | true => rw [hq] at h; cases h
        | false => rw [hq] at h; exact ⟨fun e => (by rw [e] at hq; cases hq), h⟩
       obtain ⟨hv1, hok⟩ := hv o ho
       obtain ⟨a, cap, h8, h9⟩ := alias_node hI ho hok hat hm'
       refine ⟨x, _, h, .inr ⟨s, g, m'.nzOn, p, own_not_far hI ho, rfl, rfl, fun _ _ => rfl, fun _ _ => rfl, ?_, by rw [hv1]; exact RR_nzOn h9 hm' hne, hl⟩⟩
       rw [hv1, h8]; rfl
      ·cases h
    ·cases h
  ·cases h
 | pl s n p =>
  simp only [take] at h
  split at h
  ·rename_i n1 u t' m' x hq
   split at h
   ·rename_i hb
    simp only [Bool.and_eq_true] at hb
    have h1 := Nat.eq_of_beq_eq_true hb.1
    have h2 := eqP_ok hb.2
    subst h1; subst h2
    split at h
    ·rename_i ht; subst ht
     split at h
     ·rename_i hl
      have hs := hI.slots s
      rw [hq] at hs
      obtain ⟨hc, hr⟩ := box_val hs false
      obtain ⟨b, c, el, e1, e2, e3, e4, e5, e6⟩ := hs
      have hv1 := hv ⟨true, t', m', x⟩ (by rw [hq]; simp [ownP?, Nat.beq_refl, shallowD, shallow])
      rw [e5] at hv1
      have hvv : v = val s := by rw [hv1.1, e1]
      refine ⟨_, _, h, .inr ⟨s, g, .own false m', [], (fun hf => by rw [hI.far s hf] at hq; cases hq), rfl, rfl, fun _ _ => rfl, fun _ _ => rfl, ?_, by rw [hvv]; exact hr, hl⟩⟩
      rw [hvv]; exact hc
     ·cases h
    ·cases h
   ·cases h
  ·cases h
 | sub s n p lo len cp =>
  simp only [take] at h
  split at h
  ·rename_i o ho hnz
   obtain ⟨e, m', x, hat, hm', h⟩ := Own.sl_some h
   split at h
   ·rename_i ht; subst ht
    split at h
    ·rename_i hl
     simp only [Bool.and_eq_true, Bool.not_eq_true'] at hl
     cases m' with
     | own nz me =>
      obtain ⟨h9, h10, h11⟩ := sub_node hI ho hv hat (by simpa [Md.el] using hl.2)
      refine ⟨_, _, h, .inr ⟨s, g.reslice s p lo v, .own false me, p, own_not_far hI ho, rfl, rfl, ?_, ?_, ?_, h9, ?_⟩⟩
      ·intro s' hs'; funext q; simp [Gh.reslice, hs']
      ·intro s' hs'; funext q; simp [Gh.reslice, hs']
      ·exact h10
      ·have hl1 := hl.1
       simp only [leM, Bool.and_eq_true] at hl1 ⊢
       refine ⟨⟨?_, by rw [hnz]; rfl⟩, hl1.2⟩
       have := hl1.1.1
       cases m <;> simp_all [Md.fits, Md.isOwn]
     | bor => cases hm'
     | pair => cases hm'
    ·cases h
   ·cases h
  ·cases h
 | _ => cases h
end
end Go.Ab
