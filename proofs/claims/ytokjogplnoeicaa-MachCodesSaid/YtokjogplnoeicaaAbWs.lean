/- What an operation on memory writes, where that is simple. -/
import Derived.Test.YtokjogplnoeicaaAbFl
namespace Go.Ab

section
variable {T : Tab} {Φ : Nat → Option Contract} {st : St} {R : Type} {r : R}

theorem opd_some {x : Operand} {a : AV} (h : opd st x some = some a) {R : Type} (k : AV → Option R) : opd st x k = k a := by
 obtain ⟨a', h1, _, e⟩ := opd_fl h
 cases h1
 exact e k st fun _ _ => rfl

theorem opd_noApp {x : Operand} {a : AV} (h : opd st x some = some a) : appOp st x = false := by
 cases x with
 | tmp t =>
  simp only [opd] at h
  simp only [appOp]
  cases hq : st.get t with
  | app s n p e nz me zs => rw [hq] at h; cases h
  | ent s n p k y b => rw [hq] at h; cases h
  | _ => rfl
 | _ => rfl

theorem opd_nilMap {x : Operand} {a : AV} (h : opd st x some = some a) : nilMap x = false := by
 cases hn : nilMap x with
 | false => rfl
 | true =>
  unfold nilMap at hn
  split at hn
  ·cases h
  ·cases hn

/-- the continuation counts at the states alone that differ in a few slots -/
def KEq (st : St) (ws : List Nat) (K K1 : AV → St → Option R) : Prop := ∀ v s, (∀ u, u ∉ ws → s.get u = st.get u) → K v s = K1 v s

theorem KEq.own {ws : List Nat} {K K1 : AV → St → Option R} {o : Oper} (h : KEq st ws K K1) : KEq st ws (ownK o K) (ownK o K1) := fun v s hs => by
 unfold ownK
 cases o.dst with
 | none => rfl
 | some d => exact h v s hs
theorem KEq.same {ws : List Nat} {K K1 : AV → St → Option R} (h : KEq st ws K K1) (v : AV) : K v st = K1 v st := h v st fun _ _ => rfl

theorem take_free {a : AV} (hf : isFree a = true) {t : Ty} {m : Md} {k k1 : den t → St → Option R} (h : ∀ x, k x st = k1 x st) : take st a t m k = take st a t m k1 := by
 cases a with
 | v t' m' x =>
  simp only [take]
  split
  ·split
   ·exact h _
   ·rfl
  ·rfl
 | nilS =>
  cases t <;> first | exact h _ | rfl
 | rop t' m' x => rfl
 | _ => simp [isFree] at hf

theorem takeAny_free {a : AV} (hf : isFree a = true) {t : Ty} {k k1 : Md → den t → St → Option R} (h : ∀ m x, k m x st = k1 m x st) : takeAny st a t k = takeAny st a t k1 := by
 cases a with
 | v t' m' x =>
  simp only [takeAny]
  split
  ·exact h _ _
  ·rfl
 | nilS =>
  cases t <;> first | exact h _ _ | rfl
 | rop t' m' x => rfl
 | _ => simp [isFree] at hf

theorem partsS_free {e : Ty} {m : Md} : ∀ (ps : List (Nat × Operand)) (i : Nat) {k k1 : List (den e) → St → Option R}, (ps.all fun p => freeO st p.2) = true → (∀ x, k x st = k1 x st) → partsS e m i ps st k = partsS e m i ps st k1
 | [], _, _, _, _, h => h _
 | (j, x) :: r, i, k, k1, hf, h => by
  simp only [List.all_cons, Bool.and_eq_true] at hf
  obtain ⟨h1, h2⟩ := hf
  simp only [partsS]
  split
  ·unfold freeO at h1
   split at h1
   ·rename_i a ha
    rw [opd_some ha, opd_some ha]
    exact take_free h1 fun y => partsS_free r (i + 1) h2 fun ys => h _
   ·cases h1
  ·rfl

theorem takeRo_free {a : AV} (hf : isFree a = true) {t : Ty} {k k1 : Md → den t → St → Option R} (h : ∀ m x, k m x st = k1 m x st) : takeRo st a t k = takeRo st a t k1 := by
 cases a with
 | v t' m' x =>
  simp only [takeRo]
  split
  ·exact h _ _
  ·rfl
 | nilS => exact take_free (m := .bor false false) hf fun x => h _ x
 | rop t' m' x => rfl
 | _ => first | (simp [isFree] at hf; done) | exact take_free (m := .bor false false) hf fun x => h _ x
theorem partsF_free : ∀ (t : Ty) (i : Nat) (ps : List (Nat × Operand)) {k k1 : Md → den t → St → Option R}, (ps.all fun p => freeO st p.2) = true → (∀ m x, k m x st = k1 m x st) → partsF t i ps st k = partsF t i ps st k1 := by
 intro t
 induction t with
 | pair a b _ ihb =>
  intro i ps k k1 hf h
  cases ps with
  | nil => simp only [partsF]; exact ihb _ _ rfl fun m x => h _ _
  | cons p r =>
   obtain ⟨j, x⟩ := p
   have hf' := hf
   simp only [List.all_cons, Bool.and_eq_true] at hf'
   obtain ⟨h1, h2⟩ := hf'
   simp only [partsF]
   split
   ·unfold freeO at h1
    split at h1
    ·rename_i a ha
     rw [opd_some ha, opd_some ha]
     exact takeRo_free h1 fun m y => ihb _ _ h2 fun ms ys => h _ _
    ·cases h1
   ·exact ihb _ _ hf fun m x => h _ _
 | unit =>
  intro i ps k k1 _ h
  cases ps with
  | nil => exact h _ _
  | cons p r => rfl
 | _ => intro i ps k k1 _ _; cases ps <;> rfl

theorem partsO_free {M : Md} : ∀ (t : Ty) (i : Nat) (ps : List (Nat × Operand)) {k k1 : den t → St → Option R}, (ps.all fun p => freeO st p.2) = true → (∀ x, k x st = k1 x st) → partsO M t i ps st k = partsO M t i ps st k1 := by
 intro t
 induction t with
 | pair a b _ ihb =>
  intro i ps k k1 hf h
  cases ps with
  | nil =>
   simp only [partsO]
   unfold guardK
   split
   ·exact ihb _ _ rfl fun x => h _
   ·rfl
  | cons p r =>
   obtain ⟨j, x⟩ := p
   have hf' := hf
   simp only [List.all_cons, Bool.and_eq_true] at hf'
   obtain ⟨h1, h2⟩ := hf'
   simp only [partsO]
   split
   ·unfold freeO at h1
    split at h1
    ·rename_i a ha
     rw [opd_some ha, opd_some ha]
     exact take_free h1 fun y => ihb _ _ h2 fun ys => h _
    ·cases h1
   ·unfold guardK
    split
    ·exact ihb _ _ hf fun x => h _
    ·rfl
 | unit =>
  intro i ps k k1 _ h
  cases ps with
  | nil => exact h _
  | cons p r => rfl
 | _ => intro i ps k k1 _ _; cases ps <;> rfl

theorem resD_free {rs : List (Ty × Md)} {x : denL rs} {k k1 : AV → St → Option R} (h : ∀ v, k v st = k1 v st) : resD st rs x k = resD st rs x k1 := by
 unfold resD
 split
 ·rw [show (fun v => k v st) = fun v => k1 v st from funext h]
 ·exact h _

theorem argsL_free : ∀ (ps : List PT) (l : List AV) {k k1 : denPs ps → Option R}, (∀ x, k x = k1 x) → argsL st ps l k = argsL st ps l k1 := by
 intro ps l k k1 h
 have : k = k1 := funext h
 rw [this]

theorem take_congr {a : AV} {t : Ty} {m : Md} {k k1 : den t → St → Option R} (h : ∀ x s, (s = st ∨ ∃ u ∈ target a, s = st.set u .dead) → k x s = k1 x s) : take st a t m k = take st a t m k1 := by
 cases a with
 | v t' m' x =>
  simp only [take]
  split
  ·split
   ·exact h _ _ (.inl rfl)
   ·rfl
  ·rfl
 | nilS => cases t <;> first | exact h _ _ (.inl rfl) | rfl
 | nilP => cases t <;> first | exact h _ _ (.inl rfl) | rfl
 | al s n p =>
  have h' := fun x => h x (st.set s .dead) (.inr ⟨s, by simp [target], rfl⟩)
  simp only [take]
  split
  ·split
   ·congr 1; funext k0 e0 m' x
    split
    ·split
     ·exact h' _
     ·rfl
    ·rfl
   ·congr 1; funext e0 m' x
    split
    ·split
     ·exact h' _
     ·split
      ·exact congrArg (fun z => bif !List.isEmpty x then z else none) (h' _)
      ·rfl
    ·rfl
  ·rfl
 | sub s n p lo len c =>
  have h' := fun x => h x (st.set s .dead) (.inr ⟨s, by simp [target], rfl⟩)
  simp only [take]
  split
  ·congr 1; funext e0 m' x
   split
   ·split
    ·exact h' _
    ·rfl
   ·rfl
  ·rfl
 | pl s n p =>
  have h' := fun x => h x (st.set s .dead) (.inr ⟨s, by simp [target], rfl⟩)
  simp only [take]
  split
  ·split
   ·split
    ·split
     ·exact h' _
     ·rfl
    ·rfl
   ·rfl
  ·rfl
 | _ => rfl

theorem argsO_congr {ws : List Nat} : ∀ (ps : List PT) (l : List AV) (st' : St) {k k1 : (St → (denPs ps → Option R) → Option R) → St → Option R}, (∀ u, u ∉ ws → st'.get u = st.get u) → (∀ s ∈ wsArgs ps l, s ∈ ws) →
  (∀ rd s, (∀ u, u ∉ ws → s.get u = st.get u) → k rd s = k1 rd s) → argsO ps l st' k = argsO ps l st' k1
 | [], [], st', k, k1, hs, _, h => h _ _ hs
 | [], _ :: _, _, _, _, _, _, _ => rfl
 | .val _ _ :: _, [], _, _, _, _, _, _ => rfl
 | .ptr _ _ :: _, [], _, _, _, _, _, _ => rfl
 | .clo _ _ :: _, [], _, _, _, _, _, _ => rfl
 | .box _ _ :: _, [], _, _, _, _, _, _ => rfl
 | .val t m :: r, a :: l, st', k, k1, hs, hw, h => by
  have hr : ∀ s ∈ wsArgs r l, s ∈ ws := fun s hs' => hw s (by simp [wsArgs, hs'])
  simp only [argsO]
  split
  ·exact argsO_congr r l st' hs hr fun rd s hs' => h _ _ hs'
  ·rename_i hm
   refine take_congr fun x s hx => argsO_congr r l s (fun u hu => ?_) hr fun rd s hs' => h _ _ hs'
   rcases hx with rfl | ⟨v, hv, rfl⟩
   ·exact hs u hu
   ·have : u ≠ v := fun he => hu (hw u (by
     subst he
     simp only [wsArgs, List.mem_append]
     left
     first
      | exact hv
      | (split
         ·exact absurd rfl (hm _)
         ·exact hv)))
    rw [get_set, if_neg this]; exact hs u hu
 | .ptr t m :: r, a :: l, st', k, k1, hs, hw, h => by
  simp only [argsO]
  split
  ·exact argsO_congr r l st' hs (fun s hs' => hw s (by simpa [wsArgs] using hs')) fun rd s hs' => h _ _ hs'
  ·rfl
 | .clo f caps :: r, a :: l, st', k, k1, hs, hw, h => by
  simp only [argsO]
  split
  ·split
   ·exact argsO_congr r l st' hs (fun s hs' => hw s (by simpa [wsArgs] using hs')) fun rd s hs' => h _ _ hs'
   ·rfl
  ·rfl
 | .box t m :: r, a :: l, st', k, k1, hs, hw, h => by
  have hr : ∀ s ∈ wsArgs r l, s ∈ ws := fun s hs' => hw s (by simp [wsArgs, hs'])
  simp only [argsO]
  refine take_congr fun x s hx => ?_
  cases x with
  | none => rfl
  | some x =>
   refine argsO_congr r l s (fun u hu => ?_) hr fun rd s hs' => h _ _ hs'
   rcases hx with rfl | ⟨v, hv, rfl⟩
   ·exact hs u hu
   ·have : u ≠ v := fun he => hu (hw u (by subst he; simp [wsArgs, hv]))
    rw [get_set, if_neg this]; exact hs u hu

theorem ioD_congr {ws : List Nat} {k k1 : AV → St → Option R} (h : ∀ v s, (∀ u, u ∉ ws → s.get u = st.get u) → k v s = k1 v s) : ∀ (ss : List (Nat × Option (Nat × Ty))) (rs : List (Ty × Md)) (x : denL rs) (st' : St), (∀ u, u ∉ ws → st'.get u = st.get u) → (∀ s ∈ ss.map (·.1), s ∈ ws) → ioD st' ss rs x k = ioD st' ss rs x k1
 | [], rs, x, st', hs, _ => resD_free fun v => h v st' hs
 | (s, none) :: ss, [], x, st', _, _ => rfl
 | (s, some (n, t0)) :: ss, [], x, st', _, _ => rfl
 | (s, none) :: ss, (t, m) :: rs, x, st', hs, hw => by
  simp only [ioD]
  exact ioD_congr h ss rs x.2 _ (fun u hu => by rw [get_set, if_neg (fun he => hu (hw u (by simp [he])))]; exact hs u hu) (fun u hu => hw u (by simp at hu ⊢; exact .inr hu))
 | (s, some (n, t0)) :: ss, (t, m) :: rs, x, st', hs, hw => by
  cases t with
  | bx t =>
   simp only [ioD]
   split
   ·split
    ·exact ioD_congr h ss rs x.2 _ (fun u hu => by rw [get_set, if_neg (fun he => hu (hw u (by simp [he])))]; exact hs u hu) (fun u hu => hw u (by simp at hu ⊢; exact .inr hu))
    ·rfl
   ·rfl
  | _ => rfl

theorem opds_some {xs : List Operand} {l : List AV} (h : opds st xs some = some l) {R : Type} (k : List AV → Option R) : opds st xs k = k l := by
 obtain ⟨l', h1, e⟩ := opds_fl xs h
 cases h1
 exact e k st fun _ _ _ _ => rfl

theorem storeD_free {ty : Ty} {s n : Nat} {p : List Stp} {x : AV} (hf : isFree x = true) {k k1 : St → Option R} (h : ∀ v, k (st.set s v) = k1 (st.set s v)) : storeD false st ty (.pl s n p) x k = storeD false st ty (.pl s n p) x k1 := by
 unfold storeD
 simp only
 split
 ·split
  ·unfold sameTy
   split
   ·split
    ·unfold storeB
     refine takeAny_free hf fun m y => ?_
     unfold boxPut
     split
     ·split
      ·split
       ·exact h _
       ·rfl
      ·rfl
     ·rfl
    ·unfold guardB
     split
     ·refine take_free hf fun y => ?_
      split
      ·split
       ·split
        ·rw [AV.force_eq, AV.force_eq]; exact h _
        ·unfold guardK
         split
         ·rw [AV.force_eq, AV.force_eq]; exact h _
         ·rfl
       ·rfl
      ·rfl
     ·rfl
   ·rfl
  ·rfl
 ·rfl

theorem updMapD_congr {ty : Ty} {s n : Nat} {p : List Stp} {f : (k e : Ty) → List (den k × den e) → (List (den k × den e) → Option R) → Option R} {K K1 : St → Option R} (h : ∀ v, K (st.set s v) = K1 (st.set s v)) : updMapD st ty (.al s n p) f K = updMapD st ty (.al s n p) f K1 := by
 unfold updMapD
 simp only
 split
 ·congr 1; funext k e m x
  congr 2; congr 1; funext y
  split
  ·rw [AV.force_eq, AV.force_eq, h]
  ·rfl
 ·rfl

theorem ws_congr {o : Oper} {ws : List Nat} (hw : wsM T Φ st o = some ws) {K K1 : AV → St → Option R} (hK : KEq st ws K K1) : step T Φ o st K = step T Φ o st K1 := by
 unfold wsM at hw
 split at hw
 ·-- alloc
  rename_i t ho
  unfold step; rw [ho]
  simp only
  split
  ·exact hK.own.same _
  ·rfl
 ·rename_i t l c ho
  unfold step; rw [ho]
  simp only
  split
  ·congr 1; funext a; congr 1; funext k n; congr 1; funext a'; congr 1; funext k' n'
   unfold guardK guardB; split
   ·split
    ·exact hK.own.same _
    ·rfl
   ·rfl
  ·rfl
 ·-- move
  rename_i t ho
  cases hw
  unfold step; rw [ho]
  simp only
  split
  ·exact hK.own _ _ fun u hu => by rw [get_set, if_neg (by simpa using hu)]
  ·congr 1; funext a; exact hK.same _
 ·-- extract
  rename_i s i ho
  cases hw
  unfold step; rw [ho]
  simp only
  split
  ·split
   ·exact hK.same _
   ·unfold guardB
    split
    ·congr 1
     funext v
     exact hK _ _ fun u hu => by rw [get_set, if_neg (by simpa using hu)]
    ·rfl
   ·rfl
  ·unfold guardB
   split
   ·exact hK _ _ fun u hu => by rw [get_set, if_neg (by simpa using hu)]
   ·rfl
  ·rfl
 ·-- mapEntry
  rename_i t x i ho
  split at hw
  ·rename_i s n p hb
   cases hw
   unfold step; rw [ho]
   simp only
   split
   ·rw [opd_some hb, opd_some hb]
    congr 1; funext b
    simp only
    congr 1; funext y
    refine updMapD_congr fun v => hK.own _ _ fun u hu => by rw [get_set, if_neg (by simpa using hu)]
   ·rfl
  ·cases hw
 ·-- entryStore
  rename_i t x d y ho
  split at hw
  ·rename_i s n p hb
   cases hw
   unfold step; rw [ho]
   simp only
   split
   ·rw [opd_some hb, opd_some hb]
    congr 1; funext c
    simp only
    unfold guardB
    split
    ·refine updMapD_congr fun v => hK _ _ fun u hu => by
      simp only [List.mem_cons, List.not_mem_nil, or_false, not_or] at hu
      rw [get_set, if_neg hu.2, get_set, if_neg hu.1]
    ·rfl
   ·rfl
  ·cases hw
 ·-- assign
  rename_i x ho
  split at hw
  ·rename_i hf
   cases hw
   unfold freeO at hf
   split at hf
   ·rename_i b hb
    unfold step; rw [ho]
    cases x with
    | tmp t =>
     simp only
     rw [opd_some hb, opd_some hb]
     cases b <;> first | exact hK.same _ | simp [isFree] at hf
    | _ =>
     simp only [opd_nilMap hb]
     rw [opd_some hb, opd_some hb]
     cases b with
     | nilS =>
      simp only
      split
      ·unfold made
       split <;> exact hK.own.same _
      ·rfl
     | _ => first | exact hK.same _ | simp [isFree] at hf
   ·cases hf
  ·split at hw
   ·rename_i s n hb
    cases hw
    have hset : ∀ u, u ∉ [s] → (st.set s .dead).get u = st.get u := fun u hu => by rw [get_set, if_neg (by simpa using hu)]
    unfold step; rw [ho]
    cases x with
    | tmp t =>
     simp only
     rw [opd_some hb, opd_some hb]
     simp only
     split
     ·split
      ·congr 1; funext k0 e0 m0 x0
       unfold guardK
       split
       ·exact hK.own _ _ hset
       ·rfl
      ·congr 1; funext e0 m0 x0
       exact hK.own _ _ hset
     ·rfl
    | _ =>
     simp only [opd_nilMap hb]
     rw [opd_some hb, opd_some hb]
     exact hK.same _
   ·rename_i s n c p hb
    cases hw
    unfold step; rw [ho]
    cases x with
    | tmp t =>
     simp only
     rw [opd_some hb, opd_some hb]
     exact hK.same _
    | _ =>
     simp only [opd_nilMap hb]
     rw [opd_some hb, opd_some hb]
     exact hK.same _
   ·rename_i s n p lo len hb
    cases hw
    have hset : ∀ u, u ∉ [s] → (st.set s .dead).get u = st.get u := fun u hu => by rw [get_set, if_neg (by simpa using hu)]
    unfold step; rw [ho]
    cases x with
    | tmp t =>
     simp only
     rw [opd_some hb, opd_some hb]
     simp only
     split
     ·unfold Own.sl
      split
      ·split
       ·simp only
        split
        ·split
         ·exact hK.own _ _ hset
         ·rfl
        ·rfl
       ·rfl
      ·rfl
     ·rfl
    | _ =>
     simp only [opd_nilMap hb]
     rw [opd_some hb, opd_some hb]
     exact hK.same _
   ·cases hw
 ·-- store
  rename_i t x y ho
  split at hw
  ·rename_i hf
   split at hw
   ·rename_i s n p ha
    cases hw
    unfold freeO at hf
    split at hf
    ·rename_i b hb
     unfold step; rw [ho]
     simp only
     unfold storeS
     split
     ·rw [opd_some ha, opd_some ha, opd_noApp hb]
      simp only
      rw [opd_some hb, opd_some hb]
      exact storeD_free hf fun u => hK _ _ fun w hw => by
       rw [get_set, if_neg (fun h => hw (by simp [h]))]
     ·rfl
    ·cases hf
   ·cases hw
  ·cases hw
 ·rename_i t x ho
  split at hw
  ·rename_i hf
   cases hw
   unfold freeO at hf
   split at hf
   ·rename_i b hb
    unfold step; rw [ho]
    simp only
    split
    ·rw [opd_some hb, opd_some hb]
     have hno : owS st x = none := by
      cases x with
      | tmp s =>
       simp only [owS]
       cases hq : st.get s with
       | ow n t m y =>
        simp only
        cases hcell : isCell t with
        | true => rfl
        | false =>
         simp only [opd, hq] at hb
         cases t <;> first | (cases hcell; done) | (cases hm : m.isOwn <;> rw [hm] at hb <;> cases hb; done)
       | _ => rfl
      | _ => rfl
     rw [hno]
     have hcel : ∀ ty, isCel st ty b = none := fun ty => by
      unfold isCel
      split
      ·simp [isFree] at hf
      ·rfl
     simp only [hcel]
     exact takeAny_free hf fun m x => hK.own.same _
    ·rfl
   ·cases hf
  ·cases hw
 ·rename_i t n ps ho
  split at hw
  ·rename_i hf
   cases hw
   unfold step; rw [ho]
   simp only
   split
   ·split
    ·exact partsS_free _ _ hf fun x => hK.own.same _
    ·split
     ·exact hK.own.same _
     ·rfl
   ·rfl
  ·cases hw
 ·rename_i t ps ho
  split at hw
  ·rename_i hf
   cases hw
   unfold step; rw [ho]
   simp only
   split
   ·split
    ·exact partsO_free _ _ _ hf fun x => hK.own.same _
    ·exact partsF_free _ _ _ hf fun m x => hK.same _
   ·rfl
  ·cases hw
 ·rename_i c ho
  split at hw
  ·rename_i f hc
   split at hw
   ·rename_i n cs hfo
    split at hw
    ·rename_i C hC
     split at hw
     ·rename_i hio hl
      cases hw
      unfold step; rw [ho]
      simp only [hc]
      rw [opd_some hfo, opd_some hfo]
      simp only [hC]
      congr 1; funext l
      unfold callD guardB
      split
      ·simp only [hio, hl]
       refine argsL_free _ _ fun x => ?_
       congr 1; funext r
       refine resD_free fun v => ?_
       have : ∀ rs : List (Ty × Md), (match rs with | [] => K | _ => ownK o K) v st = (match rs with | [] => K1 | _ => ownK o K1) v st := fun rs => by
        cases rs with
        | nil => exact hK.same _
        | cons _ _ => exact hK.own.same _
       exact this C.outs
      ·rfl
     ·rename_i hnl
      split at hw
      ·rename_i l hl
       have hK0 : ∀ rs : List (Ty × Md), KEq st ws (match rs with | [] => K | _ => ownK o K) (match rs with | [] => K1 | _ => ownK o K1) := fun rs => by
        cases rs with
        | nil => exact hK
        | cons _ _ => exact hK.own
       have hK' := hK0 C.outs
       unfold step; rw [ho]
       simp only [hc]
       rw [opd_some hfo, opd_some hfo]
       simp only [hC]
       rw [opds_some hl, opds_some hl]
       simp only [Option.some.injEq] at hw
       unfold callD guardB
       split
       ·split
        ·rename_i hio
         split
         ·rename_i hlo; exact absurd hlo (hnl hio)
         ·refine argsO_congr (ws := ws) _ _ st (fun _ _ => rfl) (fun s hs => by rw [← hw]; exact List.mem_append_left _ hs) fun rd s hs => ?_
          congr 1; funext xs; congr 1; funext r
          exact resD_free fun v => hK' v s hs
        ·cases noCel st with
         | false => rfl
         | true =>
         simp only
         split
         ·rename_i ss hss
          refine argsO_congr (ws := ws) _ _ st (fun _ _ => rfl) (fun s hs => by rw [← hw]; exact List.mem_append_left _ hs) fun rd s hs => ?_
          congr 1; funext xs; congr 1; funext r
          refine ioD_congr (st := st) (ws := ws) hK' ss _ _ s hs fun u hu => ?_
          rw [← hw, hss]
          exact List.mem_append_right _ hu
         ·rfl
       ·rfl
      ·cases hw
    ·cases hw
   ·cases hw
  ·-- append to a part
   rename_i hc
   split at hw
   ·rename_i x y t u hargs htys
    split at hw
    ·rename_i e av hty hav
     split at hw
     ·rename_i hfe
      have key : ∀ (ws' : List Nat), ws = ws' → (∀ (b : AV), appendD st (.sl e) (T.md t) av b (ownK o K) = appendD st (.sl e) (T.md t) av b (ownK o K1)) → step T Φ o st K = step T Φ o st K1 := by
       intro ws' _ hap
       unfold step; rw [ho]
       simp only [hc, hargs, htys]
       split
       ·rename_i ty e0 hty1 _
        rw [hty] at hty1
        obtain rfl := Option.some.inj hty1
        rw [opd_some hav, opd_some hav]
        congr 1; funext b
        exact hap b
       ·rfl
      split at hw
      ·rename_i s n
       cases hw
       refine key _ rfl fun b => ?_
       unfold appendD
       simp only [hfe, partOf]
       congr 1; funext e' m' ys
       split
       ·simp only [baseD, Own.sl]
        split
        ·split
         ·split
          ·try dsimp only
           split
           ·split
            ·split
             ·unfold guardB
              split
              ·exact hK.own _ _ fun u hu => by rw [get_set, if_neg (fun h => hu (by simp [h]))]
              ·rfl
             ·rfl
            ·rfl
           ·rfl
          ·rfl
         ·rfl
        ·rfl
       ·rfl
      ·rename_i s n c p
       cases hw
       refine key _ rfl fun b => ?_
       unfold appendD
       simp only [hfe, partOf]
       congr 1; funext e' m' ys
       split
       ·unfold appD Own.sl guardK guardB
        split
        ·split
         ·split
          ·dsimp only
           split
           ·split
            ·split
             ·split
              ·split
               ·exact hK.own.same _
               ·rfl
              ·rfl
             ·rfl
            ·rfl
           ·rfl
          ·rfl
         ·rfl
        ·rfl
       ·rfl
      ·cases hw
       refine key _ rfl fun b => ?_
       unfold appendD
       simp only [hfe, partOf]
       congr 1; funext e' m' ys
       split
       ·simp only [baseD]
        split
        ·split
         ·unfold guardB
          split
          ·exact hK.own.same _
          ·rfl
         ·rfl
        ·rfl
       ·rfl
      ·cases hw
     ·cases hw
    ·cases hw
   ·cases hw
  ·-- copy
   rename_i hc
   split at hw
   ·rename_i x y hargs
    split at hw
    ·rename_i av hav
     split at hw
     ·rename_i s q hds
      cases hw
      unfold step; rw [ho]
      simp only [hc, hargs]
      split
      ·rename_i heq _
       obtain ⟨rfl, rfl⟩ : x = _ ∧ y = _ := by simpa using heq
       split
       ·rw [opd_some hav, opd_some hav]
        congr 1; funext b
        unfold copyD
        congr 1; funext e' m' ys
        split
        ·rw [hds]
         obtain ⟨n, p, lo, len⟩ := q
         simp only
         split
         ·unfold guardK
          split
          ·congr 1; funext e m xs
           split
           ·split
            ·split
             ·split
              ·rw [AV.force_eq, AV.force_eq]
               exact hK _ _ fun u hu => by rw [get_set, if_neg (fun h => hu (by simp [h]))]
              ·rfl
             ·rfl
            ·rfl
           ·rfl
          ·rfl
         ·rfl
        ·rfl
       ·rfl
      ·rfl
     ·cases hw
    ·cases hw
   ·cases hw
  ·cases hw
 ·cases hw
end
end Go.Ab
