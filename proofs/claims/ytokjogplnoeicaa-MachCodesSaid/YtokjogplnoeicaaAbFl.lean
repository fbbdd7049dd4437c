/- Operations that leave memory and state alone: what they look at decides what they yield. -/
import Derived.Test.YtokjogplnoeicaaAbStep
namespace Go.Ab

section
variable {T : Tab} {Φ : Nat → Option Contract} {st : St} {R : Type} {r : R}

/-- the slots of a list are the same -/
def Agr (l : List Nat) (st st' : St) : Prop := ∀ s ∈ l, st'.get s = st.get s

theorem Agr.sub {l l' : List Nat} {st st' : St} (h : Agr l st st') (hs : ∀ s ∈ l', s ∈ l) : Agr l' st st' := fun s hs' => h s (hs s hs')

theorem guardB_fl {c : Bool} {k : Option R} (h : guardB c k = some r) : k = some r ∧ ∀ {R' : Type} (k' : Option R'), guardB c k' = k' := by
 unfold guardB at h
 split at h
 ·exact ⟨h, fun k' => rfl⟩
 ·cases h

theorem sameTy_fl {a b : Ty} {k : Option R} (h : sameTy a b k = some r) : k = some r ∧ ∀ {R' : Type} (k' : Option R'), sameTy a b k' = k' := by
 unfold sameTy at h
 split at h
 ·rename_i hd; exact ⟨h, fun k' => by unfold sameTy; rw [hd]⟩
 ·cases h

theorem asInt_fl {a : AV} {k : IntKind → Int → Option R} (h : asInt a k = some r) : ∃ kd n, k kd n = some r ∧ ∀ {R' : Type} (k' : IntKind → Int → Option R'), asInt a k' = k' kd n := by
 unfold asInt at h
 split at h
 ·exact ⟨_, _, h, fun k' => rfl⟩
 ·cases h

theorem asBool_fl {a : AV} {k : Bool → Option R} (h : asBool a k = some r) : ∃ b, k b = some r ∧ ∀ {R' : Type} (k' : Bool → Option R'), asBool a k' = k' b := by
 unfold asBool at h
 split at h
 ·exact ⟨_, h, fun k' => rfl⟩
 ·cases h

theorem sl_fl {o : Own} {p : List Stp} {k : (e : Ty) → Md → List (den e) → Option R} (h : o.sl p k = some r) : ∃ e m x, k e m x = some r ∧ ∀ {R' : Type} (k' : (e : Ty) → Md → List (den e) → Option R'), o.sl p k' = k' e m x := by
 unfold Own.sl at h
 split at h
 ·rename_i e m x ho
  split at h
  ·rename_i hm
   exact ⟨e, m, x, h, fun k' => by unfold Own.sl; rw [ho]; simp only [hm]⟩
  ·cases h
 ·cases h

/-- an operand's value, and the slots behind it -/
theorem opd_fl {x : Operand} {k : AV → Option R} (h : opd st x k = some r) : ∃ a, k a = some r ∧ (∀ s ∈ targets a, s ∈ behind st x) ∧ ∀ {R' : Type} (k' : AV → Option R') (st' : St), Agr (behind st x) st st' → opd st' x k' = k' a := by
 unfold opd at h
 split at h
 ·rename_i t
  have hag : ∀ st' : St, Agr (behind st (.tmp t)) st st' → st'.get t = st.get t := fun st' ha => ha t (by simp [behind])
  split at h
  ·rename_i n ty m x hq
   split at h
   ·rename_i e hm
    refine ⟨_, h, fun s hs => ?_, fun k' st' ha => ?_⟩
    ·simp only [targets, target, List.mem_singleton] at hs
     subst hs; simp [behind]
    ·simp only [opd, hag st' ha, hq, hm]
   ·rename_i kt et hm
    split at h
    ·rename_i hnz
     refine ⟨_, h, fun s hs => ?_, fun k' st' ha => ?_⟩
     ·simp only [targets, target, List.mem_singleton] at hs
      subst hs; simp [behind]
     ·simp only [opd, hag st' ha, hq, hm, hnz]
    ·cases h
   ·cases h
  ·rename_i n u ty m x hq
   refine ⟨_, h, fun s hs => ?_, fun k' st' ha => ?_⟩
   ·simp only [targets, target, List.mem_singleton] at hs
    subst hs; simp [behind]
   ·simp only [opd, hag st' ha, hq]
  ·cases h
  ·cases h
  ·cases h
  ·cases h
  ·rename_i h1 h2 h3 h4 h5 h6
   rw [AV.force_eq] at h
   refine ⟨_, h, fun s hs => ?_, fun k' st' ha => ?_⟩
   ·unfold behind
    refine List.mem_cons_of_mem _ ?_
    split
    ·rename_i hq; exact absurd hq (h1 _ _ _ _)
    ·rename_i hq; exact absurd hq (h2 _ _ _ _ _)
    ·rename_i hq; exact absurd hq (h3 _)
    ·exact hs
   ·simp only [opd, hag st' ha, AV.force_eq]
 all_goals first
  | (exact ⟨_, h, fun s hs => by simp [targets, target] at hs, fun k' st' _ => rfl⟩)
  | (cases h)

theorem opd_agr {st st' : St} {x : Operand} (h : Agr (behind st x) st st') {R' : Type} (k : AV → Option R') : opd st' x k = opd st x k := by
 unfold opd
 split
 ·rename_i t
  have : st'.get t = st.get t := h t (by simp [behind])
  rw [this]
 all_goals rfl

theorem fieldD_fl {ty : Ty} {a : AV} {f : Nat} {k : AV → Option R} (h : fieldD st ty a f k = some r) : ∃ v, k v = some r ∧ ∀ {R' : Type} (k' : AV → Option R') (st' : St), Agr (targets a) st st' → fieldD st' ty a f k' = k' v := by
 unfold fieldD at h
 split at h
 ·rename_i s n p
  split at h
  ·rename_i o ho
   split at h
   ·rename_i t m x hx
    obtain ⟨h, h1⟩ := sameTy_fl h
    split at h
    ·rename_i y hy
     refine ⟨_, h, fun k' st' ha => ?_⟩
     unfold fieldD
     simp only [ha s (by simp [targets, target]), ho, hx, h1, hy]
    ·cases h
   ·cases h
  ·cases h
 ·obtain ⟨h, h1⟩ := sameTy_fl h
  split at h
  ·rename_i hy
   exact ⟨_, h, fun k' st' _ => by unfold fieldD; simp only [h1, hy]⟩
  ·cases h
 ·cases h

theorem frz_agr {a : AV} {st' : St} (h : Agr (targets a) st st') (hn : frz st a = none) : frz st' a = none := by
 cases a with
 | pl s n p =>
  have : st'.get s = st.get s := h s (by simp [targets, target])
  unfold frz at hn ⊢
  simp only [this] at hn ⊢
  split at hn
  ·split at hn
   ·cases hn
   ·rfl
  ·rfl
 | _ => rfl
theorem frz_agr' {a : AV} {st' : St} (h : Agr (targets a) st st') : (frz st' a).isNone = (frz st a).isNone := by
 cases a with
 | pl s n p =>
  have : st'.get s = st.get s := h s (by simp [targets, target])
  unfold frz
  simp only [this]
  split
  ·split <;> rfl
  ·rfl
 | _ => rfl

theorem loadD_fl {ty : Ty} {a : AV} {k : AV → Option R} (h : loadD st ty a k = some r) : ∃ v, k v = some r ∧ ∀ {R' : Type} (k' : AV → Option R') (st' : St), Agr (targets a) st st' → loadD st' ty a k' = k' v := by
 unfold loadD at h
 split at h
 ·rename_i s n p
  split at h
  ·rename_i o ho
   split at h
   ·rename_i t m x hx
    obtain ⟨h, h1⟩ := sameTy_fl h
    split at h
    ·rename_i hm
     refine ⟨_, h, fun k' st' ha => ?_⟩
     unfold loadD
     simp only [ha s (by simp [targets, target]), ho, hx, h1, hm]
    ·rename_i hm
     split at h
     ·have hio : m.isOwn = true := by assumption
      refine ⟨_, h, fun k' st' ha => ?_⟩
      unfold loadD
      simp only [ha s (by simp [targets, target]), ho, hx, h1, hm, hio]
     ·have hio : m.isOwn = true := by assumption
      split at h
      ·rename_i hnz
       refine ⟨_, h, fun k' st' ha => ?_⟩
       unfold loadD
       simp only [ha s (by simp [targets, target]), ho, hx, h1, hm, hio, hnz]
      ·cases h
     ·cases h
   ·cases h
  ·cases h
 ·obtain ⟨h, h1⟩ := sameTy_fl h
  split at h
  ·rename_i hm
   exact ⟨_, h, fun k' st' _ => by unfold loadD; simp only [h1, hm]⟩
  ·cases h
 ·rename_i s n
  split at h
  ·rename_i e n1 u1 t1 m1 x1 hq
   split at h
   ·rename_i hn
    refine ⟨_, h, fun k' st' ha => ?_⟩
    unfold loadD
    simp only [ha s (by simp [targets, target]), hq, hn]
   ·cases h
  ·cases h
 ·cases h

theorem indexD_fl {arr : Bool} {ty : Ty} {a : AV} {i : Int} {k : AV → Option R} (h : indexD arr st ty a i k = some r) : ∃ v, k v = some r ∧ ∀ {R' : Type} (k' : AV → Option R') (st' : St), Agr (targets a) st st' → indexD arr st' ty a i k' = k' v := by
 unfold indexD at h
 split at h
 ·obtain ⟨h, h1⟩ := sameTy_fl h
  obtain ⟨h, h2⟩ := guardB_fl h
  exact ⟨_, h, fun k' st' _ => by unfold indexD; simp only [h1, h2]⟩
 ·rename_i s n p
  split at h
  ·rename_i o ho
   obtain ⟨e, m, x, h, h0⟩ := sl_fl h
   obtain ⟨h, h1⟩ := sameTy_fl h
   obtain ⟨h, h2⟩ := guardB_fl h
   exact ⟨_, h, fun k' st' ha => by unfold indexD; simp only [ha s (by simp [targets, target]), ho, h0, h1, h2]⟩
  ·cases h
 ·rename_i s n p lo len c
  split at h
  ·rename_i o ho
   obtain ⟨e, m, x, h, h0⟩ := sl_fl h
   obtain ⟨h, h1⟩ := sameTy_fl h
   obtain ⟨h, h2⟩ := guardB_fl h
   exact ⟨_, h, fun k' st' ha => by unfold indexD; simp only [ha s (by simp [targets, target]), ho, h0, h1, h2]⟩
  ·cases h
 ·rename_i s n p
  obtain ⟨h, h2⟩ := guardB_fl h
  split at h
  ·rename_i o ho
   split at h
   ·rename_i t m x hx
    obtain ⟨h, h1⟩ := sameTy_fl h
    split at h
    ·rename_i y hy
     exact ⟨_, h, fun k' st' ha => by unfold indexD; simp only [ha s (by simp [targets, target]), ho, hx, h1, h2, hy]⟩
    ·cases h
   ·cases h
  ·cases h
 ·obtain ⟨h, h1⟩ := sameTy_fl h
  obtain ⟨h, h2⟩ := guardB_fl h
  split at h
  ·rename_i hy
   exact ⟨_, h, fun k' st' _ => by unfold indexD; simp only [h1, h2, hy]⟩
  ·cases h
 ·cases h

theorem asList_fl {a : AV} {k : (e : Ty) → Md → List (den e) → Option R} (h : asList st a k = some r) : ∃ e m x, k e m x = some r ∧ ∀ {R' : Type} (k' : (e : Ty) → Md → List (den e) → Option R') (st' : St), Agr (targets a) st st' → asList st' a k' = k' e m x := by
 unfold asList at h
 split at h
 ·exact ⟨_, _, _, h, fun k' st' _ => rfl⟩
 ·rename_i s n p
  split at h
  ·rename_i o ho
   obtain ⟨e, m, x, h, h0⟩ := sl_fl h
   exact ⟨_, _, _, h, fun k' st' ha => by unfold asList; simp only [ha s (by simp [targets, target]), ho, h0]⟩
  ·cases h
 ·rename_i s n p lo len c
  split at h
  ·rename_i o ho
   obtain ⟨e, m, x, h, h0⟩ := sl_fl h
   exact ⟨_, _, _, h, fun k' st' ha => by unfold asList; simp only [ha s (by simp [targets, target]), ho, h0]⟩
  ·cases h
 ·cases h

theorem mp_fl {o : Own} {p : List Stp} {f : (k e : Ty) → Md → List (den k × den e) → Option R} (h : o.mp p f = some r) : ∃ k e m x, f k e m x = some r ∧ ∀ {R' : Type} (f' : (k e : Ty) → Md → List (den k × den e) → Option R'), o.mp p f' = f' k e m x := by
 unfold Own.mp at h
 split at h
 ·rename_i k e m x ho
  split at h
  ·rename_i hm
   exact ⟨k, e, m, x, h, fun f' => by unfold Own.mp; rw [ho]; simp only [hm]⟩
  ·cases h
 ·cases h
theorem asMap_fl {a : AV} {f : (k e : Ty) → List (den k × den e) → Option R} (h : asMap st a f = some r) : ∃ k e x, f k e x = some r ∧ ∀ {R' : Type} (f' : (k e : Ty) → List (den k × den e) → Option R') (st' : St), Agr (targets a) st st' → asMap st' a f' = f' k e x := by
 unfold asMap at h
 split at h
 ·exact ⟨_, _, _, h, fun f' st' _ => rfl⟩
 ·rename_i s n p
  split at h
  ·rename_i o ho
   obtain ⟨k, e, m, x, h, h0⟩ := mp_fl h
   split at h
   ·rename_i hnz
    exact ⟨_, _, _, h, fun f' st' ha => by unfold asMap; simp only [ha s (by simp [targets, target]), ho, h0, hnz]⟩
   ·cases h
  ·cases h
 ·cases h
theorem keyD_fl {k : Ty} {b : AV} {f : den k → Option R} (h : keyD k b f = some r) : ∃ y, f y = some r ∧ ∀ {R' : Type} (f' : den k → Option R'), keyD k b f' = f' y := by
 unfold keyD at h
 split at h
 ·split at h
  ·rename_i ht; subst ht
   exact ⟨_, h, fun f' => by unfold keyD; simp⟩
  ·cases h
 ·cases h
theorem guardK_fl {c : Bool} {k : Option R} (h : guardK c k = some r) : k = some r ∧ ∀ {R' : Type} (k' : Option R'), guardK c k' = k' := by
 cases c with
 | true => exact ⟨h, fun _ => rfl⟩
 | false => cases h
theorem lookupD_fl {ty : Ty} {a b : AV} {f : (e : Ty) → Option (den e) → Option R} (h : lookupD st ty a b f = some r) : ∃ e x, f e x = some r ∧ ∀ {R' : Type} (f' : (e : Ty) → Option (den e) → Option R') (st' : St), Agr (targets a) st st' → lookupD st' ty a b f' = f' e x := by
 unfold lookupD at h
 obtain ⟨k, e, x, h, h0⟩ := asMap_fl h
 obtain ⟨h, h1⟩ := guardK_fl h
 obtain ⟨h, h2⟩ := sameTy_fl h
 obtain ⟨y, h, h3⟩ := keyD_fl h
 exact ⟨_, _, h, fun f' st' ha => by unfold lookupD; rw [h0 _ st' ha, h1, h2, h3]⟩

theorem lenD_fl {ty : Ty} {a : AV} {k : Int → Option R} (h : lenD st ty a k = some r) : ∃ v, k v = some r ∧ ∀ {R' : Type} (k' : Int → Option R') (st' : St), Agr (targets a) st st' → lenD st' ty a k' = k' v := by
 unfold lenD at h
 split at h
 ·split at h
  ·exact ⟨_, h, fun k' st' _ => rfl⟩
  ·rename_i hn
   obtain ⟨e, m, x, h, h0⟩ := asList_fl h
   refine ⟨_, h, fun k' st' ha => ?_⟩
   cases a <;> first
    | exact absurd rfl hn
    | exact h0 (fun _ _ x => k' (x.length : Int)) st' ha
 ·obtain ⟨k1, e1, x, h, h0⟩ := asMap_fl h
  exact ⟨_, h, fun k' st' ha => h0 (fun _ _ x => k' (x.length : Int)) st' ha⟩
 ·cases h

theorem nilD_fl {a : AV} {k : Bool → Option R} (hs : sureN st a = true) (h : nilD st a k = some r) : ∃ v, k v = some r ∧ ∀ {R' : Type} (k' : Bool → Option R') (st' : St), Agr (targets a) st st' → nilD st' a k' = k' v := by
 unfold nilD at h
 split at h
 ·rename_i e m x
  have hm : m.nz? = true := hs
  rw [hm] at h
  exact ⟨_, h, fun k' st' _ => by unfold nilD; simp only [hm]⟩
 ·rename_i s n p
  split at h
  ·rename_i o ho
   simp only [sureN, ho] at hs
   unfold Own.sl at h
   split at h
   ·rename_i e m x hat
    rw [hat] at hs
    have hm : m.nz? = true := hs
    split at h
    ·rename_i hown
     simp only [hm] at h
     exact ⟨_, h, fun k' st' ha => by unfold nilD; simp only [ha s (by simp [targets, target]), ho, Own.sl, hat, hown, hm]⟩
    ·cases h
   ·cases h
  ·cases h
 ·exact ⟨_, h, fun k' st' _ => rfl⟩
 ·cases h

theorem eqK_fl {op : BinOp} {c : Bool} {k : AV → Option R} (h : eqK op c k = some r) : ∃ v, k v = some r ∧ ∀ {R' : Type} (k' : AV → Option R'), eqK op c k' = k' v := by
 unfold eqK at h
 split at h
 ·exact ⟨_, h, fun k' => rfl⟩
 ·exact ⟨_, h, fun k' => rfl⟩
 ·cases h

theorem binD_fl {ty : Option Ty} {op : BinOp} {x y : AV} {k : AV → Option R} (h : binD ty op x y k = some r) : ∃ v, k v = some r ∧ ∀ {R' : Type} (k' : AV → Option R'), binD ty op x y k' = k' v := by
 unfold binD at h
 split at h
 ·split at h
  ·obtain ⟨h, h1⟩ := guardB_fl h
   exact ⟨_, h, fun k' => by simp only [binD, h1]⟩
  ·obtain ⟨h, h1⟩ := guardB_fl h
   exact ⟨_, h, fun k' => by simp only [binD, h1]⟩
  ·split at h
   ·cases h
   ·rename_i hd
    split at h
    ·exact ⟨_, h, fun k' => by simp only [binD, hd]⟩
    ·exact ⟨_, h, fun k' => by simp only [binD, hd]⟩
    ·exact ⟨_, h, fun k' => by simp only [binD, hd]⟩
    ·obtain ⟨h, h1⟩ := guardB_fl h
     exact ⟨_, h, fun k' => by simp only [binD, hd, h1]⟩
    ·obtain ⟨h, h1⟩ := guardB_fl h
     exact ⟨_, h, fun k' => by simp only [binD, hd, h1]⟩
    ·split at h
     ·rename_i hc
      exact ⟨_, h, fun k' => by simp only [binD, hd, hc]⟩
     ·rename_i hc
      split at h
      ·rename_i hb
       exact ⟨_, h, fun k' => by simp only [binD, hd, hc, hb]⟩
      ·cases h
 ·split at h
  ·exact ⟨_, h, fun k' => rfl⟩
  ·exact ⟨_, h, fun k' => rfl⟩
  ·cases h
 ·rename_i t1 m1 b1 t2 m2 b2 hni hnb
  split at h
  ·rename_i ht
   subst ht
   split at h
   ·rename_i hd
    split at h
    ·rename_i hb
     obtain ⟨v, h, h1⟩ := eqK_fl h
     refine ⟨_, h, fun k' => ?_⟩
     cases t2 with
     | int kx => exfalso; first | exact hni _ _ _ _ _ _ rfl HEq.rfl | (apply hni <;> first | rfl | exact HEq.rfl)
     | bool => exfalso; first | exact hnb _ _ _ _ rfl HEq.rfl | (apply hnb <;> first | rfl | exact HEq.rfl)
     | _ => simp only [binD, hd, hb, h1, dite_true]
    ·cases h
   ·cases h
  ·cases h
 ·cases h

theorem bound_fl {x : Option Operand} {d : Nat} {k : Int → Option R} (h : bound st x d k = some r) : ∃ n, k n = some r ∧ ∀ {R' : Type} (k' : Int → Option R') (st' : St), (∀ y, x = some y → Agr (behind st y) st st') → bound st' x d k' = k' n := by
 unfold bound at h
 split at h
 ·exact ⟨_, h, fun k' st' _ => rfl⟩
 ·obtain ⟨a, h, _, h1⟩ := opd_fl h
  obtain ⟨kd, n, h, h2⟩ := asInt_fl h
  exact ⟨n, h, fun k' st' ha => by simp only [bound, h1 _ st' (ha _ rfl), h2]⟩


theorem Agr.mem {l l' : List Nat} {st st' : St} (h : Agr l st st') (hs : ∀ s, s ∈ l' → s ∈ l) : Agr l' st st' := fun s h' => h s (hs s h')

theorem footO_mem {o : Oper} {x : Operand} (hx : x ∈ o.op.operands.toList) : ∀ s, s ∈ behind st x → s ∈ footO st o := fun _ hs => List.mem_flatMap.2 ⟨x, hx, hs⟩

theorem opds_fl : ∀ (xs : List Operand) {k : List AV → Option R}, opds st xs k = some r → ∃ l, k l = some r ∧ ∀ {R' : Type} (k' : List AV → Option R') (st' : St), (∀ x ∈ xs, Agr (behind st x) st st') → opds st' xs k' = k' l
 | [], k, h => ⟨[], h, fun k' st' _ => rfl⟩
 | x :: xs, k, h => by
  simp only [opds] at h
  obtain ⟨a, h, _, h1⟩ := opd_fl h
  obtain ⟨l, h, h2⟩ := opds_fl xs h
  exact ⟨_, h, fun k' st' ha => by simp only [opds, h1 _ st' (ha x (by simp)), h2 _ st' (fun y hy => ha y (by simp [hy]))]⟩

theorem sliceD_fl {ty : Ty} {a : AV} {lo hi mx : Option Operand} {K : AV → St → Option R} (h : sliceD st ty a lo hi mx K = some r) :
  ∃ v, K v st = some r ∧ ∀ {R' : Type} (K' : AV → St → Option R') (st' : St), Agr (targets a) st st' → (∀ y, lo = some y ∨ hi = some y ∨ mx = some y → Agr (behind st y) st st') → sliceD st' ty a lo hi mx K' = K' v st' := by
 have key : ∀ (len : Nat) {k : Nat → Nat → Bool → Option R}, (bound st hi len fun h => bound st lo 0 fun l =>
   match mx with
   | none => guardB (decide (0 ≤ l) && decide (l ≤ h) && decide (h ≤ (len : Int))) (k l.toNat (h - l).toNat false)
   | some m => opd st m fun a => asInt a fun _ m =>
    guardB (hi.isSome && decide (0 ≤ l) && decide (l ≤ h) && decide (h = m) && decide (h ≤ (len : Int))) (k l.toNat (h - l).toNat true)) = some r →
   ∃ x y z, k x y z = some r ∧ ∀ {R' : Type} (k' : Nat → Nat → Bool → Option R') (st' : St), (∀ y, lo = some y ∨ hi = some y ∨ mx = some y → Agr (behind st y) st st') → (bound st' hi len fun h => bound st' lo 0 fun l =>
   match mx with
   | none => guardB (decide (0 ≤ l) && decide (l ≤ h) && decide (h ≤ (len : Int))) (k' l.toNat (h - l).toNat false)
   | some m => opd st' m fun a => asInt a fun _ m =>
    guardB (hi.isSome && decide (0 ≤ l) && decide (l ≤ h) && decide (h = m) && decide (h ≤ (len : Int))) (k' l.toNat (h - l).toNat true)) = k' x y z := by
  intro len k h
  obtain ⟨n1, h, e1⟩ := bound_fl h
  obtain ⟨n2, h, e2⟩ := bound_fl h
  cases mx with
  | none =>
   obtain ⟨h, e3⟩ := guardB_fl h
   exact ⟨_, _, _, h, fun k' st' ha => by rw [e1 _ st' (fun y hy => ha y (.inr (.inl hy))), e2 _ st' (fun y hy => ha y (.inl hy))]; exact e3 _⟩
  | some m =>
   obtain ⟨v, h, _, e3⟩ := opd_fl h
   obtain ⟨kd, n, h, e4⟩ := asInt_fl h
   obtain ⟨h, e5⟩ := guardB_fl h
   exact ⟨_, _, _, h, fun k' st' ha => by
    rw [e1 _ st' (fun y hy => ha y (.inr (.inl hy))), e2 _ st' (fun y hy => ha y (.inl hy))]
    simp only [e3 _ st' (ha m (.inr (.inr rfl))), e4, e5]⟩
 unfold sliceD at h
 simp only at h
 split at h
 ·rename_i e lt nz xs
  obtain ⟨h, e1⟩ := sameTy_fl h
  obtain ⟨x, y, z, h, e2⟩ := key _ (k := fun lo len _ => K (.v (.sl e) (.bor lt false) ((List.drop lo xs).take len)) st) h
  exact ⟨_, h, fun K' st' _ ha => by unfold sliceD; simp only [e1]; exact e2 (fun lo len _ => K' (.v (.sl e) (.bor lt false) ((List.drop lo xs).take len)) st') st' ha⟩
 ·rename_i s n p
  split at h
  ·rename_i o ho
   obtain ⟨e, m, x, h, e0⟩ := sl_fl h
   obtain ⟨h, e1⟩ := sameTy_fl h
   obtain ⟨_, _, _, h, e2⟩ := key _ (k := fun lo len c => K (.sub s n p lo len c) st) h
   exact ⟨_, h, fun K' st' ht ha => by unfold sliceD; simp only [ht s (by simp [targets, target]), ho, e0, e1]; exact e2 (fun lo len c => K' (.sub s n p lo len c) st') st' ha⟩
  ·cases h
 ·cases h

theorem fl_step {o : Oper} {K : AV → St → Option R} (hf : flOp o = true) (hm : noTup st o = true) (h : step T Φ o st K = some r) :
  ∃ av, K av st = some r ∧ ∀ {R' : Type} (K' : AV → St → Option R') (st' : St), Agr (footO st o) st st' → step T Φ o st' K' = K' av st' := by
 have fo : ∀ (x : Operand), x ∈ o.op.operands.toList → ∀ st' : St, Agr (footO st o) st st' → Agr (behind st x) st st' := fun x hx st' ha => ha.mem (footO_mem hx)
 cases ho : o.op with
 | move x =>
  have hx : x ∈ o.op.operands.toList := by rw [ho]; simp [Op.operands]
  unfold step at h; rw [ho] at h
  cases x with
  | tmp t =>
   simp only at h
   have hq : ∀ l, st.get t ≠ .tup l := fun l hq => by simp [noTup, ho, hq] at hm
   split at h
   ·rename_i l hq'; exact absurd hq' (hq l)
   ·obtain ⟨a, h, _, e⟩ := opd_fl h
    refine ⟨a, h, fun K' st' ha => ?_⟩
    have hg : st'.get t = st.get t := ha t (footO_mem hx t (by simp [behind]))
    unfold step; rw [ho]
    simp only
    split
    ·rename_i l hq'; rw [hg] at hq'; exact absurd hq' (hq l)
    ·exact e _ st' (fo _ hx st' ha)
  | _ =>
   obtain ⟨a, h, _, e⟩ := opd_fl h
   refine ⟨a, h, fun K' st' ha => ?_⟩
   unfold step; rw [ho]
   exact e _ st' (fo _ hx st' ha)
 | pick c x y =>
  have hc : c ∈ o.op.operands.toList := by rw [ho]; simp [Op.operands]
  have hx : x ∈ o.op.operands.toList := by rw [ho]; simp [Op.operands]
  have hy : y ∈ o.op.operands.toList := by rw [ho]; simp [Op.operands]
  unfold step at h; rw [ho] at h
  obtain ⟨a, h, _, e⟩ := opd_fl h
  obtain ⟨b, h, e1⟩ := asBool_fl h
  cases b with
  | true =>
   obtain ⟨v, h, _, e2⟩ := opd_fl h
   exact ⟨v, h, fun K' st' ha => by
    unfold step; rw [ho]
    simp only [e _ st' (fo c hc st' ha), e1, e2 _ st' (fo x hx st' ha)]⟩
  | false =>
   obtain ⟨v, h, _, e2⟩ := opd_fl h
   exact ⟨v, h, fun K' st' ha => by
    unfold step; rw [ho]
    simp only [e _ st' (fo c hc st' ha), e1, e2 _ st' (fo y hy st' ha)]⟩
 | binOp op t x y u =>
  have hx : x ∈ o.op.operands.toList := by rw [ho]; simp [Op.operands]
  have hy : y ∈ o.op.operands.toList := by rw [ho]; simp [Op.operands]
  unfold step at h; rw [ho] at h
  have hsure : nilSure st x y = true := by simpa [noTup, ho] using hm
  obtain ⟨a, h, hta, e⟩ := opd_fl h
  obtain ⟨b, h, _, e1⟩ := opd_fl h
  have ea := e some st (fun _ _ => rfl)
  have eb := e1 some st (fun _ _ => rfl)
  split at h
  ·have hs : sureN st a = true := by simpa [nilSure, ea, eb] using hsure
   split at h
   ·rename_i e0 ht
    split at h
    ·obtain ⟨c, h, e2⟩ := nilD_fl hs h
     exact ⟨_, h, fun K' st' ha => by
      unfold step; rw [ho]
      simp only [e _ st' (fo x hx st' ha), e1 _ st' (fo y hy st' ha), ht, e2 _ st' ((fo x hx st' ha).mem hta)]⟩
    ·obtain ⟨c, h, e2⟩ := nilD_fl hs h
     exact ⟨_, h, fun K' st' ha => by
      unfold step; rw [ho]
      simp only [e _ st' (fo x hx st' ha), e1 _ st' (fo y hy st' ha), ht, e2 _ st' ((fo x hx st' ha).mem hta)]⟩
    ·cases h
   ·cases h
  ·rename_i hb
   obtain ⟨v, h, e2⟩ := binD_fl h
   refine ⟨_, h, fun K' st' ha => ?_⟩
   unfold step; rw [ho]
   simp only [e _ st' (fo x hx st' ha), e1 _ st' (fo y hy st' ha)]
   cases b <;> first
    | exact absurd rfl hb
    | exact e2 (fun v => K' v st')
 | unOp op t x =>
  have hx : x ∈ o.op.operands.toList := by rw [ho]; simp [Op.operands]
  unfold step at h; rw [ho] at h
  obtain ⟨a, h, hta, e⟩ := opd_fl h
  split at h
  ·exact ⟨_, h, fun K' st' ha => by unfold step; rw [ho]; simp only [e _ st' (fo x hx st' ha)]⟩
  ·exact ⟨_, h, fun K' st' ha => by unfold step; rw [ho]; simp only [e _ st' (fo x hx st' ha)]⟩
  ·split at h
   ·rename_i hb
    exact ⟨_, h, fun K' st' ha => by unfold step; rw [ho]; simp only [e _ st' (fo x hx st' ha), hb]⟩
   ·cases h
  ·cases h
 | convert s d x =>
  have hx : x ∈ o.op.operands.toList := by rw [ho]; simp [Op.operands]
  unfold step at h; rw [ho] at h
  simp only at h
  split at h
  ·rename_i h1 h2
   obtain ⟨a, h, hta, e⟩ := opd_fl h
   obtain ⟨kd, n, h, e1⟩ := asInt_fl h
   exact ⟨_, h, fun K' st' ha => by unfold step; rw [ho]; simp only [h1, h2, e _ st' (fo x hx st' ha), e1]⟩
  ·cases h
 | load t x =>
  have hx : x ∈ o.op.operands.toList := by rw [ho]; simp [Op.operands]
  unfold step at h; rw [ho] at h
  simp only at h
  split at h
  ·rename_i h1
   obtain ⟨a, h, hta, e⟩ := opd_fl h
   have ea := e some st (fun _ _ => rfl)
   have hn : frz st a = none := by
    unfold noTup at hm
    rw [ho] at hm
    simp only [ea] at hm
    cases hf : frz st a with
    | none => rfl
    | some _ => rw [hf] at hm; cases hm
   rw [hn] at h
   obtain ⟨v, h, e1⟩ := loadD_fl h
   exact ⟨_, h, fun K' st' ha => by
    unfold step; rw [ho]
    have hn' : frz st' a = none := frz_agr ((fo x hx st' ha).mem hta) hn
    simp only [h1, e _ st' (fo x hx st' ha), hn', e1 _ st' ((fo x hx st' ha).mem hta)]⟩
  ·cases h
 | fieldAddr t x f =>
  have hx : x ∈ o.op.operands.toList := by rw [ho]; simp [Op.operands]
  unfold step at h; rw [ho] at h
  simp only at h
  split at h
  ·rename_i h1
   obtain ⟨a, h, hta, e⟩ := opd_fl h
   obtain ⟨h, e0⟩ := guardB_fl h
   obtain ⟨v, h, e1⟩ := fieldD_fl h
   exact ⟨_, h, fun K' st' ha => by unfold step; rw [ho]; simp only [h1, e _ st' (fo x hx st' ha), e0, e1 _ st' ((fo x hx st' ha).mem hta)]⟩
  ·cases h
 | field t x f =>
  have hx : x ∈ o.op.operands.toList := by rw [ho]; simp [Op.operands]
  unfold step at h; rw [ho] at h
  simp only at h
  split at h
  ·rename_i h1
   obtain ⟨a, h, hta, e⟩ := opd_fl h
   split at h
   ·obtain ⟨h, e0⟩ := sameTy_fl h
    obtain ⟨h, e2⟩ := guardB_fl h
    split at h
    ·rename_i hq
     exact ⟨_, h, fun K' st' ha => by unfold step; rw [ho]; simp only [h1, e _ st' (fo x hx st' ha), e0, e2, hq]⟩
    ·cases h
   ·cases h
  ·cases h
 | indexAddr t x y =>
  have hx : x ∈ o.op.operands.toList := by rw [ho]; simp [Op.operands]
  have hy : y ∈ o.op.operands.toList := by rw [ho]; simp [Op.operands]
  unfold step at h; rw [ho] at h
  simp only at h
  split at h
  ·rename_i h1
   obtain ⟨a, h, hta, e⟩ := opd_fl h
   obtain ⟨b, h, _, e2⟩ := opd_fl h
   obtain ⟨kd, n, h, e3⟩ := asInt_fl h
   obtain ⟨v, h, e1⟩ := indexD_fl h
   exact ⟨_, h, fun K' st' ha => by unfold step; rw [ho]; simp only [h1, e _ st' (fo x hx st' ha), e2 _ st' (fo y hy st' ha), e3, e1 _ st' ((fo x hx st' ha).mem hta)]⟩
  ·cases h
 | index t x y =>
  have hx : x ∈ o.op.operands.toList := by rw [ho]; simp [Op.operands]
  have hy : y ∈ o.op.operands.toList := by rw [ho]; simp [Op.operands]
  unfold step at h; rw [ho] at h
  simp only at h
  split at h
  ·rename_i h1
   obtain ⟨a, h, hta, e⟩ := opd_fl h
   obtain ⟨b, h, _, e2⟩ := opd_fl h
   obtain ⟨kd, n, h, e3⟩ := asInt_fl h
   split at h
   ·obtain ⟨h, e0⟩ := sameTy_fl h
    obtain ⟨h, e4⟩ := guardB_fl h
    split at h
    ·rename_i hq
     exact ⟨_, h, fun K' st' ha => by unfold step; rw [ho]; simp only [h1, e _ st' (fo x hx st' ha), e2 _ st' (fo y hy st' ha), e3, e0, e4, hq]⟩
    ·cases h
   ·cases h
  ·rename_i h1
   split at h
   ·obtain ⟨h, e1⟩ := guardB_fl h
    obtain ⟨b, h, _, e2⟩ := opd_fl h
    obtain ⟨kd, n, h, e3⟩ := asInt_fl h
    obtain ⟨h, e4⟩ := guardB_fl h
    exact ⟨_, h, fun K' st' ha => by unfold step; rw [ho]; simp only [h1, e1, e2 _ st' (fo y hy st' ha), e3, e4]⟩
   ·cases h
 | slice t x lo hi mx =>
  have hx : x ∈ o.op.operands.toList := by rw [ho]; simp [Op.operands]
  have hb : ∀ y, lo = some y ∨ hi = some y ∨ mx = some y → y ∈ o.op.operands.toList := by
   intro y hy; rw [ho]; rcases hy with rfl | rfl | rfl <;> simp [Op.operands]
  unfold step at h; rw [ho] at h
  simp only at h
  split at h
  ·rename_i h1
   obtain ⟨a, h, hta, e⟩ := opd_fl h
   obtain ⟨v, h, e1⟩ := sliceD_fl h
   exact ⟨_, h, fun K' st' ha => by unfold step; rw [ho]; simp only [h1, e _ st' (fo x hx st' ha)]; exact e1 _ st' ((fo x hx st' ha).mem hta) (fun y hy => fo y (hb y hy) st' ha)⟩
  ·cases h
 | nilCheck x =>
  have hx : x ∈ o.op.operands.toList := by rw [ho]; simp [Op.operands]
  unfold step at h; rw [ho] at h
  simp only at h
  obtain ⟨a, h, hta, e⟩ := opd_fl h
  split at h
  ·rename_i s n p
   split at h
   ·rename_i o' ho'
    exact ⟨_, h, fun K' st' ha => by unfold step; rw [ho]; simp only [e _ st' (fo x hx st' ha), (fo x hx st' ha) s (hta s (by simp [targets, target])), ho']⟩
   ·cases h
  ·exact ⟨_, h, fun K' st' ha => by unfold step; rw [ho]; simp only [e _ st' (fo x hx st' ha)]⟩
  ·cases h
 | lookup t x i ok =>
  have hok : ok = false := by
   cases ok with
   | false => rfl
   | true => simp [flOp, ho] at hf
  subst hok
  have hx : x ∈ o.op.operands.toList := by rw [ho]; simp [Op.operands]
  have hi : i ∈ o.op.operands.toList := by rw [ho]; simp [Op.operands]
  unfold step at h; rw [ho] at h
  simp only at h
  split at h
  ·rename_i h1
   obtain ⟨a, h, hta, e⟩ := opd_fl h
   obtain ⟨b, h, _, e1⟩ := opd_fl h
   obtain ⟨e2, x2, h, h2⟩ := lookupD_fl h
   exact ⟨_, h, fun K' st' ha => by unfold step; rw [ho]; simp only [h1, e _ st' (fo x hx st' ha), e1 _ st' (fo i hi st' ha), h2 _ st' ((fo x hx st' ha).mem hta)]⟩
  ·cases h
 | makeFunc f first caps =>
  have hx : ∀ y ∈ caps.toList, y ∈ o.op.operands.toList := by
   intro y hy; rw [ho]; simp [Op.operands]; simp at hy; simp [hy]
  unfold step at h; rw [ho] at h
  cases f with
  | func n =>
   simp only at h
   split at h
   ·rename_i h1
    obtain ⟨l, h, e⟩ := opds_fl _ h
    obtain ⟨h, e1⟩ := guardB_fl h
    exact ⟨_, h, fun K' st' ha => by unfold step; rw [ho]; simp only [h1, e _ st' (fun y hy => fo y (hx y hy) st' ha), e1]⟩
   ·cases h
  | _ => cases h
 | call c =>
  have hx : ∀ y ∈ c.args.toList, y ∈ o.op.operands.toList := by
   intro y hy; rw [ho]; simp [Op.operands, Call.operands]; simp at hy; simp [hy]
  unfold step at h; rw [ho] at h
  simp only at h
  split at h
  ·rename_i hc
   split at h
   ·rename_i x hargs
    split at h
    ·rename_i t hty
     split at h
     ·rename_i ty hT
      obtain ⟨a, h, hta, e⟩ := opd_fl h
      obtain ⟨n, h, e1⟩ := lenD_fl h
      have hx1 := hx x (by rw [hargs]; simp)
      exact ⟨_, h, fun K' st' ha => by unfold step; rw [ho]; simp only [hc, hargs, hty, hT, e _ st' (fo x hx1 st' ha), e1 _ st' ((fo x hx1 st' ha).mem hta)]⟩
     ·cases h
    ·cases h
   ·cases h
  ·rename_i hc; simp [flOp, ho, hc] at hf
  ·rename_i hc; simp [flOp, ho, hc] at hf
  ·rename_i hc; simp [flOp, ho, hc] at hf
  ·rename_i hc
   split at h
   ·rename_i x y hargs
    obtain ⟨a, h, _, e⟩ := opd_fl h
    obtain ⟨b, h, _, e1⟩ := opd_fl h
    obtain ⟨k1, n1, h, e2⟩ := asInt_fl h
    obtain ⟨k2, n2, h, e3⟩ := asInt_fl h
    have hx1 := hx x (by rw [hargs]; simp)
    have hy1 := hx y (by rw [hargs]; simp)
    exact ⟨_, h, fun K' st' ha => by unfold step; rw [ho]; simp only [hc, hargs, e _ st' (fo x hx1 st' ha), e1 _ st' (fo y hy1 st' ha), e2, e3]⟩
   ·rename_i x y z hargs
    obtain ⟨a, h, _, e⟩ := opd_fl h
    obtain ⟨b, h, _, e1⟩ := opd_fl h
    obtain ⟨c', h, _, e4⟩ := opd_fl h
    obtain ⟨k1, n1, h, e2⟩ := asInt_fl h
    obtain ⟨k2, n2, h, e3⟩ := asInt_fl h
    obtain ⟨k3, n3, h, e5⟩ := asInt_fl h
    have hx1 := hx x (by rw [hargs]; simp)
    have hy1 := hx y (by rw [hargs]; simp)
    have hz1 := hx z (by rw [hargs]; simp)
    exact ⟨_, h, fun K' st' ha => by unfold step; rw [ho]; simp only [hc, hargs, e _ st' (fo x hx1 st' ha), e1 _ st' (fo y hy1 st' ha), e4 _ st' (fo z hz1 st' ha), e2, e3, e5]⟩
   ·cases h
  ·rename_i hc
   split at h
   ·rename_i x y hargs
    obtain ⟨a, h, _, e⟩ := opd_fl h
    obtain ⟨b, h, _, e1⟩ := opd_fl h
    obtain ⟨k1, n1, h, e2⟩ := asInt_fl h
    obtain ⟨k2, n2, h, e3⟩ := asInt_fl h
    have hx1 := hx x (by rw [hargs]; simp)
    have hy1 := hx y (by rw [hargs]; simp)
    exact ⟨_, h, fun K' st' ha => by unfold step; rw [ho]; simp only [hc, hargs, e _ st' (fo x hx1 st' ha), e1 _ st' (fo y hy1 st' ha), e2, e3]⟩
   ·rename_i x y z hargs
    obtain ⟨a, h, _, e⟩ := opd_fl h
    obtain ⟨b, h, _, e1⟩ := opd_fl h
    obtain ⟨c', h, _, e4⟩ := opd_fl h
    obtain ⟨k1, n1, h, e2⟩ := asInt_fl h
    obtain ⟨k2, n2, h, e3⟩ := asInt_fl h
    obtain ⟨k3, n3, h, e5⟩ := asInt_fl h
    have hx1 := hx x (by rw [hargs]; simp)
    have hy1 := hx y (by rw [hargs]; simp)
    have hz1 := hx z (by rw [hargs]; simp)
    exact ⟨_, h, fun K' st' ha => by unfold step; rw [ho]; simp only [hc, hargs, e _ st' (fo x hx1 st' ha), e1 _ st' (fo y hy1 st' ha), e4 _ st' (fo z hz1 st' ha), e2, e3, e5]⟩
   ·cases h
  ·rename_i hc; simp [flOp, ho, hc] at hf
  ·cases h
 | _ => simp [flOp, ho] at hf
end
end Go.Ab
