/- Operations that leave memory as it is: each one's meaning. -/
import Derived.Test.YtokjogplnoeicaaAbStep
namespace Go.Ab

section
variable {P : Program} {w0 w : World} {mu : Mu} {st : St} {a : Act} {g : Gh} {R : Type} {U : Nat → Prop}

theorem asInt_sound {av : AV} {v : Value} {k : IntKind → Int → Option R} {r : R} (h : asInt av k = some r) (hv : VR w g st.get av v) : ∃ kd n, k kd n = some r ∧ v = .int kd n := by
 unfold asInt at h
 split at h
 ·exact ⟨_, _, h, VR_int hv⟩
 ·cases h
theorem asBool_sound {av : AV} {v : Value} {k : Bool → Option R} {r : R} (h : asBool av k = some r) (hv : VR w g st.get av v) : ∃ b, k b = some r ∧ v = .bool b := by
 unfold asBool at h
 split at h
 ·exact ⟨_, h, VR_bool hv⟩
 ·cases h

theorem guardB_some {c : Bool} {k : Option R} {r : R} (h : guardB c k = some r) : c = true ∧ k = some r := by
 cases c <;> simp [guardB] at h ⊢; exact h
theorem guardK_some {c : Bool} {k : Option R} {r : R} (h : guardK c k = some r) : c = true ∧ k = some r := by
 cases c <;> simp [guardK] at h ⊢; exact h
theorem sameTy_some {t t' : Ty} {k : Option R} {r : R} (h : sameTy t t' k = some r) : t = t' ∧ k = some r := by
 unfold sameTy at h
 cases hd : decide (t = t') with
 | true => rw [hd] at h; exact ⟨of_decide_eq_true hd, h⟩
 | false => rw [hd] at h; cases h

/-- equality at structs as the abstract says -/
def EqOK (P : Program) (T : Tab) : Prop := ∀ t ty, T.ty t = some ty → isCell ty = false → ∀ (x y : den ty) c, beqD ty x y = some c → ∀ (w : World) (g : Gh) (v v' : Value) (m m' : Md) (ox oy : Operand),
 shapeV ty v → RR w g 0 ty m [] (.val v.cells) 0 x → shapeV ty v' → RR w g 0 ty m' [] (.val v'.cells) 0 y →
  (eqGuard .eql t ox oy v v').run P w = .ok () w ∧ (eqGuard .neq t ox oy v v').run P w = .ok () w ∧ (binOp .eql t v v').run P w = .ok (.bool c) w ∧ (binOp .neq t v v').run P w = .ok (.bool !c) w

theorem binI_run (op : BinOp) (t : TypeId) (k ky : IntKind) (x y : Int) (ox oy : Operand) : (do eqGuard op t ox oy (.int k x) (.int ky y); binOp op t (.int k x) (.int ky y) : Sem Value) = binOp op t (.int k x) (.int ky y) := by
 rw [eqGuard_at_int]; rfl

theorem binD_sound {T : Tab} (hT : TabOK P T) (hE : EqOK P T) {t : TypeId} {op : BinOp} {x y : AV} {k : AV → Option R} {r : R} {vx vy : Value} {ox oy : Operand} (h : binD (T.ty t) op x y k = some r) (hx : VR w g st.get x vx) (hy : VR w g st.get y vy) :
  ∃ av v, k av = some r ∧ (do eqGuard op t ox oy vx vy; binOp op t vx vy : Sem Value).run P w = .ok v w ∧ VR w g st.get av v ∧ stampOK U av ∧ isOw av = false := by
 cases x with
 | v tx mx x =>
  cases y with
  | v ty my y =>
   by_cases hix : ∃ kx, tx = .int kx
   ·obtain ⟨kx, rfl⟩ := hix
    by_cases hiy : ∃ ky, ty = .int ky
    ·obtain ⟨ky, rfl⟩ := hiy
     obtain rfl := VR_int hx
     obtain rfl := VR_int hy
     rw [binI_run]
     by_cases hk : kx = ky
     ·subst hk
      simp only [binD, decide_true, cmpI, bitsI] at h
      cases op with
      | shl =>
       obtain ⟨h1, h⟩ := guardB_some h
       have h1 := of_decide_eq_true h1
       refine ⟨_, _, h, ?_, VR_of_int _ _, trivial, rfl⟩
       rw [binOp_shl]; simp [Op.shift, Int.not_lt.2 h1, shlI]
      | shr =>
       obtain ⟨h1, h⟩ := guardB_some h
       have h1 := of_decide_eq_true h1
       refine ⟨_, _, h, ?_, VR_of_int _ _, trivial, rfl⟩
       rw [binOp_shr]; simp [Op.shift, Int.not_lt.2 h1, shrI]
      | quo =>
       obtain ⟨h1, h⟩ := guardB_some h
       refine ⟨_, _, h, ?_, VR_of_int _ _, trivial, rfl⟩
       rw [binOp_quo]; simp at h1; simp [Op.intDiv, h1]
      | rem =>
       obtain ⟨h1, h⟩ := guardB_some h
       refine ⟨_, _, h, ?_, VR_of_int _ _, trivial, rfl⟩
       rw [binOp_rem]; simp at h1; simp [Op.intDiv, h1]
      | eql => exact ⟨_, _, h, by rw [binOp_eql]; rfl, VR_of_bool _, trivial, rfl⟩
      | neq => exact ⟨_, _, h, by rw [binOp_neq]; rfl, VR_of_bool _, trivial, rfl⟩
      | lss => exact ⟨_, _, h, by rw [binOp_lss]; rfl, VR_of_bool _, trivial, rfl⟩
      | leq => exact ⟨_, _, h, by rw [binOp_leq]; rfl, VR_of_bool _, trivial, rfl⟩
      | gtr => exact ⟨_, _, h, by rw [binOp_gtr]; rfl, VR_of_bool _, trivial, rfl⟩
      | geq => exact ⟨_, _, h, by rw [binOp_geq]; rfl, VR_of_bool _, trivial, rfl⟩
      | add => exact ⟨_, _, h, by rw [binOp_add]; rfl, VR_of_int _ _, trivial, rfl⟩
      | sub => exact ⟨_, _, h, by rw [binOp_sub]; rfl, VR_of_int _ _, trivial, rfl⟩
      | mul => exact ⟨_, _, h, by rw [binOp_mul]; rfl, VR_of_int _ _, trivial, rfl⟩
      | and => exact ⟨_, _, h, by rw [binOp_and]; rfl, VR_of_int _ _, trivial, rfl⟩
      | or => exact ⟨_, _, h, by rw [binOp_or]; rfl, VR_of_int _ _, trivial, rfl⟩
      | xor => exact ⟨_, _, h, by rw [binOp_xor]; rfl, VR_of_int _ _, trivial, rfl⟩
      | andNot => exact ⟨_, _, h, by rw [binOp_andNot]; rfl, VR_of_int _ _, trivial, rfl⟩
     ·have hd : decide (kx = ky) = false := decide_eq_false hk
      simp only [binD, hd] at h
      cases op with
      | shl =>
       obtain ⟨h1, h⟩ := guardB_some h
       have h1 := of_decide_eq_true h1
       refine ⟨_, _, h, ?_, VR_of_int _ _, trivial, rfl⟩
       rw [binOp_shl]; simp [Op.shift, Int.not_lt.2 h1, shlI]
      | shr =>
       obtain ⟨h1, h⟩ := guardB_some h
       have h1 := of_decide_eq_true h1
       refine ⟨_, _, h, ?_, VR_of_int _ _, trivial, rfl⟩
       rw [binOp_shr]; simp [Op.shift, Int.not_lt.2 h1, shrI]
      | _ => cases h
    ·cases ty <;> first | (exact absurd ⟨_, rfl⟩ hiy) | (simp [binD] at h)
   ·by_cases hb : tx = .bool ∧ ty = .bool
    ·obtain ⟨rfl, rfl⟩ := hb
     obtain rfl := VR_bool hx
     obtain rfl := VR_bool hy
     have he : ∀ u v, eqGuard op t ox oy (.bool u) v = pure () := fun u v => eqGuard_at_bool op t ox oy v u
     simp only [binD] at h
     split at h
     ·rename_i ht
      have hu := ((hT _).1 _ ht).1.1
      exact ⟨_, _, h, by rw [he]; exact run_eql_bool _ t _ _ hu, VR_of_bool _, trivial, rfl⟩
     ·rename_i ht
      have hu := ((hT _).1 _ ht).1.1
      exact ⟨_, _, h, by rw [he]; exact run_neq_bool _ t _ _ hu, VR_of_bool _, trivial, rfl⟩
     ·cases h
    ·have hg : ∃ (ht : ty = tx) (c : Bool), T.ty t = some tx ∧ beqD tx x (ht ▸ y) = some c ∧ eqK op c k = some r := by
      have h' : (if ht : ty = tx then (match decide (T.ty t = some tx) with
       | true => (match beqD tx x (ht ▸ y) with | some c => eqK op c k | none => none)
       | false => none) else none) = some r := by
       cases tx with
       | int kx => exact absurd ⟨_, rfl⟩ hix
       | bool => cases ty <;> first | exact absurd ⟨rfl, rfl⟩ hb | exact h
       | _ => exact h
      split at h'
      ·rename_i ht
       refine ⟨ht, ?_⟩
       cases hd : decide (T.ty t = some tx) with
       | false => rw [hd] at h'; cases h'
       | true =>
        rw [hd] at h'
        simp only at h'
        cases hc : beqD tx x (ht ▸ y) with
        | none => rw [hc] at h'; cases h'
        | some c => rw [hc] at h'; exact ⟨c, of_decide_eq_true hd, rfl, h'⟩
      ·cases h'
     obtain ⟨ht, c, htt, hc, hk⟩ := hg
     subst ht
     have hcell : isCell ty = false := by
      cases ty with
      | int kx => exact absurd ⟨_, rfl⟩ hix
      | bool => exact absurd ⟨rfl, rfl⟩ hb
      | sl e => cases hc
      | mp k e => cases hc
      | bx e => cases hc
      | pair => rfl
      | unit => rfl
     obtain ⟨e1, e2, e3, e4⟩ := hE t ty htt hcell x y c hc w g vx vy mx my ox oy hx.2.1 hx.2.2 hy.2.1 hy.2.2
     unfold eqK at hk
     split at hk
     ·exact ⟨_, _, hk, by simp only [Sem.run_bind, e1, Result.andThen_ok]; exact e3, VR_of_bool _, trivial, rfl⟩
     ·exact ⟨_, _, hk, by simp only [Sem.run_bind, e2, Result.andThen_ok]; exact e4, VR_of_bool _, trivial, rfl⟩
     ·cases hk
  | _ => cases tx <;> simp [binD] at h
 | _ => cases h

theorem oneCell_cells {v : Value} (h : v.oneCell' = true) : v.cells = #[v] := by cases v <;> first | rfl | cases h

/-- the cells of a value of a type -/
theorem RR_cells {s : Nat} : ∀ (t : Ty) (m : Md) (p : List Stp) (src : Src) (k : Nat) (x : den t), RR w g s t m p src k x →
  ∃ cs : List Value, cs.length = sz t ∧ (∀ j c, cs[j]? = some c → rdS w src (k + j) = some c) ∧ ∀ c ∈ cs, c.oneCell' = true := by
 intro t
 induction t with
 | int kd => intro m p src k x h; exact ⟨[.int kd x], rfl, fun j c hc => by cases j <;> simp at hc; subst hc; exact h, fun c hc => by simp at hc; subst hc; rfl⟩
 | bool => intro m p src k x h; exact ⟨[.bool x], rfl, fun j c hc => by cases j <;> simp at hc; subst hc; exact h, fun c hc => by simp at hc; subst hc; rfl⟩
 | unit => intro m p src k x _; exact ⟨[], rfl, fun j c hc => by simp at hc, fun c hc => by simp at hc⟩
 | mp kt et _ _ =>
  intro m p src k x h
  cases hm : m.isOwn with
  | true =>
   simp only [RR, hm] at h
   obtain ⟨r, h1, _⟩ := h
   exact ⟨[.map r], rfl, fun j c hc => by cases j <;> simp at hc; subst hc; exact h1, fun c hc => by simp at hc; subst hc; rfl⟩
  | false =>
   simp only [RR, hm, RO] at h
   obtain ⟨r, h1, _⟩ := h
   exact ⟨[.map r], rfl, fun j c hc => by cases j <;> simp at hc; subst hc; exact h1, fun c hc => by simp at hc; subst hc; rfl⟩
 | bx e _ =>
  intro m p src k x h
  cases hm : m.isOwn with
  | true =>
   simp only [RR, hm] at h
   obtain ⟨r, h1, _⟩ := h
   exact ⟨[.pointer r], rfl, fun j c hc => by cases j <;> simp at hc; subst hc; exact h1, fun c hc => by simp at hc; subst hc; rfl⟩
  | false =>
   simp only [RR, hm, RO] at h
   obtain ⟨r, h1, _⟩ := h
   exact ⟨[.pointer r], rfl, fun j c hc => by cases j <;> simp at hc; subst hc; exact h1, fun c hc => by simp at hc; subst hc; rfl⟩
 | pair a b iha ihb =>
  intro m p src k x h
  simp only [RR] at h
  obtain ⟨hc, hcb, _, h1, h2⟩ := h
  obtain ⟨cs, h3, h4, h5⟩ := iha _ _ _ _ _ h1
  obtain ⟨ds, h6, h7, h8⟩ := ihb _ _ _ _ _ h2
  have hsa := sz_cell hc
  refine ⟨cs ++ ds, by simp [h3, h6, hsa, sz], fun j c hj => ?_, fun c hc => by rcases List.mem_append.1 hc with hc | hc; exact h5 c hc; exact h8 c hc⟩
  by_cases hj0 : j < cs.length
  ·rw [List.getElem?_append_left hj0] at hj; exact h4 j c hj
  ·rw [List.getElem?_append_right (by omega)] at hj
   have := h7 _ c hj
   rw [show k + 1 + (j - cs.length) = k + j by omega] at this
   exact this
 | sl e _ =>
  intro m p src k x h
  cases hm : m.isOwn with
  | true =>
   simp only [RR, hm] at h
   obtain ⟨a, cap, h1, h2, _⟩ := h
   exact ⟨[g.H s p], rfl, fun j c hc => by cases j <;> simp at hc; subst hc; exact h1, fun c hc => by simp at hc; subst hc; rw [h2]; rfl⟩
  | false =>
   simp only [RR, hm, RO] at h
   obtain ⟨⟨a, cap, h1, _⟩, _⟩ := h
   exact ⟨[_], rfl, fun j c hc => by cases j <;> simp at hc; subst hc; exact h1, fun c hc => by simp at hc; subst hc; rfl⟩

theorem RO_cells {col : Nat → Option (Nat × List Stp)} {l : Bool} : ∀ (t : Ty) (rd : Nat → Option Value) (k : Nat) (x : den t), RO w col l t rd k x →
  ∃ cs : List Value, cs.length = sz t ∧ (∀ j c, cs[j]? = some c → rd (k + j) = some c) ∧ ∀ c ∈ cs, c.oneCell' = true := by
 intro t
 induction t with
 | int kd => intro rd k x h; exact ⟨[.int kd x], rfl, fun j c hc => by cases j <;> simp at hc; subst hc; exact h, fun c hc => by simp at hc; subst hc; rfl⟩
 | bool => intro rd k x h; exact ⟨[.bool x], rfl, fun j c hc => by cases j <;> simp at hc; subst hc; exact h, fun c hc => by simp at hc; subst hc; rfl⟩
 | unit => intro rd k x _; exact ⟨[], rfl, fun j c hc => by simp at hc, fun c hc => by simp at hc⟩
 | mp kt et _ _ =>
  intro rd k x h
  simp only [RO] at h
  obtain ⟨r, h1, _⟩ := h
  exact ⟨[.map r], rfl, fun j c hc => by cases j <;> simp at hc; subst hc; exact h1, fun c hc => by simp at hc; subst hc; rfl⟩
 | bx e _ =>
  intro rd k x h
  simp only [RO] at h
  obtain ⟨r, h1, _⟩ := h
  exact ⟨[.pointer r], rfl, fun j c hc => by cases j <;> simp at hc; subst hc; exact h1, fun c hc => by simp at hc; subst hc; rfl⟩
 | pair a b iha ihb =>
  intro rd k x h
  simp only [RO] at h
  obtain ⟨hc, hcb, h1, h2⟩ := h
  obtain ⟨cs, h3, h4, h5⟩ := iha _ _ _ h1
  obtain ⟨ds, h6, h7, h8⟩ := ihb _ _ _ h2
  have hsa := sz_cell hc
  refine ⟨cs ++ ds, by simp [h3, h6, hsa, sz], fun j c hj => ?_, fun c hc => by rcases List.mem_append.1 hc with hc | hc; exact h5 c hc; exact h8 c hc⟩
  by_cases hj0 : j < cs.length
  ·rw [List.getElem?_append_left hj0] at hj; exact h4 j c hj
  ·rw [List.getElem?_append_right (by omega)] at hj
   have := h7 _ c hj
   rw [show k + 1 + (j - cs.length) = k + j by omega] at this
   exact this
 | sl e _ =>
  intro rd k x h
  simp only [RO] at h
  obtain ⟨a, cap, h1, _⟩ := h
  exact ⟨[_], rfl, fun j c hc => by cases j <;> simp at hc; subst hc; exact h1, fun c hc => by simp at hc; subst hc; rfl⟩

theorem load_run {ty : Ty} {t : TypeId} (hT : TM P ty t) {b o : Nat} {cs : List Value} (hl : cs.length = sz ty) (hc : ∀ j c, cs[j]? = some c → w.cell? ⟨b, o + j, none⟩ = some c) (h1 : ∀ c ∈ cs, c.oneCell' = true) :
  ∃ v, (Instr.loadAt t (.pointer (some ⟨b, o, none⟩))).run P w = .ok v w ∧ shapeV ty v ∧ v.cells.toList = cs := by
 cases hcell : isCell ty with
 | true =>
  have hs := sz_cell hcell
  rw [hs] at hl
  match cs, hl with
  | [c], _ =>
   have h0 := hc 0 c rfl
   have h2 := oneCell_cells (h1 c (by simp))
   refine ⟨c, ?_, by unfold shapeV; rw [hcell]; exact h2, by rw [h2]⟩
   simp only [Nat.add_zero] at h0
   simp [Instr.loadAt, Instr.sureAddr, loadVar, TM_isAgg hT, hcell, h0]
 | false =>
  refine ⟨.agg cs.toArray, ?_, by unfold shapeV; rw [hcell]; exact ⟨_, rfl, by simpa using hl⟩, rfl⟩
  have hld := run_loadCells_list (P := P) w ⟨b, o, none⟩ cs (fun j v hj => by
   have := hc j v hj
   unfold Addr.add; split
   ·rename_i hj0; subst hj0; simpa using this
   ·exact this)
  simp [Instr.loadAt, Instr.sureAddr, loadVar, TM_isAgg hT, hcell, TM_sizeOf hT, ← hl, hld]

/-- the node behind a pointer -/
theorem ptr_node (hI : Inv w0 mu st.get (Vals a) U w g) {s n : Nat} {p : List Stp} {o : Own} {v : Value} (ho : ownP? (st.get s) n p = some o) (hv : VR w g st.get (.pl s n p) v) {tv : TV} (hat : o.at p = some tv) :
  ∃ b off k, v = .pointer (some ⟨b, off + k, none⟩) ∧ RR w g s tv.t tv.m p (.mem b off) k tv.x ∧ (isCell tv.t = false → k = 0) ∧ g.A s p = (b, off + k) := by
 obtain ⟨h1, h2, h3⟩ := hv o ho
 have ha := ownP?_ow ho
 obtain ⟨src, k, h4, h5, h6, h7⟩ := owner_node (tv := tv) (hI.slots s) (by rcases ha with ⟨h1, h2⟩ | ⟨h1, n1, n2, h2⟩; exact .inl ⟨h1, n, h2⟩; exact .inr ⟨h1, n1, n2, h2⟩) h2 hat
 obtain ⟨b, off, rfl⟩ := h7 h3
 have h8 := h6 b off rfl
 exact ⟨b, off, k, by rw [h1, h8], h4, h5, h8⟩

theorem rdS_mem {b off k j : Nat} : rdS w (.mem b off) (k + j) = w.cell? ⟨b, off + k + j, none⟩ := by simp [rdS, Nat.add_assoc]

theorem RR_nzP {s : Nat} {l nz : Bool} {p : List Stp} {src : Src} : ∀ (t : Ty) (k : Nat) (x : den t), isCell t = false → RR w g s t (.bor l false) p src k x → RR w g s t (.bor l nz) p src k x := by
 intro t
 induction t with
 | pair a b _ ihb =>
  intro k x _ h
  simp only [RR, fld_bor] at h ⊢
  exact ⟨h.1, h.2.1, h.2.2.1, h.2.2.2.1, ihb _ _ h.2.1 h.2.2.2.2⟩
 | unit => intros; trivial
 | _ => intro k x h; cases h
theorem RR_nz {s : Nat} {t : Ty} {l nz : Bool} {p : List Stp} {src : Src} {k : Nat} {x : den t} (h : RR w g s t (.bor l false) p src k x) (hz : nz = true → nzP t (fun j => rdS w src (k + j)) x) : RR w g s t (.bor l nz) p src k x := by
 cases t with
 | pair a b => exact RR_nzP _ _ _ rfl h
 | sl e => simp only [RR, Md.isOwn, Md.nz?, Md.lent?] at h ⊢; exact ⟨h.1, hz⟩
 | _ => exact h

theorem own_same {a : AV} {n n' : Nat} {p : List Stp} {o o' : Own} (h : ownP? a n p = some o) (h' : own? a n' = some o') : o' = o := by
 cases a with
 | ow n1 t m x =>
  simp only [ownP?, own?] at h h'
  split at h <;> split at h' <;> simp_all
 | box n1 n2 t m x =>
  simp only [ownP?, own?] at h h'
  split at h <;> split at h' <;> simp_all
 | _ => cases h

/-- a loaded value that owns nothing -/
theorem loadD_sound {T : Tab} (hT : TabOK P T) (hI : Inv w0 mu st.get (Vals a) U w g) {t : TypeId} {ty : Ty} (ht : T.ty t = some ty) {av : AV} {v : Value} {k : AV → Option R} {r : R} (h : loadD st ty av k = some r)
  (hv : VR w g st.get av v) : ∃ av' v', k av' = some r ∧ (Instr.loadAt t v).run P w = .ok v' w ∧ VR w g st.get av' v' ∧ stampOK U av' ∧ isOw av' = false := by
 have hTM := ((hT _).1 _ ht).1
 unfold loadD at h
 split at h
 ·rename_i s n p
  split at h
  ·rename_i o ho
   split at h
   ·rename_i t' m x hat
    obtain ⟨hty, hk⟩ := sameTy_some h
    clear h
    subst hty
    have h := hk
    clear hk
    obtain ⟨b, off, kk, rfl, h1, h2, h3⟩ := ptr_node hI ho hv hat
    obtain ⟨cs, h4, h5, h6⟩ := RR_cells _ _ _ _ _ _ h1
    obtain ⟨v', h7, h8, h9⟩ := load_run (w := w) hTM (b := b) (o := off + kk) h4 (fun j c hj => by rw [← rdS_mem]; exact h5 j c hj) h6
    split at h
    ·rename_i hm
     refine ⟨_, v', h, h7, ⟨hm, h8, ?_⟩, trivial, rfl⟩
     refine RR_free (Nat.le_refl _) (fun b l0 _ hb => ⟨rfl, hb⟩) _ m p [] _ _ kk 0 x h1 hm (fun hc => (h2 hc).symm) fun j hj => ?_
     have : j < cs.length := by rw [h4]; exact hj
     have h10 := h5 j cs[j] (by simp [this])
     rw [h10, ← Array.getElem?_toList, h9]; simp [this]
    ·split at h
     ·rename_i e hmo
      refine ⟨_, v', h, h7, ?_, ?_, rfl⟩
      ·intro o' ho'
       simp only [RR, hmo] at h1
       obtain ⟨ad, cap, h10, _⟩ := h1
       have h11 : v' = g.H s p := by
        have h12 := shape_cell rfl h8
        have h13 := h5 0 v' (by rw [← h9, h12]; rfl)
        rw [Nat.add_zero, h10] at h13
        exact (Option.some.inj h13).symm
       refine ⟨h11, ?_⟩
       obtain ⟨_, h12, _⟩ := hv o ho
       have := own_same ho ho'
       rw [this]; exact h12
      ·have := hI.stamps s
       have e1 := ownP?_ow ho
       rcases e1 with ⟨e3, e4⟩ | ⟨e3, n1, n2, e4⟩
       ·rw [e4] at this ⊢; exact this
       ·rw [e4] at this ⊢; exact this.2
     ·rename_i kt et hmo
      split at h
      ·rename_i hnz
       refine ⟨_, v', h, h7, ?_, ?_, rfl⟩
       ·intro o' ho'
        simp only [RR, hmo] at h1
        obtain ⟨r, h10, h10', h10''⟩ := h1
        cases r with
        | none => exact absurd rfl (h10' hnz)
        | some bb =>
         have h11 : v' = g.H s p := by
          have h12 := shape_cell rfl h8
          have h13 := h5 0 v' (by rw [← h9, h12]; rfl)
          rw [Nat.add_zero, h10] at h13
          rw [h10''.1]; exact (Option.some.inj h13).symm
         refine ⟨h11, ?_⟩
         obtain ⟨_, h12, _⟩ := hv o ho
         have := own_same ho ho'
         rw [this]; exact h12
       ·have := hI.stamps s
        have e1 := ownP?_ow ho
        rcases e1 with ⟨e3, e4⟩ | ⟨e3, n1, n2, e4⟩
        ·rw [e4] at this ⊢; exact this
        ·rw [e4] at this ⊢; exact this.2
      ·cases h
     ·cases h
   ·cases h
  ·cases h
 ·rename_i t' m x
  obtain ⟨hty, hk⟩ := sameTy_some h
  clear h
  subst hty
  have h := hk
  clear hk
  split at h
  ·rename_i hm
   obtain ⟨l, nz, rfl, ad, rfl, h2, h3, h4, h5, h6⟩ := hv
   obtain ⟨blk, o, sp⟩ := ad
   simp only at h2 h3 h4 h5 h6
   subst h2
   obtain ⟨cs, h7, h8, h9⟩ := RO_cells _ _ _ _ h5
   simp only [Nat.zero_add] at h8
   obtain ⟨v', h10, h11, h12⟩ := load_run (w := w) hTM (b := blk) (o := o) h7 h8 h9
   have hcs : ∀ j, j < sz t' → v'.cells[0 + j]? = (fun j => w.cell? ⟨blk, o + j, none⟩) (0 + j) := by
    intro j hj
    have : j < cs.length := by rw [h7]; exact hj
    have h13 := h8 j cs[j] (by simp [this])
    simp only [Nat.zero_add]
    rw [h13, ← Array.getElem?_toList, h12]; simp [this]
   have hRR := RO_RR (g := g) (s := 0) t' [] _ v'.cells 0 x h5 hcs
   refine ⟨_, v', h, h10, ⟨hm, h11, RR_nz hRR fun hz => ?_⟩, trivial, rfl⟩
   have h13 := h6 hz
   cases t' with
   | sl e =>
    intro hx
    obtain ⟨l1, c1, h14⟩ := h13 hx
    refine ⟨l1, c1, ?_⟩
    have := hcs 0 (by simp [sz])
    simp only [rdS, Nat.add_zero, Nat.zero_add] at this ⊢
    rw [this]; simpa using h14
   | _ => trivial
  ·cases h
 ·rename_i s n
  split at h
  ·rename_i e n1 u1 t1 m1 x1 hq
   split at h
   ·rename_i hn
    have hn := Nat.eq_of_beq_eq_true hn
    subst hn
    obtain ⟨b, c, el, u, rfl, h2, h3, h4, h5, h6⟩ := hv
    have hcell : w.cell? ⟨b, 0, none⟩ = some u := by simp [World.cell?, h4, h5]
    refine ⟨_, u, h, ?_, h6, ?_, rfl⟩
    ·simp [Instr.loadAt, Instr.sureAddr, loadVar, TM_isAgg hTM, isCell, hcell]
    ·have := hI.stamps s
     rw [hq] at this; exact this.1
   ·cases h
  ·cases h
 ·cases h

theorem TM2_field {m : Md} {n : Nat} : ∀ (ty : Ty) (fld : Nat → Option TypeId) (k : Nat) (x : den ty) (tv : TV), (TM2 P ty).2 fld k → fieldK m n ty x k = some tv →
  isCell tv.t = true ∧ k ≤ n ∧ n < k + sz ty ∧ ∃ tf, fld n = some tf ∧ TM P tv.t tf := by
 intro ty
 induction ty with
 | pair a b _ ihb =>
  intro fld k x tv h hf
  obtain ⟨hc, hcb, ta, h1, h2, h3⟩ := h
  simp only [fieldK] at hf
  cases hkn : Nat.beq k n with
  | true =>
   rw [hkn] at hf
   have := Nat.eq_of_beq_eq_true hkn
   subst this
   simp only [Option.some.injEq] at hf
   subst hf
   exact ⟨hc, Nat.le_refl _, by simp [sz]; omega, ta, h1, h2⟩
  | false =>
   rw [hkn] at hf
   obtain ⟨h4, h5, h6, h7⟩ := ihb _ _ _ _ h3 hf
   exact ⟨h4, by omega, by simp [sz]; omega, h7⟩
 | _ => intro fld k x tv h hf; simp [fieldK] at hf

/-- a field, by its type's number -/
theorem TM_field {ty : Ty} {t : TypeId} (hT : TM P ty t) {m : Md} {n : Nat} {x : den ty} {tv : TV} (hf : fieldOf ty m x n = some tv) :
  isCell tv.t = true ∧ n < sz ty ∧ ((∃ (fs : Array Field) (f : Field), P.underlying t = some (.struct fs) ∧ fs[n]? = some f ∧ f.offset = n ∧ TM P tv.t f.type) ∨
   (∃ te, P.underlying t = some (.array (sz ty) te) ∧ (∃ i, P.info? te = some i ∧ i.size = 1) ∧ TM P tv.t te)) := by
 cases ty with
 | pair a b =>
  obtain ⟨fld, i, zs, h0, hc, hcb, ⟨ta, h1, h2, h3⟩, _⟩ := hT
  obtain ⟨h4, _, h6, tf, h7, h8⟩ := TM2_field (.pair a b) fld 0 x tv ⟨hc, hcb, ta, h1, h2, h3⟩ hf
  have h6 : n < 1 + sz b := by simpa [sz] using h6
  refine ⟨h4, by simpa [sz] using h6, ?_⟩
  rcases h0 with ⟨fs, h9, _, h11⟩ | ⟨_, te, h9, h10, h11⟩
  ·obtain ⟨f, h12, h13, h14⟩ := h11 n h6
   rw [h7] at h14
   simp only [Option.some.injEq] at h14
   exact .inl ⟨fs, f, h9, h12, h13, by rw [← h14]; exact h8⟩
  ·have h12 := h11 n h6
   rw [h7] at h12
   simp only [Option.some.injEq] at h12
   exact .inr ⟨te, h9, h10, by rw [← h12]; exact h8⟩
 | _ => simp [fieldOf, fieldK] at hf

theorem addr_add (b o n : Nat) : (⟨b, o, none⟩ : Addr).add n = ⟨b, o + n, none⟩ := by
 unfold Addr.add; split
 ·rename_i h; subst h; rfl
 ·rfl

theorem fieldAt_run {ty : Ty} {t : TypeId} (hT : TM P ty t) {arr : Bool} (ha : ∀ n te, P.underlying t = some (.array n te) → arr = true) (harr : arr = false) {m : Md} {n : Nat} {x : den ty} {tv : TV} (hf : fieldOf ty m x n = some tv) (b o : Nat) :
  (Instr.fieldAt t (.pointer (some ⟨b, o, none⟩)) n).run P w = .ok (.pointer (some ⟨b, o + n, none⟩)) w := by
 obtain ⟨h1, h2, h3⟩ := TM_field hT hf
 rcases h3 with ⟨fs, f, h4, h5, h6, h7⟩ | ⟨te, h4, _⟩
 ·have hs := TM_sizeOf h7 w
  rw [sz_cell h1] at hs
  simp [Instr.fieldAt, run_underlying h4, h5, Instr.sureAddr, fieldPlace, hs, h6, addr_add]
 ·rw [ha _ _ h4] at harr; cases harr

theorem okP_app : ∀ (q r : List Stp) (t : Ty) (m : Md) (x : den t) (tv : TV), okP q t m x → walkP q t m x = some tv → okP r tv.t tv.m tv.x → okP (q ++ r) t m x := by
 intro q
 induction q with
 | nil => intro r t m x tv _ hw hr; simp only [walkP, Option.some.injEq] at hw; subst hw; exact hr
 | cons c q ih =>
  intro r t m x tv hok hw hr
  cases c with
  | dr => simp [okP] at hok
  | fld n =>
   simp only [okP, walkP, List.cons_append] at hok hw ⊢
   obtain ⟨tv', hf, hok⟩ := hok
   rw [hf] at hw
   exact ⟨tv', hf, ih _ _ _ _ _ hok hw hr⟩
  | el i =>
   cases t with
   | sl e =>
    simp only [okP, walkP, List.cons_append] at hok hw ⊢
    exact ⟨hok.1, hok.2.1, ih _ _ _ _ _ hok.2.2 hw hr⟩
   | _ => simp [okP] at hok
theorem Own.ok_app {o : Own} {p r : List Stp} {tv : TV} (hok : o.ok p) (hat : o.at p = some tv) (hr : okP r tv.t tv.m tv.x) : o.ok (p ++ r) := by
 obtain ⟨ob, ot, om, ox⟩ := o
 cases ob with
 | false =>
  have hok' : okP p ot om ox := by
   cases p with
   | nil => trivial
   | cons c p => cases c <;> simpa [Own.ok] using hok
  have hw : walkP p ot om ox = some tv := by
   cases p with
   | nil => simpa [Own.at] using hat
   | cons c p => cases c <;> simp [Own.at] at hat ⊢ <;> exact hat
  have := okP_app p r ot om ox tv hok' hw hr
  cases hq : p ++ r with
  | nil => trivial
  | cons c q => rw [hq] at this; cases c <;> simpa [Own.ok] using this
 | true =>
  cases p with
  | nil => simp [Own.ok] at hok
  | cons c p =>
   cases c with
   | dr =>
    simp only [Own.ok, Own.at, List.cons_append] at hok hat ⊢
    exact okP_app p r ot om ox tv hok hat hr
   | fld n => simp [Own.ok] at hok
   | el i => simp [Own.ok] at hok
theorem Own.mem_app {o : Own} {p r : List Stp} (h : o.mem p) : o.mem (p ++ r) := by
 rcases h with h | ⟨i, h⟩
 ·exact .inl h
 ·exact .inr ⟨i, List.mem_append_left _ h⟩
theorem ownP_same {a : AV} {n : Nat} {p p' : List Stp} {o o' : Own} (h : ownP? a n p = some o) (h' : ownP? a n p' = some o') : o' = o := by
 cases a with
 | ow n1 t m x =>
  simp only [ownP?] at h h'
  split at h <;> split at h' <;> simp_all
 | box n1 n2 t m x =>
  simp only [ownP?] at h h'
  split at h <;> split at h' <;> simp_all
 | _ => cases h

theorem ownP_stamp (hI : Inv w0 mu st.get (Vals a) U w g) {s n : Nat} {p : List Stp} {o : Own} (ho : ownP? (st.get s) n p = some o) : U n := by
 have h1 := hI.stamps s
 cases hq : st.get s with
 | ow n1 t m x =>
  rw [hq] at ho h1
  simp only [ownP?] at ho
  split at ho
  ·rename_i hb; have := Nat.eq_of_beq_eq_true hb; subst this; exact h1
  ·cases ho
 | box n1 n2 t m x =>
  rw [hq] at ho h1
  simp only [ownP?] at ho
  split at ho
  ·rename_i hb
   simp only [Bool.or_eq_true, Bool.and_eq_true] at hb
   rcases hb with hb | hb
   ·have := Nat.eq_of_beq_eq_true hb.1; subst this; exact h1.1
   ·have := Nat.eq_of_beq_eq_true hb; subst this; exact h1.2
  ·cases ho
 | _ => rw [hq] at ho; cases ho
theorem own_stamp (hI : Inv w0 mu st.get (Vals a) U w g) {s n : Nat} {o : Own} (ho : own? (st.get s) n = some o) : U n := by
 have h1 := hI.stamps s
 rcases own?_ow ho with ⟨_, h2⟩ | ⟨_, n1, h2⟩
 ·rw [h2] at h1; exact h1
 ·rw [h2] at h1; exact h1.2

/-- the place of a field, of an owner -/
theorem pl_field (hI : Inv w0 mu st.get (Vals a) U w g) {s n : Nat} {p : List Stp} {o : Own} {v : Value} (ho : ownP? (st.get s) n p = some o) (hv : VR w g st.get (.pl s n p) v) {tv tv' : TV} (hat : o.at p = some tv)
  {f : Nat} (hf : fieldOf tv.t tv.m tv.x f = some tv') : ∃ b off, v = .pointer (some ⟨b, off, none⟩) ∧ VR w g st.get (.pl s n (p ++ [.fld f])) (.pointer (some ⟨b, off + f, none⟩)) := by
 obtain ⟨b, off, k, rfl, h1, h2, h3⟩ := ptr_node hI ho hv hat
 have hc : isCell tv.t = false := by
  obtain ⟨t, m, x⟩ := tv
  cases t <;> first | rfl | (simp [fieldOf, fieldK] at hf)
 obtain rfl := h2 hc
 refine ⟨b, off, rfl, fun o' ho' => ?_⟩
 have := ownP_same ho ho'
 subst this
 obtain ⟨_, h4, h5⟩ := hv _ ho
 obtain ⟨_, _, _, h6, _, _⟩ := RR_field _ _ _ _ _ _ h1 hf
 rw [h6 b off rfl]
 exact ⟨rfl, Own.ok_app h4 hat ⟨tv', hf, trivial⟩, Own.mem_app h5⟩

/-- the place of a field of what is only read -/
theorem RO_field {col : Nat → Option (Nat × List Stp)} {l : Bool} {m : Md} {n : Nat} : ∀ (t : Ty) (rd : Nat → Option Value) (k : Nat) (x : den t) (tv : TV), RO w col l t rd k x → fieldK m n t x k = some tv →
  RO w col l tv.t rd n tv.x ∧ isCell tv.t = true ∧ tv.m = fldMd m n := by
 intro t
 induction t with
 | pair a b _ ihb =>
  intro rd k x tv h hf
  simp only [RO, fieldK] at h hf
  obtain ⟨hc, hcb, h1, h2⟩ := h
  cases hkn : Nat.beq k n with
  | true =>
   rw [hkn] at hf
   have := Nat.eq_of_beq_eq_true hkn
   subst this
   simp only [Option.some.injEq] at hf
   subst hf
   exact ⟨h1, hc, rfl⟩
  | false =>
   rw [hkn] at hf
   exact ihb _ _ _ _ h2 hf
 | _ => intro rd k x tv h hf; simp [fieldK] at hf

theorem RO_shift {col : Nat → Option (Nat × List Stp)} {l : Bool} : ∀ (t : Ty) (rd rd' : Nat → Option Value) (k k' : Nat) (x : den t), RO w col l t rd k x → (∀ j, j < sz t → rd' (k' + j) = rd (k + j)) → RO w col l t rd' k' x := by
 intro t
 induction t with
 | int kd => intro rd rd' k k' x h hr; have := hr 0 (by simp [sz]); simp only [RO, Nat.add_zero] at *; rw [this]; exact h
 | bool => intro rd rd' k k' x h hr; have := hr 0 (by simp [sz]); simp only [RO, Nat.add_zero] at *; rw [this]; exact h
 | unit => intros; trivial
 | mp kt et _ _ =>
  intro rd rd' k k' x h hr
  have := hr 0 (by simp [sz])
  simp only [RO, Nat.add_zero] at *
  rw [this]; exact h
 | bx e _ =>
  intro rd rd' k k' x h hr
  have := hr 0 (by simp [sz])
  simp only [RO, Nat.add_zero] at *
  rw [this]; exact h
 | pair a b iha ihb =>
  intro rd rd' k k' x h hr
  simp only [RO] at *
  obtain ⟨hc, hcb, h1, h2⟩ := h
  have hsa := sz_cell hc
  refine ⟨hc, hcb, iha _ _ _ _ _ h1 fun j hj => hr j (by simp [sz]; omega), ihb _ _ _ _ _ h2 fun j hj => ?_⟩
  have := hr (j + 1) (by simp [sz]; omega)
  rw [show k' + 1 + j = k' + (j + 1) by omega, this]; congr 1; omega
 | sl e _ =>
  intro rd rd' k k' x h hr
  have := hr 0 (by simp [sz])
  simp only [RO, Nat.add_zero] at *
  rw [this]; exact h

theorem rop_field {t : Ty} {m : Md} {x : den t} {v : Value} (hv : VR w g st.get (.rop t m x) v) {f : Nat} {tv : TV} (hf : fieldOf t m x f = some tv) :
  ∃ b off, v = .pointer (some ⟨b, off, none⟩) ∧ VR w g st.get (.rop tv.t tv.m tv.x) (.pointer (some ⟨b, off + f, none⟩)) := by
 obtain ⟨l, nz, rfl, ⟨b, off, sp⟩, rfl, h1, h2, h3, h4, h5⟩ := hv
 simp only at h1 h2 h3 h4 h5
 subst h1
 obtain ⟨h6, h7, h8⟩ := RO_field _ _ _ _ _ h4 hf
 refine ⟨b, off, rfl, l, false, by rw [h8, fld_bor], ⟨b, off + f, none⟩, rfl, rfl, h2, h3, ?_, fun h => by cases h⟩
 exact RO_shift _ _ _ _ _ _ h6 fun j _ => by simp [Nat.add_assoc]

theorem fieldD_sound {T : Tab} (hT : TabOK P T) (hI : Inv w0 mu st.get (Vals a) U w g) {t : TypeId} {ty : Ty} (ht : T.ty t = some ty) (harr : T.arr t = false) {av : AV} {v : Value} {f : Nat} {k : AV → Option R} {r : R} (h : fieldD st ty av f k = some r)
  (hv : VR w g st.get av v) : ∃ av' v', k av' = some r ∧ (Instr.fieldAt t v f).run P w = .ok v' w ∧ VR w g st.get av' v' ∧ stampOK U av' ∧ isOw av' = false := by
 obtain ⟨hTM, ha, _⟩ := (hT _).1 _ ht
 unfold fieldD at h
 split at h
 ·rename_i s n p
  split at h
  ·rename_i o ho
   split at h
   ·rename_i t' m x hat
    obtain ⟨hty, hk⟩ := sameTy_some h
    clear h
    subst hty
    split at hk
    ·rename_i tv hf
     obtain ⟨b, off, rfl, h1⟩ := pl_field hI ho hv hat hf
     exact ⟨_, _, hk, fieldAt_run hTM ha harr hf b off, h1, ownP_stamp hI ho, rfl⟩
    ·cases hk
   ·cases h
  ·cases h
 ·rename_i t' m x
  obtain ⟨hty, hk⟩ := sameTy_some h
  clear h
  subst hty
  split at hk
  ·rename_i t1 m1 y hf
   obtain ⟨b, off, rfl, h1⟩ := rop_field hv hf
   exact ⟨_, _, hk, fieldAt_run hTM ha harr hf b off, h1, trivial, rfl⟩
  ·cases hk
 ·cases h
end
end Go.Ab

/-! Operations that leave memory as it is: places of elements, parts of slices. -/
namespace Go.Ab

section
variable {P : Program} {w0 w : World} {mu : Mu} {st : St} {a : Act} {g : Gh} {R : Type} {U : Nat → Prop}

theorem inb_some {i : Int} {n : Nat} (h : inb i n = true) : 0 ≤ i ∧ i < n ∧ i.toNat < n := by
 simp only [inb, Bool.and_eq_true, decide_eq_true_eq] at h
 exact ⟨h.1, h.2, by omega⟩

theorem indexAt_slice_run {e : Ty} {t : TypeId} (hT : TM P (.sl e) t) {blk off len cap : Nat} {kd : IntKind} {i : Int} (h : inb i len = true) :
  (Instr.indexAt t (.slice (some ⟨blk, off, none⟩) len cap) (.int kd i)).run P w = .ok (.pointer (some ⟨blk, off + i.toNat * sz e, none⟩)) w := by
 obtain ⟨te, h1, h2, _⟩ := hT
 obtain ⟨h3, h4, _⟩ := inb_some h
 have hs := TM_sizeOf h2 w
 simp [Instr.indexAt, run_underlying h1, asIntOf, h3, h4, hs, addr_add]

theorem indexAt_array_run {ty : Ty} {t : TypeId} (hT : TM P ty t) {arr : Bool} (ha : ∀ fs, P.underlying t = some (.struct fs) → arr = false) (harr : arr = true) {m : Md} {i : Int} (hi : 0 ≤ i) {x : den ty} {tv : TV} (hf : fieldOf ty m x i.toNat = some tv) (kd : IntKind) (b o : Nat) :
  (Instr.indexAt t (.pointer (some ⟨b, o, none⟩)) (.int kd i)).run P w = .ok (.pointer (some ⟨b, o + i.toNat, none⟩)) w := by
 obtain ⟨h1, h2, h3⟩ := TM_field hT hf
 rcases h3 with ⟨fs, f, h4, h5, h6, h7⟩ | ⟨te, h4, _, h7⟩
 ·rw [ha _ h4] at harr; cases harr
 ·have hs := TM_sizeOf h7 w
  rw [sz_cell h1] at hs
  have : i < (sz ty : Int) := by omega
  simp [Instr.indexAt, run_underlying h4, asIntOf, Instr.sureAddr, hi, this, hs, addr_add]

/-- the place of an element of an owned slice -/
theorem pl_el (hI : Inv w0 mu st.get (Vals a) U w g) {s n : Nat} {p : List Stp} {o : Own} (ho : own? (st.get s) n = some o) (hok : o.ok p) {e : Ty} {m : Md} {x : List (den e)} (hat : o.at p = some ⟨.sl e, m, x⟩) (hm : m.isOwn = true)
  {i : Nat} (hi : i < x.length) : ∃ blk off cap, g.H s p = .slice (some ⟨blk, off, none⟩) x.length cap ∧ VR w g st.get (.pl s n (p ++ [.el i])) (.pointer (some ⟨blk, off + i * sz e, none⟩)) := by
 obtain ⟨ad, cap, h1, h2⟩ := alias_node hI ho hok hat hm
 simp only [RR, hm] at h2
 obtain ⟨ad', cap', h3, h4, h5, h6, h7⟩ := h2
 rw [h1] at h4
 simp only [Value.slice.injEq] at h4
 obtain ⟨rfl, _, rfl⟩ := h4
 cases ad with
 | none => obtain ⟨hx, _⟩ := h7; subst hx; simp at hi
 | some ad =>
  obtain ⟨blk, off, sp⟩ := ad
  obtain ⟨h8, h9, h10, h11⟩ := h7
  simp only at h8
  subst h8
  obtain ⟨h12, _⟩ := h11 i hi
  refine ⟨blk, off, cap, h1, fun o' ho' => ?_⟩
  have := own_same ho' ho
  subst this
  refine ⟨by rw [h12], Own.ok_app hok hat ⟨hm, hi, trivial⟩, ?_⟩
  by_cases hb : o.box = true
  ·exact .inl hb
  ·exact .inr ⟨i, by simp⟩

/-- the place of an element of what is only read -/
theorem rop_el {e : Ty} {m : Md} {x : List (den e)} {v : Value} (hv : VR w g st.get (.v (.sl e) m x) v) {i : Nat} (hi : i < x.length) :
  ∃ blk off cap, v = .slice (some ⟨blk, off, none⟩) x.length cap ∧ VR w g st.get (.rop e m.el (x.getD i (dflt e))) (.pointer (some ⟨blk, off + i * sz e, none⟩)) := by
 obtain ⟨hm, hs, hr⟩ := hv
 have hmo := isOwn_hasOwn hm
 simp only [RR, hmo, RO] at hr
 obtain ⟨⟨ad, cap, h1, h2, h3⟩, _⟩ := hr
 rw [shape_cell rfl hs] at h1
 simp only [rdS] at h1
 have hv : v = .slice ad x.length cap := by simpa using h1
 cases ad with
 | none => obtain ⟨hx, _⟩ := h3; subst hx; simp at hi
 | some ad =>
  obtain ⟨blk, off, sp⟩ := ad
  obtain ⟨h4, h5, h6, h7⟩ := h3.resolve_left (by intro h; omega)
  simp only at h4 h5 h6 h7
  subst h4
  exact ⟨blk, off, cap, hv, m.lent?, false, el_bor hmo, ⟨blk, off + i * sz e, none⟩, rfl, rfl, h5, h6, h7 i hi, fun h => by cases h⟩

theorem indexD_sound {T : Tab} (hT : TabOK P T) (hI : Inv w0 mu st.get (Vals a) U w g) {t : TypeId} {ty : Ty} (ht : T.ty t = some ty) {av : AV} {v : Value} {kd : IntKind} {i : Int} {k : AV → Option R} {r : R} (h : indexD (T.arr t) st ty av i k = some r)
  (hv : VR w g st.get av v) : ∃ av' v', k av' = some r ∧ (Instr.indexAt t v (.int kd i)).run P w = .ok v' w ∧ VR w g st.get av' v' ∧ stampOK U av' ∧ isOw av' = false := by
 obtain ⟨hTM, _, ha⟩ := (hT _).1 _ ht
 unfold indexD at h
 split at h
 ·rename_i e m x
  obtain ⟨hty, hk⟩ := sameTy_some h
  clear h
  subst hty
  obtain ⟨hi, hk⟩ := guardB_some hk
  obtain ⟨blk, off, cap, rfl, h1⟩ := rop_el hv (inb_some hi).2.2
  exact ⟨_, _, hk, indexAt_slice_run hTM hi, h1, trivial, rfl⟩
 ·rename_i s n p
  split at h
  ·rename_i o ho
   obtain ⟨e, m, x, hat, hm, h⟩ := Own.sl_some h
   obtain ⟨hty, hk⟩ := sameTy_some h
   clear h
   subst hty
   obtain ⟨hi, hk⟩ := guardB_some hk
   obtain ⟨h1, hok⟩ := hv o ho
   obtain ⟨blk, off, cap, h2, h3⟩ := pl_el hI ho hok hat hm (inb_some hi).2.2
   refine ⟨_, _, hk, ?_, h3, own_stamp hI ho, rfl⟩
   rw [h1, h2]
   exact indexAt_slice_run hTM hi
  ·cases h
 ·rename_i s n p lo len cp
  split at h
  ·rename_i o ho
   obtain ⟨e, m, x, hat, hm, h⟩ := Own.sl_some h
   obtain ⟨hty, hk⟩ := sameTy_some h
   clear h
   subst hty
   obtain ⟨hi, hk⟩ := guardB_some hk
   obtain ⟨hok, e', m', x', ad, c, M, h1, h2, h3, h4, h5, h6, h7⟩ := hv o ho
   rw [hat] at h1
   simp only [Option.some.injEq, TV.mk.injEq, Ty.sl.injEq] at h1
   obtain ⟨rfl, rfl, h1⟩ := h1
   have h1 := eq_of_heq h1
   subst h1
   have hlen : ((x.drop lo).take len).length = len := by simp; omega
   rw [hlen] at hi
   obtain ⟨hi0, hi1, hi2⟩ := inb_some hi
   obtain ⟨blk, off, cap, h8, h9⟩ := pl_el hI ho hok hat hm (i := lo + i.toNat) (by omega)
   rw [h2] at h8
   simp only [Value.slice.injEq] at h8
   obtain ⟨rfl, _, rfl⟩ := h8
   refine ⟨_, _, hk, ?_, h9, own_stamp hI ho, rfl⟩
   have hM : M ≠ lo := by omega
   rw [h7]
   simp only [hM, if_false, Option.map_some, addr_add]
   rw [indexAt_slice_run hTM hi, Nat.add_mul, Nat.add_assoc]
  ·cases h
 ·rename_i s n p
  obtain ⟨hg, h⟩ := guardB_some h
  simp only [Bool.and_eq_true, decide_eq_true_eq] at hg
  split at h
  ·rename_i o ho
   split at h
   ·rename_i t' m x hat
    obtain ⟨hty, hk⟩ := sameTy_some h
    clear h
    subst hty
    split at hk
    ·rename_i tv hf
     obtain ⟨b, off, rfl, h1⟩ := pl_field hI ho hv hat hf
     exact ⟨_, _, hk, indexAt_array_run hTM ha hg.1 hg.2 hf kd b off, h1, ownP_stamp hI ho, rfl⟩
    ·cases hk
   ·cases h
  ·cases h
 ·rename_i t' m x
  obtain ⟨hty, hk⟩ := sameTy_some h
  clear h
  subst hty
  obtain ⟨hg, hk⟩ := guardB_some hk
  simp only [Bool.and_eq_true, decide_eq_true_eq] at hg
  split at hk
  ·rename_i t1 m1 y hf
   obtain ⟨b, off, rfl, h1⟩ := rop_field hv hf
   exact ⟨_, _, hk, indexAt_array_run hTM ha hg.1 hg.2 hf kd b off, h1, trivial, rfl⟩
  ·cases hk
 ·cases h
end
end Go.Ab
