/- The tables of types, checked by a Bool. -/
import Derived.Test.YtokjogplnoeicaaAbTop
import Derived.Laws.StructEq
import Derived.ChangeKeysEq
import Derived.DeepKeys3
namespace Go.Ab

/-- the cells of zero values, compared -/
def cellB : Value → Value → Bool
 | .int k n, .int k' n' => decide (k = k') && decide (n = n')
 | .bool b, .bool b' => b == b'
 | .slice none n c, .slice none n' c' => Nat.beq n n' && Nat.beq c c'
 | .map none, .map none => true
 | .pointer none, .pointer none => true
 | _, _ => false
theorem cellB_eq {x y : Value} (h : cellB x y = true) : x = y := by
 unfold cellB at h
 split at h
 ·simp only [Bool.and_eq_true, decide_eq_true_eq] at h; rw [h.1, h.2]
 ·simp at h; rw [h]
 ·simp only [Bool.and_eq_true] at h; rw [Nat.eq_of_beq_eq_true h.1, Nat.eq_of_beq_eq_true h.2]
 ·rfl
 ·rfl
 ·cases h
def cellsB : List Value → List Value → Bool
 | [], [] => true
 | x :: l, y :: r => cellB x y && cellsB l r
 | _, _ => false
theorem cellsB_eq : ∀ {l r : List Value}, cellsB l r = true → l = r
 | [], [], _ => rfl
 | [], _ :: _, h => by cases h
 | _ :: _, [], h => by cases h
 | x :: l, y :: r, h => by
  simp only [cellsB, Bool.and_eq_true] at h
  rw [cellB_eq h.1, cellsB_eq h.2]

/-- size, zero value, bytes of a one-cell type -/
def infoB (P : Program) (t : TypeId) (z : Value) : Bool := match P.info? t with
 | some i => Nat.beq i.size 1 && (match i.zero with | some z' => cellB z' z | none => false) && Nat.ble i.bytes 256
 | none => false
theorem infoB_ok {P : Program} {t : TypeId} {z : Value} (h : infoB P t z = true) : ∃ i, P.info? t = some i ∧ i.size = 1 ∧ i.zero = some z ∧ i.bytes ≤ 256 := by
 unfold infoB at h
 split at h
 ·rename_i i hi
  simp only [Bool.and_eq_true] at h
  obtain ⟨⟨h1, h2⟩, h3⟩ := h
  split at h2
  ·rename_i z' hz
   exact ⟨i, hi, Nat.eq_of_beq_eq_true h1, by rw [hz, cellB_eq h2], Nat.le_of_ble_eq_true h3⟩
  ·cases h2
 ·cases h

/-- the fields of a struct or an array -/
def fldOf (P : Program) (t : TypeId) (j : Nat) : Option TypeId := match P.underlying t with
 | some (.struct fs) => (fs[j]?).map (·.type)
 | some (.array n te) => match Nat.blt j n with | true => some te | false => none
 | _ => none
def fldsB (P : Program) (t : TypeId) (n : Nat) : Bool := match P.underlying t with
 | some (.struct fs) => Nat.beq fs.size n && (List.range n).all fun j => match fs[j]? with | some f => Nat.beq f.offset j | none => false
 | some (.array m te) => Nat.beq m n && Nat.ble 2 n && (match P.info? te with | some i => Nat.beq i.size 1 | none => false)
 | _ => false
theorem fldsB_ok {P : Program} {t : TypeId} {n : Nat} (h : fldsB P t n = true) : FieldsOf P t (fldOf P t) n := by
 unfold fldsB at h
 split at h
 ·rename_i fs hu
  simp only [Bool.and_eq_true, List.all_eq_true, List.mem_range] at h
  refine .inl ⟨fs, hu, Nat.eq_of_beq_eq_true h.1, fun j hj => ?_⟩
  have h2 := h.2 j hj
  split at h2
  ·rename_i f hf
   exact ⟨f, hf, Nat.eq_of_beq_eq_true h2, by simp [fldOf, hu, hf]⟩
  ·cases h2
 ·rename_i m te hu
  simp only [Bool.and_eq_true] at h
  obtain ⟨⟨h1, h2⟩, h3⟩ := h
  have hm := Nat.eq_of_beq_eq_true h1
  subst hm
  refine .inr ⟨Nat.le_of_ble_eq_true h2, te, hu, ?_, fun j hj => ?_⟩
  ·split at h3
   ·rename_i i hi; exact ⟨i, hi, Nat.eq_of_beq_eq_true h3⟩
   ·cases h3
  ·have : Nat.blt j m = true := by simpa [Nat.blt_eq] using hj
   simp [fldOf, hu, this]
 ·cases h

def tmB2 (P : Program) : Ty → (TypeId → Bool) × ((Nat → Option TypeId) → Nat → Bool)
 | .int k => (fun t => (match P.underlying t with | some (.int k') => decide (k' = k) | _ => false) && infoB P t (.int k 0), fun _ _ => false)
 | .bool => (fun t => (match P.underlying t with | some .bool => true | _ => false) && infoB P t (.bool false), fun _ _ => false)
 | .sl e => (fun t => (match P.underlying t with | some (.slice te) => (tmB2 P e).1 te | _ => false) && infoB P t (.slice none 0 0), fun _ _ => false)
 | .pair a b =>
  (fun t => fldsB P t (1 + sz b) && isCell a && !isCell b && (match fldOf P t 0 with | some ta => (tmB2 P a).1 ta | none => false) && (tmB2 P b).2 (fldOf P t) 1 &&
   (match P.info? t with
    | some i => Nat.beq i.size (1 + sz b) && (match i.zero with | some (.agg zs) => cellsB zs.toList (zeros (.pair a b)) | _ => false) && Nat.blt 0 i.bytes && Nat.ble i.bytes 256
    | none => false),
   fun fld k => isCell a && !isCell b && (match fld k with | some ta => (tmB2 P a).1 ta | none => false) && (tmB2 P b).2 fld (k + 1))
 | .unit => (fun _ => false, fun _ _ => true)
 | .mp k e => (fun t => (match P.underlying t with | some (.map tk te) => (tmB2 P k).1 tk && (tmB2 P e).1 te | _ => false) && infoB P t (.map none), fun _ _ => false)
 | .bx e => (fun t => (match P.underlying t with | some (.pointer te) => (tmB2 P e).1 te | _ => false) && infoB P t (.pointer none), fun _ _ => false)

theorem tmB2_ok {P : Program} : ∀ (ty : Ty), (∀ t, (tmB2 P ty).1 t = true → (TM2 P ty).1 t) ∧ (∀ fld k, (tmB2 P ty).2 fld k = true → (TM2 P ty).2 fld k) := by
 intro ty
 induction ty with
 | int k =>
  refine ⟨fun t h => ?_, fun _ _ h => by cases h⟩
  simp only [tmB2, Bool.and_eq_true] at h
  obtain ⟨h1, h2⟩ := h
  split at h1
  ·rename_i k' hu
   have := of_decide_eq_true h1
   subst this
   exact ⟨hu, infoB_ok h2⟩
  ·cases h1
 | bool =>
  refine ⟨fun t h => ?_, fun _ _ h => by cases h⟩
  simp only [tmB2, Bool.and_eq_true] at h
  obtain ⟨h1, h2⟩ := h
  split at h1
  ·rename_i hu; exact ⟨hu, infoB_ok h2⟩
  ·cases h1
 | sl e ih =>
  refine ⟨fun t h => ?_, fun _ _ h => by cases h⟩
  simp only [tmB2, Bool.and_eq_true] at h
  obtain ⟨h1, h2⟩ := h
  split at h1
  ·rename_i te hu; exact ⟨te, hu, ih.1 _ h1, infoB_ok h2⟩
  ·cases h1
 | unit => exact ⟨(fun _ h => by cases h), fun _ _ _ => trivial⟩
 | mp k e ihk ihe =>
  refine ⟨fun t h => ?_, fun _ _ h => by cases h⟩
  simp only [tmB2, Bool.and_eq_true] at h
  obtain ⟨h1, h2⟩ := h
  split at h1
  ·rename_i tk te hu
   simp only [Bool.and_eq_true] at h1
   exact ⟨tk, te, hu, ihk.1 _ h1.1, ihe.1 _ h1.2, infoB_ok h2⟩
  ·cases h1
 | bx e ih =>
  refine ⟨fun t h => ?_, fun _ _ h => by cases h⟩
  simp only [tmB2, Bool.and_eq_true] at h
  obtain ⟨h1, h2⟩ := h
  split at h1
  ·rename_i te hu; exact ⟨te, hu, ih.1 _ h1, infoB_ok h2⟩
  ·cases h1
 | pair a b iha ihb =>
  refine ⟨fun t h => ?_, fun fld k h => ?_⟩
  ·simp only [tmB2, Bool.and_eq_true, Bool.not_eq_true'] at h
   obtain ⟨⟨⟨⟨⟨h1, h2⟩, h3⟩, h4⟩, h5⟩, h6⟩ := h
   split at h4
   ·rename_i ta hta
    split at h6
    ·rename_i i hi
     simp only [Bool.and_eq_true] at h6
     obtain ⟨⟨⟨h7, h8⟩, h9⟩, h10⟩ := h6
     split at h8
     ·rename_i zs hz
      exact ⟨fldOf P t, i, zs, fldsB_ok h1, h2, h3, ⟨ta, hta, iha.1 _ h4, ihb.2 _ _ h5⟩, hi, Nat.eq_of_beq_eq_true h7, hz, cellsB_eq h8, by simpa [Nat.blt_eq] using h9, Nat.le_of_ble_eq_true h10⟩
     ·cases h8
    ·cases h6
   ·cases h4
  ·simp only [tmB2, Bool.and_eq_true, Bool.not_eq_true'] at h
   obtain ⟨⟨⟨h2, h3⟩, h4⟩, h5⟩ := h
   split at h4
   ·rename_i ta hta
    exact ⟨h2, h3, ta, hta, iha.1 _ h4, ihb.2 _ _ h5⟩
   ·cases h4

/-- what equality at a struct or an array asks of the program -/
def eqB (P : Program) (t : TypeId) (ty : Ty) : Bool := isCell ty || !flat ty || (!P.eqGuardType P.depth t && (match P.underlying t with
 | some (.struct fs) => (fs.toList.all fun f => f.name != "_") && !P.stoodInHeld t
 | some (.array _ _) => true
 | _ => false))

/-- one row of the table -/
def rowB (P : Program) (l : List Nat) (x : Nat × Ty) : Bool :=
 (tmB2 P x.2).1 x.1 && eqB P x.1 x.2 && (match x.2 with | .mp k _ => (match P.underlying x.1 with | some (.map tk _) => flat k && eqB P tk k && (tmB2 P k).1 tk | _ => false) | _ => true) && (match P.underlying x.1 with | some (.array _ _) => hasT l x.1 | some (.struct _) => !hasT l x.1 | _ => true)

theorem lookT_mem : ∀ {l : List (Nat × Ty)} {t : Nat} {ty : Ty}, lookT l t = some ty → (t, ty) ∈ l
 | [], _, _, h => by cases h
 | (k, x) :: r, t, ty, h => by
  simp only [lookT] at h
  split at h
  ·rename_i hk
   have := Nat.eq_of_beq_eq_true hk
   subst this
   cases h
   simp
  ·exact List.mem_cons_of_mem _ (lookT_mem h)

section
variable {P : Program} {w : World} {g : Gh}

theorem eqCell {t : Ty} {tf : TypeId} (hc : isCell t = true) (hT : TM P t tf) {x y : den t} {c : Bool} (hb : beqD t x y = some c) {m m' : Md} {p p' : List Stp} {s s' : Nat} {cs ds : Array Value} {k : Nat} (h : RR w g s t m p (.val cs) k x) (h' : RR w g s' t m' p' (.val ds) k y) (d : Nat) :
  ∃ a b, (part tf cs k).run P w = .ok a w ∧ (part tf ds k).run P w = .ok b w ∧ (Op.equalIn (d + 1) tf a b).run P w = .ok c w := by
 cases t with
 | int kd =>
  simp only [RR, rdS] at h h'
  simp only [beqD, Option.some.injEq] at hb
  exact ⟨_, _, part_run hT rfl h, part_run hT rfl h', by rw [run_equalIn_int w d tf kd kd x y hT.1, hb]⟩
 | bool =>
  simp only [RR, rdS] at h h'
  simp only [beqD, Option.some.injEq] at hb
  exact ⟨_, _, part_run hT rfl h, part_run hT rfl h', by rw [run_equalIn_bool' w d tf x y hT.1, hb]⟩
 | sl e => cases hb
 | mp => cases hb
 | bx => cases hb
 | _ => cases hc

theorem eqFlds {d : Nat} {cs ds : Array Value} : ∀ (t : Ty) (fs : List Field) (k : Nat) (x y : den t) (c : Bool) (m m' : Md), (∀ f ∈ fs, f.name ≠ "_") → fs.length = sz t → (∀ j f, fs[j]? = some f → f.offset = k + j) → (TM2 P t).2 (fun j => (fs[j - k]?).map (·.type)) k → beqD t x y = some c →
  RR w g 0 t m [] (.val cs) k x → RR w g 0 t m' [] (.val ds) k y → (Op.eqFields (d + 1) cs ds fs).run P w = .ok c w := by
 intro t
 induction t with
 | unit =>
  intro fs k x y c m m' _ hl _ _ hb _ _
  have : fs = [] := List.eq_nil_of_length_eq_zero hl
  subst this
  simp only [beqD, Option.some.injEq] at hb
  simp [Op.eqFields, ← hb]
 | pair a b _ ihb =>
  intro fs k x y c m m' hn hl ho hT hb h h'
  obtain ⟨hc, hcb, ta, h1, h2, h3⟩ := hT
  have hsp : sz (.pair a b) = 1 + sz b := rfl
  cases fs with
  | nil => simp [hsp] at hl; omega
  | cons f fs =>
   simp only [Nat.sub_self, List.getElem?_cons_zero, Option.map_some, Option.some.injEq] at h1
   simp only [RR] at h h'
   obtain ⟨_, _, _, h4, h5⟩ := h
   obtain ⟨_, _, _, h6, h7⟩ := h'
   simp only [beqD] at hb
   split at hb
   ·rename_i p q hp hq
    simp only [Option.some.injEq] at hb
    obtain ⟨va, vb, e1, e2, e3⟩ := eqCell hc (h1 ▸ h2) hp h4 h6 d
    have ih := ihb fs (k + 1) x.2 y.2 q m m' (fun f hf => hn f (List.mem_cons_of_mem _ hf)) (by simp [hsp] at hl; omega) (fun j f hj => by
     have := ho (j + 1) f (by simpa using hj); omega) (by
     have : (fun j => ((f :: fs)[j - k]?).map (·.type)) = fun j => if j ≤ k then some f.type else (fs[j - (k + 1)]?).map (·.type) := by
      funext j
      by_cases hj : j ≤ k
      ·rw [if_pos hj, show j - k = 0 by omega]; rfl
      ·rw [if_neg hj, show j - k = (j - (k + 1)) + 1 by omega, List.getElem?_cons_succ]
     rw [this] at h3
     -- only fields from k + 1 on are asked
     have key : ∀ (t : Ty) (i : Nat) (F G : Nat → Option TypeId), (∀ j, i ≤ j → F j = G j) → (TM2 P t).2 F i → (TM2 P t).2 G i := by
      intro t
      induction t with
      | pair a b _ ihb =>
       intro i F G hFG hT
       obtain ⟨g1, g2, tt, g3, g4, g5⟩ := hT
       exact ⟨g1, g2, tt, by rw [← hFG i (Nat.le_refl _)]; exact g3, g4, ihb (i + 1) F G (fun j hj => hFG j (by omega)) g5⟩
      | unit => intro i F G _ _; trivial
      | _ => intro i F G _ hT; exact hT.elim
     exact key b (k + 1) _ _ (fun j hj => by rw [if_neg (by omega)]) h3) hq h5 h7
    have hf0 : f.offset = k := by have := ho 0 f rfl; omega
    simp only [Op.eqFields, hn f (by simp), ne_eq, not_false_eq_true, if_true, Sem.run_bind, hf0, e1, e2, e3, Result.andThen_ok]
    cases p with
    | true => simp only [Bool.not_true, Bool.false_eq_true, if_false, ih]; rw [← hb]; simp
    | false => rw [← hb]; simp
   ·cases hb
 | _ => intro fs k x y c m m' _ _ _ hT; exact hT.elim

theorem eqItms {d : Nat} {cs ds : Array Value} {e : TypeId} : ∀ (t : Ty) (k : Nat) (x y : den t) (c : Bool) (m m' : Md), (TM2 P t).2 (fun j => if j < k + sz t then some e else none) k → beqD t x y = some c →
  RR w g 0 t m [] (.val cs) k x → RR w g 0 t m' [] (.val ds) k y → (Op.eqItems (d + 1) e 1 cs ds (List.range' k (sz t))).run P w = .ok c w := by
 intro t
 induction t with
 | unit =>
  intro k x y c m m' _ hb _ _
  simp only [beqD, Option.some.injEq] at hb
  simp [Op.eqItems, sz, ← hb]
 | pair a b _ ihb =>
  intro k x y c m m' hT hb h h'
  obtain ⟨hc, hcb, ta, h1, h2, h3⟩ := hT
  have hsp : sz (.pair a b) = 1 + sz b := rfl
  have h1 : (if k < k + sz (.pair a b) then some e else none) = some ta := h1
  rw [if_pos (by omega)] at h1
  simp only [Option.some.injEq] at h1
  subst h1
  simp only [RR] at h h'
  obtain ⟨_, _, _, h4, h5⟩ := h
  obtain ⟨_, _, _, h6, h7⟩ := h'
  simp only [beqD] at hb
  split at hb
  ·rename_i p q hp hq
   simp only [Option.some.injEq] at hb
   obtain ⟨va, vb, e1, e2, e3⟩ := eqCell hc h2 hp h4 h6 d
   have ih := ihb (k + 1) x.2 y.2 q m m' (by
    have : k + sz (.pair a b) = k + 1 + sz b := by omega
    rw [this] at h3; exact h3) hq h5 h7
   rw [hsp, Nat.add_comm 1, List.range'_succ]
   simp only [Op.eqItems, Nat.mul_one, Sem.run_bind, e1, e2, e3, Result.andThen_ok]
   cases p with
   | true => simp only [Bool.not_true, Bool.false_eq_true, if_false, ih]; rw [← hb]; simp
   | false => rw [← hb]; simp
  ·cases hb
 | _ => intro k x y c m m' hT; exact hT.elim

theorem beqD_flat : ∀ (t : Ty) (x y : den t) (c : Bool), beqD t x y = some c → flat t = true := by
 intro t
 induction t with
 | pair a b iha ihb =>
  intro x y c h
  simp only [beqD] at h
  split at h
  ·rename_i p q hp hq
   simp only [flat, iha _ _ _ hp, ihb _ _ _ hq, Bool.and_self]
  ·cases h
 | sl => intro x y c h; cases h
 | mp => intro x y c h; cases h
 | bx => intro x y c h; cases h
 | _ => intros; rfl

theorem equal_ok {t : TypeId} {ty : Ty} (hT : TM P ty t) (hc : isCell ty = false) (he : eqB P t ty = true) {x y : den ty} {c : Bool} (hb : beqD ty x y = some c) {cs ds : Array Value} {m m' : Md} (h : RR w g 0 ty m [] (.val cs) 0 x) (h' : RR w g 0 ty m' [] (.val ds) 0 y) :
  (Op.equalIn 10000 t (.agg cs) (.agg ds)).run P w = .ok c w ∧ P.eqGuardType P.depth t = false := by
 have hfl := beqD_flat _ _ _ _ hb
 simp only [eqB, hc, hfl, Bool.not_true, Bool.false_or, Bool.and_eq_true, Bool.not_eq_true'] at he
 obtain ⟨he1, he2⟩ := he
 refine ⟨?_, he1⟩
 cases ty with
 | pair a b =>
  obtain ⟨fld, i, zs, hF, hca, hcb, ⟨ta, g1, g2, g3⟩, _⟩ := hT
  rcases hF with ⟨fs, hu, hsz, hf⟩ | ⟨hn, te, hu, ⟨ie, hie, hie1⟩, hf⟩
  ·rw [hu] at he2
   simp only [Bool.and_eq_true, List.all_eq_true, Bool.not_eq_true'] at he2
   have hfo : P.fieldsOf t = fs := by simp [Program.fieldsOf, hu]
   rw [show (10000 : Nat) = 9999 + 1 from rfl, run_equalIn_struct w 9999 t cs ds (by rw [hfo]; exact hu) he2.2, hfo]
   refine eqFlds (d := 9998) (.pair a b) fs.toList 0 x y c m m' (fun f hf => by simpa using he2.1 f hf) (by simpa [sz] using hsz) (fun j f hj => ?_) ⟨hca, hcb, ta, ?_, g2, ?_⟩ hb h h'
   ·have hjl : j < 1 + sz b := by
     have := (List.getElem?_eq_some_iff.1 hj).1
     simp at this; omega
    obtain ⟨f', h1, h2, _⟩ := hf j hjl
    have : f' = f := by rw [Array.getElem?_toList] at hj; rw [h1] at hj; exact Option.some.inj hj
    subst this; omega
   ·obtain ⟨f', h1, _, h3⟩ := hf 0 (by omega)
    rw [g1] at h3
    simp [h1, h3]
   ·have key : ∀ (t : Ty) (i : Nat), i + sz t ≤ 1 + sz b → (TM2 P t).2 fld i → (TM2 P t).2 (fun j => (fs.toList[j - 0]?).map (·.type)) i := by
     intro t
     induction t with
     | pair a b _ ihb =>
      intro i hi hT
      obtain ⟨g1, g2, tt, g3, g4, g5⟩ := hT
      have hsp : sz (.pair a b) = 1 + sz b := rfl
      obtain ⟨f', h1, _, h3⟩ := hf i (by omega)
      rw [g3] at h3
      exact ⟨g1, g2, tt, by simp [h1, h3], g4, ihb (i + 1) (by omega) g5⟩
     | unit => intro i _ _; trivial
     | _ => intro i _ hT; exact hT.elim
    exact key b 1 (Nat.le_refl _) g3
  ·have hce : P.cellsOf te = 1 := by simp [Program.cellsOf, hie, hie1]
   rw [show (10000 : Nat) = 9999 + 1 from rfl, run_equalIn_array (w := w) 9999 cs ds hu hie, hce, List.range_eq_range']
   refine eqItms (d := 9998) (.pair a b) 0 x y c m m' ⟨hca, hcb, ta, ?_, g2, ?_⟩ hb h h'
   ·have := hf 0 (by omega)
    rw [g1] at this
    simp [sz, this]
   ·have key : ∀ (t : Ty) (i : Nat), i + sz t ≤ 1 + sz b → (TM2 P t).2 fld i → (TM2 P t).2 (fun j => if j < 0 + sz (.pair a b) then some te else none) i := by
     intro t
     induction t with
     | pair a' b' _ ihb =>
      intro i hi hT
      obtain ⟨g1, g2, tt, g3, g4, g5⟩ := hT
      have hsp : sz (.pair a' b') = 1 + sz b' := rfl
      have h3 := hf i (by omega)
      rw [g3] at h3
      exact ⟨g1, g2, tt, by simp only [Option.some.injEq] at h3; subst h3; show (if i < 0 + sz (.pair a b) then some tt else none) = some tt; rw [if_pos (by simp [sz]; omega)], g4, ihb (i + 1) (by omega) g5⟩
     | unit => intro i _ _; trivial
     | _ => intro i _ hT; exact hT.elim
    exact key b 1 (Nat.le_refl _) g3
 | unit => exact hT.elim
 | _ => cases hc

theorem beqD_eqD : ∀ (t : Ty) (x y : den t), flat t = true → beqD t x y = some (eqD t x y) := by
 intro t
 induction t with
 | int k => intros; rfl
 | bool => intros; rfl
 | unit => intros; rfl
 | pair a b iha ihb =>
  intro x y hf
  simp only [flat, Bool.and_eq_true] at hf
  simp only [beqD, eqD, iha _ _ hf.1, ihb _ _ hf.2]
 | _ => intro x y hf; cases hf
theorem eqD_comm : ∀ (t : Ty) (x y : den t), eqD t x y = eqD t y x := by
 intro t
 induction t with
 | int k => intro x y; exact Bool.eq_iff_iff.2 (by simp only [eqD, beq_iff_eq]; exact ⟨Eq.symm, Eq.symm⟩)
 | bool => intro x y; exact Bool.eq_iff_iff.2 (by simp only [eqD, beq_iff_eq]; exact ⟨Eq.symm, Eq.symm⟩)
 | pair a b iha ihb => intro x y; simp only [eqD, iha x.1, ihb x.2]
 | _ => intros; rfl

theorem checkCell {t : Ty} {tf : TypeId} (hc : isCell t = true) (hf : flat t = true) (hT : TM P t tf) (x : den t) (em : Bool) (n : Nat) : ∃ c, litC t x = [c] ∧ (Instr.checkKey em (n + 1) tf c).run P w = .ok () w := by
 cases t with
 | int kd => exact ⟨_, rfl, by simp [Instr.checkKey, run_underlying hT.1]⟩
 | bool => exact ⟨_, rfl, by simp [Instr.checkKey, run_underlying hT.1]⟩
 | pair a b => cases hc
 | unit => cases hc
 | _ => cases hf

/-- each cell of a key passes -/
theorem checkCells {em : Bool} {n : Nat} {cs : Array Value} : ∀ (t : Ty) (fld : Nat → Option TypeId) (k : Nat) (x : den t), flat t = true → (TM2 P t).2 fld k → (∀ j, j < sz t → cs[k + j]? = (litC t x)[j]?) →
  ∀ j, k ≤ j → j < k + sz t → ∃ tf a, fld j = some tf ∧ (part tf cs j).run P w = .ok a w ∧ (Instr.checkKey em (n + 1) tf a).run P w = .ok () w := by
 intro t
 induction t with
 | pair a b _ ihb =>
  intro fld k x hf hT hcs j h1 h2
  simp only [flat, Bool.and_eq_true] at hf
  obtain ⟨hc, hcb, ta, g1, g2, g3⟩ := hT
  have hsp : sz (.pair a b) = 1 + sz b := rfl
  obtain ⟨c, e1, e2⟩ := checkCell (w := w) hc hf.1 g2 x.1 em n
  by_cases hj : j = k
  ·subst hj
   refine ⟨ta, c, g1, part_run g2 hc ?_, e2⟩
   have := hcs 0 (by omega)
   simpa [litC, e1] using this
  ·refine ihb fld (k + 1) x.2 hf.2 g3 (fun i hi => ?_) j (by omega) (by omega)
   have := hcs (i + 1) (by omega)
   rw [show k + 1 + i = k + (i + 1) by omega, this]
   simp [litC, e1]
 | unit => intro fld k x _ _ _ j h1 h2; simp [sz] at h2; omega
 | _ => intro fld k x _ hT; exact hT.elim

theorem sameBits_list : ∀ (n : Nat) (l : List Value), (∀ v ∈ l, Instr.sameBits n v v = true) → (l.zip l).all (fun (x, y) => Instr.sameBits n x y) = true
 | _, [], _ => rfl
 | n, x :: l, h => by
  simp only [List.zip_cons_cons, List.all_cons, h x (by simp), Bool.true_and]
  exact sameBits_list n l fun v hv => h v (by simp [hv])
theorem litC_bits (n : Nat) : ∀ (t : Ty) (x : den t), flat t = true → ∀ v ∈ litC t x, Instr.sameBits (n + 1) v v = true := by
 intro t
 induction t with
 | int k => intro x _ v hv; simp only [litC, List.mem_singleton] at hv; subst hv; simp [Instr.sameBits]
 | bool => intro x _ v hv; simp only [litC, List.mem_singleton] at hv; subst hv; simp [Instr.sameBits]
 | unit => intro x _ v hv; cases hv
 | pair a b iha ihb =>
  intro x hf v hv
  simp only [flat, Bool.and_eq_true] at hf
  simp only [litC, List.mem_append] at hv
  rcases hv with hv | hv
  ·exact iha _ hf.1 v hv
  ·exact ihb _ hf.2 v hv
 | _ => intro x hf; cases hf

theorem key_ok {tk : TypeId} {k : Ty} (hT : TM P k tk) (hf : flat k = true) (he : eqB P tk k = true) : KeyRun P tk k := by
 intro w
 have stays : ∀ y : den k, (Instr.keyThatStays (litV k y) (litV k y)).run P w = .ok (litV k y) w := by
  intro y
  have : Instr.sameBits 10000 (litV k y) (litV k y) = true := by
   cases hc : isCell k with
   | true =>
    obtain ⟨c, hcc⟩ := litC_cell hc y
    simp only [litV, hc, hcc]
    exact litC_bits 9999 k y hf c (by rw [hcc]; simp)
   | false =>
    simp only [litV, hc]
    simp only [Instr.sameBits, beq_self_eq_true, Bool.true_and]
    exact sameBits_list _ _ (litC_bits 9998 k y hf)
  simp [Instr.keyThatStays, this]
 cases hc : isCell k with
 | true =>
  have hd : ∃ d, P.underlying tk = some d ∧ ∀ (y : den k) (es : List MapEntry) (xs : List (den k)) (i : Nat), es.map (·.key) = xs.map (litV k) → Instr.findNow d (litV k y) es i = some (findE k y es xs i) := by
   cases k with
   | int kd =>
    refine ⟨_, hT.1, fun y es => ?_⟩
    induction es with
    | nil => intro xs i _; cases xs <;> rfl
    | cons e es ih =>
     intro xs i h
     cases xs with
     | nil => simp at h
     | cons x xs =>
      simp only [List.map_cons, List.cons.injEq] at h
      have hk : e.key = .int kd x := h.1
      have hkey : Instr.sameNow (.int kd) (.int kd y) e.key = some (eqD (.int kd) x y) := by
       rw [hk]; simp only [Instr.sameNow, if_true]
       exact congrArg some (eqD_comm (.int kd) y x)
      have hl : litV (.int kd) y = .int kd y := rfl
      simp only [hl, Instr.findNow, hkey, findE]
      cases eqD (.int kd) x y with
      | true => rfl
      | false => exact ih xs (i + 1) h.2
   | bool =>
    refine ⟨_, hT.1, fun y es => ?_⟩
    induction es with
    | nil => intro xs i _; cases xs <;> rfl
    | cons e es ih =>
     intro xs i h
     cases xs with
     | nil => simp at h
     | cons x xs =>
      simp only [List.map_cons, List.cons.injEq] at h
      have hk : e.key = .bool x := h.1
      have hkey : Instr.sameNow .bool (.bool y) e.key = some (eqD .bool x y) := by
       rw [hk]; simp only [Instr.sameNow]
       exact congrArg some (eqD_comm .bool y x)
      have hl : litV .bool y = .bool y := rfl
      simp only [hl, Instr.findNow, hkey, findE]
      cases eqD .bool x y with
      | true => rfl
      | false => exact ih xs (i + 1) h.2
   | pair a b => cases hc
   | unit => cases hc
   | _ => cases hf
  obtain ⟨d, hu, hfind⟩ := hd
  refine ⟨fun em y => ?_, fun y es xs h => ?_, stays⟩
  ·obtain ⟨c, e1, e2⟩ := checkCell (w := w) hc hf hT y em 9999
   simp only [litV, hc, e1]; exact e2
  ·simp [Instr.findKey, run_underlying hu, hfind y es xs 0 h]
 | false =>
  have hT0 := hT
  cases k with
  | pair a b =>
   have hlit : ∀ y : den (.pair a b), litV (.pair a b) y = .agg (litC (.pair a b) y).toArray := fun y => rfl
   obtain ⟨fld, i, zs, hF, hca, hcb, ⟨ta, g1, g2, g3⟩, _⟩ := hT
   have hT2 : (TM2 P (.pair a b)).2 fld 0 := ⟨hca, hcb, ta, g1, g2, g3⟩
   have hwide : (match P.underlying tk with | some (.array _ _) | some (.struct _) => true | _ => false) = true := by
    rcases hF with ⟨fs, hu, _⟩ | ⟨_, te, hu, _⟩ <;> rw [hu]
   refine ⟨fun em y => ?_, fun y es xs h => ?_, stays⟩
   ·have hcell := checkCells (w := w) (em := em) (n := 9998) (cs := (litC (.pair a b) y).toArray) (.pair a b) fld 0 y hf hT2 (fun j _ => by simp)
    rw [hlit]
    rcases hF with ⟨fs, hu, hsz, hfs⟩ | ⟨hn, te, hu, ⟨ie, hie, hie1⟩, hfs⟩
    ·have hnm : ∀ f ∈ fs.toList, f.name ≠ "_" := by
      have hfl : flat (.pair a b) = true := hf
      simp only [eqB, isCell, hfl, Bool.not_true, Bool.false_or, Bool.and_eq_true, hu, List.all_eq_true] at he
      intro f hf
      simpa using he.2.1 f hf
     rw [show (10000 : Nat) = 9999 + 1 from rfl, Instr.checkKey]
     simp only [Sem.run_bind, run_underlying hu, Result.andThen_ok]
     rw [← Array.forIn_toList]
     have each : ∀ f ∈ fs.toList, ∃ v, (part f.type (litC (.pair a b) y).toArray f.offset).run P w = .ok v w ∧ (Instr.checkKey em 9999 f.type v).run P w = .ok () w := by
      intro f hfm
      obtain ⟨j, hj, hfj⟩ := List.getElem_of_mem hfm
      have hjl : j < 1 + sz b := by simp at hj; omega
      obtain ⟨f', q1, q2, q3⟩ := hfs j hjl
      have : f' = f := by
       have : fs.toList[j]? = some f := by rw [List.getElem?_eq_getElem hj, hfj]
       rw [Array.getElem?_toList, q1] at this; exact Option.some.inj this
      subst this
      obtain ⟨tf, v, q4, q5, q6⟩ := hcell j (Nat.zero_le _) (by simpa [sz] using hjl)
      rw [q3] at q4
      obtain rfl := Option.some.inj q4
      exact ⟨v, by rw [q2]; exact q5, q6⟩
     generalize fs.toList = L at each hnm
     induction L with
     | nil => simp
     | cons f L ih =>
      obtain ⟨v, p1, p2⟩ := each f (by simp)
      simp only [List.forIn_cons, Sem.run_bind, hnm f (by simp), ne_eq, not_false_eq_true, if_true, Result.andThen_ok, p1, p2, Sem.run_pure]
      exact ih (fun y hy => each y (by simp [hy])) (fun y hy => hnm y (by simp [hy]))
    ·have hce : P.cellsOf te = 1 := by simp [Program.cellsOf, hie, hie1]
     rw [show (10000 : Nat) = 9999 + 1 from rfl, Instr.checkKey]
     simp only [Sem.run_bind, run_underlying hu, Result.andThen_ok]
     simp only [Std.Legacy.Range.forIn_eq_forIn_range', Std.Legacy.Range.size, Nat.sub_zero, Nat.add_one_sub_one, Nat.div_one]
     have each : ∀ j ∈ List.range' 0 (1 + sz b), ∃ v, (part te (litC (.pair a b) y).toArray j).run P w = .ok v w ∧ (Instr.checkKey em 9999 te v).run P w = .ok () w := by
      intro j hj
      simp only [List.mem_range', Nat.one_mul, Nat.zero_add] at hj
      have hj' : j < 1 + sz b := by obtain ⟨i, hi, rfl⟩ := hj; exact hi
      obtain ⟨tf, v, q4, q5, q6⟩ := hcell j (Nat.zero_le _) (by simpa [sz] using hj')
      rw [hfs j hj'] at q4
      obtain rfl := Option.some.inj q4
      exact ⟨v, q5, q6⟩
     generalize List.range' 0 (1 + sz b) = L at each
     induction L with
     | nil => simp
     | cons j L ih =>
      obtain ⟨v, p1, p2⟩ := each j (by simp)
      simp only [List.forIn_cons, Sem.run_bind, run_sizeOf w hie, hce, Nat.mul_one, Result.andThen_ok, p1, p2, Sem.run_pure]
      exact ih fun y hy => each y (by simp [hy])
   ·rw [run_findKey_eq w hwide]
    have heq : ∀ x : den (.pair a b), (Op.equal tk (litV (.pair a b) y) (litV (.pair a b) x)).run P w = .ok (eqD (.pair a b) x y) w := by
     intro x
     rw [hlit, hlit]
     let g0 : Gh := { col := fun _ => none, H := fun _ _ => undef, A := fun _ _ => (0, 0) }
     have h1 := (lit_RR (w := w) (g := g0) hT0 hf (s := 0) (.bor false true) [] y).2
     have h2 := (lit_RR (w := w) (g := g0) hT0 hf (s := 0) (.bor false true) [] x).2
     have := (equal_ok (w := w) (g := g0) hT0 hc he (beqD_eqD _ y x hf) (cs := (litC (.pair a b) y).toArray) (ds := (litC (.pair a b) x).toArray) h1 h2).1
     rw [eqD_comm]
     exact this
    have hgo : ∀ (es : List MapEntry) (xs : List (den (.pair a b))) (i : Nat), es.map (·.key) = xs.map (litV (.pair a b)) → (Instr.findAsking tk (litV (.pair a b) y) es i).run P w = .ok (findE (.pair a b) y es xs i) w := by
     intro es
     induction es with
     | nil => intro xs i _; cases xs <;> simp [Instr.findAsking, findE]
     | cons e es ih =>
      intro xs i h
      cases xs with
      | nil => simp at h
      | cons x xs =>
       simp only [List.map_cons, List.cons.injEq] at h
       simp only [Instr.findAsking, Sem.run_bind, h.1, heq x, Result.andThen_ok, findE]
       cases eqD (.pair a b) x y with
       | true => simp
       | false => simpa using ih xs (i + 1) h.2
    exact hgo es xs 0 h
  | unit => exact hT.elim
  | _ => cases hc

/-- the whole table -/
theorem hasT_mem : ∀ {l : List Nat} {t : Nat}, hasT l t = true → t ∈ l
 | [], _, h => by cases h
 | k :: r, t, h => by
  simp only [hasT] at h
  split at h
  ·rename_i hk
   have := Nat.eq_of_beq_eq_true hk
   subst this
   simp
  ·exact List.mem_cons_of_mem _ (hasT_mem h)
theorem tab_ok {l : List (Nat × Ty)} {md : Nat → Md} {ar sr : List Nat} {sc : Nat → Option SelfC} {bk : Nat → Option Bk} (h : l.all (rowB P ar) = true) (hs : sr.all (fun t => match P.underlying t with | some .string => true | _ => false) = true) :
  TabOK P ⟨lookT l, md, hasT ar, hasT sr, sc, bk⟩ ∧ EqOK P ⟨lookT l, md, hasT ar, hasT sr, sc, bk⟩ := by
 have hrow : ∀ t ty, lookT l t = some ty → TM P ty t ∧ eqB P t ty = true ∧ (match P.underlying t with | some (.array _ _) => hasT ar t | some (.struct _) => !hasT ar t | _ => true) = true := by
  intro t ty ht
  have := List.all_eq_true.1 h _ (lookT_mem ht)
  simp only [rowB, Bool.and_eq_true] at this
  exact ⟨(tmB2_ok ty).1 t this.1.1.1, this.1.1.2, this.2⟩
 refine ⟨fun t => ⟨fun ty ht => ?_, fun ht => ?_, fun k e ht => ?_⟩, fun t ty ht hc x y c hb w g v v' m m' ox oy hs hr hs' hr' => ?_⟩
 ·obtain ⟨h1, _, h3⟩ := hrow t ty ht
  refine ⟨h1, fun n te hu => ?_, fun fs hu => ?_⟩
  ·rw [hu] at h3; exact h3
  ·rw [hu] at h3; simpa using h3
 ·have := List.all_eq_true.1 hs _ (hasT_mem ht)
  split at this
  ·assumption
  ·cases this
 ·have := List.all_eq_true.1 h _ (lookT_mem ht)
  simp only [rowB, Bool.and_eq_true] at this
  have h2 := this.1.2
  split at h2
  ·rename_i tk te hu
   simp only [Bool.and_eq_true] at h2
   exact ⟨tk, te, hu, key_ok ((tmB2_ok k).1 tk h2.2) h2.1.1 h2.1.2⟩
  ·cases h2
 ·obtain ⟨h1, h2, _⟩ := hrow t ty ht
  unfold shapeV at hs hs'
  rw [hc] at hs hs'
  obtain ⟨cs, rfl, _⟩ := hs
  obtain ⟨ds, rfl, _⟩ := hs'
  obtain ⟨e1, e2⟩ := equal_ok (w := w) (cs := cs) (ds := ds) h1 hc h2 hb hr hr'
  refine ⟨run_eqGuard_agg w _ t ox oy cs ds e2, run_eqGuard_agg w _ t ox oy cs ds e2, ?_, ?_⟩
  ·rw [run_eql_struct, e1]; rfl
  ·rw [run_neq_struct, e1]; rfl

/-- the functions of walks backwards, by a list -/
def BkL (P : Program) (l : List (Nat × Bk)) : Prop := ∀ x ∈ l, match x.2 with
 | .mk g S => MkOK P x.1 g S
 | .gen S => GenOK P x.1 S
theorem lookB_mem : ∀ {l : List (Nat × Bk)} {t : Nat} {x : Bk}, lookB l t = some x → (t, x) ∈ l
 | (k, y) :: r, t, x, h => by
  simp only [lookB] at h
  split at h
  ·rename_i hk
   have := Nat.eq_of_beq_eq_true hk
   subst this
   cases h
   simp
  ·exact List.mem_cons_of_mem _ (lookB_mem h)
theorem bk_ok {l : List (Nat × Bk)} (h : BkL P l) {T : Tab} (hT : T.bk = lookB l) : BkOK P T := by
 intro f
 rw [hT]
 cases hb : lookB l f with
 | none => trivial
 | some x =>
  have := h _ (lookB_mem hb)
  cases x <;> exact this

theorem ctx_nil : CtxOK P (lookC []) := fun _ _ h => by cases h
theorem ctx_cons {f : Nat} {C : Contract} {r : List (Nat × Contract)} (hf : FnOK P f) (hC : Contract.Holds P f C) (h : CtxOK P (lookC r)) : CtxOK P (lookC ((f, C) :: r)) := by
 intro f' C' h'
 simp only [lookC] at h'
 split at h'
 ·rename_i hk
  have := Nat.eq_of_beq_eq_true hk
  subst this
  cases h'
  exact ⟨hf, hC⟩
 ·exact h f' C' h'
end
end Go.Ab
