/- Rows of spans, tables of them, what holds them together. -/
import Derived.Test.YtokjogplnoeicaaSpans
namespace Go.Proofs.Ytokjogplnoeicaa
open Go Go.Ab S

/-! what is checked ahead (as for BlockRuns) -/
theorem progCode_ok {p : List Blk} {vars : Int} (h : progCode vars p = 0) : 1 ≤ vars ∧ vars ≤ 6 ∧ 1 ≤ p.length ∧ p.length ≤ 8 ∧ blocksGo vars p.length p = 0 := by
  unfold progCode at h
  split at h
  · cases h
  · exact ⟨by omega, by omega, by omega, by omega, h⟩
theorem blocksGo_ok {vars n : Int} : ∀ {l : List Blk}, blocksGo vars n l = 0 → ∀ b ∈ l, blockCode vars n b = 0
  | [], _, b, hb => by cases hb
  | x :: r, h, b, hb => by
    simp only [blocksGo] at h
    split at h
    · rename_i h1
      rcases List.mem_cons.1 hb with rfl | hb
      · exact h1
      · exact blocksGo_ok h b hb
    · rename_i h1; exact absurd h h1
/-- what is so of a block that may be -/
theorem blockCode_ok {vars n : Int} {b : Blk} (h : blockCode vars n b = 0) : stepsGo vars vars b.1 = 0 ∧ -1 ≤ b.2.1 ∧ b.2.1 < vars ∧ ((0 ≤ b.2.2.1 ∧ b.2.2.1 < n) ∨ (b.2.2.1 = -1 ∧ b.2.1 < 0)) ∧ (b.2.1 ≥ 0 → 0 ≤ b.2.2.2.1 ∧ b.2.2.2.1 < n) := by
  unfold blockCode at h
  split at h
  · rename_i h0
    split at h
    · omega
    · split at h
      · omega
      · refine ⟨h0, by omega, by omega, by omega, fun h => by omega⟩
  · rename_i h0; exact absurd h h0
theorem stepsGo_all {vars regs : Int} : ∀ {l : List Step6}, stepsGo vars regs l = 0 → ∀ s ∈ l, stepCode vars regs s = 0
  | [], _, s, h => by cases h
  | k :: r, h, s, hs => by
    simp only [stepsGo] at h
    split at h
    · rename_i h1
      rcases List.mem_cons.1 hs with rfl | hs
      · exact h1
      · exact stepsGo_all h s hs
    · rename_i h1; exact absurd h h1


def D0 : Sp := (0, 0, ())
theorem Sp.ext {a b : Sp} (h1 : a.1 = b.1) (h2 : a.2.1 = b.2.1) : a = b := Prod.ext h1 (Prod.ext h2 rfl)
theorem ext_ex {op : Int} (o3 : 3 ≤ op) (o6 : op ≤ 6) {a b : Sp} (ha : isSp a) (hb : isSp b) : ∃ o, Ext (opV op) a b o := by
  obtain ⟨o, _, h⟩ := spanDo_F (nf := 300) (by omega) o3 o6 ha hb
  exact ⟨o, h⟩
open Classical in
/-- all values of an operation -/
noncomputable def hull (op : Int) (a b : Sp) : Sp := if h : ∃ o, Ext (opV op) a b o then Classical.choose h else D0
theorem hull_ext {op : Int} (o3 : 3 ≤ op) (o6 : op ≤ 6) {a b : Sp} (ha : isSp a) (hb : isSp b) : Ext (opV op) a b (hull op a b) := by
  have h := ext_ex o3 o6 ha hb
  unfold hull
  rw [dif_pos h]
  exact Classical.choose_spec h
theorem hull_of {op : Int} (o3 : 3 ≤ op) (o6 : op ≤ 6) {a b o : Sp} (ha : isSp a) (hb : isSp b) (h : Ext (opV op) a b o) : o = hull op a b := by
  obtain ⟨e1, e2⟩ := h.eq (hull_ext o3 o6 ha hb)
  exact Sp.ext e1 e2
theorem hull_is {op : Int} (o3 : 3 ≤ op) (o6 : op ≤ 6) {a b : Sp} (ha : isSp a) (hb : isSp b) : isSp (hull op a b) := by
  have h := hull_ext o3 o6 ha hb
  obtain ⟨x, y, h1, h2⟩ := h.low
  obtain ⟨u, v, h3, h4⟩ := h.high
  have i1 := opV_isV op x y
  have i2 := opV_isV op u v
  have := h.all x y h1
  unfold isV at i1 i2
  exact ⟨by omega, by omega, by omega⟩

/-- one span lies within another one -/
def sple (a b : Sp) : Prop := b.1 ≤ a.1 ∧ a.2.1 ≤ b.2.1
theorem sple.refl (a : Sp) : sple a a := ⟨Int.le_refl _, Int.le_refl _⟩
theorem hull_mono {op : Int} (o3 : 3 ≤ op) (o6 : op ≤ 6) {a b a' b' : Sp} (ha : isSp a) (hb : isSp b) (ha' : isSp a') (hb' : isSp b') (h1 : sple a a') (h2 : sple b b') : sple (hull op a b) (hull op a' b') := by
  have e := hull_ext o3 o6 ha hb
  have e' := hull_ext o3 o6 ha' hb'
  have hin : ∀ x y, In a b x y → In a' b' x y := fun x y ⟨p1, p2, p3, p4⟩ => ⟨by have := h1.1; omega, by have := h1.2; omega, by have := h2.1; omega, by have := h2.2; omega⟩
  obtain ⟨x, y, c1, c2⟩ := e.low
  obtain ⟨u, v, c3, c4⟩ := e.high
  have := e'.all x y (hin x y c1)
  have := e'.all u v (hin u v c3)
  exact ⟨by omega, by omega⟩

structure Row (n : Int) (v : List Sp) : Prop where
  len : (v.length : Int) = n
  ok : ∀ x ∈ v, isSp x
theorem Row.get {n : Int} {v : List Sp} (h : Row n v) {i : Int} (h0 : 0 ≤ i) (h1 : i < n) : isSp (v.getD i.toNat D0) := h.ok _ (getD_mem h0 (by rw [h.len]; exact h1))
theorem Row.set {n : Int} {v : List Sp} (h : Row n v) (i : Nat) {x : Sp} (hx : isSp x) : Row n (v.set i x) := by
  refine ⟨by rw [List.length_set]; exact h.len, fun y hy => ?_⟩
  rcases List.mem_or_eq_of_mem_set hy with h1 | h1
  · exact h.ok y h1
  · rw [h1]; exact hx
theorem Row.inb {n : Int} {v : List Sp} (h : Row n v) {i : Int} (h0 : 0 ≤ i) (h1 : i < n) : inb i v.length = true := inb_ok h0 (by rw [h.len]; exact h1)

def rle (r s : List Sp) : Prop := r.length = s.length ∧ ∀ k : Nat, sple (r.getD k D0) (s.getD k D0)
theorem rle.refl (r : List Sp) : rle r r := ⟨rfl, fun _ => sple.refl _⟩
theorem rle.trans {r s t : List Sp} (h1 : rle r s) (h2 : rle s t) : rle r t := ⟨h1.1.trans h2.1, fun k => by
  have a := h1.2 k
  have b := h2.2 k
  unfold sple at *
  omega⟩
theorem rle.set {r s : List Sp} (h : rle r s) {x y : Sp} (hxy : sple x y) (i : Nat) : rle (r.set i x) (s.set i y) := by
  refine ⟨by rw [List.length_set, List.length_set]; exact h.1, fun k => ?_⟩
  have hl := h.1
  by_cases hi : i < r.length
  · rw [getD_upd hi, getD_upd (by omega)]
    split
    · exact hxy
    · exact h.2 k
  · rw [List.set_eq_of_length_le (by omega), List.set_eq_of_length_le (by omega)]
    exact h.2 k

noncomputable def mkS (s : Step6) (v : List Sp) : Sp := if s.1 = 1 then (s.2.2.2.2.1, s.2.2.2.2.1, ()) else if s.1 = 2 then v.getD s.2.2.2.2.1.toNat D0 else hull s.1 (v.getD s.2.2.1.toNat D0) (v.getD s.2.2.2.1.toNat D0)
theorem mkS_is {n : Int} {v : List Sp} (h : Row n v) {s : Step6} (hs : stepCode n n s = 0) : isSp (mkS s v) := by
  obtain ⟨op, to, a, b, k, u⟩ := s
  obtain ⟨o1, o6, c1, c2, _, c3⟩ := stepCode_ok hs
  unfold mkS
  simp only
  split
  · have := c1 ‹_›; exact ⟨this.1, Int.le_refl _, this.2⟩
  · split
    · obtain ⟨k0, k1⟩ := c2 ‹_›; exact h.get k0 k1
    · obtain ⟨a0, a1, b0, b1⟩ := c3 (by omega)
      exact hull_is (by omega) o6 (h.get a0 a1) (h.get b0 b1)
theorem mkS_mono {n : Int} {v w : List Sp} (hv : Row n v) (hw : Row n w) (h : rle v w) {s : Step6} (hs : stepCode n n s = 0) : sple (mkS s v) (mkS s w) := by
  obtain ⟨op, to, a, b, k, u⟩ := s
  obtain ⟨o1, o6, c1, c2, _, c3⟩ := stepCode_ok hs
  unfold mkS
  simp only
  split
  · exact sple.refl _
  · split
    · exact h.2 _
    · obtain ⟨a0, a1, b0, b1⟩ := c3 (by omega)
      exact hull_mono (by omega) o6 (hv.get a0 a1) (hv.get b0 b1) (hw.get a0 a1) (hw.get b0 b1) (h.2 _) (h.2 _)

noncomputable def rowF (code : List Step6) (v : List Sp) : List Sp := code.foldl (fun v s => v.set s.2.1.toNat (mkS s v)) v
theorem rowF_row {n : Int} : ∀ {code : List Step6} (_ : ∀ s ∈ code, stepCode n n s = 0) {v : List Sp}, Row n v → Row n (rowF code v)
  | [], _, _, h => h
  | s :: c, hc, v, h => rowF_row (code := c) (fun x hx => hc x (by simp [hx])) (h.set _ (mkS_is h (hc s (by simp))))
theorem rowF_mono {n : Int} : ∀ {code : List Step6} (_ : ∀ s ∈ code, stepCode n n s = 0) {v w : List Sp}, Row n v → Row n w → rle v w → rle (rowF code v) (rowF code w)
  | [], _, _, _, _, _, h => h
  | s :: c, hc, v, w, hv, hw, h => rowF_mono (code := c) (fun x hx => hc x (by simp [hx])) (hv.set _ (mkS_is hv (hc s (by simp)))) (hw.set _ (mkS_is hw (hc s (by simp)))) (h.set (mkS_mono hv hw h (hc s (by simp))) _)

/-- where one may go, and with what -/
def outs (b : Blk) (v : List Sp) : List (Int × List Sp) := if b.2.1 < 0 then (if b.2.2.1 < 0 then [] else [(b.2.2.1, v)]) else
  (if 0 < (v.getD b.2.1.toNat D0).2.1 then [(b.2.2.1, v.set b.2.1.toNat (if 1 > (v.getD b.2.1.toNat D0).1 then 1 else (v.getD b.2.1.toNat D0).1, (v.getD b.2.1.toNat D0).2.1, ()))] else []) ++
  (if (v.getD b.2.1.toNat D0).1 = 0 then [(b.2.2.2.1, v.set b.2.1.toNat D0)] else [])
theorem outs_mono {n m : Int} {b : Blk} (hb : blockCode n m b = 0) {v w : List Sp} (hv : Row n v) (hw : Row n w) (h : rle v w) : ∀ q ∈ outs b v, ∃ r, (q.1, r) ∈ outs b w ∧ rle q.2 r := by
  obtain ⟨_, b1, b2, b3, b4⟩ := blockCode_ok hb
  intro q hq
  unfold outs at hq ⊢
  by_cases c1 : b.2.1 < 0
  · rw [if_pos c1] at hq ⊢
    split at hq
    · cases hq
    · rename_i c2
      rw [if_neg c2]
      rw [List.mem_singleton] at hq
      subst hq
      exact ⟨w, by simp, h⟩
  · rw [if_neg c1] at hq ⊢
    have hs := h.2 b.2.1.toNat
    have iv := hv.get (i := b.2.1) (by omega) b2
    have iw := hw.get (i := b.2.1) (by omega) b2
    generalize v.getD b.2.1.toNat D0 = x at *
    generalize w.getD b.2.1.toNat D0 = y at *
    unfold sple at hs
    unfold isSp at iv iw
    rcases List.mem_append.1 hq with hq | hq
    · split at hq
      · rw [List.mem_singleton] at hq
        subst hq
        refine ⟨_, List.mem_append_left _ (by rw [if_pos (by omega)]; exact List.mem_singleton.2 rfl), h.set ?_ _⟩
        unfold sple
        refine ⟨?_, hs.2⟩
        show (if 1 > y.1 then 1 else y.1) ≤ (if 1 > x.1 then 1 else x.1)
        split <;> split <;> omega
      · cases hq
    · split at hq
      · rw [List.mem_singleton] at hq
        subst hq
        exact ⟨_, List.mem_append_right _ (by rw [if_pos (by omega)]; exact List.mem_singleton.2 rfl), h.set (sple.refl _) _⟩
      · cases hq
theorem outs_ok {n m : Int} {b : Blk} (hb : blockCode n m b = 0) {v : List Sp} (hv : Row n v) : ∀ q ∈ outs b v, (0 ≤ q.1 ∧ q.1 < m) ∧ Row n q.2 := by
  obtain ⟨_, b1, b2, b3, b4⟩ := blockCode_ok hb
  intro q hq
  unfold outs at hq
  split at hq
  · split at hq
    · cases hq
    · rw [List.mem_singleton] at hq
      subst hq
      exact ⟨by simp only; omega, hv⟩
  · have iv := hv.get (i := b.2.1) (by omega) b2
    unfold isSp at iv
    rcases List.mem_append.1 hq with hq | hq
    · split at hq
      · rw [List.mem_singleton] at hq
        subst hq
        refine ⟨by simp only; omega, hv.set _ ?_⟩
        unfold isSp
        simp only
        split <;> omega
      · cases hq
    · split at hq
      · rw [List.mem_singleton] at hq
        subst hq
        exact ⟨by simp only; omega, hv.set _ ⟨by decide, by decide, by decide⟩⟩
      · cases hq

def hull2 (a b : Sp) : Sp := (if b.1 < a.1 then b.1 else a.1, if b.2.1 > a.2.1 then b.2.1 else a.2.1, ())
def joinR (r v : List Sp) : List Sp := match r with | [] => v | _ => List.zipWith hull2 r v
theorem joinR_ne {r v : List Sp} (hr : r ≠ []) : joinR r v = List.zipWith hull2 r v := by
  cases r with
  | nil => exact absurd rfl hr
  | cons => rfl
theorem joinR_len {r v : List Sp} (hr : r ≠ []) (hl : r.length = v.length) : (joinR r v).length = r.length := by
  rw [joinR_ne hr, List.length_zipWith]; omega
theorem joinR_get {r v : List Sp} (hr : r ≠ []) (hl : r.length = v.length) {k : Nat} (hk : k < r.length) : (joinR r v).getD k D0 = hull2 (r.getD k D0) (v.getD k D0) := by
  rw [joinR_ne hr]
  simp only [List.getD_eq_getElem?_getD, List.getElem?_zipWith, List.getElem?_eq_getElem hk, List.getElem?_eq_getElem (show k < v.length by omega)]
  rfl
theorem getD_out {r : List Sp} {k : Nat} (hk : ¬ k < r.length) : r.getD k D0 = D0 := by
  rw [List.getD_eq_getElem?_getD, List.getElem?_eq_none (by omega)]; rfl
theorem hull2_left (a b : Sp) : sple a (hull2 a b) := by
  unfold sple hull2
  simp only
  constructor
  · split <;> omega
  · split <;> omega
theorem hull2_right (a b : Sp) : sple b (hull2 a b) := by
  unfold sple hull2
  simp only
  constructor
  · split <;> omega
  · split <;> omega
theorem hull2_lub {a b c : Sp} (h1 : sple a c) (h2 : sple b c) : sple (hull2 a b) c := by
  unfold sple hull2 at *
  simp only
  constructor
  · split <;> omega
  · split <;> omega
theorem hull2_is {a b : Sp} (ha : isSp a) (hb : isSp b) : isSp (hull2 a b) := by
  unfold isSp hull2 at *
  simp only
  refine ⟨?_, ?_, ?_⟩
  · split <;> omega
  · split <;> split <;> omega
  · split <;> omega
theorem joinR_row {n : Int} {r v : List Sp} (h1 : r = [] ∨ Row n r) (h2 : Row n v) : Row n (joinR r v) := by
  by_cases hr : r = []
  · rw [hr]; exact h2
  · have h1 := h1.resolve_left hr
    have hl : r.length = v.length := by have := h1.len; have := h2.len; omega
    refine ⟨by rw [joinR_len hr hl]; exact h1.len, fun x hx => ?_⟩
    obtain ⟨k, hk, rfl⟩ := List.mem_iff_getElem.1 hx
    have hk' : k < r.length := by rw [joinR_len hr hl] at hk; exact hk
    have := joinR_get hr hl hk'
    rw [show (joinR r v).getD k D0 = (joinR r v)[k] by simp [List.getD, hk]] at this
    rw [this]
    refine hull2_is ?_ ?_
    · rw [show r.getD k D0 = r[k] by simp [List.getD, hk']]; exact h1.ok _ (List.getElem_mem hk')
    · rw [show v.getD k D0 = v[k]'(by omega) by simp [List.getD, show k < v.length by omega]]; exact h2.ok _ (List.getElem_mem _)
theorem joinR_left {r v : List Sp} (hr : r ≠ []) (hl : r.length = v.length) : rle r (joinR r v) := by
  refine ⟨(joinR_len hr hl).symm, fun k => ?_⟩
  by_cases hk : k < r.length
  · rw [joinR_get hr hl hk]; exact hull2_left _ _
  · rw [getD_out hk, getD_out (by rw [joinR_len hr hl]; exact hk)]; exact sple.refl _
theorem joinR_right {r v : List Sp} (hl : r = [] ∨ r.length = v.length) : rle v (joinR r v) := by
  by_cases hr : r = []
  · rw [hr]; exact rle.refl v
  · have hl := hl.resolve_left hr
    refine ⟨by rw [joinR_len hr hl, hl], fun k => ?_⟩
    by_cases hk : k < r.length
    · rw [joinR_get hr hl hk]; exact hull2_right _ _
    · rw [getD_out (r := v) (by omega), getD_out (by rw [joinR_len hr hl]; exact hk)]; exact sple.refl _
theorem joinR_lub {r v z : List Sp} (h1 : r = [] ∨ rle r z) (h2 : rle v z) : rle (joinR r v) z := by
  by_cases hr : r = []
  · rw [hr]; exact h2
  · have h1 := h1.resolve_left hr
    have hl : r.length = v.length := h1.1.trans h2.1.symm
    refine ⟨by rw [joinR_len hr hl]; exact h1.1, fun k => ?_⟩
    by_cases hk : k < r.length
    · rw [joinR_get hr hl hk]; exact hull2_lub (h1.2 k) (h2.2 k)
    · rw [getD_out (r := z) (by rw [← h1.1]; exact hk), getD_out (by rw [joinR_len hr hl]; exact hk)]; exact sple.refl _

/-! Tables -/
def row (X : List (List Sp)) (i : Int) : List Sp := X.getD i.toNat []
structure TabK (n : Int) (m : Nat) (X : List (List Sp)) : Prop where
  len : X.length = m
  rows : ∀ r ∈ X, r = [] ∨ Row n r
theorem TabK.row {n : Int} {m : Nat} {X : List (List Sp)} (h : TabK n m X) (i : Int) : row X i = [] ∨ Row n (row X i) := by
  unfold Go.Proofs.Ytokjogplnoeicaa.row
  by_cases hi : i.toNat < X.length
  · rw [List.getD_eq_getElem?_getD, List.getElem?_eq_getElem hi]
    exact h.rows _ (List.getElem_mem hi)
  · rw [List.getD_eq_getElem?_getD, List.getElem?_eq_none (by omega)]; exact .inl rfl
theorem row_set {X : List (List Sp)} {j : Int} (h0 : 0 ≤ j) (h1 : j < X.length) (r : List Sp) {i : Int} (i0 : 0 ≤ i) : row (X.set j.toNat r) i = if i = j then r else row X i := by
  unfold row
  rw [getD_upd (by omega)]
  by_cases h : i = j
  · subst h; rw [if_pos rfl, if_pos rfl]
  · rw [if_neg (by omega), if_neg h]
theorem TabK.set {n : Int} {m : Nat} {X : List (List Sp)} (h : TabK n m X) (i : Nat) {r : List Sp} (hr : Row n r) : TabK n m (X.set i r) := by
  refine ⟨by rw [List.length_set]; exact h.len, fun y hy => ?_⟩
  rcases List.mem_or_eq_of_mem_set hy with h1 | h1
  · exact h.rows y h1
  · rw [h1]; exact .inr hr

def Lek (X Y : List (List Sp)) : Prop := ∀ i : Int, 0 ≤ i → row X i = [] ∨ (row Y i ≠ [] ∧ rle (row X i) (row Y i))
theorem Lek.refl (X : List (List Sp)) : Lek X X := fun i _ => by
  by_cases h : row X i = []
  · exact .inl h
  · exact .inr ⟨h, rle.refl _⟩
theorem Lek.trans {X Y Z : List (List Sp)} (h1 : Lek X Y) (h2 : Lek Y Z) : Lek X Z := fun i i0 => by
  rcases h1 i i0 with a | ⟨a, b⟩
  · exact .inl a
  · rcases h2 i i0 with c | ⟨c, d⟩
    · exact absurd c a
    · exact .inr ⟨c, b.trans d⟩

/-- how wide -/
def wid (r : List Sp) : Nat := r.foldr (fun s a => (s.2.1 - s.1 + 1).toNat + a) 0
def rkr (r : List Sp) : Nat := match r with | [] => 0 | _ => 1 + wid r
def rank (X : List (List Sp)) : Nat := X.foldr (fun r a => rkr r + a) 0
theorem count_le : ∀ {r s : List Sp}, r.length = s.length → (∀ x ∈ r, isSp x) → (∀ k : Nat, sple (r.getD k D0) (s.getD k D0)) → wid r ≤ wid s ∧ (wid r = wid s → r = s)
  | [], [], _, _, _ => ⟨Nat.le_refl _, fun _ => rfl⟩
  | [], _ :: _, h, _, _ => by simp at h
  | _ :: _, [], h, _, _ => by simp at h
  | a :: r, b :: s, h, hi, hk => by
    obtain ⟨h1, h2⟩ := count_le (r := r) (s := s) (by simpa using h) (fun x hx => hi x (by simp [hx])) (fun k => by simpa using hk (k + 1))
    have h0 : sple a b := by simpa using hk 0
    have ha := hi a (by simp)
    unfold sple at h0
    unfold isSp at ha
    simp only [wid, List.foldr_cons] at h1 h2 ⊢
    refine ⟨by omega, fun he => ?_⟩
    have e1 : a.1 = b.1 := by omega
    have e2 : a.2.1 = b.2.1 := by omega
    rw [h2 (by omega), Sp.ext e1 e2]
theorem rkr_le {n : Int} {r s : List Sp} (hr2 : r = [] ∨ Row n r) (h : r = [] ∨ (s ≠ [] ∧ rle r s)) : rkr r ≤ rkr s ∧ (rkr r = rkr s → r = s) := by
  by_cases hr : r = []
  · subst hr
    refine ⟨Nat.zero_le _, fun he => ?_⟩
    cases s with
    | nil => rfl
    | cons b s => simp only [rkr] at he; omega
  · obtain ⟨hs, h1, h2⟩ := h.resolve_left hr
    obtain ⟨c1, c2⟩ := count_le h1 (hr2.resolve_left hr).ok h2
    cases r with
    | nil => exact absurd rfl hr
    | cons a r =>
      cases s with
      | nil => exact absurd rfl hs
      | cons b s =>
        simp only [rkr]
        exact ⟨by omega, fun he => c2 (by omega)⟩
theorem rank_le {n : Int} : ∀ {X Y : List (List Sp)}, (∀ r ∈ X, r = [] ∨ Row n r) → X.length = Y.length → Lek X Y → rank X ≤ rank Y ∧ (rank X = rank Y → X = Y)
  | [], [], _, _, _ => ⟨Nat.le_refl _, fun _ => rfl⟩
  | [], _ :: _, _, h, _ => by simp at h
  | _ :: _, [], _, h, _ => by simp at h
  | r :: X, s :: Y, hr, h, hl => by
    obtain ⟨h1, h2⟩ := rank_le (X := X) (Y := Y) (fun x hx => hr x (by simp [hx])) (by simpa using h) (fun i i0 => by
      have := hl (i + 1) (by omega)
      unfold row at this
      rw [show (i + 1).toNat = i.toNat + 1 by omega] at this
      simpa [row] using this)
    have h0 := rkr_le (r := r) (s := s) (hr r (by simp)) (by have := hl 0 (by omega); simpa [row] using this)
    simp only [rank, List.foldr_cons] at h1 h2 ⊢
    exact ⟨by omega, fun he => by rw [h0.2 (by omega), h2 (by omega)]⟩
theorem wid_top : ∀ {r : List Sp}, (∀ x ∈ r, isSp x) → wid r ≤ 256 * r.length
  | [], _ => Nat.le_refl _
  | a :: r, h => by
    have h1 := wid_top (r := r) fun x hx => h x (by simp [hx])
    have ha := h a (by simp)
    unfold isSp at ha
    simp only [wid, List.foldr_cons, List.length_cons] at h1 ⊢
    omega
theorem rank_top {n : Int} (hn : n ≤ 6) : ∀ {X : List (List Sp)}, (∀ r ∈ X, r = [] ∨ Row n r) → rank X ≤ 1537 * X.length
  | [], _ => Nat.le_refl _
  | r :: X, h => by
    have h1 := rank_top hn (X := X) fun x hx => h x (by simp [hx])
    have h0 : rkr r ≤ 1537 := by
      rcases h r (by simp) with e | e
      · rw [e]; simp [rkr]
      · have := wid_top e.ok
        have := e.len
        unfold rkr
        split
        · omega
        · omega
    simp only [rank, List.foldr_cons, List.length_cons] at h1 ⊢
    omega

def updK (X : List (List Sp)) (j : Int) (v : List Sp) : List (List Sp) := X.set j.toNat (joinR (row X j) v)
section
variable {n : Int} {m : Nat} {X Z : List (List Sp)} {j : Int} {v : List Sp}
theorem updK_row (h0 : 0 ≤ j) (h1 : j < X.length) {i : Int} (i0 : 0 ≤ i) : row (updK X j v) i = if i = j then joinR (row X j) v else row X i := row_set h0 h1 _ i0
theorem updK_tab (h : TabK n m X) (hv : Row n v) : TabK n m (updK X j v) := h.set _ (joinR_row (h.row j) hv)
theorem len_or (h : TabK n m X) (hv : Row n v) (i : Int) : row X i = [] ∨ (row X i).length = v.length := by
  rcases h.row i with a | a
  · exact .inl a
  · right; have := a.len; have := hv.len; omega
theorem updK_le (h : TabK n m X) (hv : Row n v) (hn : 1 ≤ n) (h0 : 0 ≤ j) (h1 : j < X.length) : Lek X (updK X j v) := fun i i0 => by
  by_cases hr : row X i = []
  · exact .inl hr
  · right
    rw [updK_row h0 h1 i0]
    by_cases hij : i = j
    · subst hij
      rw [if_pos rfl]
      have hl := (len_or h hv i).resolve_left hr
      have := joinR_left hr hl
      refine ⟨fun e => ?_, this⟩
      have := this.1
      rw [e] at this
      cases hq : row X i with
      | nil => exact hr hq
      | cons => rw [hq] at this; simp at this
    · rw [if_neg hij]; exact ⟨hr, rle.refl _⟩
theorem updK_in (h : TabK n m X) (hv : Row n v) (hn : 1 ≤ n) (h0 : 0 ≤ j) (h1 : j < X.length) : row (updK X j v) j ≠ [] ∧ rle v (row (updK X j v) j) := by
  rw [updK_row h0 h1 h0, if_pos rfl]
  have := joinR_right (len_or h hv j)
  refine ⟨fun e => ?_, this⟩
  have h2 := this.1
  rw [e] at h2
  have := hv.len
  simp at h2
  rw [h2] at this; simp at this; omega
theorem updK_lub (h0 : 0 ≤ j) (h1 : j < X.length) (hX : Lek X Z) (hZ : row Z j ≠ [] ∧ rle v (row Z j)) : Lek (updK X j v) Z := fun i i0 => by
  rw [updK_row h0 h1 i0]
  by_cases hij : i = j
  · subst hij
    rw [if_pos rfl]
    right
    refine ⟨hZ.1, joinR_lub ?_ hZ.2⟩
    rcases hX i i0 with a | a
    · exact .inl a
    · exact .inr a.2
  · rw [if_neg hij]; exact hX i i0
end

/-- Z has all that comes out of X -/
def Takes (p : List Blk) (have' : List Sp) (X Z : List (List Sp)) : Prop := (row Z 0 ≠ [] ∧ rle have' (row Z 0)) ∧
  ∀ i : Int, 0 ≤ i → i < p.length → row X i ≠ [] → ∀ q ∈ outs (p.getD i.toNat ([], 0, 0, 0, ())) (rowF (p.getD i.toNat ([], 0, 0, 0, ())).1 (row X i)), row Z q.1 ≠ [] ∧ rle q.2 (row Z q.1)
/-- the blocks of a program are well made -/
structure Made (n : Int) (p : List Blk) (nf : Nat) : Prop where
  n1 : 1 ≤ n
  n6 : n ≤ 6
  p1 : 1 ≤ p.length
  p8 : p.length ≤ 8
  ok : ∀ b ∈ p, blockCode n p.length b = 0
  fit : ∀ b ∈ p, b.1.length ≤ maxLen ∧ b.1.length < nf
abbrev B0 : Blk := ([], 0, 0, 0, ())
theorem Takes.mono {n : Int} {p : List Blk} {nf : Nat} (hp : Made n p nf) {have' : List Sp} {X Y Z : List (List Sp)} (h : Takes p have' Y Z) (hX : TabK n p.length X) (hY : TabK n p.length Y) (hXY : Lek X Y) : Takes p have' X Z := by
  refine ⟨h.1, fun i i0 i1 hne q hq => ?_⟩
  obtain ⟨a, b⟩ := (hXY i i0).resolve_left hne
  have hb := hp.ok _ (getD_mem (d := B0) i0 i1)
  have hsc := stepsGo_all (blockCode_ok hb).1
  have r1 := (hX.row i).resolve_left hne
  have r2 := (hY.row i).resolve_left a
  obtain ⟨r, c1, c2⟩ := outs_mono hb (rowF_row hsc r1) (rowF_row hsc r2) (rowF_mono hsc r1 r2 b) q hq
  obtain ⟨d1, d2⟩ := h.2 i i0 i1 a _ c1
  exact ⟨d1, c2.trans d2⟩
/-- the least table that has all that comes out of it -/
def Least (n : Int) (p : List Blk) (have' : List Sp) (R : List (List Sp)) : Prop := TabK n p.length R ∧ Takes p have' R R ∧ ∀ Z, TabK n p.length Z → Takes p have' Z Z → Lek R Z
theorem least_one {n : Int} {p : List Blk} {have' : List Sp} {R S : List (List Sp)} (h1 : Least n p have' R) (h2 : Least n p have' S) : R = S := by
  have a := rank_le (X := R) (Y := S) h1.1.rows (by rw [h1.1.len, h2.1.len]) (h1.2.2 S h2.1 h2.2.1)
  have b := rank_le (X := S) (Y := R) h2.1.rows (by rw [h1.1.len, h2.1.len]) (h2.2.2 R h1.1 h1.2.1)
  exact a.2 (by omega)
end Go.Proofs.Ytokjogplnoeicaa
