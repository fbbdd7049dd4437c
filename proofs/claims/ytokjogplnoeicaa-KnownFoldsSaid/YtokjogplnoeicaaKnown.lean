/- What is known of variables: rows, tables, what holds them together. -/
import Derived.Test.YtokjogplnoeicaaBlk
namespace Go.Proofs.Ytokjogplnoeicaa
open Go Go.Ab S

/-! what is checked ahead (as for BlockRuns) -/
theorem progCode_ok {p : List Blk} {vars : Int} (h : progCode vars p = 0) : 1 ≤ vars ∧ vars ≤ 6 ∧ 1 ≤ p.length ∧ p.length ≤ 8 ∧ blocksGo vars p.length p = 0 := by
  unfold progCode at h
  split at h
  · cases h
  · exact ⟨by omega, by omega, by omega, by omega, h⟩
theorem blocksGo_ok {vars n : Int} : ∀ {l : List Blk}, blocksGo vars n l = 0 → ∀ b ∈ l, blockCode vars n b = 0
  | [], _, b, hb => by cases hb
  | x :: r, h, b, hb => by
    simp only [blocksGo] at h
    split at h
    · rename_i h1
      rcases List.mem_cons.1 hb with rfl | hb
      · exact h1
      · exact blocksGo_ok h b hb
    · rename_i h1; exact absurd h h1
/-- what is so of a block that may be -/
theorem blockCode_ok {vars n : Int} {b : Blk} (h : blockCode vars n b = 0) : stepsGo vars vars b.1 = 0 ∧ -1 ≤ b.2.1 ∧ b.2.1 < vars ∧ ((0 ≤ b.2.2.1 ∧ b.2.2.1 < n) ∨ (b.2.2.1 = -1 ∧ b.2.1 < 0)) ∧ (b.2.1 ≥ 0 → 0 ≤ b.2.2.2.1 ∧ b.2.2.2.1 < n) := by
  unfold blockCode at h
  split at h
  · rename_i h0
    split at h
    · omega
    · split at h
      · omega
      · refine ⟨h0, by omega, by omega, by omega, fun h => by omega⟩
  · rename_i h0; exact absurd h h0
theorem stepsGo_all {vars regs : Int} : ∀ {l : List Step6}, stepsGo vars regs l = 0 → ∀ s ∈ l, stepCode vars regs s = 0
  | [], _, s, h => by cases h
  | k :: r, h, s, hs => by
    simp only [stepsGo] at h
    split at h
    · rename_i h1
      rcases List.mem_cons.1 hs with rfl | hs
      · exact h1
      · exact stepsGo_all h s hs
    · rename_i h1; exact absurd h h1

/-- known: one value, or more than one (-1) -/
def isK (x : Int) : Prop := -1 ≤ x ∧ x ≤ 255
def mkV (s : Step6) (v : List Int) : Int :=
  if s.1 = 1 then s.2.2.2.2.1 else if s.1 = 2 then v.getD s.2.2.2.2.1.toNat 0 else
  if s.1 = 5 ∧ (v.getD s.2.2.1.toNat 0 = 0 ∨ v.getD s.2.2.2.1.toNat 0 = 0) then 0 else
  if v.getD s.2.2.1.toNat 0 = -1 ∨ v.getD s.2.2.2.1.toNat 0 = -1 then -1 else opV s.1 (v.getD s.2.2.1.toNat 0) (v.getD s.2.2.2.1.toNat 0)
structure Row (n : Int) (v : List Int) : Prop where
  len : (v.length : Int) = n
  ok : ∀ x ∈ v, isK x
theorem Row.get {n : Int} {v : List Int} (h : Row n v) {i : Int} (h0 : 0 ≤ i) (h1 : i < n) : isK (v.getD i.toNat 0) := h.ok _ (getD_mem h0 (by rw [h.len]; exact h1))
theorem Row.set {n : Int} {v : List Int} (h : Row n v) (i : Nat) {x : Int} (hx : isK x) : Row n (v.set i x) := by
  refine ⟨by rw [List.length_set]; exact h.len, fun y hy => ?_⟩
  rcases List.mem_or_eq_of_mem_set hy with h1 | h1
  · exact h.ok y h1
  · rw [h1]; exact hx
theorem Row.inb {n : Int} {v : List Int} (h : Row n v) {i : Int} (h0 : 0 ≤ i) (h1 : i < n) : inb i v.length = true := inb_ok h0 (by rw [h.len]; exact h1)

/-- one row tells no less than another one -/
def rle (r s : List Int) : Prop := r.length = s.length ∧ ∀ k : Nat, s.getD k 0 = -1 ∨ r.getD k 0 = s.getD k 0
theorem rle.refl (r : List Int) : rle r r := ⟨rfl, fun _ => .inr rfl⟩
theorem rle.trans {r s t : List Int} (h1 : rle r s) (h2 : rle s t) : rle r t := ⟨h1.1.trans h2.1, fun k => by
  rcases h2.2 k with a | a
  · exact .inl a
  · rcases h1.2 k with b | b
    · exact .inl (by rw [← a]; exact b)
    · exact .inr (b.trans a)⟩
theorem rle.set {r s : List Int} (h : rle r s) {x y : Int} (hxy : y = -1 ∨ x = y) (i : Nat) : rle (r.set i x) (s.set i y) := by
  refine ⟨by rw [List.length_set, List.length_set]; exact h.1, fun k => ?_⟩
  by_cases hi : i < r.length
  · rw [getD_upd hi, getD_upd (by rw [← h.1]; exact hi)]
    split
    · exact hxy
    · exact h.2 k
  · have hl := h.1
    rw [List.set_eq_of_length_le (by omega), List.set_eq_of_length_le (by omega)]
    exact h.2 k

theorem mkV_isK {n : Int} {v : List Int} (h : Row n v) {s : Step6} (hs : stepCode n n s = 0) : isK (mkV s v) := by
  obtain ⟨op, to, a, b, k, u⟩ := s
  obtain ⟨o1, o6, c1, c2, _, c3⟩ := stepCode_ok hs
  unfold mkV
  simp only
  split
  · have := c1 ‹_›; exact ⟨by omega, by omega⟩
  · split
    · obtain ⟨k0, k1⟩ := c2 ‹_›; exact h.get k0 k1
    · split
      · exact ⟨by omega, by omega⟩
      · split
        · exact ⟨by omega, by omega⟩
        · have := opV_isV op (v.getD a.toNat 0) (v.getD b.toNat 0)
          unfold isV at this
          exact ⟨by omega, this.2⟩

theorem mkV_mono {n : Int} {v w : List Int} (hw : rle v w) (s : Step6) : mkV s w = -1 ∨ mkV s v = mkV s w := by
  have ha := hw.2 s.2.2.1.toNat
  have hb := hw.2 s.2.2.2.1.toNat
  have hk := hw.2 s.2.2.2.2.1.toNat
  unfold mkV
  generalize v.getD s.2.2.1.toNat 0 = a at *
  generalize w.getD s.2.2.1.toNat 0 = a' at *
  generalize v.getD s.2.2.2.1.toNat 0 = b at *
  generalize w.getD s.2.2.2.1.toNat 0 = b' at *
  by_cases c1 : s.1 = 1
  · simp [c1]
  · by_cases c2 : s.1 = 2
    · rw [if_neg c1, if_pos c2, if_neg c1, if_pos c2]; exact hk
    · rw [if_neg c1, if_neg c2, if_neg c1, if_neg c2]
      by_cases d : s.1 = 5 ∧ (a' = 0 ∨ b' = 0)
      · rw [if_pos d, if_pos ⟨d.1, by omega⟩]; exact .inr rfl
      · rw [if_neg d]
        by_cases e : a' = -1 ∨ b' = -1
        · rw [if_pos e]; exact .inl rfl
        · have e1 : a = a' := by omega
          have e2 : b = b' := by omega
          rw [e1, e2, if_neg d, if_neg e]; exact .inr rfl

def rowF (code : List Step6) (v : List Int) : List Int := code.foldl (fun v s => v.set s.2.1.toNat (mkV s v)) v
theorem rowF_row {n : Int} : ∀ {code : List Step6} (_ : ∀ s ∈ code, stepCode n n s = 0) {v : List Int}, Row n v → Row n (rowF code v)
  | [], _, _, h => h
  | s :: c, hc, v, h => rowF_row (code := c) (fun x hx => hc x (by simp [hx])) (h.set _ (mkV_isK h (hc s (by simp))))
theorem rowF_mono : ∀ (code : List Step6) {v w : List Int}, rle v w → rle (rowF code v) (rowF code w)
  | [], _, _, h => h
  | s :: c, v, w, h => rowF_mono c (h.set (mkV_mono (n := 0) h s) _)

/-- where one may go -/
def goes (b : Blk) (v : List Int) : List Int := if b.2.1 < 0 ∧ b.2.2.1 < 0 then [] else if b.2.1 < 0 ∨ 0 < v.getD b.2.1.toNat 0 then [b.2.2.1] else if v.getD b.2.1.toNat 0 = 0 then [b.2.2.2.1] else [b.2.2.1, b.2.2.2.1]
theorem goes_mono {b : Blk} {v w : List Int} (h : rle v w) : ∀ j ∈ goes b v, j ∈ goes b w := by
  intro j hj
  have ht := h.2 b.2.1.toNat
  unfold goes at hj ⊢
  generalize v.getD b.2.1.toNat 0 = x at *
  generalize w.getD b.2.1.toNat 0 = y at *
  by_cases c1 : b.2.1 < 0 ∧ b.2.2.1 < 0
  · rw [if_pos c1] at hj; cases hj
  · rw [if_neg c1] at hj ⊢
    by_cases c2 : b.2.1 < 0
    · rw [if_pos (.inl c2)] at hj ⊢; exact hj
    · by_cases hy : y = -1
      · rw [if_neg (by omega), if_neg (by omega)]
        split at hj
        · simp only [List.mem_singleton] at hj; simp [hj]
        · split at hj
          · simp only [List.mem_singleton] at hj; simp [hj]
          · exact hj
      · have : x = y := by omega
        subst this
        exact hj
theorem goes_in {n m : Int} {b : Blk} (hb : blockCode n m b = 0) {v : List Int} : ∀ j ∈ goes b v, 0 ≤ j ∧ j < m := by
  intro j hj
  obtain ⟨_, b1, b2, b3, b4⟩ := blockCode_ok hb
  unfold goes at hj
  split at hj
  · cases hj
  · split at hj
    · simp only [List.mem_singleton] at hj; omega
    · split at hj
      · simp only [List.mem_singleton] at hj; omega
      · simp only [List.mem_cons, List.not_mem_nil, or_false] at hj; omega
theorem goes_len (b : Blk) (v : List Int) : (goes b v).length ≤ 2 := by
  unfold goes
  split
  · simp
  · split
    · simp
    · split <;> simp

/-- two rows in one -/
def joinR (r v : List Int) : List Int := match r with | [] => v | _ => List.zipWith (fun a b => if a = b then a else -1) r v
theorem joinR_nil (v : List Int) : joinR [] v = v := rfl
theorem joinR_ne {r v : List Int} (hr : r ≠ []) : joinR r v = List.zipWith (fun a b => if a = b then a else -1) r v := by
  cases r with
  | nil => exact absurd rfl hr
  | cons => rfl
theorem joinR_len {r v : List Int} (hr : r ≠ []) (hl : r.length = v.length) : (joinR r v).length = r.length := by
  rw [joinR_ne hr, List.length_zipWith]; omega
theorem joinR_get {r v : List Int} (hr : r ≠ []) (hl : r.length = v.length) {k : Nat} (hk : k < r.length) : (joinR r v).getD k 0 = if r.getD k 0 = v.getD k 0 then r.getD k 0 else -1 := by
  rw [joinR_ne hr]
  simp only [List.getD_eq_getElem?_getD, List.getElem?_zipWith, List.getElem?_eq_getElem hk, List.getElem?_eq_getElem (show k < v.length by omega)]
  rfl
theorem getD_out {r : List Int} {k : Nat} (hk : ¬ k < r.length) : r.getD k 0 = 0 := by
  rw [List.getD_eq_getElem?_getD, List.getElem?_eq_none (by omega)]; rfl
theorem joinR_row {n : Int} {r v : List Int} (h1 : r = [] ∨ Row n r) (h2 : Row n v) : Row n (joinR r v) := by
  rcases h1 with h1 | h1
  · rw [h1]; exact h2
  · by_cases hr : r = []
    · rw [hr]; exact h2
    · have hl : r.length = v.length := by have := h1.len; have := h2.len; omega
      refine ⟨by rw [joinR_len hr hl]; exact h1.len, fun x hx => ?_⟩
      obtain ⟨k, hk, rfl⟩ := List.mem_iff_getElem.1 hx
      have hk' : k < r.length := by rw [joinR_len hr hl] at hk; exact hk
      have := joinR_get hr hl hk'
      rw [show (joinR r v).getD k 0 = (joinR r v)[k] by simp [List.getD, hk]] at this
      rw [this]
      split
      · have := h1.ok _ (List.getElem_mem hk')
        rwa [show r.getD k 0 = r[k] by simp [List.getD, hk']]
      · exact ⟨by omega, by omega⟩
theorem joinR_left {r v : List Int} (hr : r ≠ []) (hl : r.length = v.length) : rle r (joinR r v) := by
  refine ⟨(joinR_len hr hl).symm, fun k => ?_⟩
  by_cases hk : k < r.length
  · rw [joinR_get hr hl hk]
    split
    · exact .inr rfl
    · exact .inl rfl
  · rw [getD_out hk, getD_out (by rw [joinR_len hr hl]; exact hk)]; exact .inr rfl
theorem joinR_right {r v : List Int} (hl : r = [] ∨ r.length = v.length) : rle v (joinR r v) := by
  by_cases hr : r = []
  · rw [hr]; exact rle.refl v
  · have hl := hl.resolve_left hr
    refine ⟨by rw [joinR_len hr hl, hl], fun k => ?_⟩
    by_cases hk : k < r.length
    · rw [joinR_get hr hl hk]
      split
      · rename_i h; exact .inr h.symm
      · exact .inl rfl
    · rw [getD_out (r := v) (by omega), getD_out (by rw [joinR_len hr hl]; exact hk)]; exact .inr rfl
theorem joinR_lub {r v z : List Int} (h1 : r = [] ∨ rle r z) (h2 : rle v z) : rle (joinR r v) z := by
  by_cases hr : r = []
  · rw [hr]; exact h2
  · have h1 := h1.resolve_left hr
    have hl : r.length = v.length := h1.1.trans h2.1.symm
    refine ⟨by rw [joinR_len hr hl]; exact h1.1, fun k => ?_⟩
    by_cases hk : k < r.length
    · rw [joinR_get hr hl hk]
      rcases h1.2 k with a | a
      · exact .inl a
      · rcases h2.2 k with b | b
        · exact .inl b
        · rw [if_pos (a.trans b.symm)]; exact .inr a
    · rw [getD_out (r := z) (by rw [← h1.1]; exact hk), getD_out (by rw [joinR_len hr hl]; exact hk)]; exact .inr rfl

/-! Tables -/
def row (X : List (List Int)) (i : Int) : List Int := X.getD i.toNat []
structure TabK (n : Int) (m : Nat) (X : List (List Int)) : Prop where
  len : X.length = m
  rows : ∀ r ∈ X, r = [] ∨ Row n r
theorem TabK.row {n : Int} {m : Nat} {X : List (List Int)} (h : TabK n m X) (i : Int) : row X i = [] ∨ Row n (row X i) := by
  unfold Go.Proofs.Ytokjogplnoeicaa.row
  by_cases hi : i.toNat < X.length
  · rw [List.getD_eq_getElem?_getD, List.getElem?_eq_getElem hi]
    exact h.rows _ (List.getElem_mem hi)
  · rw [List.getD_eq_getElem?_getD, List.getElem?_eq_none (by omega)]; exact .inl rfl
theorem row_set {X : List (List Int)} {j : Int} (h0 : 0 ≤ j) (h1 : j < X.length) (r : List Int) {i : Int} (i0 : 0 ≤ i) : row (X.set j.toNat r) i = if i = j then r else row X i := by
  unfold row
  rw [getD_upd (by omega)]
  by_cases h : i = j
  · subst h; rw [if_pos rfl, if_pos rfl]
  · rw [if_neg (by omega), if_neg h]
theorem TabK.set {n : Int} {m : Nat} {X : List (List Int)} (h : TabK n m X) (i : Nat) {r : List Int} (hr : Row n r) : TabK n m (X.set i r) := by
  refine ⟨by rw [List.length_set]; exact h.len, fun y hy => ?_⟩
  rcases List.mem_or_eq_of_mem_set hy with h1 | h1
  · exact h.rows y h1
  · rw [h1]; exact .inr hr

def Lek (X Y : List (List Int)) : Prop := ∀ i : Int, 0 ≤ i → row X i = [] ∨ (row Y i ≠ [] ∧ rle (row X i) (row Y i))
theorem Lek.refl (X : List (List Int)) : Lek X X := fun i _ => by
  by_cases h : row X i = []
  · exact .inl h
  · exact .inr ⟨h, rle.refl _⟩
theorem Lek.trans {X Y Z : List (List Int)} (h1 : Lek X Y) (h2 : Lek Y Z) : Lek X Z := fun i i0 => by
  rcases h1 i i0 with a | ⟨a, b⟩
  · exact .inl a
  · rcases h2 i i0 with c | ⟨c, d⟩
    · exact absurd c a
    · exact .inr ⟨c, b.trans d⟩

def rkr (r : List Int) : Nat := match r with | [] => 0 | _ => 1 + r.countP (fun x => x == -1)
def rank (X : List (List Int)) : Nat := X.foldr (fun r a => rkr r + a) 0
theorem count_le : ∀ {r s : List Int}, r.length = s.length → (∀ k : Nat, s.getD k 0 = -1 ∨ r.getD k 0 = s.getD k 0) → r.countP (fun x => x == -1) ≤ s.countP (fun x => x == -1) ∧ (r.countP (fun x => x == -1) = s.countP (fun x => x == -1) → r = s)
  | [], [], _, _ => ⟨Nat.le_refl _, fun _ => rfl⟩
  | [], _ :: _, h, _ => by simp at h
  | _ :: _, [], h, _ => by simp at h
  | a :: r, b :: s, h, hk => by
    obtain ⟨h1, h2⟩ := count_le (r := r) (s := s) (by simpa using h) (fun k => by simpa using hk (k + 1))
    have h0 : b = -1 ∨ a = b := by simpa using hk 0
    simp only [List.countP_cons, beq_iff_eq]
    by_cases hab : a = b
    · subst hab
      refine ⟨by omega, fun he => ?_⟩
      rw [h2 (by omega)]
    · have hb : b = -1 := h0.resolve_right hab
      subst hb
      rw [if_neg hab, if_pos rfl]
      exact ⟨by omega, fun he => by omega⟩
theorem rkr_le {r s : List Int} (h : r = [] ∨ (s ≠ [] ∧ rle r s)) : rkr r ≤ rkr s ∧ (rkr r = rkr s → r = s) := by
  by_cases hr : r = []
  · subst hr
    refine ⟨Nat.zero_le _, fun he => ?_⟩
    cases s with
    | nil => rfl
    | cons b s => simp only [rkr] at he; omega
  · obtain ⟨hs, h1, h2⟩ := h.resolve_left hr
    obtain ⟨c1, c2⟩ := count_le h1 h2
    cases r with
    | nil => exact absurd rfl hr
    | cons a r =>
      cases s with
      | nil => exact absurd rfl hs
      | cons b s =>
        simp only [rkr]
        exact ⟨by omega, fun he => c2 (by omega)⟩
theorem rank_le : ∀ {X Y : List (List Int)}, X.length = Y.length → Lek X Y → rank X ≤ rank Y ∧ (rank X = rank Y → X = Y)
  | [], [], _, _ => ⟨Nat.le_refl _, fun _ => rfl⟩
  | [], _ :: _, h, _ => by simp at h
  | _ :: _, [], h, _ => by simp at h
  | r :: X, s :: Y, h, hl => by
    obtain ⟨h1, h2⟩ := rank_le (X := X) (Y := Y) (by simpa using h) (fun i i0 => by
      have := hl (i + 1) (by omega)
      unfold row at this
      rw [show (i + 1).toNat = i.toNat + 1 by omega] at this
      simpa [row] using this)
    have h0 := rkr_le (r := r) (s := s) (by have := hl 0 (by omega); simpa [row] using this)
    simp only [rank, List.foldr_cons] at h1 h2 ⊢
    exact ⟨by omega, fun he => by rw [h0.2 (by omega), h2 (by omega)]⟩
theorem rank_top {n : Int} (hn : n ≤ 6) : ∀ {X : List (List Int)}, (∀ r ∈ X, r = [] ∨ Row n r) → rank X ≤ 7 * X.length
  | [], _ => Nat.le_refl _
  | r :: X, h => by
    have h1 := rank_top hn (X := X) fun x hx => h x (by simp [hx])
    have h0 : rkr r ≤ 7 := by
      rcases h r (by simp) with e | e
      · rw [e]; simp [rkr]
      · have := List.countP_le_length (p := fun x => x == -1) (l := r)
        have := e.len
        unfold rkr
        split
        · omega
        · omega
    simp only [rank, List.foldr_cons, List.length_cons] at h1 ⊢
    omega

def updK (X : List (List Int)) (j : Int) (v : List Int) : List (List Int) := X.set j.toNat (joinR (row X j) v)
section
variable {n : Int} {m : Nat} {X Z : List (List Int)} {j : Int} {v : List Int}
theorem updK_row (h0 : 0 ≤ j) (h1 : j < X.length) {i : Int} (i0 : 0 ≤ i) : row (updK X j v) i = if i = j then joinR (row X j) v else row X i := row_set h0 h1 _ i0
theorem updK_tab (h : TabK n m X) (hv : Row n v) : TabK n m (updK X j v) := h.set _ (joinR_row (h.row j) hv)
theorem len_or (h : TabK n m X) (hv : Row n v) (i : Int) : row X i = [] ∨ (row X i).length = v.length := by
  rcases h.row i with a | a
  · exact .inl a
  · right; have := a.len; have := hv.len; omega
theorem updK_le (h : TabK n m X) (hv : Row n v) (hn : 1 ≤ n) (h0 : 0 ≤ j) (h1 : j < X.length) : Lek X (updK X j v) := fun i i0 => by
  by_cases hr : row X i = []
  · exact .inl hr
  · right
    rw [updK_row h0 h1 i0]
    by_cases hij : i = j
    · subst hij
      rw [if_pos rfl]
      have hl := (len_or h hv i).resolve_left hr
      have := joinR_left hr hl
      refine ⟨fun e => ?_, this⟩
      have := this.1
      rw [e] at this
      cases hq : row X i with
      | nil => exact hr hq
      | cons => rw [hq] at this; simp at this
    · rw [if_neg hij]; exact ⟨hr, rle.refl _⟩
theorem updK_in (h : TabK n m X) (hv : Row n v) (hn : 1 ≤ n) (h0 : 0 ≤ j) (h1 : j < X.length) : row (updK X j v) j ≠ [] ∧ rle v (row (updK X j v) j) := by
  rw [updK_row h0 h1 h0, if_pos rfl]
  have := joinR_right (len_or h hv j)
  refine ⟨fun e => ?_, this⟩
  have h2 := this.1
  rw [e] at h2
  have := hv.len
  simp at h2
  rw [h2] at this; simp at this; omega
theorem updK_lub (h0 : 0 ≤ j) (h1 : j < X.length) (hX : Lek X Z) (hZ : row Z j ≠ [] ∧ rle v (row Z j)) : Lek (updK X j v) Z := fun i i0 => by
  rw [updK_row h0 h1 i0]
  by_cases hij : i = j
  · subst hij
    rw [if_pos rfl]
    right
    refine ⟨hZ.1, joinR_lub ?_ hZ.2⟩
    rcases hX i i0 with a | a
    · exact .inl a
    · exact .inr a.2
  · rw [if_neg hij]; exact hX i i0
end

/-- Z has all that comes out of X -/
def Takes (p : List Blk) (have' : List Int) (X Z : List (List Int)) : Prop := (row Z 0 ≠ [] ∧ rle have' (row Z 0)) ∧
  ∀ i : Int, 0 ≤ i → i < p.length → row X i ≠ [] → ∀ j ∈ goes (p.getD i.toNat ([], 0, 0, 0, ())) (rowF (p.getD i.toNat ([], 0, 0, 0, ())).1 (row X i)), row Z j ≠ [] ∧ rle (rowF (p.getD i.toNat ([], 0, 0, 0, ())).1 (row X i)) (row Z j)
theorem Takes.mono {p : List Blk} {have' : List Int} {X Y Z : List (List Int)} (h : Takes p have' Y Z) (hXY : Lek X Y) : Takes p have' X Z := by
  refine ⟨h.1, fun i i0 i1 hne j hj => ?_⟩
  obtain ⟨a, b⟩ := (hXY i i0).resolve_left hne
  have hm := rowF_mono (p.getD i.toNat ([], 0, 0, 0, ())).1 b
  obtain ⟨c, d⟩ := h.2 i i0 i1 a j (goes_mono hm j hj)
  exact ⟨c, hm.trans d⟩
end Go.Proofs.Ytokjogplnoeicaa
