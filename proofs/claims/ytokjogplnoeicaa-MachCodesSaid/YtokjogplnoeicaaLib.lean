/- Small laws: words as sets of bits, lists, sums in range. -/
import Derived.Test.YtokjogplnoeicaaAbCore
import Derived.IntWalk
namespace Go.Ab

theorem wrap_step {t : Int} {n : Nat} (h0 : 0 ≤ t) (h1 : t < n) (hn : n ≤ maxLen) : IntKind.i64.wrap (t + 1) = t + 1 :=
 Go.IntWalk.i64_in _ (by simp [maxLen] at *; omega)

theorem inb_ok {t : Int} {n : Nat} (h0 : 0 ≤ t) (h1 : t < n) : inb t n = true := by
 simp [inb]; omega

theorem bne_t {a b : Int} (h : ¬ a = b) : (a != b) = true := by simpa using h
theorem beq_f {a b : Int} (h : ¬ a = b) : (a == b) = false := by simpa using h

/-- a word -/
def W32 (w : Int) : Prop := 0 ≤ w ∧ w < 4294967296
/-- is a bit set? -/
def bt (w : Int) (i : Nat) : Bool := w.toNat.testBit i

theorem W32.lt {w : Int} (h : W32 w) : w.toNat < 2 ^ 32 := by unfold W32 at h; omega
theorem W32.bt {w : Int} (h : W32 w) {i : Nat} (hi : 32 ≤ i) : bt w i = false :=
 Nat.testBit_lt_two_pow (Nat.lt_of_lt_of_le h.lt (Nat.pow_le_pow_right (by decide) hi))
theorem W32.wrap {w : Int} (h : W32 w) : IntKind.u32.wrap w = w := Go.IntWalk.u32_in _ ⟨h.1, by have := h.2; omega⟩
theorem W32.of_nat {n : Nat} (h : n < 2 ^ 32) : W32 (n : Int) := ⟨by omega, by omega⟩
theorem W32_zero : W32 0 := ⟨by decide, by decide⟩
theorem W32_one : W32 1 := ⟨by decide, by decide⟩
theorem bt_zero (i : Nat) : bt 0 i = false := by simp [bt]
theorem bt_ext {x y : Int} (hx : W32 x) (hy : W32 y) (h : ∀ i, i < 32 → bt x i = bt y i) : x = y := by
 have : x.toNat = y.toNat := Nat.eq_of_testBit_eq fun i => by
  by_cases hi : i < 32
  ·exact h i hi
  ·exact (hx.bt (by omega)).trans (hy.bt (by omega)).symm
 have h1 := hx.1; have h2 := hy.1; omega

theorem ofInt_nat {x : Int} (h : W32 x) : (BitVec.ofInt 32 x).toNat = x.toNat := by
 rw [BitVec.toNat_ofInt]
 have h0 := h.1
 have h1 := h.2
 have h2 : ((2 ^ 32 : Nat) : Int) = 4294967296 := by decide
 rw [Int.emod_eq_of_lt h.1 (by rw [h2]; exact h1)]

theorem bv_w32 (v : BitVec 32) : W32 (v.toNat : Int) := W32.of_nat v.isLt
theorem bv_bt (v : BitVec 32) (i : Nat) : bt (v.toNat : Int) i = v.getLsbD i := by simp [bt, BitVec.testBit_toNat]
theorem ofInt_bt {x : Int} (h : W32 x) (i : Nat) : (BitVec.ofInt 32 x).getLsbD i = bt x i := by
 rw [← BitVec.testBit_toNat, ofInt_nat h]; rfl

def and32 (x y : Int) : Int := IntKind.u32.wrap ((BitVec.ofInt IntKind.u32.bits x &&& BitVec.ofInt IntKind.u32.bits y).toNat : Int)
def or32 (x y : Int) : Int := IntKind.u32.wrap ((BitVec.ofInt IntKind.u32.bits x ||| BitVec.ofInt IntKind.u32.bits y).toNat : Int)
def not32 (x y : Int) : Int := IntKind.u32.wrap ((BitVec.ofInt IntKind.u32.bits x &&& ~~~ BitVec.ofInt IntKind.u32.bits y).toNat : Int)

theorem and32_eq (x y : Int) : and32 x y = ((BitVec.ofInt 32 x &&& BitVec.ofInt 32 y : BitVec 32).toNat : Int) := W32.wrap (bv_w32 _)
theorem or32_eq (x y : Int) : or32 x y = ((BitVec.ofInt 32 x ||| BitVec.ofInt 32 y : BitVec 32).toNat : Int) := W32.wrap (bv_w32 _)
theorem not32_eq (x y : Int) : not32 x y = ((BitVec.ofInt 32 x &&& ~~~ BitVec.ofInt 32 y : BitVec 32).toNat : Int) := W32.wrap (bv_w32 _)
theorem and32_w (x y : Int) : W32 (and32 x y) := by rw [and32_eq]; exact bv_w32 _
theorem or32_w (x y : Int) : W32 (or32 x y) := by rw [or32_eq]; exact bv_w32 _
theorem not32_w (x y : Int) : W32 (not32 x y) := by rw [not32_eq]; exact bv_w32 _
theorem and32_bt {x y : Int} (hx : W32 x) (hy : W32 y) (i : Nat) : bt (and32 x y) i = (bt x i && bt y i) := by
 rw [and32_eq, bv_bt, BitVec.getLsbD_and]
 rw [ofInt_bt hx, ofInt_bt hy]
theorem or32_bt {x y : Int} (hx : W32 x) (hy : W32 y) (i : Nat) : bt (or32 x y) i = (bt x i || bt y i) := by
 rw [or32_eq, bv_bt, BitVec.getLsbD_or]
 rw [ofInt_bt hx, ofInt_bt hy]
theorem not32_bt {x y : Int} (hx : W32 x) (hy : W32 y) (i : Nat) : bt (not32 x y) i = (bt x i && !bt y i) := by
 rw [not32_eq, bv_bt, BitVec.getLsbD_and]
 rw [BitVec.getLsbD_not, ofInt_bt hx, ofInt_bt hy]
 by_cases hi : i < 32
 ·simp [hi]
 ·simp [hx.bt (show 32 ≤ i by omega)]

/-- the word of one bit -/
theorem shl_one {i : Int} (h0 : 0 ≤ i) (h1 : i < 32) : shlI .u32 1 i = ((2 ^ i.toNat : Nat) : Int) := by
 unfold shlI
 have h : i.toNat < 32 := by omega
 have e : min i.toNat IntKind.u32.bits = i.toNat := Nat.min_eq_left (by show i.toNat ≤ 32; omega)
 rw [e, Int.one_mul]
 have h2 : 2 ^ i.toNat < 2 ^ 32 := Nat.pow_lt_pow_right (by decide) h
 have h3 : ((2 : Int) ^ i.toNat) = ((2 ^ i.toNat : Nat) : Int) := by simp
 rw [h3, (W32.of_nat h2).wrap]
theorem one_w {i : Int} (h0 : 0 ≤ i) (h1 : i < 32) : W32 (shlI .u32 1 i) := by
 rw [shl_one h0 h1]; exact W32.of_nat (Nat.pow_lt_pow_right (by decide) (by omega))
theorem one_bt {i : Int} (h0 : 0 ≤ i) (h1 : i < 32) (j : Nat) : bt (shlI .u32 1 i) j = decide (j = i.toNat) := by
 rw [shl_one h0 h1]
 unfold bt
 rw [Int.toNat_natCast, Nat.testBit_two_pow]
 by_cases h : j = i.toNat <;> simp [h, eq_comm]

theorem shr_nat {w i : Int} (hw : W32 w) (h0 : 0 ≤ i) (h1 : i < 32) : shrI .u32 w i = ((w.toNat >>> i.toNat : Nat) : Int) := by
 unfold shrI
 have e : min i.toNat IntKind.u32.bits = i.toNat := Nat.min_eq_left (by show i.toNat ≤ 32; omega)
 rw [e, Nat.shiftRight_eq_div_pow]
 have hw0 := hw.1
 have e1 : w = ((w.toNat : Nat) : Int) := by omega
 have e2 : ((2 : Int) ^ i.toNat) = ((2 ^ i.toNat : Nat) : Int) := by simp
 conv => lhs; rw [e1, e2]
 rw [Int.fdiv_eq_ediv_of_nonneg _ (Int.natCast_nonneg _)]
 rfl
theorem shr_w {w i : Int} (hw : W32 w) (h0 : 0 ≤ i) (h1 : i < 32) : W32 (shrI .u32 w i) := by
 rw [shr_nat hw h0 h1]
 exact W32.of_nat (Nat.lt_of_le_of_lt (by rw [Nat.shiftRight_eq_div_pow]; exact Nat.div_le_self _ _) hw.lt)
theorem shr_bt {w i : Int} (hw : W32 w) (h0 : 0 ≤ i) (h1 : i < 32) (j : Nat) : bt (shrI .u32 w i) j = bt w (i.toNat + j) := by
 rw [shr_nat hw h0 h1]
 unfold bt
 rw [Int.toNat_natCast, Nat.testBit_shiftRight]

theorem bt_one (i : Nat) : bt 1 i = decide (i = 0) := by
 cases i with
 | zero => rfl
 | succ i => simp [bt, Nat.testBit_succ]

/-- w >> i & 1 -/
theorem shr_and {w i : Int} (hw : W32 w) (h0 : 0 ≤ i) (h1 : i < 32) : and32 (shrI .u32 w i) 1 = if bt w i.toNat then 1 else 0 := by
 have h2 := shr_w hw h0 h1
 refine bt_ext (and32_w _ _) (by split; exact W32_one; exact W32_zero) fun j _ => ?_
 rw [and32_bt h2 W32_one, shr_bt hw h0 h1, bt_one]
 by_cases hj : j = 0
 ·subst hj
  by_cases hb : bt w i.toNat = true <;> simp [hb, bt_one, bt_zero]
 ·by_cases hb : bt w i.toNat = true <;> simp [hb, hj, bt_one, bt_zero]
theorem shr_and_beq0 {w i : Int} (hw : W32 w) (h0 : 0 ≤ i) (h1 : i < 32) : (and32 (shrI .u32 w i) 1 == 0) = !bt w i.toNat := by
 rw [shr_and hw h0 h1]; cases bt w i.toNat <;> rfl
theorem shr_and_beq1 {w i : Int} (hw : W32 w) (h0 : 0 ≤ i) (h1 : i < 32) : (and32 (shrI .u32 w i) 1 == 1) = bt w i.toNat := by
 rw [shr_and hw h0 h1]; cases bt w i.toNat <;> rfl
/-- w & 1 << i -/
theorem and_one {w i : Int} (hw : W32 w) (h0 : 0 ≤ i) (h1 : i < 32) : (and32 w (shlI .u32 1 i) != 0) = bt w i.toNat := by
 cases hb : bt w i.toNat with
 | true =>
  rw [bne_iff_ne]
  intro he
  have := and32_bt hw (one_w h0 h1) i.toNat
  rw [he, bt_zero, hb, one_bt h0 h1] at this
  simp at this
 | false =>
  have : and32 w (shlI .u32 1 i) = 0 := bt_ext (and32_w _ _) W32_zero fun j _ => by
   rw [and32_bt hw (one_w h0 h1), one_bt h0 h1, bt_zero]
   by_cases hj : j = i.toNat
   ·subst hj; simp [hb]
   ·simp [hj]
  rw [this]; rfl

theorem getD_nat {α : Type} (l : List α) (t : Int) (d : α) (h0 : 0 ≤ t) (h1 : t < l.length) : l.getD t.toNat d = l[t.toNat]'(by omega) := by
 simp [List.getD, show t.toNat < l.length by omega]
theorem getD_mem {α : Type} {l : List α} {t : Int} {d : α} (h0 : 0 ≤ t) (h1 : t < l.length) : l.getD t.toNat d ∈ l := by
 rw [getD_nat l t d h0 h1]; exact List.getElem_mem _
theorem drop_step {α : Type} (l : List α) (t : Int) (d : α) (h0 : 0 ≤ t) (h1 : t < l.length) : l.drop t.toNat = l.getD t.toNat d :: l.drop (t + 1).toNat := by
 rw [getD_nat l t d h0 h1, List.drop_eq_getElem_cons (by omega)]
 congr 1
 congr 1; omega

/-- a loop over a list -/
def goL {α σ ρ : Type} (step : α → Int → σ → (σ → Option ρ) → Option ρ) (fin : σ → Option ρ) : List α → Int → σ → Option ρ
 | [], _, s => fin s
 | x :: r, t, s => step x t s fun s' => goL step fin r (t + 1) s'

theorem loop_goL {α σ ρ : Type} {step : α → Int → σ → (σ → Option ρ) → Option ρ} {fin : σ → Option ρ} {l : List α} {d : α} {F : Nat → Int → σ → Option ρ}
  (h0 : ∀ (fu : Nat) (t : Int) (s : σ), 0 ≤ t → t < l.length → F (fu + 1) t s = step (l.getD t.toNat d) t s (F fu (t + 1)))
  (h1 : ∀ (fu : Nat) (t : Int) (s : σ), t = l.length → F (fu + 1) t s = fin s) :
  ∀ (fu : Nat) (t : Int) (s : σ), 0 ≤ t → t ≤ l.length → l.length < t + fu → F fu t s = goL step fin (l.drop t.toNat) t s
 | 0, t, s, a, b, c => by omega
 | fu + 1, t, s, a, b, c => by
  by_cases ht : t < l.length
  ·rw [h0 fu t s a ht, drop_step l t d a ht]
   simp only [goL]
   congr 1
   funext s'
   exact loop_goL h0 h1 fu (t + 1) s' (by omega) (by omega) (by omega)
  ·have : t = l.length := by omega
   rw [h1 fu t s this, List.drop_eq_nil_of_le (by omega)]
   rfl

theorem loop_all {α σ ρ : Type} {step : α → Int → σ → (σ → Option ρ) → Option ρ} {fin : σ → Option ρ} {l : List α} {d : α} {F : Nat → Int → σ → Option ρ}
  (h0 : ∀ (fu : Nat) (t : Int) (s : σ), 0 ≤ t → t < l.length → F (fu + 1) t s = step (l.getD t.toNat d) t s (F fu (t + 1)))
  (h1 : ∀ (fu : Nat) (t : Int) (s : σ), t = l.length → F (fu + 1) t s = fin s) (fu : Nat) (s : σ) (h : l.length < fu) : F fu 0 s = goL step fin l 0 s := by
 have := loop_goL h0 h1 fu 0 s (Int.le_refl _) (by omega) (by omega)
 simpa using this

/-- rounds that go on always -/
theorem goL_fold {α σ ρ : Type} {step : α → Int → σ → (σ → Option ρ) → Option ρ} {fin : σ → Option ρ} {f : σ → α → σ} (I : σ → Prop) : ∀ (l : List α) (t : Int) (s : σ), I s →
  (∀ x ∈ l, ∀ t s k, I s → step x t s k = k (f s x) ∧ I (f s x)) → goL step fin l t s = fin (l.foldl f s)
 | [], _, _, _, _ => rfl
 | x :: r, t, s, hI, h => by
  obtain ⟨h1, h2⟩ := h x (by simp) t s _ hI
  simp only [goL, List.foldl_cons]
  rw [h1]
  exact goL_fold I r (t + 1) _ h2 fun y hy => h y (by simp [hy])

/-- rounds that go on always, told of in other words -/
theorem goL_sim {α σ τ ρ : Type} {step : α → Int → σ → (σ → Option ρ) → Option ρ} {fin : σ → Option ρ} {f : τ → α → τ} (I : σ → τ → Prop) : ∀ (l : List α) (t : Int) (s : σ) (u : τ), I s u →
  (∀ x ∈ l, ∀ t s u, I s u → ∃ s', (∀ k, step x t s k = k s') ∧ I s' (f u x)) → ∃ s', I s' (l.foldl f u) ∧ goL step fin l t s = fin s'
 | [], _, s, _, hI, _ => ⟨s, hI, rfl⟩
 | x :: r, t, s, u, hI, h => by
  obtain ⟨s', h1, h2⟩ := h x (by simp) t s u hI
  simp only [goL, List.foldl_cons]
  rw [h1]
  exact goL_sim I r (t + 1) s' _ h2 fun y hy => h y (by simp [hy])

theorem foldl_inv {α σ : Type} {f : σ → α → σ} (I : σ → Prop) : ∀ (l : List α) (s : σ), I s → (∀ x ∈ l, ∀ s, I s → I (f s x)) → I (l.foldl f s)
 | [], _, h, _ => h
 | x :: r, s, h, hs => foldl_inv I r _ (hs x (by simp) s h) fun y hy => hs y (by simp [hy])

/-- a loop that goes on always, by what is so at each of its rounds -/
theorem loop_inv {σ ρ : Type} {n : Int} {F : Nat → Int → σ → Option ρ} (I : Int → σ → Prop)
  (h : ∀ (fu : Nat) (t : Int) (s : σ), 0 ≤ t → t < n → I t s → ∃ s', F (fu + 1) t s = F fu (t + 1) s' ∧ I (t + 1) s') :
  ∀ (fu : Nat) (t : Int) (s : σ), 0 ≤ t → t ≤ n → n < t + fu → I t s → ∃ (fu' : Nat) (s' : σ), I n s' ∧ F fu t s = F (fu' + 1) n s'
 | 0, t, s, a, b, c, _ => by omega
 | fu + 1, t, s, a, b, c, hI => by
  by_cases ht : t < n
  ·obtain ⟨s', h1, h2⟩ := h fu t s a ht hI
   rw [h1]
   exact loop_inv I h fu (t + 1) s' (by omega) (by omega) (by omega) h2
  ·have : t = n := by omega
   subst this
   exact ⟨fu, s, hI, rfl⟩

theorem shl_zero {i : Int} : shlI .u32 0 i = 0 := by
 unfold shlI; rw [Int.zero_mul]; exact W32_zero.wrap

/-- a word of few bits -/
theorem W32.small {w : Int} (h : W32 w) {n : Nat} (hb : ∀ k, n ≤ k → Go.Ab.bt w k = false) : w < ((2 ^ n : Nat) : Int) := by
 have : w.toNat < 2 ^ n := Nat.lt_pow_two_of_testBit _ fun k hk => hb k hk
 have := h.1
 omega
theorem bt_small {w : Int} (h : W32 w) {n : Nat} (hb : w < ((2 ^ n : Nat) : Int)) {k : Nat} (hk : n ≤ k) : bt w k = false :=
 Nat.testBit_lt_two_pow (Nat.lt_of_lt_of_le (by have := h.1; omega) (Nat.pow_le_pow_right (by decide) hk))

theorem wrap_u64 {x : Int} (h0 : 0 ≤ x) (h1 : x < 32) : IntKind.u64.wrap x = x := by
 have : ∀ n : Fin 32, IntKind.u64.wrap ((n.val : Nat) : Int) = ((n.val : Nat) : Int) := by decide
 have := this ⟨x.toNat, by omega⟩
 rwa [show ((x.toNat : Nat) : Int) = x by omega] at this

/-- a new bit by adding -/
theorem add_bit {w : Int} (hw : W32 w) {t : Int} (h0 : 0 ≤ t) (h1 : t < 32) (hb : ∀ k : Nat, t ≤ k → bt w k = false) : IntKind.u32.wrap (w + shlI .u32 1 t) = or32 w (shlI .u32 1 t) := by
 have h2 : w < ((2 ^ t.toNat : Nat) : Int) := hw.small fun k hk => hb k (by omega)
 rw [shl_one h0 h1]
 have h3 : (2 : Nat) ^ t.toNat * 2 ≤ 2 ^ 32 := by rw [← Nat.pow_succ]; exact Nat.pow_le_pow_right (by decide) (by omega)
 have h5 := hw.1
 have hs : W32 (w + ((2 ^ t.toNat : Nat) : Int)) := ⟨by omega, by omega⟩
 rw [hs.wrap]
 have hp : W32 ((2 ^ t.toNat : Nat) : Int) := ⟨by omega, by omega⟩
 refine bt_ext hs (or32_w _ _) fun i _ => ?_
 rw [or32_bt hw hp]
 show (w + ((2 ^ t.toNat : Nat) : Int)).toNat.testBit i = (w.toNat.testBit i || ((2 ^ t.toNat : Nat) : Int).toNat.testBit i)
 rw [show (w + ((2 ^ t.toNat : Nat) : Int)).toNat = 2 ^ t.toNat + w.toNat by omega, Int.toNat_natCast, Nat.testBit_two_pow]
 by_cases hi : i = t.toNat
 ·subst hi
  rw [Nat.testBit_two_pow_add_eq]
  have : w.toNat.testBit t.toNat = false := hb t.toNat (by omega)
  simp [this]
 ·rw [decide_eq_false (show ¬ t.toNat = i by omega), Bool.or_false]
  by_cases hlt : i < t.toNat
  ·rw [Nat.testBit_two_pow_add_gt hlt]
  ·have e1 : w.toNat.testBit i = false := hb i (by omega)
   rw [e1]
   exact Nat.testBit_lt_two_pow (Nat.lt_of_lt_of_le (show 2 ^ t.toNat + w.toNat < 2 ^ (t.toNat + 1) by rw [Nat.pow_succ]; omega) (Nat.pow_le_pow_right (by decide) (by omega)))

theorem take_fold {α σ : Type} (f : σ → α → σ) (s : σ) {l : List α} {t : Int} {d : α} (h0 : 0 ≤ t) (h1 : t < l.length) : (l.take (t + 1).toNat).foldl f s = f ((l.take t.toNat).foldl f s) (l.getD t.toNat d) := by
 rw [show (t + 1).toNat = t.toNat + 1 by omega, List.take_succ_eq_append_getElem (by omega), List.foldl_append, getD_nat l t d h0 h1]
 rfl
theorem getD_upd {α : Type} {l : List α} {i : Nat} {x d : α} (hi : i < l.length) (j : Nat) : (l.set i x).getD j d = if j = i then x else l.getD j d := by
 simp only [List.getD_eq_getElem?_getD]
 by_cases h : j = i
 ·subst h; rw [List.getElem?_set_self hi, if_pos rfl]; rfl
 ·rw [List.getElem?_set_ne (by omega), if_neg h]

/-- how many there are -/
def cnt (p : Nat → Bool) : Nat → Nat
 | 0 => 0
 | n + 1 => cnt p n + (if p n then 1 else 0)
theorem cnt_n (p : Nat → Bool) : ∀ n, cnt p n ≤ n
 | 0 => Nat.le_refl _
 | n + 1 => by have := cnt_n p n; simp only [cnt]; split <;> omega
theorem cnt_le {p q : Nat → Bool} : ∀ {n}, (∀ k, k < n → p k = true → q k = true) → cnt p n ≤ cnt q n
 | 0, _ => Nat.le_refl _
 | n + 1, h => by
  have := cnt_le (n := n) fun k hk => h k (by omega)
  have := h n (by omega)
  simp only [cnt]
  cases hp : p n <;> cases hq : q n <;> simp_all <;> omega
theorem cnt_lt {p q : Nat → Bool} : ∀ {n}, (∀ k, k < n → p k = true → q k = true) → (∃ k, k < n ∧ p k = false ∧ q k = true) → cnt p n < cnt q n
 | 0, _, ⟨k, hk, _⟩ => by omega
 | n + 1, h, ⟨k, hk, h1, h2⟩ => by
  have e1 := cnt_le (n := n) fun k hk => h k (by omega)
  have e2 := h n (by omega)
  simp only [cnt]
  by_cases hkn : k = n
  ·subst hkn; rw [h1, h2]; simp; omega
  ·have := cnt_lt (n := n) (fun k hk => h k (by omega)) ⟨k, by omega, h1, h2⟩
   cases hp : p n <;> cases hq : q n <;> simp_all <;> omega
theorem cnt_congr {p q : Nat → Bool} {n : Nat} (h : ∀ k, k < n → p k = q k) : cnt p n = cnt q n :=
 Nat.le_antisymm (cnt_le fun k hk hp => by rw [← h k hk]; exact hp) (cnt_le fun k hk hp => by rw [h k hk]; exact hp)

/-- is it so from t on, k times? -/
def chk (p : Int → Bool) : Nat → Int → Bool
 | 0, _ => true
 | k + 1, t => p t && chk p k (t + 1)
theorem chk_iff {p : Int → Bool} : ∀ {k : Nat} {t : Int}, chk p k t = true ↔ ∀ i, t ≤ i → i < t + k → p i = true
 | 0, t => by simp only [chk, true_iff]; intro i a b; omega
 | k + 1, t => by
  simp only [chk, Bool.and_eq_true, chk_iff (k := k) (t := t + 1)]
  constructor
  ·rintro ⟨h1, h2⟩ i a b
   by_cases hi : i = t
   ·subst hi; exact h1
   ·exact h2 i (by omega) (by omega)
  ·intro h
   exact ⟨h t (Int.le_refl _) (by omega), fun i a b => h i (by omega) (by omega)⟩
theorem chk_congr {p q : Int → Bool} {k : Nat} {t : Int} (h : ∀ i, t ≤ i → i < t + k → p i = q i) : chk p k t = chk q k t := by
 rw [Bool.eq_iff_iff, chk_iff, chk_iff]
 exact ⟨fun g i a b => by rw [← h i a b]; exact g i a b, fun g i a b => by rw [h i a b]; exact g i a b⟩
/-- a loop that ends early where something is not so -/
theorem loop_chk {ρ : Type} {n : Int} {F : Nat → Int → Option ρ} {yes no : Option ρ} (p : Int → Bool)
  (h : ∀ (fu : Nat) (t : Int), 0 ≤ t → t < n → F (fu + 1) t = bif p t then F fu (t + 1) else no) (h' : ∀ fu : Nat, F (fu + 1) n = yes) :
  ∀ (fu : Nat) (t : Int), 0 ≤ t → t ≤ n → n < t + fu → F fu t = bif chk p (n - t).toNat t then yes else no
 | 0, t, a, b, c => by omega
 | fu + 1, t, a, b, c => by
  by_cases ht : t < n
  ·rw [h fu t a ht, loop_chk p h h' fu (t + 1) (by omega) (by omega) (by omega), show (n - t).toNat = (n - (t + 1)).toNat + 1 by omega, chk]
   cases p t <;> rfl
  ·have : t = n := by omega
   subst this
   rw [h', show (t - t).toNat = 0 by omega]; rfl

/-- a loop with a state that ends early where something is bad -/
theorem loop_exit {σ ρ : Type} {n : Int} {F : Nat → Int → σ → Option ρ} {no : Option ρ} (good : Int → Bool) (I : Int → σ → Prop)
  (h : ∀ (fu : Nat) (t : Int) (s : σ), 0 ≤ t → t < n → I t s → good t = true → ∃ s', F (fu + 1) t s = F fu (t + 1) s' ∧ I (t + 1) s')
  (hb : ∀ (fu : Nat) (t : Int) (s : σ), 0 ≤ t → t < n → I t s → good t = false → F (fu + 1) t s = no) :
  ∀ (fu : Nat) (t : Int) (s : σ), 0 ≤ t → t ≤ n → n < t + fu → I t s → (chk good (n - t).toNat t = true → ∃ (fu' : Nat) (s' : σ), I n s' ∧ F fu t s = F (fu' + 1) n s') ∧ (chk good (n - t).toNat t = false → F fu t s = no)
 | 0, t, s, a, b, c, _ => by omega
 | fu + 1, t, s, a, b, c, hI => by
  by_cases ht : t < n
  ·have e : (n - t).toNat = (n - (t + 1)).toNat + 1 := by omega
   cases hg : good t with
   | true =>
    obtain ⟨s', h1, h2⟩ := h fu t s a ht hI hg
    rw [h1, e, chk, hg, Bool.true_and]
    exact loop_exit good I h hb fu (t + 1) s' (by omega) (by omega) (by omega) h2
   | false =>
    rw [e, chk, hg, Bool.false_and]
    exact ⟨fun h => (by cases h), fun _ => hb fu t s a ht hI hg⟩
  ·have : t = n := by omega
   subst this
   rw [show (t - t).toNat = 0 by omega]
   exact ⟨fun _ => ⟨fu, s, hI, rfl⟩, fun h => by (cases h)⟩
theorem cnt_cut {p : Nat → Bool} {n : Nat} (h : ∀ k, n ≤ k → p k = false) : ∀ d, cnt p (n + d) = cnt p n
 | 0 => rfl
 | d + 1 => by
  have : cnt p (n + d + 1) = cnt p (n + d) + (if p (n + d) = true then 1 else 0) := rfl
  rw [← Nat.add_assoc, this, h (n + d) (by omega), cnt_cut h d]; simp

/-- the first one from t on, among k -/
def findFrom (good : Int → Bool) : Nat → Int → Option Int
 | 0, _ => none
 | k + 1, t => bif good t then some t else findFrom good k (t + 1)
theorem findFrom_some {good : Int → Bool} : ∀ {k : Nat} {t i : Int}, findFrom good k t = some i → t ≤ i ∧ i < t + k ∧ good i = true
 | 0, _, _, h => by cases h
 | k + 1, t, i, h => by
  simp only [findFrom] at h
  cases hg : good t with
  | true => rw [hg, cond_true] at h; cases h; exact ⟨Int.le_refl _, by omega, hg⟩
  | false => rw [hg, cond_false] at h; have := findFrom_some h; exact ⟨by omega, by omega, this.2.2⟩
theorem findFrom_none {good : Int → Bool} : ∀ {k : Nat} {t : Int}, findFrom good k t = none → ∀ i, t ≤ i → i < t + k → good i = false
 | 0, _, _, i, a, b => by omega
 | k + 1, t, h, i, a, b => by
  simp only [findFrom] at h
  cases hg : good t with
  | true => rw [hg, cond_true] at h; cases h
  | false =>
   rw [hg, cond_false] at h
   by_cases hit : i = t
   ·subst hit; exact hg
   ·exact findFrom_none h i (by omega) (by omega)
theorem loop_first {ρ : Type} {n : Int} {F : Nat → Int → Option ρ} {hit : Int → Option ρ} {miss : Option ρ} (good : Int → Bool)
  (h : ∀ (fu : Nat) (t : Int), 0 ≤ t → t < n → F (fu + 1) t = bif good t then hit t else F fu (t + 1)) (h' : ∀ fu : Nat, F (fu + 1) n = miss) :
  ∀ (fu : Nat) (t : Int), 0 ≤ t → t ≤ n → n < t + fu → F fu t = match findFrom good (n - t).toNat t with | some i => hit i | none => miss
 | 0, t, a, b, c => by omega
 | fu + 1, t, a, b, c => by
  by_cases ht : t < n
  ·rw [h fu t a ht, loop_first good h h' fu (t + 1) (by omega) (by omega) (by omega), show (n - t).toNat = (n - (t + 1)).toNat + 1 by omega, findFrom]
   cases good t <;> rfl
  ·have : t = n := by omega
   subst this
   rw [h', show (t - t).toNat = 0 by omega]; rfl
theorem nodup_fit : ∀ (n : Nat) (l : List Int), l.Nodup → (∀ x ∈ l, 0 ≤ x ∧ x < n) → l.length ≤ n
 | 0, [], _, _ => Nat.le_refl _
 | 0, x :: l, _, h => by have := h x (by simp); omega
 | n + 1, l, hn, h => by
  by_cases hm : (n : Int) ∈ l
  ·have h1 := nodup_fit n (l.erase n) (hn.erase _) fun x hx => by
    have h2 := h x (List.mem_of_mem_erase hx)
    have h3 : x ≠ n := fun he => by subst he; exact (List.Nodup.not_mem_erase hn) hx
    omega
   rw [List.length_erase_of_mem hm] at h1
   omega
  ·have := nodup_fit n l hn fun x hx => by
    have h2 := h x hx
    have h3 : x ≠ n := fun he => by subst he; exact hm hx
    omega
   omega

theorem ble_ok {n : Nat} (h : n ≤ 1000000) : Nat.ble n lim = true := by
 rw [Nat.ble_eq]; exact Nat.le_trans h (by decide)
end Go.Ab
