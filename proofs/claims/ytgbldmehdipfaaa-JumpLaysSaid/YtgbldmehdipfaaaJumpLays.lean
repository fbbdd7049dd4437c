/- jump.Lay makes as few jumps long as can be. -/
import Derived.Test.YtgbldmehdipfaaaFn5
import Derived.Test.YtgbldmehdipfaaaLib
import Derived.Test.YtgbldmehdipfaaaAbLaw
namespace Go.Proofs.Ytgbldmehdipfaaa
open Go Go.Ab S
variable {nf : Nat}

abbrev Pc := Int × Bool × Int × Unit
def pcAt (l : List Pc) (i : Nat) : Pc := l.getD i (0, false, 0, ())
/-- the size of piece i where the jumps of L are long -/
def szJ (l : List Pc) (L : Nat → Bool) (i : Nat) : Int := if (pcAt l i).2.1 = true then (if L i = true then 4 else 2) else (pcAt l i).1
def posJ (l : List Pc) (L : Nat → Bool) : Nat → Int
  | 0 => 0
  | k + 1 => posJ l L k + szJ l L k
def distJ (l : List Pc) (L : Nat → Bool) (i : Nat) : Int := posJ l L (pcAt l i).2.2.1.toNat - posJ l L (i + 1)
def farJ (l : List Pc) (L : Nat → Bool) (i : Nat) : Bool := decide (distJ l L i > 50) || decide (distJ l L i < -50)

theorem far_iff {l : List Pc} {L : Nat → Bool} {i : Nat} : farJ l L i = true ↔ distJ l L i > 50 ∨ distJ l L i < -50 := by unfold farJ; simp

structure PcOK (l : List Pc) : Prop where
  few : l.length ≤ 10
  to : ∀ i, i < l.length → (pcAt l i).2.1 = true → 0 ≤ (pcAt l i).2.2.1 ∧ (pcAt l i).2.2.1 ≤ l.length
  size : ∀ i, i < l.length → (pcAt l i).2.1 = false → 0 ≤ (pcAt l i).1 ∧ (pcAt l i).1 ≤ 200

theorem szJ_in {l : List Pc} (h : PcOK l) (L : Nat → Bool) {i : Nat} (hi : i < l.length) : 0 ≤ szJ l L i ∧ szJ l L i ≤ 200 := by
  unfold szJ
  cases hj : (pcAt l i).2.1 with
  | true => simp only [if_true]; split <;> omega
  | false => simpa using h.size i hi hj
theorem posJ_in {l : List Pc} (h : PcOK l) (L : Nat → Bool) : ∀ k, k ≤ l.length → 0 ≤ posJ l L k ∧ posJ l L k ≤ 200 * k
  | 0, _ => ⟨Int.le_refl _, Int.le_refl _⟩
  | k + 1, hk => by
    have h1 := posJ_in h L k (by omega)
    have h2 := szJ_in h L (i := k) (by omega)
    simp only [posJ]
    omega
theorem posJ_mono {l : List Pc} (h : PcOK l) {L L' : Nat → Bool} (hL : ∀ i, i < l.length → L i = true → L' i = true) {a : Nat} : ∀ b, a ≤ b → b ≤ l.length → 0 ≤ posJ l L b - posJ l L a ∧ posJ l L b - posJ l L a ≤ posJ l L' b - posJ l L' a
  | 0, h1, _ => by
    obtain rfl : a = 0 := by omega
    simp [posJ]
  | b + 1, h1, h2 => by
    by_cases hab : a = b + 1
    · subst hab; omega
    · have ih := posJ_mono h hL (a := a) b (by omega) (by omega)
      have h3 := szJ_in h L (i := b) (by omega)
      have h4 : szJ l L b ≤ szJ l L' b := by
        unfold szJ
        cases (pcAt l b).2.1 with
        | true =>
          simp only [if_true]
          have := hL b (by omega)
          split
          · rename_i hb; rw [if_pos (this hb)]; omega
          · split <;> omega
        | false => simp
      simp only [posJ]
      omega
theorem farJ_mono {l : List Pc} (h : PcOK l) {L L' : Nat → Bool} (hL : ∀ i, i < l.length → L i = true → L' i = true) {i : Nat} (hi : i < l.length) (hj : (pcAt l i).2.1 = true) (hf : farJ l L i = true) : farJ l L' i = true := by
  have ht := h.to i hi hj
  rw [far_iff] at hf ⊢
  unfold distJ at hf ⊢
  by_cases hle : i + 1 ≤ (pcAt l i).2.2.1.toNat
  · have := posJ_mono h hL (a := i + 1) (pcAt l i).2.2.1.toNat hle (by omega)
    omega
  · have := posJ_mono h hL (a := (pcAt l i).2.2.1.toNat) (i + 1) (by omega) (by omega)
    omega

/-- a list by its parts -/
def Rep (xs : List Int) (n : Nat) (f : Nat → Int) : Prop := xs.length = n ∧ ∀ i, i < n → xs.getD i 0 = f i
theorem Rep.append {xs : List Int} {n : Nat} {f : Nat → Int} (h : Rep xs n f) {y : Int} (hy : y = f n) : Rep (xs ++ [y]) (n + 1) f := by
  refine ⟨by simp [h.1], fun i hi => ?_⟩
  rw [List.getD_eq_getElem?_getD]
  by_cases hin : i < n
  · rw [List.getElem?_append_left (by rw [h.1]; exact hin), ← List.getD_eq_getElem?_getD, h.2 i hin]
  · obtain rfl : i = n := by omega
    rw [List.getElem?_append_right (by rw [h.1]; exact Nat.le_refl _), h.1]
    simp [hy]
theorem Rep.upd {xs : List Int} {n : Nat} {f g : Nat → Int} (h : Rep xs n f) {k : Nat} {y : Int} (hk : k < n) (hy : y = g k) (hg : ∀ i, i < n → i ≠ k → g i = f i) : Rep (xs.set k y) n g := by
  refine ⟨by simp [h.1], fun i hi => ?_⟩
  rw [getD_upd (by rw [h.1]; exact hk)]
  split
  · rename_i hik; rw [hik]; exact hy
  · rename_i hik; rw [h.2 i hi, hg i hi hik]
theorem Rep.congr {xs : List Int} {n : Nat} {f g : Nat → Int} (h : Rep xs n f) (hg : ∀ i, i < n → g i = f i) : Rep xs n g := ⟨h.1, fun i hi => by rw [h.2 i hi, hg i hi]⟩
theorem Rep.eq {xs ys : List Int} {n : Nat} {f : Nat → Int} (h : Rep xs n f) (h' : Rep ys n f) : xs = ys := by
  refine List.ext_getElem (by rw [h.1, h'.1]) fun i h1 h2 => ?_
  have e1 := h.2 i (by rw [← h.1]; exact h1)
  have e2 := h'.2 i (by rw [← h.1]; exact h1)
  rw [List.getD_eq_getElem?_getD, List.getElem?_eq_getElem h1, Option.getD_some] at e1
  rw [List.getD_eq_getElem?_getD, List.getElem?_eq_getElem h2, Option.getD_some] at e2
  rw [e1, e2]

theorem jw {x : Int} (h0 : -100000 ≤ x) (h1 : x ≤ 100000) : IntKind.i64.wrap x = x := Go.IntWalk.i64_in _ ⟨by omega, by omega⟩
theorem jble {xs : List Int} {y : Int} {n : Nat} (h : xs.length = n) (hn : n ≤ 100) : (bimp false (![y].isEmpty) && Nat.ble (xs.length + [y].length) lim) = true := by
  rw [ble_ok (by rw [h]; simp; omega)]; rfl

theorem begins_F {l : List Pc} (h : PcOK l) (hn : 40 ≤ nf) {L : Nat → Bool} {size : List Int} (hs : Rep size l.length (szJ l L)) : ∃ at', jump_begins_f nf size = some (at', ()) ∧ Rep at' (l.length + 1) (posJ l L) := by
  have hfew := h.few
  simp only [jump_begins_f, jump_begins_p]
  obtain ⟨fu', s', h1, h2⟩ := loop_inv (n := (l.length : Int)) (F := fun fu t at' => jump_begins_l0 nf size fu at' t) (fun t at' => Rep at' (t.toNat + 1) (posJ l L)) (by
    intro fu t at' t0 t1 hI
    have hp := posJ_in h L t.toNat (by omega)
    have hz := szJ_in h L (i := t.toNat) (by omega)
    refine ⟨at' ++ [posJ l L (t.toNat + 1)], ?_, ?_⟩
    · show jump_begins_l0 nf size (fu + 1) at' t = _
      rw [jump_begins_l0, jump_begins_b0]
      simp only [hs.1, t1, decide_true, cond_true, inb_ok t0 t1, inb_ok (t := t) (n := at'.length) t0 (by rw [hI.1]; omega), hI.2 t.toNat (by omega), hs.2 t.toNat (by omega), jw (x := posJ l L t.toNat + szJ l L t.toNat) (by omega) (by omega), jble hI.1 (show t.toNat + 1 ≤ 100 by omega), jw (x := t + 1) (by omega) (by omega)]
      rfl
    · rw [show (t + 1).toNat + 1 = (t.toNat + 1) + 1 by omega]
      exact hI.append rfl) nf 0 [0] (by omega) (by omega) (by omega) ⟨rfl, fun i hi => by
        have : (0 : Int).toNat + 1 = 1 := rfl
        obtain rfl : i = 0 := by omega
        rfl⟩
  refine ⟨s', ?_, by simpa using h1⟩
  rw [show jump_begins_l0 nf size nf [0] 0 = _ from h2]
  show jump_begins_l0 nf size (fu' + 1) s' _ = _
  rw [jump_begins_l0, jump_begins_b0]
  simp [hs.1]

/-- what a round makes long as well, in the first t pieces -/
def grow (l : List Pc) (L : Nat → Bool) (t : Nat) (i : Nat) : Bool := L i || (decide (i < t) && ((pcAt l i).2.1 && farJ l L i))

/-- is every jump near enough? -/
def OKJ (l : List Pc) (L : Nat → Bool) : Prop := ∀ i, i < l.length → (pcAt l i).2.1 = true → L i = false → farJ l L i = false

theorem grow_step {l : List Pc} {L : Nat → Bool} {t i : Nat} (h : i ≠ t) : grow l L (t + 1) i = grow l L t i := by
  unfold grow
  by_cases h1 : i < t
  · rw [decide_eq_true h1, decide_eq_true (show i < t + 1 by omega)]
  · rw [decide_eq_false h1, decide_eq_false (show ¬ i < t + 1 by omega)]
theorem grow_same {l : List Pc} {L : Nat → Bool} {t : Nat} (h : ((pcAt l t).2.1 && farJ l L t) = false ∨ L t = true) (i : Nat) : grow l L (t + 1) i = grow l L t i := by
  by_cases hi : i = t
  · subst hi
    unfold grow
    rcases h with h | h <;> simp [h]
  · exact grow_step hi

/-- one round -/
theorem lay_l4 {l : List Pc} (h : PcOK l) {L : Nat → Bool} {at' : List Int} (ha : Rep at' (l.length + 1) (posJ l L)) {g2 : List Int → Bool → Option (List Int × List Int × Int × Unit)} :
    ∀ (fu : Nat) (size : List Int) (more : Bool) (t : Int), 0 ≤ t → t ≤ l.length → l.length < t + fu → Rep size l.length (szJ l (grow l L t.toNat)) → (more = true ↔ ∃ i, i < t.toNat ∧ (pcAt l i).2.1 = true ∧ L i = false ∧ farJ l L i = true) →
    ∃ size' more', jump_Lay_l4 nf l g2 fu size more at' t = g2 size' more' ∧ Rep size' l.length (szJ l (grow l L l.length)) ∧ (more' = true ↔ ∃ i, i < l.length ∧ (pcAt l i).2.1 = true ∧ L i = false ∧ farJ l L i = true) := by
  have hfew := h.few
  intro fu
  induction fu with
  | zero => intro size more t h0 h1 h2; omega
  | succ fu ih =>
    intro size more t h0 h1 h2 hs hm
    rw [jump_Lay_l4, jump_Lay_b4]
    by_cases ht : t < l.length
    · have htn : ((t.toNat : Nat) : Int) = t := by omega
      have hpc : l.getD t.toNat (0, false, 0, ()) = pcAt l t.toNat := rfl
      have stay : (((pcAt l t.toNat).2.1 && farJ l L t.toNat) = false ∨ L t.toNat = true) → ∃ size' more', jump_Lay_l4 nf l g2 fu size more at' (t + 1) = g2 size' more' ∧ Rep size' l.length (szJ l (grow l L l.length)) ∧ (more' = true ↔ ∃ i, i < l.length ∧ (pcAt l i).2.1 = true ∧ L i = false ∧ farJ l L i = true) := by
        intro hh
        refine ih size more (t + 1) (by omega) (by omega) (by omega) (hs.congr fun i _ => ?_) (hm.trans ?_)
        · rw [show (t + 1).toNat = t.toNat + 1 by omega]
          unfold szJ
          rw [grow_same hh]
        · rw [show (t + 1).toNat = t.toNat + 1 by omega]
          constructor
          · rintro ⟨i, g1, g2, g3, g4⟩; exact ⟨i, by omega, g2, g3, g4⟩
          · rintro ⟨i, g1, g2, g3, g4⟩
            refine ⟨i, ?_, g2, g3, g4⟩
            have : i ≠ t.toNat := fun hit => by
              subst hit
              rcases hh with hh | hh
              · rw [g2, g4] at hh; cases hh
              · rw [g3] at hh; cases hh
            omega
      have hsz := hs.2 t.toNat (by omega)
      have hgr : grow l L t.toNat t.toNat = L t.toNat := by simp [grow]
      simp only [ht, decide_true, cond_true, inb_ok h0 ht, hpc, inb_ok (t := t) (n := size.length) h0 (by rw [hs.1]; exact ht), jw (x := t + 1) (by omega) (by omega)]
      cases hj : (pcAt l t.toNat).2.1 with
      | false =>
        simp only [Bool.not_false, cond_true]
        exact stay (.inl (by rw [hj]; rfl))
      | true =>
        simp only [Bool.not_true, cond_false]
        unfold szJ at hsz
        rw [hj, if_pos rfl, hgr] at hsz
        rw [hsz]
        cases hL : L t.toNat with
        | true =>
          simp only [if_true, beq_self_eq_true, cond_true]
          exact stay (.inr hL)
        | false =>
          have hto := h.to t.toNat (by omega) hj
          have b1 := ha.2 (pcAt l t.toNat).2.2.1.toNat (by omega)
          have b2 := ha.2 (t + 1).toNat (by omega)
          have p1 := posJ_in h L (pcAt l t.toNat).2.2.1.toNat (by omega)
          have p2 := posJ_in h L (t + 1).toNat (by omega)
          have hd : distJ l L t.toNat = posJ l L (pcAt l t.toNat).2.2.1.toNat - posJ l L (t + 1).toNat := by
            unfold distJ; rw [show t.toNat + 1 = (t + 1).toNat by omega]
          simp only [show (Bool.false = true) = False by simp, if_false, show ((2 : Int) == 4) = false from rfl, cond_false, inb_ok (t := (pcAt l t.toNat).2.2.1) (n := at'.length) hto.1 (by rw [ha.1]; omega), inb_ok (t := t + 1) (n := at'.length) (by omega) (by rw [ha.1]; omega), cond_true, b1, b2]
          rw [jw (by omega) (by omega), ← hd]
          have go : farJ l L t.toNat = true → ∃ size' more', jump_Lay_l4 nf l g2 fu (size.set t.toNat 4) true at' (t + 1) = g2 size' more' ∧ Rep size' l.length (szJ l (grow l L l.length)) ∧ (more' = true ↔ ∃ i, i < l.length ∧ (pcAt l i).2.1 = true ∧ L i = false ∧ farJ l L i = true) := by
            intro hf
            refine ih _ true (t + 1) (by omega) (by omega) (by omega) (hs.upd (by omega) ?_ fun i hi hik => ?_) ⟨fun _ => ⟨t.toNat, by omega, hj, hL, hf⟩, fun _ => rfl⟩
            · rw [show (t + 1).toNat = t.toNat + 1 by omega]
              unfold szJ grow
              rw [hj, hf, decide_eq_true (show t.toNat < t.toNat + 1 by omega)]
              simp
            · rw [show (t + 1).toNat = t.toNat + 1 by omega]
              unfold szJ
              rw [grow_step hik]
          by_cases f1 : distJ l L t.toNat > 50
          · simp only [f1, decide_true, cond_true]
            exact go (by simp [farJ, f1])
          · by_cases f2 : distJ l L t.toNat < -50
            · simp only [f1, f2, decide_true, decide_false, cond_true, cond_false]
              exact go (by simp [farJ, f2])
            · simp only [f1, f2, decide_false, cond_false]
              exact stay (.inl (by simp [farJ, f1, f2]))
    · have he : t.toNat = l.length := by omega
      simp only [ht, decide_false, cond_false]
      rw [he] at hs hm
      exact ⟨size, more, rfl, hs, hm⟩

/-- what the rounds end with -/
structure Least (l : List Pc) (M : Nat → Bool) : Prop where
  ok : OKJ l M
  least : ∀ S : Nat → Bool, OKJ l S → ∀ i, i < l.length → M i = true → S i = true
  jump : ∀ i, M i = true → i < l.length ∧ (pcAt l i).2.1 = true

theorem grow_least {l : List Pc} (h : PcOK l) {L : Nat → Bool} (hL : ∀ S : Nat → Bool, OKJ l S → ∀ i, i < l.length → L i = true → S i = true) :
    ∀ S : Nat → Bool, OKJ l S → ∀ i, i < l.length → grow l L l.length i = true → S i = true := by
  intro S hS i hi hg
  unfold grow at hg
  simp only [Bool.or_eq_true, Bool.and_eq_true] at hg
  rcases hg with hg | ⟨_, hj, hf⟩
  · exact hL S hS i hi hg
  · cases hs : S i with
    | true => rfl
    | false => exact absurd (farJ_mono h (hL S hS) hi hj hf) (by rw [hS i hi hj hs]; simp)

theorem lay_l2 {l : List Pc} (h : PcOK l) (hn : 40 ≤ nf) : ∀ (fu : Nat) (L : Nat → Bool) (size : List Int) (more : Bool), l.length + 1 < cnt L l.length + fu + (if more = true then 0 else l.length + 1) → 0 < fu → Rep size l.length (szJ l L) → (∀ S : Nat → Bool, OKJ l S → ∀ i, i < l.length → L i = true → S i = true) → (∀ i, L i = true → i < l.length ∧ (pcAt l i).2.1 = true) →
    (more = false → OKJ l L) → ∃ M at' size', jump_Lay_l2 nf l fu size more = some (at', size', 0, ()) ∧ Least l M ∧ Rep at' (l.length + 1) (posJ l M) ∧ Rep size' l.length (szJ l M) := by
  intro fu
  induction fu with
  | zero => intro L size more _ h1; omega
  | succ fu ih =>
    intro L size more h1 _ hs hL hj hm
    have hfew := h.few
    obtain ⟨at', b1, b2⟩ := begins_F h hn hs
    rw [jump_Lay_l2, jump_Lay_b2, b1]
    cases more with
    | false =>
      simp only [cond_false, Option.bind_some]
      exact ⟨L, at', size, rfl, ⟨hm rfl, hL, hj⟩, b2, hs⟩
    | true =>
      simp only [cond_true, Option.bind_some, if_true] at h1 ⊢
      obtain ⟨size', more', c1, c2, c3⟩ := lay_l4 (nf := nf) h b2 (g2 := fun size'2 more => jump_Lay_l2 nf l fu size'2 more) nf size false 0 (by omega) (by omega) (by omega) (hs.congr fun i _ => by simp [szJ, grow]) ⟨fun h => (by cases h), fun ⟨i, hi, _⟩ => (by simp at hi)⟩
      rw [c1]
      have hj' : ∀ i, grow l L l.length i = true → i < l.length ∧ (pcAt l i).2.1 = true := by
        intro i hg
        unfold grow at hg
        simp only [Bool.or_eq_true, Bool.and_eq_true, decide_eq_true_eq] at hg
        rcases hg with hg | ⟨h1, h2, _⟩
        · exact hj i hg
        · exact ⟨h1, h2⟩
      have hcn := cnt_n L l.length
      cases more' with
      | true =>
        obtain ⟨i, i1, i2, i3, i4⟩ := c3.1 rfl
        have hlt : cnt L l.length < cnt (grow l L l.length) l.length := cnt_lt (fun k _ hk => by simp [grow, hk]) ⟨i, i1, i3, by simp [grow, i1, i2, i4]⟩
        refine ih _ size' true (by simp only [if_true]; omega) (by have := cnt_n (grow l L l.length) l.length; omega) c2 (grow_least h hL) hj' (fun h => by cases h)
      | false =>
        have hno : ∀ i, i < l.length → grow l L l.length i = L i := by
          intro i hi
          unfold grow
          cases hLi : L i with
          | true => rfl
          | false =>
            cases hji : (pcAt l i).2.1 with
            | false => simp
            | true =>
              cases hf : farJ l L i with
              | false => simp
              | true => exact absurd (c3.2 ⟨i, hi, hji, hLi, hf⟩) (by simp)
        have hle : cnt L l.length ≤ cnt (grow l L l.length) l.length := cnt_le fun k _ hk => by simp [grow, hk]
        refine ih _ size' false (by simp only [show (Bool.false = true) = False by simp, if_false]; omega) (by omega) c2 (grow_least h hL) hj' (fun _ i hi hji hgi => ?_)
        cases hf : farJ l (grow l L l.length) i with
        | false => rfl
        | true =>
          have hLi : L i = false := by rw [← hno i hi]; exact hgi
          have := farJ_mono h (L := grow l L l.length) (L' := L) (fun k hk hg => by rw [← hno k hk]; exact hg) hi hji hf
          exact absurd (c3.2 ⟨i, hi, hji, hLi, this⟩) (by simp)

theorem jbit_F {w : Int} (hw : W32 w) {i : Int} (h0 : 0 ≤ i) (h1 : i < 32) : ref_Bit_f nf w i = some (bt w i.toNat, ()) := by
  have h2 := and_one hw h0 h1
  unfold and32 at h2
  simp only [ref_Bit_f, ref_Bit_p]
  rw [wrap_u64 h0 h1, h2]
  simp [h0, h1]

theorem jsize_F (hn : 300 ≤ nf) {s : Int} (hs : W32 s) : ref_Size_f nf s = some (((cnt (bt s) 32 : Nat) : Int), ()) := by
  simp only [ref_Size_f, ref_Size_p]
  have key := loop_inv (n := (32 : Int)) (F := fun fu t (q : Int) => ref_Size_l0 nf s fu q t)
    (fun t q => q = ((cnt (bt s) t.toNat : Nat) : Int)) ?_ nf 0 0 (Int.le_refl _) (by omega) (by omega) rfl
  · obtain ⟨fu', q, h1, h5⟩ := key
    subst h1
    rw [h5, ref_Size_l0, ref_Size_b0]
    simp
  · rintro fu t q ht0 ht1 rfl
    have hc := cnt_n (bt s) t.toNat
    have e : cnt (bt s) (t.toNat + 1) = cnt (bt s) t.toNat + (if bt s t.toNat = true then 1 else 0) := rfl
    refine ⟨_, ?_, rfl⟩
    rw [show (t + 1).toNat = t.toNat + 1 by omega, e, ref_Size_l0, ref_Size_b0, jbit_F hs ht0 ht1, wrap_step (n := 32) ht0 (by omega) (by decide), wrap_step (n := 40) (t := ((cnt (bt s) t.toNat : Nat) : Int)) (by omega) (by omega) (by decide)]
    simp only [ht1, decide_true, cond_true, Option.bind_some]
    cases bt s t.toNat <;> simp

/-- the document's answer for the set s -/
theorem lays_l2 {l : List Pc} (h : PcOK l) {s : Int} (hs : W32 s) {at' size : List Int} (ha : Rep at' (l.length + 1) (posJ l (bt s))) : ∀ (fu : Nat) (t : Int), 0 ≤ t → t ≤ l.length → l.length < t + fu → (∀ i, i < t.toNat → (pcAt l i).2.1 = true → bt s i = false → farJ l (bt s) i = false) →
    (OKJ l (bt s) → ref_Lays_l2 nf l s fu at' size t = some (at', size, true, ())) ∧ (¬ OKJ l (bt s) → ref_Lays_l2 nf l s fu at' size t = some ([], [], false, ())) := by
  have hfew := h.few
  intro fu
  induction fu with
  | zero => intro t h0 h1 h2; omega
  | succ fu ih =>
    intro t h0 h1 h2 hI
    rw [ref_Lays_l2, ref_Lays_b2]
    by_cases ht : t < l.length
    · have hpc : l.getD t.toNat (0, false, 0, ()) = pcAt l t.toNat := rfl
      simp only [ht, decide_true, cond_true, inb_ok h0 ht, hpc, jbit_F (nf := nf) hs h0 (show t < 32 by omega), Option.bind_some, jw (x := t + 1) (by omega) (by omega)]
      have next : ((pcAt l t.toNat).2.1 = true → bt s t.toNat = false → farJ l (bt s) t.toNat = false) → _ := fun hh => ih (t + 1) (by omega) (by omega) (by omega) (fun i hi => by
        by_cases hit : i = t.toNat
        · rw [hit]; exact hh
        · exact hI i (by omega))
      cases hj : (pcAt l t.toNat).2.1 with
      | false =>
        simp only [Bool.not_false, cond_true]
        exact next (fun h => by rw [hj] at h; cases h)
      | true =>
        cases hb : bt s t.toNat with
        | true =>
          simp only [Bool.not_true, cond_true, cond_false]
          exact next (fun _ h => by rw [hb] at h; cases h)
        | false =>
          have hto := h.to t.toNat (by omega) hj
          have b1 := ha.2 (pcAt l t.toNat).2.2.1.toNat (by omega)
          have b2 := ha.2 (t + 1).toNat (by omega)
          have p1 := posJ_in h (bt s) (pcAt l t.toNat).2.2.1.toNat (by omega)
          have p2 := posJ_in h (bt s) (t + 1).toNat (by omega)
          have hd : distJ l (bt s) t.toNat = posJ l (bt s) (pcAt l t.toNat).2.2.1.toNat - posJ l (bt s) (t + 1).toNat := by
            unfold distJ; rw [show t.toNat + 1 = (t + 1).toNat by omega]
          simp only [Bool.not_true, cond_false, inb_ok (t := (pcAt l t.toNat).2.2.1) (n := at'.length) hto.1 (by rw [ha.1]; omega), inb_ok (t := t + 1) (n := at'.length) (by omega) (by rw [ha.1]; omega), cond_true, b1, b2]
          rw [jw (x := posJ l (bt s) (pcAt l t.toNat).2.2.1.toNat - posJ l (bt s) (t + 1).toNat) (by omega) (by omega), ← hd]
          rw [jw (x := 0 - distJ l (bt s) t.toNat) (by omega) (by omega)]
          have bad : farJ l (bt s) t.toNat = true → ¬ OKJ l (bt s) := fun hf hok => by
            have := hok t.toNat (by omega) hj hb
            rw [hf] at this; cases this
          by_cases f1 : distJ l (bt s) t.toNat > 50
          · have := bad (far_iff.2 (.inl f1))
            simp only [f1, decide_true, cond_true, this, false_implies, not_false_eq_true, true_implies, and_self]
          · by_cases f2 : distJ l (bt s) t.toNat < -50
            · have := bad (far_iff.2 (.inr f2))
              simp only [f1, show 0 - distJ l (bt s) t.toNat > 50 by omega, decide_true, decide_false, cond_true, cond_false, this, false_implies, not_false_eq_true, true_implies, and_self]
            · simp only [f1, show ¬ (0 - distJ l (bt s) t.toNat > 50) by omega, decide_false, cond_false]
              refine next (fun _ _ => ?_)
              cases hf : farJ l (bt s) t.toNat with
              | false => rfl
              | true => rcases far_iff.1 hf with hf | hf <;> omega
    · have hok : OKJ l (bt s) := fun i hi => hI i (by omega)
      simp only [ht, decide_false, cond_false, hok, true_implies, not_true_eq_false, false_implies, and_self]

theorem lays_F {l : List Pc} (h : PcOK l) (hn : 300 ≤ nf) {s : Int} (hs : W32 s) : (OKJ l (bt s) → ∃ at' size, ref_Lays_f nf l s = some (at', size, true, ()) ∧ Rep at' (l.length + 1) (posJ l (bt s)) ∧ Rep size l.length (szJ l (bt s))) ∧ (¬ OKJ l (bt s) → ref_Lays_f nf l s = some ([], [], false, ())) := by
  have hfew := h.few
  simp only [ref_Lays_f, ref_Lays_p]
  obtain ⟨fu', q, ⟨h1, h2⟩, h3⟩ := loop_inv (n := (l.length : Int)) (F := fun fu t (q : List Int × List Int) => ref_Lays_l0 nf l s fu q.1 q.2 t) (fun t q => Rep q.1 (t.toNat + 1) (posJ l (bt s)) ∧ Rep q.2 t.toNat (szJ l (bt s))) (by
    rintro fu t ⟨at', size⟩ t0 t1 ⟨hI, hI2⟩
    have hp := posJ_in h (bt s) t.toNat (by omega)
    have hz := szJ_in h (bt s) (i := t.toNat) (by omega)
    have hpc : l.getD t.toNat (0, false, 0, ()) = pcAt l t.toNat := rfl
    refine ⟨(at' ++ [posJ l (bt s) (t.toNat + 1)], size ++ [szJ l (bt s) t.toNat]), ?_, ?_⟩
    · show ref_Lays_l0 nf l s (fu + 1) at' size t = ref_Lays_l0 nf l s fu (at' ++ [posJ l (bt s) (t.toNat + 1)]) (size ++ [szJ l (bt s) t.toNat]) (t + 1)
      rw [ref_Lays_l0, ref_Lays_b0]
      have e : posJ l (bt s) (t.toNat + 1) = posJ l (bt s) t.toNat + szJ l (bt s) t.toNat := rfl
      have ew := jw (x := posJ l (bt s) t.toNat + szJ l (bt s) t.toNat) (by omega) (by omega)
      have js : ∀ y : Int, (bimp false (![y].isEmpty) && Nat.ble (size.length + [y].length) lim) = true := fun y => jble (show size.length = t.toNat from hI2.1) (show t.toNat ≤ 100 by omega)
      have ja : ∀ y : Int, (bimp false (![y].isEmpty) && Nat.ble (at'.length + [y].length) lim) = true := fun y => jble (show at'.length = t.toNat + 1 from hI.1) (show t.toNat + 1 ≤ 100 by omega)
      simp only [t1, decide_true, cond_true, inb_ok t0 t1, hpc, inb_ok (t := t) (n := at'.length) t0 (by rw [hI.1]; omega), hI.2 t.toNat (by omega), jw (x := t + 1) (by omega) (by omega), jbit_F (nf := nf) hs t0 (show t < 32 by omega), Option.bind_some, js, ja, e]
      unfold szJ at ew ⊢
      cases hj : (pcAt l t.toNat).2.1 with
      | false =>
        rw [hj] at ew
        simp only [show (Bool.false = true) = False by simp, if_false] at ew
        simp only [cond_false, ew, show (Bool.false = true) = False by simp, if_false]
      | true =>
        rw [hj] at ew
        simp only [if_true] at ew
        cases hb : bt s t.toNat with
        | true =>
          rw [hb] at ew
          simp only [if_true] at ew
          simp only [cond_true, ew, if_true]
          exact (congrArg (fun b => bif b then _ else none) (js 4)).trans rfl
        | false =>
          rw [hb] at ew
          simp only [show (Bool.false = true) = False by simp, if_false] at ew
          simp only [cond_true, cond_false, ew, if_true, show (Bool.false = true) = False by simp, if_false]
          exact (congrArg (fun b => bif b then _ else none) (js 2)).trans rfl
    · rw [show (t + 1).toNat = t.toNat + 1 by omega]
      exact ⟨hI.append rfl, hI2.append rfl⟩) nf 0 ([0], []) (by omega) (by omega) (by omega) ⟨⟨rfl, fun i hi => by
        have : (0 : Int).toNat + 1 = 1 := rfl
        obtain rfl : i = 0 := by omega
        rfl⟩, ⟨rfl, fun i hi => (by simp at hi)⟩⟩
  obtain ⟨at', size⟩ := q
  rw [Int.toNat_natCast] at h1 h2
  have e : ref_Lays_l0 nf l s nf [0] [] 0 = ref_Lays_l2 nf l s nf at' size 0 := by
    refine Eq.trans h3 ?_
    show ref_Lays_l0 nf l s (fu' + 1) at' size l.length = _
    rw [ref_Lays_l0, ref_Lays_b0]
    simp
  rw [e]
  obtain ⟨g1, g2⟩ := lays_l2 (nf := nf) h hs h1 (size := size) nf 0 (by omega) (by omega) (by omega) (fun i hi => (by simp at hi))
  exact ⟨fun hok => ⟨at', size, g1 hok, h1, h2⟩, g2⟩

/-- a word of the bits of M -/
theorem word_of (M : Nat → Bool) : ∀ n, n ≤ 32 → ∃ w : Int, W32 w ∧ ∀ i, bt w i = (decide (i < n) && M i)
  | 0, _ => ⟨0, W32_zero, fun i => by simp [bt_zero]⟩
  | n + 1, hn => by
    obtain ⟨w, h1, h2⟩ := word_of M n (by omega)
    cases hM : M n with
    | false =>
      refine ⟨w, h1, fun i => ?_⟩
      rw [h2]
      by_cases hi : i = n
      · subst hi; rw [hM]; simp
      · by_cases h3 : i < n
        · rw [decide_eq_true h3, decide_eq_true (show i < n + 1 by omega)]
        · rw [decide_eq_false h3, decide_eq_false (show ¬ i < n + 1 by omega)]
    | true =>
      refine ⟨or32 w (shlI .u32 1 n), or32_w _ _, fun i => ?_⟩
      rw [or32_bt h1 (one_w (by omega) (by omega)), h2, one_bt (by omega) (by omega), Int.toNat_natCast]
      by_cases hi : i = n
      · subst hi; rw [hM]; simp
      · rw [decide_eq_false hi]
        by_cases h3 : i < n
        · rw [decide_eq_true h3, decide_eq_true (show i < n + 1 by omega)]; simp
        · rw [decide_eq_false h3, decide_eq_false (show ¬ i < n + 1 by omega)]; simp

theorem few_jumps {l : List Pc} (h : PcOK l) (hn : 300 ≤ nf) : ∃ j : Int, W32 j ∧ (∀ i, bt j i = (decide (i < l.length) && (pcAt l i).2.1)) ∧ ref_FewLong_l0 nf l nf 0 0 = ref_FewLong_l2 nf l j nf j 0 := by
  have hfew := h.few
  obtain ⟨fu', q, ⟨h1, h2⟩, h3⟩ := loop_inv (n := (l.length : Int)) (F := fun fu t (q : Int) => ref_FewLong_l0 nf l fu q t) (fun t q => W32 q ∧ ∀ i, bt q i = (decide (i < t.toNat) && (pcAt l i).2.1)) (by
    intro fu t q t0 t1 ⟨hw, hI⟩
    have hpc : l.getD t.toNat (0, false, 0, ()) = pcAt l t.toNat := rfl
    cases hj : (pcAt l t.toNat).2.1 with
    | false =>
      refine ⟨q, ?_, hw, fun i => ?_⟩
      · show ref_FewLong_l0 nf l (fu + 1) q t = _
        rw [ref_FewLong_l0, ref_FewLong_b0]
        simp only [t1, decide_true, cond_true, inb_ok t0 t1, hpc, hj, cond_false, jw (x := t + 1) (by omega) (by omega)]
      · rw [hI, show (t + 1).toNat = t.toNat + 1 by omega]
        by_cases hi : i = t.toNat
        · subst hi; rw [hj]; simp
        · by_cases h3 : i < t.toNat
          · rw [decide_eq_true h3, decide_eq_true (show i < t.toNat + 1 by omega)]
          · rw [decide_eq_false h3, decide_eq_false (show ¬ i < t.toNat + 1 by omega)]
    | true =>
      refine ⟨or32 q (shlI .u32 1 t), ?_, or32_w _ _, fun i => ?_⟩
      · show ref_FewLong_l0 nf l (fu + 1) q t = _
        rw [ref_FewLong_l0, ref_FewLong_b0]
        simp only [t1, decide_true, cond_true, inb_ok t0 t1, hpc, hj, jw (x := t + 1) (by omega) (by omega), wrap_u64 t0 (show t < 32 by omega), t0]
        rfl
      · rw [or32_bt hw (one_w t0 (by omega)), hI, one_bt t0 (by omega), show (t + 1).toNat = t.toNat + 1 by omega]
        by_cases hi : i = t.toNat
        · subst hi; rw [hj]; simp
        · rw [decide_eq_false hi]
          by_cases h3 : i < t.toNat
          · rw [decide_eq_true h3, decide_eq_true (show i < t.toNat + 1 by omega)]; simp
          · rw [decide_eq_false h3, decide_eq_false (show ¬ i < t.toNat + 1 by omega)]; simp) nf 0 0 (by omega) (by omega) (by omega) ⟨W32_zero, fun i => by simp [bt_zero]⟩
  rw [Int.toNat_natCast] at h2
  refine ⟨q, h1, h2, Eq.trans h3 ?_⟩
  show ref_FewLong_l0 nf l (fu' + 1) q l.length = _
  rw [ref_FewLong_l0, ref_FewLong_b0]
  simp

theorem in_F {a b : Int} : ref_In_f nf a b = some (or32 a b == b, ()) := rfl
theorem in_iff {a b : Int} (ha : W32 a) (hb : W32 b) : (or32 a b == b) = true ↔ ∀ i, i < 32 → bt a i = true → bt b i = true := by
  rw [beq_iff_eq]
  constructor
  · intro h i _ hi
    rw [← h, or32_bt ha hb, hi]; rfl
  · intro h
    refine bt_ext (or32_w _ _) hb fun i hi => ?_
    rw [or32_bt ha hb]
    cases hx : bt a i with
    | false => rfl
    | true => rw [h i hi hx]; rfl

theorem cnt_eq {p q : Nat → Bool} {n : Nat} (h : ∀ k, k < n → p k = true → q k = true) (hc : cnt q n ≤ cnt p n) : ∀ k, k < n → p k = q k := by
  intro k hk
  cases hq : q k with
  | true =>
    cases hp : p k with
    | true => rfl
    | false => have := cnt_lt h ⟨k, hk, hp, hq⟩; omega
  | false =>
    cases hp : p k with
    | true => rw [h k hk hp] at hq; cases hq
    | false => rfl

theorem few_F {l : List Pc} (h : PcOK l) (hn : 1200 ≤ nf) {M : Nat → Bool} (hM : Least l M) : ∃ m : Int, W32 m ∧ (∀ i, bt m i = M i) ∧ ref_FewLong_f nf l = some (m, ()) := by
  have hfew := h.few
  obtain ⟨m, wm, hm⟩ := word_of M l.length (by omega)
  have hm : ∀ i, bt m i = M i := fun i => by
    rw [hm]
    cases hMi : M i with
    | false => simp
    | true => have := (hM.jump i hMi).1; simp [this]
  refine ⟨m, wm, hm, ?_⟩
  obtain ⟨j, wj, hj, e⟩ := few_jumps (nf := nf) h (by omega)
  simp only [ref_FewLong_f, ref_FewLong_p]
  rw [e]
  have hshl : shlI .u32 1 (IntKind.u64.wrap (l.length : Int)) = ((2 ^ l.length : Nat) : Int) := by
    rw [wrap_u64 (by omega) (by omega), shl_one (by omega) (by omega)]; simp
  have hpow : (2 : Nat) ^ l.length ≤ 1024 := Nat.le_trans (Nat.pow_le_pow_right (by decide) hfew) (by decide)
  have hml : m < ((2 ^ l.length : Nat) : Int) := wm.small fun k hk => by
    rw [hm]
    cases hMk : M k with
    | false => rfl
    | true => have := (hM.jump k hMk).1; omega
  have hmfun : bt m = M := funext hm
  have okm : OKJ l (bt m) := by rw [hmfun]; exact hM.ok
  have okj : OKJ l (bt j) := fun i hi hji hb => by
    rw [hj, decide_eq_true hi, hji] at hb; cases hb
  have mbits : ∀ s : Int, OKJ l (bt s) → ∀ i, i < 32 → bt m i = true → bt s i = true := fun s hs i _ hi => by
    rw [hm] at hi
    exact hM.least _ hs i (hM.jump i hi).1 hi
  generalize 2 ^ l.length = N at hshl hpow hml
  obtain ⟨fu', q, ⟨h1, h2, h4⟩, h3⟩ := loop_inv (n := (N : Int)) (F := fun fu t (q : Int) => ref_FewLong_l2 nf l j fu q t) (fun t q => W32 q ∧ OKJ l (bt q) ∧ (m < t → q = m)) (by
    intro fu t q t0 t1 ⟨wq, hq, hI⟩
    have wt : W32 t := ⟨t0, by omega⟩
    show ∃ s', ref_FewLong_l2 nf l j (fu + 1) q t = _ ∧ _
    rw [ref_FewLong_l2, ref_FewLong_b2, hshl, in_F, jsize_F (by omega) wt, jsize_F (by omega) wq, (show W32 (t + 1) from ⟨by omega, by omega⟩).wrap]
    simp only [t1, decide_true, cond_true, Option.bind_some]
    have keep : (m = t → q = m) → W32 q ∧ OKJ l (bt q) ∧ (m < t + 1 → q = m) := fun hh => ⟨wq, hq, fun hlt => by
      by_cases hmt : m = t
      · exact hh hmt
      · exact hI (by omega)⟩
    cases hin : (or32 t j == j) with
    | true =>
      simp only [Bool.not_true, cond_false]
      by_cases hc : ((cnt (bt t) 32 : Nat) : Int) ≥ ((cnt (bt q) 32 : Nat) : Int)
      · simp only [hc, decide_true, cond_true]
        refine ⟨q, rfl, keep fun hmt => ?_⟩
        subst hmt
        exact (bt_ext wm wq (cnt_eq (mbits q hq) (by omega))).symm
      · simp only [hc, decide_false, cond_false]
        obtain ⟨g1, g2⟩ := lays_F (nf := nf) h (by omega) wt
        by_cases hok : OKJ l (bt t)
        · obtain ⟨at', size, g3, _, _⟩ := g1 hok
          rw [g3]
          simp only [Option.bind_some, cond_true]
          refine ⟨t, rfl, wt, hok, fun hlt => ?_⟩
          by_cases hmt : m = t
          · exact hmt.symm
          · have hqm := hI (by omega)
            subst hqm
            have := cnt_le (n := 32) (mbits t hok)
            omega
        · rw [g2 hok]
          simp only [Option.bind_some, cond_false]
          refine ⟨q, rfl, keep fun hmt => ?_⟩
          subst hmt
          exact absurd okm hok
    | false =>
      simp only [Bool.not_false, cond_true]
      refine ⟨q, rfl, keep fun hmt => ?_⟩
      subst hmt
      rw [(in_iff wm wj).2 (mbits j okj)] at hin
      cases hin) nf 0 j (by omega) (by omega) (by omega) ⟨wj, okj, fun hlt => by have := wm.1; omega⟩
  have e2 := h4 (by omega)
  subst e2
  refine Eq.trans h3 ?_
  show ref_FewLong_l2 nf l j (fu' + 1) q (N : Int) = _
  rw [ref_FewLong_l2, ref_FewLong_b2, hshl]
  simp

/-- all that lies in 0 .. n -/
def jin (n : Int) (l : List Int) : Bool := l.all fun x => decide (0 ≤ x) && decide (x < n)
theorem jinside_F (n x : Int) (hn : 40 ≤ nf) : ref_Inside_f nf n [x] = some (decide (0 ≤ x) && decide (x < n), ()) := by
  obtain ⟨k, rfl⟩ : ∃ k, nf = k + 2 := ⟨nf - 2, by omega⟩
  rw [ref_Inside_f, ref_Inside_p, ref_Inside_l0, ref_Inside_b0, ref_Inside_l0, ref_Inside_b0]
  have w1 : IntKind.i64.wrap (0 + 1) = 1 := jw (by omega) (by omega)
  rw [w1]
  by_cases h1 : 0 ≤ x
  · have h2 : ¬ x < 0 := by omega
    by_cases h3 : x < n
    · have h4 : ¬ x ≥ n := by omega
      simp [h1, h2, h3, h4, inb]
    · have h4 : x ≥ n := by omega
      simp [h2, h3, h4, inb]
  · have h2 : x < 0 := by omega
    simp [h1, h2, inb]

def pcCode (n : Int) (p : Pc) : Int := if p.2.1 = true then (if 0 ≤ p.2.2.1 ∧ p.2.2.1 ≤ n then 0 else 2) else (if 0 ≤ p.1 ∧ p.1 ≤ 200 then 0 else 4)
def pcGo (n : Int) : List Pc → Int
  | [] => 0
  | p :: r => if pcCode n p = 0 then pcGo n r else pcCode n p
def pcsCode (l : List Pc) : Int := if (l.length : Int) > 10 then 1 else pcGo l.length l

theorem jwrong_l0 {l : List Pc} (hl : l.length ≤ 10) (hn : 40 ≤ nf) : ∀ (fu : Nat) (t : Int), 0 ≤ t → t ≤ l.length → l.length < t + fu →
    jump_wrong_l0 nf l fu t = some (pcGo l.length (l.drop t.toNat), ()) ∧ ref_PieceCheck_l0 nf l fu t = some (pcGo l.length (l.drop t.toNat), ()) := by
  intro fu
  induction fu with
  | zero => intro t h0 h1 h2; omega
  | succ fu ih =>
    intro t h0 h1 h2
    rw [jump_wrong_l0, jump_wrong_b0, ref_PieceCheck_l0, ref_PieceCheck_b0]
    by_cases ht : t < l.length
    · obtain ⟨i1, i2⟩ := ih (t + 1) (by omega) (by omega) (by omega)
      simp only [ht, decide_true, cond_true, inb_ok h0 ht, jw (x := t + 1) (by omega) (by omega), i1, i2, drop_step l t (0, false, 0, ()) h0 ht, pcGo, pcCode, jw (x := (l.length : Int) + 1) (by omega) (by omega), jinside_F (nf := nf) _ _ hn, Option.bind_some]
      generalize l.getD t.toNat (0, false, 0, ()) = p
      obtain ⟨sz, j, to, u⟩ := p
      cases j with
      | true =>
        by_cases c1 : to < 0
        · have : ¬ 0 ≤ to := by omega
          simp [c1, this]
        · by_cases c2 : to > l.length
          · have : ¬ to ≤ l.length := by omega
            have : ¬ to < (l.length : Int) + 1 := by omega
            simp [*]
          · have e1 : 0 ≤ to := by omega
            have e2 : to ≤ l.length := by omega
            have e3 : to < (l.length : Int) + 1 := by omega
            simp [c1, c2, e1, e2, e3]
      | false =>
        by_cases c1 : sz < 0
        · have : ¬ 0 ≤ sz := by omega
          simp [c1, this]
        · by_cases c2 : sz > 200
          · have : ¬ sz ≤ 200 := by omega
            simp [c1, c2, this]
          · have e1 : 0 ≤ sz := by omega
            have e2 : sz ≤ 200 := by omega
            simp [c1, c2, e1, e2]
    · simp [ht, List.drop_eq_nil_of_le (show l.length ≤ t.toNat by omega), pcGo]

theorem pcGo_ok {n : Int} : ∀ {l : List Pc}, pcGo n l = 0 → ∀ p ∈ l, (p.2.1 = true → 0 ≤ p.2.2.1 ∧ p.2.2.1 ≤ n) ∧ (p.2.1 = false → 0 ≤ p.1 ∧ p.1 ≤ 200)
  | [], _, p, hp => by cases hp
  | q :: r, h, p, hp => by
    simp only [pcGo] at h
    split at h
    · rename_i h1
      rcases List.mem_cons.1 hp with rfl | hp
      · unfold pcCode at h1
        cases hj : p.2.1 with
        | true =>
          rw [hj, if_pos rfl] at h1
          split at h1
          · rename_i h2; exact ⟨fun _ => h2, fun h => by cases h⟩
          · omega
        | false =>
          rw [hj, if_neg (by simp)] at h1
          split at h1
          · rename_i h2; exact ⟨fun h => (by cases h), fun _ => h2⟩
          · omega
      · exact pcGo_ok h p hp
    · omega

theorem jints_F (a : List Int) (hl : a.length ≤ 20) (hf : 40 ≤ nf) : ref_Ints_f nf a a = some (true, ()) := by
  simp only [ref_Ints_f, ref_Ints_p, bne_self_eq_false, cond_false]
  have key : ∀ (fu : Nat) (t : Int), 0 ≤ t → t ≤ a.length → a.length < t + fu → ref_Ints_l0 nf a a fu t = some (true, ()) := by
    intro fu
    induction fu with
    | zero => intro t h1 h2 h3; omega
    | succ fu ih =>
      intro t h1 h2 h3
      rw [ref_Ints_l0, ref_Ints_b0]
      by_cases ht : t < a.length
      · rw [inb_ok h1 ht, jw (x := t + 1) (by omega) (by omega), ih (t + 1) (by omega) (by omega) (by omega)]
        simp [ht]
      · simp [ht]
  exact key nf 0 (by omega) (by omega) (by omega)

/-- the first sizes -/
theorem jlay_l0 {l : List Pc} (h : PcOK l) (hn : 40 ≤ nf) : ∃ size, jump_Lay_l0 nf l nf [] 0 = jump_Lay_l2 nf l nf size true ∧ Rep size l.length (szJ l fun _ => false) := by
  have hfew := h.few
  obtain ⟨fu', q, h1, h3⟩ := loop_inv (n := (l.length : Int)) (F := fun fu t (q : List Int) => jump_Lay_l0 nf l fu q t) (fun t q => Rep q t.toNat (szJ l fun _ => false)) (by
    intro fu t q t0 t1 hI
    have hpc : l.getD t.toNat (0, false, 0, ()) = pcAt l t.toNat := rfl
    refine ⟨q ++ [szJ l (fun _ => false) t.toNat], ?_, ?_⟩
    · show jump_Lay_l0 nf l (fu + 1) q t = _
      rw [jump_Lay_l0, jump_Lay_b0]
      have js : ∀ y : Int, (bimp false (![y].isEmpty) && Nat.ble (q.length + [y].length) lim) = true := fun y => jble hI.1 (show t.toNat ≤ 100 by omega)
      simp only [t1, decide_true, cond_true, inb_ok t0 t1, hpc, jw (x := t + 1) (by omega) (by omega), js]
      unfold szJ
      cases hj : (pcAt l t.toNat).2.1 with
      | false => simp only [cond_false, show (Bool.false = true) = False by simp, if_false]
      | true =>
        simp only [cond_true, show (Bool.false = true) = False by simp, if_false, if_true]
        exact (congrArg (fun b => bif b then _ else none) (js 2)).trans rfl
    · rw [show (t + 1).toNat = t.toNat + 1 by omega]
      exact hI.append rfl) nf 0 [] (by omega) (by omega) (by omega) ⟨rfl, fun i hi => (by simp at hi)⟩
  rw [Int.toNat_natCast] at h1
  refine ⟨q, Eq.trans h3 ?_, h1⟩
  show jump_Lay_l0 nf l (fu' + 1) q l.length = _
  rw [jump_Lay_l0, jump_Lay_b0]
  simp

theorem jumpLays_aux (l : List Pc) : law_JumpLays_f 1300 l = some (true, ()) := by
  simp only [law_JumpLays_f, law_JumpLays_p, jump_Lay_f, jump_Lay_p, jump_wrong_f, jump_wrong_p, ref_PieceCheck_f, ref_PieceCheck_p]
  by_cases h1 : (l.length : Int) > 10
  · simp [h1]
  · obtain ⟨c1, c2⟩ := jwrong_l0 (nf := 1300) (l := l) (by omega) (by omega) 1300 0 (by omega) (by omega) (by omega)
    rw [c1, c2]
    simp only [h1, decide_false, cond_false, Option.bind_some, Int.toNat_zero, List.drop_zero]
    by_cases h2 : pcGo l.length l = 0
    · have hp : PcOK l := by
        have := pcGo_ok h2
        have hm : ∀ i, i < l.length → pcAt l i ∈ l := fun i hi => by
          have := getD_mem (l := l) (t := (i : Int)) (d := ((0 : Int), false, (0 : Int), ())) (by omega) (by omega)
          simpa [pcAt] using this
        exact ⟨by omega, fun i hi hj => (this _ (hm i hi)).1 hj, fun i hi hj => (this _ (hm i hi)).2 hj⟩
      obtain ⟨size, e1, e2⟩ := jlay_l0 (nf := 1300) hp (by omega)
      obtain ⟨M, at1, size1, g1, hM, g2, g3⟩ := lay_l2 (nf := 1300) hp (by omega) 1300 (fun _ => false) size true (by simp only [if_true]; omega) (by omega) e2 (fun S _ i _ h => by cases h) (fun i h => by cases h) (fun h => by cases h)
      obtain ⟨m, wm, hm, f1⟩ := few_F (nf := 1300) hp (by omega) hM
      have hmf : bt m = M := funext hm
      obtain ⟨at2, size2, f2, f3, f4⟩ := (lays_F (nf := 1300) hp (by omega) wm).1 (by rw [hmf]; exact hM.ok)
      rw [hmf] at f3 f4
      have e3 := g2.eq f3
      have e4 := g3.eq f4
      subst e3 e4
      rw [h2, e1, g1, f1]
      simp only [show ((0 : Int) != 0) = false from rfl, show ((0 : Int) == 0) = true from rfl, cond_false, cond_true, Option.bind_some, f2]
      rw [jints_F at1 (by rw [g2.1]; omega) (by omega), jints_F size1 (by rw [g3.1]; omega) (by omega)]
      rfl
    · simp [bne_t h2]

theorem jumpLays_law (x : denPs (lawPs [.sl (.pair (.int .i64) (.pair .bool (.pair (.int .i64) .unit)))])) (h : wfPs [.sl (.pair (.int .i64) (.pair .bool (.pair (.int .i64) .unit)))] x) : ∃ n, law_JumpLays_F n x = some (true, ()) := by
  obtain ⟨l, _⟩ := x
  exact ⟨_, jumpLays_aux l⟩
end Go.Proofs.Ytgbldmehdipfaaa
