/- The document's fewest misses, over all sets that can be there; and hold.Min tells as many. -/
import Derived.Test.YtoglkjmdloppcaaHoldMin
import Derived.Test.YtoglkjmdloppcaaMaps
namespace Go.Proofs.Ytoglkjmdloppcaa
open Go Go.Ab S

variable {nf : Nat} {names refs : List Int} {places : Int}

theorem pbit_F (nf : Nat) {w i : Int} (hw : W32 w) (h0 : 0 ≤ i) (h : i < 32) : ref_Bit_f nf w i = some (bt w i.toNat, ()) := by
  simp only [ref_Bit_f, ref_Bit_p]
  have h1 := and_one hw h0 h
  unfold and32 at h1
  rw [Go.IntWalk.u64_in i ⟨h0, by omega⟩]
  simp only [ge_iff_le, h0, h, decide_true, cond_true]
  rw [h1]
theorem psize_F (hn : 300 ≤ nf) {s : Int} (hs : W32 s) : ref_Size_f nf s = some (((cnt (bt s) 32 : Nat) : Int), ()) := by
  simp only [ref_Size_f, ref_Size_p]
  have key := loop_inv (n := (32 : Int)) (F := fun fu t (q : Int) => ref_Size_l0 nf s fu q t)
    (fun t q => q = ((cnt (bt s) t.toNat : Nat) : Int)) ?_ nf 0 0 (Int.le_refl _) (by omega) (by omega) rfl
  · obtain ⟨fu', q, h1, h5⟩ := key
    subst h1
    rw [h5, ref_Size_l0, ref_Size_b0]
    simp
  · rintro fu t q ht0 ht1 rfl
    have hc := cnt_n (bt s) t.toNat
    have e : cnt (bt s) (t.toNat + 1) = cnt (bt s) t.toNat + (if bt s t.toNat = true then 1 else 0) := rfl
    refine ⟨_, ?_, rfl⟩
    rw [show (t + 1).toNat = t.toNat + 1 by omega, e, ref_Size_l0, ref_Size_b0, pbit_F nf hs ht0 ht1, wrapI (by omega) (by omega : t + 1 ≤ 1000000), wrapI (by omega) (by omega : ((cnt (bt s) t.toNat : Nat) : Int) + 1 ≤ 1000000)]
    simp only [ht1, decide_true, cond_true, Option.bind_some]
    cases bt s t.toNat <;> simp
theorem phas_F (l : List Int) (x : Int) (hl : l.length ≤ maxLen) (hf : l.length < nf) : ref_Has_f nf l x = some (decide (x ∈ l), ()) := by
  have key := loop_first (n := (l.length : Int)) (F := fun fu t => ref_Has_l0 nf l x fu t) (hit := fun _ => some (true, ())) (miss := some (false, ())) (fun t => decide (l.getD t.toNat 0 = x)) (fun fu t h0 ht => by
    rw [ref_Has_l0, ref_Has_b0, inb_ok h0 ht, wrap_step h0 ht hl]
    simp only [ht, decide_true, cond_true]
    by_cases h : l.getD t.toNat 0 = x
    · rw [h, decide_eq_true rfl, beq_self_eq_true]
    · rw [decide_eq_false h, beq_f (fun e => h e.symm)]) (fun fu => by
    rw [ref_Has_l0, ref_Has_b0]
    simp only [Int.lt_irrefl, decide_false, cond_false]) nf 0 (by omega) (by omega) (by omega)
  simp only [ref_Has_f, ref_Has_p]
  rw [key, show ((l.length : Int) - 0).toNat = l.length by omega]
  cases hq : findFrom (fun t => decide (l.getD t.toNat 0 = x)) l.length 0 with
  | none =>
    have hno : ¬ x ∈ l := fun hx => by
      obtain ⟨i, hi, rfl⟩ := List.mem_iff_getElem.1 hx
      have h1 := findFrom_none hq i (by omega) (by omega)
      rw [Int.toNat_natCast, getD_el _ hi] at h1
      simp at h1
    rw [decide_eq_false hno]
  | some i =>
    obtain ⟨a, b, c⟩ := findFrom_some hq
    rw [decide_eq_true_eq] at c
    have hx : x ∈ l := c ▸ getD_mem a (by omega)
    rw [decide_eq_true hx]
theorem nodup_len : ∀ (m : Nat) (l : List Int), l.Nodup → (∀ x ∈ l, 0 ≤ x ∧ x < (m : Int)) → l.length ≤ m
  | 0, [], _, _ => Nat.le_refl _
  | 0, x :: l, _, h => by have := h x (by simp); omega
  | m + 1, l, hn, h => by
    have ih := nodup_len m (l.erase (m : Int)) (hn.erase _) fun x hx => by
      rw [hn.mem_erase_iff] at hx
      have := h x hx.2
      omega
    by_cases hm : (m : Int) ∈ l
    · rw [List.length_erase_of_mem hm] at ih; omega
    · rw [List.erase_of_not_mem hm] at ih; omega

/-! words and sets -/
def Gw (N : Nat) (w : Int) : Prop := W32 w ∧ ∀ i, bt w i = true → i < N
theorem or_add {w : Int} (hw : W32 w) {i : Nat} (hi : i < 32) : bt (or32 w (shlI .u32 1 (i : Int))) = addS (bt w) i := by
  funext j
  rw [or32_bt hw (one_w (by omega) (by omega)), one_bt (by omega) (by omega), Int.toNat_natCast]; rfl
theorem sub_del {w : Int} (hw : W32 w) {i : Nat} (hi : i < 32) (hb : bt w i = true) : W32 (IntKind.u32.wrap (w - shlI .u32 1 (i : Int))) ∧ bt (IntKind.u32.wrap (w - shlI .u32 1 (i : Int))) = delS (bt w) i := by
  have h1 := one_w (i := (i : Int)) (by omega) (by omega)
  have hob := one_bt (i := (i : Int)) (by omega) (by omega)
  rw [Int.toNat_natCast] at hob
  have hu : ∀ j, bt (not32 w (shlI .u32 1 (i : Int))) j = delS (bt w) i j := fun j => by rw [not32_bt hw h1, hob]; rfl
  have huw := not32_w w (shlI .u32 1 (i : Int))
  generalize not32 w (shlI .u32 1 (i : Int)) = u at hu huw
  generalize shlI .u32 1 (i : Int) = o at h1 hob
  have hand : (BitVec.ofInt 32 u &&& BitVec.ofInt 32 o) = 0#32 := BitVec.eq_of_getLsbD_eq fun j hj => by
    rw [BitVec.getLsbD_and, ofInt_bt huw, ofInt_bt h1, hu, hob, BitVec.getLsbD_zero]
    by_cases hji : j = i
    · rw [hji, del_eq]; rfl
    · simp [hji]
  have hadd := BitVec.add_eq_or_of_and_eq_zero _ _ hand
  have hor : (BitVec.ofInt 32 u ||| BitVec.ofInt 32 o).toNat = w.toNat := Nat.eq_of_testBit_eq fun j => by
    rw [BitVec.testBit_toNat, BitVec.getLsbD_or, ofInt_bt huw, ofInt_bt h1, hu, hob]
    show _ = bt w j
    by_cases hji : j = i
    · rw [hji, del_eq, hb]; simp
    · rw [del_ne hji]; simp [hji]
  have hsum : (u.toNat + o.toNat) % 2 ^ 32 = w.toNat := by
    rw [← hor, ← hadd, BitVec.toNat_add, ofInt_nat huw, ofInt_nat h1]
  have hle : u.toNat ≤ w.toNat := by
    have e : u.toNat &&& w.toNat = u.toNat := Nat.eq_of_testBit_eq fun j => by
      rw [Nat.testBit_and]
      show (bt u j && bt w j) = bt u j
      rw [hu]
      cases hd : delS (bt w) i j with
      | false => rfl
      | true => rw [(Go.Ab.del_t.1 hd).1]; rfl
    rw [← e]; exact Nat.and_le_right
  have := huw.lt; have := h1.lt; have := hw.lt
  have hws : IntKind.u32.wrap (w - o) = u := by
    have a1 := huw.1; have a2 := h1.1; have a3 := hw.1
    have : w - o = u := by omega
    rw [this]; exact huw.wrap
  rw [hws]
  exact ⟨huw, funext hu⟩
theorem cnt_word {N : Nat} (hN : N ≤ 20) {w : Int} (hw : Gw N w) : cnt (bt w) 32 = cnt (bt w) N := by
  have := cnt_cut (p := bt w) (n := N) (fun k hk => by
    cases h : bt w k with
    | false => rfl
    | true => have := hw.2 k h; omega) (32 - N)
  rw [← this, show N + (32 - N) = 32 by omega]
theorem gw_small {N : Nat} (hN : N ≤ 20) {w : Int} (hw : Gw N w) : 0 ≤ w ∧ w < ((1048576 : Nat) : Int) := by
  refine ⟨hw.1.1, ?_⟩
  have := hw.1.small (n := 20) fun k hk => by
    cases h : bt w k with
    | false => rfl
    | true => have := hw.2 k h; omega
  exact this

/-! the maps -/
abbrev Mp := List (Int × Int)
abbrev gM (m : Mp) (w : Int) : Option Int := getM (.int .u32) (.int .i64) m w
abbrev iM (m : Mp) (w k : Int) : Mp := insM (.int .u32) (.int .i64) m w k
theorem g_ins (m : Mp) (y v z : Int) : gM (iM m y v) z = if y = z then some v else gM m z := by
  by_cases h : y = z
  · subst h; rw [if_pos rfl]; exact getM_ins_same (k := .int .u32) (e := .int .i64) rfl m y v
  · rw [if_neg h]; exact getM_ins_ne (k := .int .u32) (e := .int .i64) rfl m v h
theorem ins_keys : ∀ (m : Mp) (y v : Int), (iM m y v).map Prod.fst = if y ∈ m.map Prod.fst then m.map Prod.fst else m.map Prod.fst ++ [y]
  | [], y, v => by simp [iM, insM]
  | p :: r, y, v => by
    have h1 := ins_keys r y v
    simp only [iM, insM]
    cases hq : eqD (.int .u32) p.1 y with
    | true =>
      have e : p.1 = y := (eqD_iff (k := .int .u32) rfl _ _).1 hq
      simp only
      rw [List.map_cons, List.map_cons, if_pos (by rw [e]; simp), e]
    | false =>
      have e : p.1 ≠ y := fun h => by rw [(eqD_iff (k := .int .u32) rfl _ _).2 h] at hq; cases hq
      simp only
      rw [List.map_cons, List.map_cons, h1]
      by_cases hm : y ∈ r.map Prod.fst
      · rw [if_pos hm, if_pos (by simp only [List.mem_cons]; exact .inr hm)]
      · rw [if_neg hm, if_neg (by simp only [List.mem_cons]; rintro (h | h); exact e h.symm; exact hm h)]; rfl
theorem g_cons (p : Int × Int) (r : Mp) (y : Int) : gM (p :: r) y = if p.1 = y then some p.2 else gM r y := by
  simp only [gM, getM]
  cases hq : eqD (.int .u32) p.1 y with
  | true => rw [if_pos ((eqD_iff (k := .int .u32) rfl _ _).1 hq)]
  | false => rw [if_neg fun h => by rw [(eqD_iff (k := .int .u32) rfl _ _).2 h] at hq; cases hq]
theorem g_mem : ∀ {m : Mp} {w k : Int}, gM m w = some k → (w, k) ∈ m
  | [], w, k, h => by simp [gM, getM] at h
  | p :: r, w, k, h => by
    rw [g_cons] at h
    by_cases hp : p.1 = w
    · rw [if_pos hp] at h
      cases h
      rw [← hp]; simp
    · rw [if_neg hp] at h
      exact List.mem_cons_of_mem _ (g_mem h)
theorem mem_g : ∀ {m : Mp}, (m.map Prod.fst).Nodup → ∀ {e : Int × Int}, e ∈ m → gM m e.1 = some e.2
  | p :: r, hn, e, he => by
    rw [List.map_cons, List.nodup_cons] at hn
    rw [g_cons]
    rcases List.mem_cons.1 he with rfl | he
    · rw [if_pos rfl]
    · rw [if_neg fun h => hn.1 (by rw [h]; exact List.mem_map_of_mem he)]
      exact mem_g hn.2 he
structure DM (m : Mp) (P : Int → Int → Prop) : Prop where
  nod : (m.map Prod.fst).Nodup
  ok : ∀ w k, gM m w = some k → P w k
def Cov (m : Mp) (s : Sset) (b : Int) : Prop := ∃ w k, gM m w = some k ∧ bt w = s ∧ k ≤ b
def putM (m : Mp) (w k : Int) : Mp := match gM m w with
  | none => iM m w k
  | some o => if k < o then iM m w k else m
theorem put_F (m : Mp) (w k : Int) : ref_Fewest_1_f nf w k m = some (some (putM m w k), ()) := by
  simp only [ref_Fewest_1_f, ref_Fewest_1_p]
  unfold putM
  cases h : gM m w with
  | none =>
    have h' : getM (.int .u32) (.int .i64) m w = none := h
    rw [h']; rfl
  | some o =>
    have h' : getM (.int .u32) (.int .i64) m w = some o := h
    rw [h']
    simp only [Option.isSome_some, Bool.not_true, cond_false, Option.getD_some]
    by_cases hk : k < o
    · rw [decide_eq_true hk, if_pos hk]; rfl
    · rw [decide_eq_false hk, if_neg hk]; rfl
theorem put_ok {m : Mp} {P : Int → Int → Prop} (h : DM m P) {w k : Int} (hp : P w k) : DM (putM m w k) P := by
  have hi : DM (iM m w k) P := by
    refine ⟨?_, fun v o hv => ?_⟩
    · rw [ins_keys]
      split
      · exact h.nod
      · rename_i hn
        refine List.nodup_append.2 ⟨h.nod, by simp, fun a ha b hb e => ?_⟩
        rw [List.mem_singleton] at hb
        subst hb e
        exact hn ha
    · rw [g_ins] at hv
      split at hv
      · rename_i he
        cases hv
        rw [← he]; exact hp
      · exact h.ok v o hv
  unfold putM
  split
  · exact hi
  · split
    · exact hi
    · exact h
theorem put_cov {m : Mp} {w k : Int} {s : Sset} {b : Int} (h : Cov m s b) : Cov (putM m w k) s b := by
  obtain ⟨v, o, h1, h2, h3⟩ := h
  unfold putM
  split
  · rename_i hn
    refine ⟨v, o, ?_, h2, h3⟩
    rw [g_ins, if_neg fun e => by rw [e, h1] at hn; cases hn]; exact h1
  · rename_i o' ho
    split
    · rename_i hk
      by_cases he : w = v
      · rw [he, h1] at ho
        cases ho
        exact ⟨v, k, by rw [g_ins, if_pos he], h2, by omega⟩
      · exact ⟨v, o, by rw [g_ins, if_neg he]; exact h1, h2, h3⟩
    · exact ⟨v, o, h1, h2, h3⟩
theorem put_new {m : Mp} {w k : Int} : Cov (putM m w k) (bt w) k := by
  unfold putM
  split
  · exact ⟨w, k, by rw [g_ins, if_pos rfl], rfl, Int.le_refl _⟩
  · rename_i o ho
    split
    · exact ⟨w, k, by rw [g_ins, if_pos rfl], rfl, Int.le_refl _⟩
    · exact ⟨w, o, ho, rfl, by omega⟩

/-! names -/
theorem names_F (h20 : refs.length ≤ 20) (hf : 2000 ≤ nf) : ∃ names : List Int, names.Nodup ∧ (∀ x, x ∈ names ↔ x ∈ refs) ∧ names.length ≤ 20 ∧ ref_Fewest_f nf refs places = ref_Fewest_l2 nf refs places nf names (iM [] 0 0) 0 := by
  have hmx : (20 : Nat) ≤ maxLen := by decide
  obtain ⟨fu', s, ⟨s1, s2, s3⟩, e⟩ := loop_inv (n := (refs.length : Int)) (F := fun fu t (s : List Int) => ref_Fewest_l0 nf refs places fu s t) (fun t s => s.Nodup ∧ (∀ x, x ∈ s ↔ ∃ k : Nat, (k : Int) < t ∧ refs.getD k 0 = x) ∧ (s.length : Int) ≤ t) (fun fu t s t0 t1 hI => by
    obtain ⟨i1, i2, i3⟩ := hI
    have hw : IntKind.i64.wrap (t + 1) = t + 1 := wrapI (by omega) (by omega)
    have hb : Nat.ble (s.length + 1) lim = true := ble_ok (by omega)
    have hstep : ref_Fewest_l0 nf refs places (fu + 1) s t = ref_Fewest_l0 nf refs places fu (if refs.getD t.toNat 0 ∈ s then s else s ++ [refs.getD t.toNat 0]) (t + 1) := by
      rw [ref_Fewest_l0, ref_Fewest_b0, inb_ok t0 t1, phas_F _ _ (by omega) (by omega), hw]
      simp only [t1, decide_true, cond_true, Option.bind_some]
      by_cases hm : refs.getD t.toNat 0 ∈ s
      · rw [decide_eq_true hm, if_pos hm]; rfl
      · rw [decide_eq_false hm, if_neg hm]
        simp only [Bool.not_false, cond_true, bimp, List.length_cons, List.length_nil, Nat.zero_add, hb, Bool.true_or, Bool.and_self]
    refine ⟨_, hstep, ?_, fun x => ?_, ?_⟩
    · split
      · exact i1
      · rename_i hn
        refine List.nodup_append.2 ⟨i1, by simp, fun a ha b hb e => ?_⟩
        rw [List.mem_singleton] at hb
        subst hb e
        exact hn ha
    · have hsp : (∃ k : Nat, (k : Int) < t + 1 ∧ refs.getD k 0 = x) ↔ (∃ k : Nat, (k : Int) < t ∧ refs.getD k 0 = x) ∨ refs.getD t.toNat 0 = x := by
        constructor
        · rintro ⟨k, h1, h2⟩
          by_cases hk : (k : Int) < t
          · exact .inl ⟨k, hk, h2⟩
          · have : k = t.toNat := by omega
            rw [this] at h2; exact .inr h2
        · rintro (⟨k, h1, h2⟩ | h)
          · exact ⟨k, by omega, h2⟩
          · exact ⟨t.toNat, by omega, h⟩
      rw [hsp, ← i2]
      split
      · rename_i hm
        exact ⟨.inl, fun h => h.elim id fun e => e ▸ hm⟩
      · rw [List.mem_append, List.mem_singleton]
        exact ⟨fun h => h.imp id Eq.symm, fun h => h.imp id Eq.symm⟩
    · split
      · omega
      · rw [List.length_append, List.length_singleton]; omega) nf 0 [] (by omega) (by omega) (by omega) ⟨by simp, fun x => ⟨fun h => (by cases h), fun ⟨k, h, _⟩ => absurd h (by omega)⟩, by simp⟩
  refine ⟨s, s1, fun x => ?_, by omega, ?_⟩
  · rw [s2]
    constructor
    · rintro ⟨k, h1, rfl⟩
      rw [getD_el _ (by omega : k < refs.length)]
      exact List.getElem_mem _
    · intro h
      obtain ⟨k, hk, rfl⟩ := List.mem_iff_getElem.1 h
      exact ⟨k, by omega, getD_el _ hk⟩
  · simp only [ref_Fewest_f, ref_Fewest_p]
    rw [e, ref_Fewest_l0, ref_Fewest_b0]
    simp only [Int.lt_irrefl, decide_false, cond_false]

theorem bit_l4 (hn : names.Nodup) (h20 : names.length ≤ 20) (hf : 2000 ≤ nf) {t : Nat} (hr : refs.getD t 0 ∈ names) {now : Mp} {g2 : List Int → Mp → Int → Option (Int × Unit)} :
    ref_Fewest_l4 nf refs places t names g2 nf names now 0 0 = ref_Fewest_l6 nf refs places (shlI .u32 1 ((ixo names (refs.getD t 0) : Nat) : Int)) t g2 nf names now [] now := by
  obtain ⟨x1, x2⟩ := ixo_in hr
  obtain ⟨fu', s, ⟨s1, s2, s3⟩, e⟩ := loop_inv (n := (names.length : Int)) (F := fun fu k (s : List Int × Mp × Int) => ref_Fewest_l4 nf refs places t names g2 fu s.1 s.2.1 s.2.2 k) (fun k s => s.1 = names ∧ s.2.1 = now ∧ s.2.2 = if ((ixo names (refs.getD t 0) : Nat) : Int) < k then shlI .u32 1 ((ixo names (refs.getD t 0) : Nat) : Int) else 0) (fun fu k s k0 k1 hI => by
    obtain ⟨a, b, c⟩ := s
    obtain ⟨i1, i2, i3⟩ := hI
    simp only at i1 i2 i3
    subst i1 i2
    have hw : IntKind.i64.wrap (k + 1) = k + 1 := wrapI (by omega) (by omega)
    have hu : IntKind.u64.wrap k = k := wrap_u64 k0 (by omega)
    by_cases he : a.getD k.toNat 0 = refs.getD t 0
    · have hk : k.toNat = ixo a (refs.getD t 0) := nod_inj hn (by omega) x1 (he.trans x2.symm)
      refine ⟨(a, b, shlI .u32 1 k), ?_, rfl, rfl, ?_⟩
      · simp only
        rw [ref_Fewest_l4, ref_Fewest_b4, inb_ok k0 k1, Int.toNat_natCast, he, hw, hu]
        simp only [k1, k0, decide_true, cond_true, beq_self_eq_true]
      · simp only
        rw [if_pos (by omega), show ((ixo a (refs.getD t 0) : Nat) : Int) = k by omega]
    · refine ⟨(a, b, c), ?_, rfl, rfl, ?_⟩
      · simp only
        rw [ref_Fewest_l4, ref_Fewest_b4, inb_ok k0 k1, Int.toNat_natCast, beq_f he, hw]
        simp only [k1, decide_true, cond_true, cond_false]
      · have hk : k.toNat ≠ ixo a (refs.getD t 0) := fun h => he (by rw [h]; exact x2)
        simp only
        rw [i3]
        by_cases hc : ((ixo a (refs.getD t 0) : Nat) : Int) < k
        · rw [if_pos hc, if_pos (by omega)]
        · rw [if_neg hc, if_neg (by omega)]) nf 0 (names, now, 0) (by omega) (by omega) (by omega) ⟨rfl, rfl, by rw [if_neg (by omega)]⟩
  obtain ⟨a, b, c⟩ := s
  simp only at s1 s2 s3 e
  subst s1 s2
  rw [if_pos (by omega)] at s3
  rw [e, ref_Fewest_l4, ref_Fewest_b4, s3]
  simp only [Int.lt_irrefl, decide_false, cond_false]

/-! one request -/
def PT' (p N : Nat) (ri : List Nat) (t : Nat) (w k : Int) : Prop := Gw N w ∧ 0 ≤ k ∧ k ≤ 100 ∧ Rc p N ri t (bt w) k.toNat

theorem few_l8 (h20 : names.length ≤ 20) (hf : 2000 ≤ nf) {ri : List Nat} {t ir : Nat} (hir : ri.getD t 0 = ir) (hirN : ir < names.length) (ht : t < 50) {w k : Int} (hP : PT' places.toNat names.length ri t w k) (hk : k ≤ 50) (hr : bt w ir = false) (hfull : ¬ cnt (bt w) names.length < places.toNat)
    {rem now next : Mp} {i : Nat} (hi : rem.getD i (0, 0) = (w, k)) (hM : DM next (PT' places.toNat names.length ri (t + 1))) {g6 : List Int → Mp → Mp → Mp → Option (Int × Unit)} {g2 : List Int → Mp → Int → Option (Int × Unit)} {t41 : Int} :
    ∃ next', DM next' (PT' places.toNat names.length ri (t + 1)) ∧ (∀ s b, Cov next s b → Cov next' s b) ∧ (∀ z, bt w z = true → Cov next' (addS (delS (bt w) z) ir) (k + 1)) ∧
      ref_Fewest_l8 nf refs places (shlI .u32 1 (ir : Int)) rem i t41 g6 g2 nf names now next 0 = g6 names now next' (rem.eraseIdx i) := by
  obtain ⟨⟨hw, hwN⟩, hk0, hk1, hR⟩ := hP
  obtain ⟨fu', s, ⟨s1, s2, s3, s4, s5⟩, e⟩ := loop_inv (n := (names.length : Int)) (F := fun fu z (s : List Int × Mp × Mp) => ref_Fewest_l8 nf refs places (shlI .u32 1 (ir : Int)) rem i t41 g6 g2 fu s.1 s.2.1 s.2.2 z)
    (fun z s => s.1 = names ∧ s.2.1 = now ∧ DM s.2.2 (PT' places.toNat names.length ri (t + 1)) ∧ (∀ q b, Cov next q b → Cov s.2.2 q b) ∧ ∀ y : Nat, (y : Int) < z → bt w y = true → Cov s.2.2 (addS (delS (bt w) y) ir) (k + 1)) (fun fu z s z0 z1 hI => by
      obtain ⟨a, b, m⟩ := s
      obtain ⟨i1, i2, i3, i4, i5⟩ := hI
      simp only at i1 i2 i3 i4 i5
      subst i1 i2
      have hwz : IntKind.i64.wrap (z + 1) = z + 1 := wrapI (by omega) (by omega)
      have hwk : IntKind.i64.wrap (k + 1) = k + 1 := wrapI (by omega) (by omega)
      have hu : IntKind.u64.wrap z = z := wrap_u64 z0 (by omega)
      cases hb : bt w z.toNat with
      | false =>
        refine ⟨(a, b, m), ?_, rfl, rfl, i3, i4, fun y hy hyb => ?_⟩
        · simp only
          rw [ref_Fewest_l8, ref_Fewest_b8, hi, pbit_F nf hw z0 (by omega), hwz]
          simp only [z1, decide_true, cond_true, Option.bind_some, hb, cond_false]
        · by_cases hyz : (y : Int) < z
          · exact i5 y hyz hyb
          · have : y = z.toNat := by omega
            rw [this, hb] at hyb; cases hyb
      | true =>
        obtain ⟨d1, d2⟩ := sub_del hw (i := z.toNat) (by omega) hb
        rw [show ((z.toNat : Nat) : Int) = z by omega] at d1 d2
        have hbt : bt (or32 (IntKind.u32.wrap (w - shlI .u32 1 z)) (shlI .u32 1 (ir : Int))) = addS (delS (bt w) z.toNat) ir := by rw [or_add d1 (by omega), d2]
        have hnew : PT' places.toNat a.length ri (t + 1) (or32 (IntKind.u32.wrap (w - shlI .u32 1 z)) (shlI .u32 1 (ir : Int))) (k + 1) := by
          refine ⟨⟨or32_w _ _, fun j hj => ?_⟩, by omega, by omega, ?_⟩
          · rw [hbt, add_t, Go.Ab.del_t] at hj
            rcases hj with hj | rfl
            · exact hwN j hj.1
            · exact hirN
          · rw [hbt]
            refine ⟨bt w, 1, k.toNat, hR, ?_, by omega⟩
            rw [hir]
            exact .inr (.inr ⟨hr, hfull, z.toNat, hb, rfl, rfl⟩)
        refine ⟨(a, b, putM m (or32 (IntKind.u32.wrap (w - shlI .u32 1 z)) (shlI .u32 1 (ir : Int))) (k + 1)), ?_, rfl, rfl, put_ok i3 hnew, fun q c hq => put_cov (i4 q c hq), fun y hy hyb => ?_⟩
        · simp only
          rw [ref_Fewest_l8, ref_Fewest_b8, hi, pbit_F nf hw z0 (by omega), hwz, hu, hwk]
          simp only [z1, z0, decide_true, cond_true, Option.bind_some, hb]
          rw [put_F]
          rfl
        · by_cases hyz : (y : Int) < z
          · exact put_cov (i5 y hyz hyb)
          · have : y = z.toNat := by omega
            subst this
            have := put_new (m := m) (w := or32 (IntKind.u32.wrap (w - shlI .u32 1 z)) (shlI .u32 1 (ir : Int))) (k := k + 1)
            rw [hbt] at this
            exact this) nf 0 (names, now, next) (by omega) (by omega) (by omega) ⟨rfl, rfl, hM, fun q b h => h, fun y hy => by omega⟩
  obtain ⟨a, b, m⟩ := s
  simp only at s1 s2 s3 s4 s5 e
  subst s1 s2
  refine ⟨m, s3, s4, fun z hz => s5 z (by have := hwN z hz; omega) hz, ?_⟩
  rw [e, ref_Fewest_l8, ref_Fewest_b8]
  simp only [Int.lt_irrefl, decide_false, cond_false]

theorem few_l6 (h20 : names.length ≤ 20) (hp1 : 1 ≤ places) (hf : 2000 ≤ nf) {ri : List Nat} {t ir : Nat} (hir : ri.getD t 0 = ir) (hirN : ir < names.length) (ht : t < 50) {now : Mp} (hnow : DM now (PT' places.toNat names.length ri t)) (hk50 : ∀ e ∈ now, e.2 ≤ 50)
    {g2 : List Int → Mp → Int → Option (Int × Unit)} {res : Int × Unit}
    (hg : ∀ next, DM next (PT' places.toNat names.length ri (t + 1)) → (∀ e ∈ now, ∀ s' c, Req places.toNat names.length ir (bt e.1) s' c → Cov next s' (e.2 + (c : Int))) → g2 names next ((t : Int) + 1) = some res) :
    ∀ (fu : Nat) (rem next : Mp) (dn : Mp), (∀ e ∈ now, e ∈ dn ∨ e ∈ rem) → (∀ e ∈ rem, e ∈ now) → DM next (PT' places.toNat names.length ri (t + 1)) → (∀ e ∈ dn, ∀ s' c, Req places.toNat names.length ir (bt e.1) s' c → Cov next s' (e.2 + (c : Int))) → rem.length < fu →
    ref_Fewest_l6 nf refs places (shlI .u32 1 (ir : Int)) t g2 fu names now next rem = some res
  | 0, _, _, _, _, _, _, _, h => by omega
  | fu + 1, rem, next, dn, h1, h2, hM, hD, hfu => by
    rw [ref_Fewest_l6, ref_Fewest_b6]
    cases rem with
    | nil =>
      simp only [List.isEmpty_nil, cond_true]
      rw [wrapI (by omega) (by omega : (t : Int) + 1 ≤ 1000000)]
      refine hg next hM fun e he => ?_
      rcases h1 e he with h | h
      · exact hD e h
      · cases h
    | cons p0 rest =>
      simp only [List.isEmpty_cons, cond_false]
      refine agree_of (by simp) fun i hi => ?_
      obtain ⟨e, hee⟩ : ∃ e, e = (p0 :: rest)[i] := ⟨_, rfl⟩
      have hmem : e ∈ p0 :: rest := hee ▸ List.getElem_mem hi
      have hge : (p0 :: rest).getD i (0, 0) = e := by rw [hee]; simp only [List.getD_eq_getElem?_getD, List.getElem?_eq_getElem hi, Option.getD_some]
      obtain ⟨w, k⟩ := e
      have hP := hnow.ok w k (mem_g hnow.nod (h2 _ hmem))
      have hk5 : k ≤ 50 := hk50 _ (h2 _ hmem)
      obtain ⟨⟨hw, hwN⟩, hk0, hk1, hR⟩ := id hP
      -- go on with what was put
      have go : ∀ next', DM next' (PT' places.toNat names.length ri (t + 1)) → (∀ s b, Cov next s b → Cov next' s b) → (∀ s' c, Req places.toNat names.length ir (bt w) s' c → Cov next' s' (k + (c : Int))) →
          ref_Fewest_l6 nf refs places (shlI .u32 1 (ir : Int)) t g2 fu names now next' ((p0 :: rest).eraseIdx i) = some res := by
        intro next' a1 a2 a3
        refine few_l6 h20 hp1 hf hir hirN ht hnow hk50 hg fu _ next' ((w, k) :: dn) (fun e he => ?_) (fun e he => h2 e (List.mem_of_mem_eraseIdx he)) a1 (fun e he => ?_) (by rw [List.length_eraseIdx]; split <;> omega)
        · rcases h1 e he with h | h
          · exact .inl (by simp [h])
          · obtain ⟨j, hj, hje⟩ := List.mem_iff_getElem.1 h
            by_cases hji : j = i
            · subst hji
              rw [← hee] at hje
              rw [← hje]; exact .inl (by simp)
            · exact .inr (List.mem_eraseIdx_iff_getElem.2 ⟨j, hj, hji, hje⟩)
        · rcases List.mem_cons.1 he with rfl | he
          · exact a3
          · exact fun s' c hr => a2 _ _ (hD e he s' c hr)
      simp only [hge]
      have hand := and_one hw (i := (ir : Int)) (by omega) (by omega)
      rw [Int.toNat_natCast] at hand
      unfold and32 at hand
      rw [hand]
      cases hb : bt w ir with
      | true =>
        simp only [cond_true]
        rw [put_F]
        simp only [Option.bind_some]
        refine go _ (put_ok hM ⟨⟨hw, hwN⟩, hk0, hk1, bt w, 0, k.toNat, hR, by rw [hir]; exact .inl ⟨hb, rfl, rfl⟩, by omega⟩) (fun s b h => put_cov h) fun s' c hr => ?_
        rcases hr with ⟨_, rfl, rfl⟩ | ⟨h, _⟩ | ⟨h, _⟩
        · have := put_new (m := next) (w := w) (k := k)
          rw [show k + ((0 : Nat) : Int) = k by omega]; exact this
        · rw [hb] at h; cases h
        · rw [hb] at h; cases h
      | false =>
        simp only [cond_false]
        rw [psize_F (by omega) hw, cnt_word h20 ⟨hw, hwN⟩, Option.bind_some, wrapI (by omega) (by omega : k + 1 ≤ 1000000)]
        by_cases hc : ((cnt (bt w) names.length : Nat) : Int) < places
        · simp only [hc, decide_true, cond_true]
          rw [put_F]
          simp only [Option.bind_some]
          have hbt := or_add hw (i := ir) (by omega)
          refine go _ (put_ok hM ?_) (fun s b h => put_cov h) fun s' c hr => ?_
          · show PT' _ _ _ _ (or32 w (shlI .u32 1 (ir : Int))) (k + 1)
            refine ⟨⟨or32_w _ _, fun j hj => ?_⟩, by omega, by omega, bt w, 1, k.toNat, hR, ?_, by omega⟩
            · rw [hbt, add_t] at hj
              rcases hj with hj | rfl
              · exact hwN j hj
              · exact hirN
            · rw [hir, hbt]
              exact .inr (.inl ⟨hb, by omega, rfl, rfl⟩)
          · rcases hr with ⟨h, _⟩ | ⟨_, _, rfl, rfl⟩ | ⟨_, h, _⟩
            · rw [hb] at h; cases h
            · have := put_new (m := next) (w := or32 w (shlI .u32 1 (ir : Int))) (k := k + 1)
              rw [hbt] at this
              exact this
            · omega
        · simp only [hc, decide_false, cond_false]
          obtain ⟨next', a1, a2, a3, a4⟩ := few_l8 (nf := nf) (refs := refs) (now := now) h20 hf hir hirN ht hP hk5 hb (by omega) hge hM (g6 := fun names4 now3 next t62 => ref_Fewest_l6 nf refs places (shlI .u32 1 (ir : Int)) t g2 fu names4 now3 next t62) (g2 := g2) (t41 := (t : Int))
          rw [a4]
          refine go next' a1 a2 fun s' c hr => ?_
          rcases hr with ⟨h, _⟩ | ⟨_, h, _⟩ | ⟨_, _, z, hz, rfl, rfl⟩
          · rw [hb] at h; cases h
          · omega
          · exact a3 z hz

theorem few_l10 {G : Int} (hG : 0 ≤ G) {now : Mp} : ∀ (fu : Nat) (best : Int) (rem : Mp), (∀ e ∈ rem, G ≤ e.2) → ((best < 0 ∧ ∃ e ∈ rem, e.2 = G) ∨ (G ≤ best ∧ (best = G ∨ ∃ e ∈ rem, e.2 = G))) → rem.length < fu → ref_Fewest_l10 nf fu now best rem = some (G, ())
  | 0, _, _, _, _, h => by omega
  | fu + 1, best, rem, h1, h2, hfu => by
    rw [ref_Fewest_l10, ref_Fewest_b10]
    cases rem with
    | nil =>
      simp only [List.isEmpty_nil, cond_true]
      rcases h2 with ⟨_, e, he, _⟩ | ⟨_, h | ⟨e, he, _⟩⟩
      · cases he
      · rw [h]
      · cases he
    | cons p0 rest =>
      simp only [List.isEmpty_cons, cond_false]
      refine agree_of (by simp) fun i hi => ?_
      obtain ⟨e, hee⟩ : ∃ e, e = (p0 :: rest)[i] := ⟨_, rfl⟩
      have hmem : e ∈ p0 :: rest := hee ▸ List.getElem_mem hi
      have hge : (p0 :: rest).getD i (0, 0) = e := by rw [hee]; simp only [List.getD_eq_getElem?_getD, List.getElem?_eq_getElem hi, Option.getD_some]
      have hel := h1 e hmem
      have hlen : ((p0 :: rest).eraseIdx i).length < fu := by rw [List.length_eraseIdx]; split <;> omega
      have hsub : ∀ x ∈ (p0 :: rest).eraseIdx i, G ≤ x.2 := fun x hx => h1 x (List.mem_of_mem_eraseIdx hx)
      have hspl : ∀ x ∈ p0 :: rest, x = e ∨ x ∈ (p0 :: rest).eraseIdx i := fun x hx => by
        obtain ⟨j, hj, hje⟩ := List.mem_iff_getElem.1 hx
        by_cases hji : j = i
        · subst hji; exact .inl (hje.symm.trans hee.symm)
        · exact .inr (List.mem_eraseIdx_iff_getElem.2 ⟨j, hj, hji, hje⟩)
      have take : (∃ x ∈ p0 :: rest, x.2 = G) → ref_Fewest_l10 nf fu now e.2 ((p0 :: rest).eraseIdx i) = some (G, ()) := fun ⟨x, hx, hxG⟩ => by
        refine few_l10 hG fu e.2 _ hsub (.inr ⟨hel, ?_⟩) hlen
        rcases hspl x hx with rfl | h
        · exact .inl hxG
        · exact .inr ⟨x, h, hxG⟩
      simp only [hge]
      by_cases hb : best < 0
      · simp only [hb, decide_true, cond_true]
        rcases h2 with ⟨_, h⟩ | ⟨h, _⟩
        · exact take h
        · omega
      · simp only [hb, decide_false, cond_false]
        rcases h2 with ⟨h, _⟩ | ⟨h3, h4⟩
        · omega
        · by_cases hlt : e.2 < best
          · simp only [hlt, decide_true, cond_true]
            refine take (h4.resolve_left fun h => by omega)
          · simp only [hlt, decide_false, cond_false]
            refine few_l10 hG fu best _ hsub (.inr ⟨h3, ?_⟩) hlen
            rcases h4 with h4 | ⟨x, hx, hxG⟩
            · exact .inl h4
            · rcases hspl x hx with rfl | h
              · exact .inl (by omega)
              · exact .inr ⟨x, h, hxG⟩

theorem few_l2 (hn : names.Nodup) (hs : ∀ r ∈ refs, r ∈ names) (h20 : names.length ≤ 20) (hr20 : refs.length ≤ 20) (hp1 : 1 ≤ places) (hf : 2000000 ≤ nf) {g : Nat} (hg : Least places.toNat names.length (refs.map (ixo names)) (fun _ => false) g) :
    ∀ (fu t : Nat) (now : Mp), t ≤ refs.length → DM now (PT' places.toNat names.length (refs.map (ixo names)) t) → (∀ s m, Rc places.toNat names.length (refs.map (ixo names)) t s m → Cov now s (m : Int)) → refs.length < t + fu → ref_Fewest_l2 nf refs places fu names now t = some ((g : Int), ())
  | 0, t, now, h1, _, _, hfu => by omega
  | fu + 1, t, now, h1, hM, hC, hfu => by
    have hri : ∀ y ∈ refs.map (ixo names), y < names.length := fun y hy => by
      obtain ⟨z, hz, rfl⟩ := List.mem_map.1 hy
      exact (ixo_in (hs z hz)).1
    have hlen : now.length ≤ 1048576 := by
      have := nodup_len 1048576 (now.map Prod.fst) hM.nod fun x hx => by
        obtain ⟨e, he, rfl⟩ := List.mem_map.1 hx
        exact gw_small h20 (hM.ok _ _ (mem_g hM.nod he)).1
      rwa [List.length_map] at this
    rw [ref_Fewest_l2, ref_Fewest_b2]
    by_cases ht : t < refs.length
    · have htI : (t : Int) < (refs.length : Int) := by omega
      have hrn : refs.getD t 0 ∈ names := hs _ (by rw [getD_el _ ht]; exact List.getElem_mem ht)
      have hir : (refs.map (ixo names)).getD t 0 = ixo names (refs.getD t 0) := by
        simp only [List.getD_eq_getElem?_getD, List.getElem?_map, List.getElem?_eq_getElem ht, Option.map_some, Option.getD_some]
      rw [inb_ok (by omega) htI]
      simp only [htI, decide_true, cond_true]
      rw [bit_l4 hn h20 (by omega) hrn]
      refine few_l6 h20 hp1 (by omega) hir (ixo_in hrn).1 (by omega) hM (fun e he => ?_) (fun next a1 a2 => ?_) nf now [] [] (fun e he => .inr he) (fun e he => he) ⟨by simp, fun w k h => by simp [gM, getM] at h⟩ (fun e he => by cases he) (by omega)
      · obtain ⟨_, b0, _, b⟩ := hM.ok _ _ (mem_g hM.nod he)
        have := (rc_ok hri t _ _ (by rw [List.length_map]; omega) b).2
        omega
      · have := few_l2 hn hs h20 hr20 hp1 hf hg fu (t + 1) next (by omega) a1 (fun s' m' hR => ?_) (by omega)
        · exact this
        · obtain ⟨s, c, m, b1, b2, b3⟩ := hR
          obtain ⟨w, k, c1, c2, c3⟩ := hC s m b1
          rw [hir, ← c2] at b2
          obtain ⟨w', k', d1, d2, d3⟩ := a2 (w, k) (g_mem c1) s' c b2
          exact ⟨w', k', d1, d2, by simp only at d3; omega⟩
    · have htl : t = refs.length := by omega
      have hll : (refs.map (ixo names)).length = refs.length := List.length_map _
      have hlt : ¬ (t : Int) < (refs.length : Int) := by omega
      simp only [hlt, decide_false, cond_false]
      refine few_l10 (by omega) nf (-1) now (fun e he => ?_) (.inl ⟨by decide, ?_⟩) (by omega)
      · obtain ⟨_, b0, _, b⟩ := hM.ok _ _ (mem_g hM.nod he)
        have hpl := pl_of_rc t (bt e.1) e.2.toNat 0 (by omega) b (by rw [List.drop_of_length_le (by omega)]; rfl)
        have := hg.2 _ hpl
        omega
      · obtain ⟨s, hs'⟩ := rc_of_pl (refs.map (ixo names)).length 0 (fun _ => false) 0 g (by omega) ⟨rfl, rfl⟩ hg.1
        rw [Nat.zero_add, hll, ← htl] at hs'
        obtain ⟨w, k, c1, _, c3⟩ := hC s g hs'
        have he := g_mem c1
        obtain ⟨_, b0, _, b⟩ := hM.ok w k c1
        have hpl := pl_of_rc t (bt w) k.toNat 0 (by omega) b (by rw [List.drop_of_length_le (by omega)]; rfl)
        have := hg.2 _ hpl
        exact ⟨(w, k), he, by simp only; omega⟩

theorem holdLeasts_main (hf : 2000000 ≤ nf) (refs : List Int) (places : Int) : law_HoldLeasts_f nf refs places = some (true, ()) := by
  simp only [law_HoldLeasts_f, law_HoldLeasts_p, hold_Min_f, hold_Min_p, hold_wrong_f, hold_wrong_p, law_holdCode_f, law_holdCode_p]
  by_cases c1 : (refs.length : Int) > 20
  · simp [c1]
  · by_cases c2 : places < 1
    · simp [c1, c2]
    · by_cases c3 : places > 8
      · simp [c1, c2, c3]
      · obtain ⟨names, n1, n2, n3, n4⟩ := names_F (nf := nf) (places := places) (by omega : refs.length ≤ 20) (by omega)
        have hs : ∀ r ∈ refs, r ∈ names := fun r hr => (n2 r).2 hr
        obtain ⟨g, a, b⟩ := play_F (nf := nf) n1 hs (by omega) (by omega : 1 ≤ places) (by omega) (by omega) nf 0 [] 0 (by omega) (by simp) (by simp) (by simp; omega) (by omega) (by omega) (by omega)
        have he : setOf names [] = fun _ => false := by funext j; simp [setOf]
        rw [he, List.drop_zero] at b
        have h5 : bt 0 = fun _ => false := by funext j; exact bt_zero j
        have hf2 := few_l2 (nf := nf) n1 hs n3 (by omega) (by omega) hf b nf 0 (iM [] 0 0) (by omega) ⟨by simp [iM, insM], fun w k h => by
          rw [g_ins] at h
          split at h
          · rename_i hw
            cases h
            subst hw
            exact ⟨⟨W32_zero, fun i hi => by rw [bt_zero] at hi; cases hi⟩, by omega, by omega, h5, rfl⟩
          · simp [gM, getM] at h⟩ (fun s m h => by
          obtain ⟨rfl, rfl⟩ := h
          exact ⟨0, 0, by rw [g_ins, if_pos rfl], h5, by omega⟩) (by omega)
        have a' : hold_play__hold_Min_1_f nf refs places false (refs, ()) = some (0 + (g : Int), ()) := a
        rw [Int.zero_add] at a'
        have f' : ref_Fewest_f nf refs places = some ((g : Int), ()) := n4.trans hf2
        simp only [c1, c2, c3, decide_false, cond_false, Option.bind_some, bne_self_eq_false, a', beq_self_eq_true, cond_true, f']

theorem holdLeasts_law (x : denPs (lawPs [.sl (.int .i64), .int .i64])) (_ : wfPs [.sl (.int .i64), .int .i64] x) : ∃ n, law_HoldLeasts_F n x = some (true, ()) := by
  obtain ⟨refs, places, _⟩ := x
  exact ⟨2000000, holdLeasts_main (Nat.le_refl _) refs places⟩
end Go.Proofs.Ytoglkjmdloppcaa
