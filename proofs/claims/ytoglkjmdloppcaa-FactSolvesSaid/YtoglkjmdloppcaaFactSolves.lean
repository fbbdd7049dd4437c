/- The document's search for each fact, and that both tell the same. -/
import Derived.Test.YtoglkjmdloppcaaFactSet
import Derived.Test.YtoglkjmdloppcaaAbLaw
namespace Go.Proofs.Ytoglkjmdloppcaa
open Go Go.Ab S

variable {nf n : Nat} {next nx : List (List Int)} {law : LawT} {fs : Nat → Prop}

/-! the graph turned, as the document does it -/
def rowT (next : List (List Int)) (k m : Nat) : List Int := ((List.range m).filter (fun i => decide ((k : Int) ∈ next.getD i []))).map fun i : Nat => (i : Int)
theorem rowT_succ (k m : Nat) : rowT next k (m + 1) = if (k : Int) ∈ next.getD m [] then rowT next k m ++ [(m : Int)] else rowT next k m := by
  unfold rowT
  rw [List.range_succ, List.filter_append, List.map_append]
  by_cases h : (k : Int) ∈ next.getD m []
  · rw [if_pos h, List.filter_cons_of_pos (by rw [decide_eq_true_eq]; exact h)]; rfl
  · rw [if_neg h, List.filter_cons_of_neg (by rw [decide_eq_true_eq]; exact h), List.filter_nil, List.map_nil, List.append_nil]
theorem rowT_len (k m : Nat) : (rowT next k m).length ≤ m := by
  unfold rowT
  rw [List.length_map]
  exact Nat.le_trans (List.length_filter_le _ _) (by rw [List.length_range]; exact Nat.le_refl _)
theorem rowT_mem {k m : Nat} {x : Int} : x ∈ rowT next k m ↔ 0 ≤ x ∧ x < (m : Int) ∧ (k : Int) ∈ next.getD x.toNat [] := by
  unfold rowT
  rw [List.mem_map]
  constructor
  · rintro ⟨i, hi, rfl⟩
    rw [List.mem_filter, List.mem_range, decide_eq_true_eq] at hi
    rw [Int.toNat_natCast]
    exact ⟨by omega, by omega, hi.2⟩
  · rintro ⟨a, b, c⟩
    refine ⟨x.toNat, ?_, by omega⟩
    rw [List.mem_filter, List.mem_range, decide_eq_true_eq]
    exact ⟨by omega, c⟩

theorem turned_F (hW : WayOK next) (hf : 100 ≤ nf) : ∃ T, ref_Turned_f nf next = some (T, ()) ∧ T.length = next.length ∧ ∀ k : Nat, k < next.length → T.getD k [] = rowT next k next.length := by
  have h8 := hW.few
  have hm3 : (3 : Nat) ≤ maxLen := by decide
  simp only [ref_Turned_f, ref_Turned_p]
  have h1 : ((next.length : Int) ≤ ((lim : Nat) : Int)) := by unfold lim; omega
  simp only [Int.natCast_nonneg, Int.le_refl, h1, decide_true, Bool.and_self, cond_true, Int.toNat_natCast]
  obtain ⟨fu', T, ⟨hT1, hT2⟩, e⟩ := loop_inv (n := (next.length : Int)) (F := fun fu t (T : List (List Int)) => ref_Turned_l0 nf next fu T t) (fun t T => T.length = next.length ∧ ∀ k : Nat, k < next.length → T.getD k [] = if (k : Int) < t then rowT next k next.length else []) (fun fu t T h0 ht hI => by
    obtain ⟨hI1, hI2⟩ := hI
    obtain ⟨fu2, T2, ⟨hU1, hU2⟩, e2⟩ := loop_inv (n := (next.length : Int)) (F := fun fu2 i (T : List (List Int)) => ref_Turned_l2 nf next t (fun out j => ref_Turned_l0 nf next fu out j) fu2 T i) (fun i T => T.length = next.length ∧ ∀ k : Nat, k < next.length → T.getD k [] = if (k : Int) < t then rowT next k next.length else if (k : Int) = t then rowT next k i.toNat else []) (fun fu2 i T' i0 i1 hJ => by
      obtain ⟨hJ1, hJ2⟩ := hJ
      have hw : IntKind.i64.wrap (i + 1) = i + 1 := wrap_nn (by omega) (by omega)
      have hl3 := nx_len hW i.toNat
      have hjl : t < (T'.length : Int) := by omega
      have hgt : T'.getD t.toNat [] = rowT next t.toNat i.toNat := by rw [hJ2 t.toNat (by omega), if_neg (by omega), if_pos (by omega)]
      have hrl := rowT_len (next := next) t.toNat i.toNat
      have hb : Nat.ble ((rowT next t.toNat i.toNat).length + 1) lim = true := ble_ok (by omega)
      have hsucc := rowT_succ (next := next) t.toNat i.toNat
      rw [show ((t.toNat : Nat) : Int) = t by omega, show ((i.toNat : Nat) : Int) = i by omega] at hsucc
      have hi1 : (i + 1).toNat = i.toNat + 1 := by omega
      by_cases hm : t ∈ next.getD i.toNat []
      · refine ⟨T'.set t.toNat (rowT next t.toNat i.toNat ++ [i]), ?_, by rw [List.length_set]; exact hJ1, fun k hk => ?_⟩
        · rw [ref_Turned_l2, ref_Turned_b2, inb_ok i0 i1, fact_has_F _ _ (by omega) (by omega), inb_ok h0 hjl, hgt, hw]
          simp only [i1, hm, decide_true, cond_true, Option.bind_some, List.isEmpty_cons, Bool.not_false, List.length_cons, List.length_nil, Nat.zero_add, hb, Bool.and_self, List.nil_append]
        · rw [getD_upd (by omega)]
          by_cases hkt : k = t.toNat
          · rw [if_pos hkt, if_neg (by omega), if_pos (by omega), hkt, hi1, hsucc, if_pos hm]
          · rw [if_neg hkt, hJ2 k hk]
            by_cases hlt : (k : Int) < t
            · rw [if_pos hlt, if_pos hlt]
            · rw [if_neg hlt, if_neg hlt, if_neg (by omega), if_neg (by omega)]
      · refine ⟨T', ?_, hJ1, fun k hk => ?_⟩
        · rw [ref_Turned_l2, ref_Turned_b2, inb_ok i0 i1, fact_has_F _ _ (by omega) (by omega), hw]
          simp only [i1, hm, decide_true, decide_false, cond_true, cond_false, Option.bind_some]
        · rw [hJ2 k hk]
          by_cases hlt : (k : Int) < t
          · rw [if_pos hlt, if_pos hlt]
          · rw [if_neg hlt, if_neg hlt]
            by_cases hkt : (k : Int) = t
            · have hkt' : k = t.toNat := by omega
              rw [if_pos hkt, if_pos hkt, hkt', hi1, hsucc, if_neg hm]
            · rw [if_neg hkt, if_neg hkt]) nf 0 T (by omega) (by omega) (by omega) ⟨hI1, fun k hk => by
        rw [hI2 k hk]
        by_cases hlt : (k : Int) < t
        · rw [if_pos hlt, if_pos hlt]
        · rw [if_neg hlt, if_neg hlt]
          split
          · rfl
          · rfl⟩
    refine ⟨T2, ?_, hU1, fun k hk => ?_⟩
    · rw [ref_Turned_l0, ref_Turned_b0]
      simp only [ht, decide_true, cond_true]
      rw [e2, ref_Turned_l2, ref_Turned_b2, wrap_nn (x := t + 1) (by omega) (by omega)]
      simp only [Int.lt_irrefl, decide_false, cond_false]
    · rw [hU2 k hk, Int.toNat_natCast]
      by_cases hlt : (k : Int) < t
      · rw [if_pos hlt, if_pos (by omega)]
      · rw [if_neg hlt]
        by_cases hkt : (k : Int) = t
        · rw [if_pos hkt, if_pos (by omega)]
        · rw [if_neg hkt, if_neg (by omega)]) nf 0 (List.replicate next.length []) (by omega) (by omega) (by omega) ⟨by simp, fun k hk => by rw [if_neg (by omega)]; simp [List.getD, hk]⟩
  refine ⟨T, ?_, hT1, fun k hk => ?_⟩
  · rw [e, ref_Turned_l0, ref_Turned_b0]
    simp only [Int.lt_irrefl, decide_false, cond_false]
  · rw [hT2 k hk, if_pos (by omega)]

theorem RP.congr {nx' : List (List Int)} (h : ∀ i x, x ∈ nx.getD i [] → x ∈ nx'.getD i []) {f i : Nat} {b : Bool} (hr : RP law nx fs f i b) : RP law nx' fs f i b := by
  induction hr with
  | here h1 => exact .here h1
  | step _ h2 ih => exact .step ih (h _ _ h2)

/-! the search -/
def nd (n : Nat) (x : Int) : Int := if x < (n : Int) then x else x - n
def enc (n : Nat) (i : Int) (b : Bool) : Int := if b = true then i else (n : Int) + i
def PX (law : LawT) (nx : List (List Int)) (fs : Nat → Prop) (f n : Nat) (x : Int) : Prop := 0 ≤ x ∧ x < 2 * (n : Int) ∧ RP law nx fs f (nd n x).toNat (decide (x < (n : Int)))
theorem nd_in {x : Int} (h0 : 0 ≤ x) (h1 : x < 2 * (n : Int)) : 0 ≤ nd n x ∧ nd n x < (n : Int) := by unfold nd; split <;> omega
theorem enc_px {f : Nat} {i : Int} {b : Bool} (h0 : 0 ≤ i) (h1 : i < (n : Int)) (h : RP law nx fs f i.toNat b) : PX law nx fs f n (enc n i b) := by
  unfold PX enc nd
  cases b with
  | true => rw [if_pos rfl, if_pos h1, decide_eq_true h1]; exact ⟨h0, by omega, h⟩
  | false => rw [if_neg (by simp), if_neg (by omega), decide_eq_false (by omega), show (n : Int) + i - n = i by omega]; exact ⟨by omega, by omega, h⟩
theorem tmod_nd {x : Int} (h0 : 0 ≤ x) (h1 : x < 2 * (n : Int)) : Int.tmod x (n : Int) = nd n x := by
  unfold nd
  rw [Int.tmod_eq_emod_of_nonneg h0]
  split
  · rename_i h; exact Int.emod_eq_of_lt h0 h
  · rename_i h
    have e : x % (n : Int) = (x - n) % n := by rw [Int.sub_emod_right]
    rw [e]; exact Int.emod_eq_of_lt (by omega) (by omega)

structure HJ (law : LawT) (nx : List (List Int)) (fs : Nat → Prop) (f n : Nat) (here : List Int) : Prop where
  nod : here.Nodup
  ok : ∀ x ∈ here, PX law nx fs f n x
theorem nodup_len : ∀ (m : Nat) (l : List Int), l.Nodup → (∀ x ∈ l, 0 ≤ x ∧ x < (m : Int)) → l.length ≤ m
  | 0, [], _, _ => Nat.le_refl _
  | 0, x :: l, _, h => by have := h x (by simp); omega
  | m + 1, l, hn, h => by
    have ih := nodup_len m (l.erase (m : Int)) (hn.erase _) fun x hx => by
      rw [hn.mem_erase_iff] at hx
      have := h x hx.2
      omega
    by_cases hm : (m : Int) ∈ l
    · rw [List.length_erase_of_mem hm] at ih; omega
    · rw [List.erase_of_not_mem hm] at ih; omega
theorem HJ.len {f : Nat} {here : List Int} (h : HJ law nx fs f n here) : here.length ≤ 2 * n := nodup_len _ _ h.nod fun x hx => by have := h.ok x hx; exact ⟨this.1, by have := this.2.1; omega⟩
def push (here : List Int) (x : Int) : List Int := if x ∈ here then here else here ++ [x]
theorem push_hj {f : Nat} {here : List Int} (h : HJ law nx fs f n here) {x : Int} (hx : PX law nx fs f n x) : HJ law nx fs f n (push here x) := by
  unfold push
  split
  · exact h
  · rename_i hn
    refine ⟨List.nodup_append.2 ⟨h.nod, by simp, ?_⟩, fun y hy => ?_⟩
    · intro a ha b hb e
      rw [List.mem_singleton] at hb
      subst hb e
      exact hn ha
    · rw [List.mem_append, List.mem_singleton] at hy
      rcases hy with hy | rfl
      · exact h.ok y hy
      · exact hx
theorem push_mem {here : List Int} {x : Int} : x ∈ push here x := by
  unfold push
  split
  · assumption
  · simp
theorem push_pre (here : List Int) (x : Int) : ∃ ext, push here x = here ++ ext := by
  unfold push
  split
  · exact ⟨[], by simp⟩
  · exact ⟨_, rfl⟩

theorem facts_l4 (hL : LawK law n) {f : Nat} (h8 : f < 8) (hf : 200 ≤ nf) {fl out : List Int} (hfl : ∀ x ∈ fl, 0 ≤ x ∧ x < (n : Int) ∧ fs x.toNat) (hfn : fl.length ≤ 8)
    {g2 : List (List Int) → LawT → List Int → Int → List Int → Int → Option (List Int × Unit)} :
    ∃ here, HJ law nx fs f n here ∧ (∀ x ∈ fl, enc n x (bt law.2.2.2.2.1 f) ∈ here) ∧ ref_Facts_l4 nf nx law n f fl g2 nf law fl out [] 0 = ref_Facts_l6 nf nx law n f g2 nf law fl out here 0 := by
  have hn8 := hL.few
  have hmx : (16 : Nat) ≤ maxLen := by decide
  obtain ⟨fu', s, ⟨s1, s2, s3, s4, s5⟩, e⟩ := loop_inv (n := (fl.length : Int)) (F := fun fu t (s : LawT × List Int × List Int × List Int) => ref_Facts_l4 nf nx law n f fl g2 fu s.1 s.2.1 s.2.2.1 s.2.2.2 t)
    (fun t s => s.1 = law ∧ s.2.1 = fl ∧ s.2.2.1 = out ∧ HJ law nx fs f n s.2.2.2 ∧ ∀ k : Int, 0 ≤ k → k < t → enc n (fl.getD k.toNat 0) (bt law.2.2.2.2.1 f) ∈ s.2.2.2) (fun fu t s t0 t1 hI => by
      obtain ⟨lw, fi, ou, here⟩ := s
      obtain ⟨i1, i2, i3, i4, i5⟩ := hI
      simp only at i1 i2 i3 i4 i5
      subst i1 i2 i3
      obtain ⟨j0, j1, j2⟩ := hfl _ (getD_mem (d := 0) t0 t1)
      have hln := i4.len
      have hw : IntKind.i64.wrap (t + 1) = t + 1 := wrap_nn (by omega) (by omega)
      have hx := enc_px (law := lw) (nx := nx) (n := n) j0 j1 (RP.here (f := f) j2)
      have hb : Nat.ble (here.length + 1) lim = true := ble_ok (by omega)
      have hstep : ref_Facts_l4 nf nx lw n f fi g2 (fu + 1) lw fi ou here t = ref_Facts_l4 nf nx lw n f fi g2 fu lw fi ou (push here (enc n (fi.getD t.toNat 0) (bt lw.2.2.2.2.1 f))) (t + 1) := by
        rw [ref_Facts_l4, ref_Facts_b4, inb_ok t0 t1, bit_F nf hL.st.1 (by omega : (0 : Int) ≤ (f : Int)), Int.toNat_natCast, hw]
        simp only [t1, decide_true, cond_true, Option.bind_some]
        unfold push enc
        cases bt lw.2.2.2.2.1 f with
        | true =>
          simp only [cond_true, if_true]
          rw [fact_has_F _ _ (by omega) (by omega)]
          by_cases hm : fi.getD t.toNat 0 ∈ here
          · simp only [hm, decide_true, Option.bind_some, Bool.not_true, cond_false, if_true]
          · simp only [hm, decide_false, Option.bind_some, Bool.not_false, cond_true, if_false, bimp, List.isEmpty_cons, Bool.true_or, List.length_cons, List.length_nil, Nat.zero_add, hb, Bool.and_self]
        | false =>
          have hwn : IntKind.i64.wrap ((n : Int) + fi.getD t.toNat 0) = (n : Int) + fi.getD t.toNat 0 := wrap_nn (by omega) (by omega)
          simp only [cond_false, if_false, Bool.false_eq_true, hwn]
          rw [fact_has_F _ _ (by omega) (by omega)]
          by_cases hm : (n : Int) + fi.getD t.toNat 0 ∈ here
          · simp only [hm, decide_true, Option.bind_some, Bool.not_true, cond_false, if_true]
          · simp only [hm, decide_false, Option.bind_some, Bool.not_false, cond_true, if_false, bimp, List.isEmpty_cons, Bool.true_or, List.length_cons, List.length_nil, Nat.zero_add, hb, Bool.and_self]
      refine ⟨(lw, fi, ou, push here (enc n (fi.getD t.toNat 0) (bt lw.2.2.2.2.1 f))), by simp only; exact hstep, rfl, rfl, rfl, push_hj i4 hx, fun k k0 k1 => ?_⟩
      by_cases hk : k < t
      · obtain ⟨ext, he⟩ := push_pre here (enc n (fi.getD t.toNat 0) (bt lw.2.2.2.2.1 f))
        simp only
        rw [he, List.mem_append]
        exact .inl (i5 k k0 hk)
      · have : k = t := by omega
        subst this
        exact push_mem) nf 0 (law, fl, out, []) (by omega) (by omega) (by omega) ⟨rfl, rfl, rfl, ⟨by simp, fun x hx => by cases hx⟩, fun k k0 k1 => by omega⟩
  refine ⟨s.2.2.2, s4, fun x hx => ?_, ?_⟩
  · obtain ⟨k, hk, rfl⟩ := List.mem_iff_getElem.1 hx
    have := s5 k (by omega) (by omega)
    rw [Int.toNat_natCast, getD_el _ hk] at this
    exact this
  · simp only at e
    rw [e, ref_Facts_l4, ref_Facts_b4, s1, s2, s3]
    simp only [Int.lt_irrefl, decide_false, cond_false]

def ClX (law : LawT) (nx : List (List Int)) (f n : Nat) (here : List Int) (x : Int) : Prop := ∀ j ∈ nx.getD (nd n x).toNat [], enc n j (tr law f (nd n x).toNat (decide (x < (n : Int)))) ∈ here
theorem facts_l8 (hL : LawK law n) (hN : NxK nx n) {f : Nat} (hf : 200 ≤ nf) {fl out here0 : List Int} {k : Nat} (hk : k < here0.length) (hH : HJ law nx fs f n here0)
    {g6 : LawT → List Int → List Int → List Int → Int → Option (List Int × Unit)} {g2 : List (List Int) → LawT → List Int → Int → List Int → Int → Option (List Int × Unit)} :
    ∃ here', HJ law nx fs f n here' ∧ (∃ ext, here' = here0 ++ ext) ∧ ClX law nx f n here' (here0.getD k 0) ∧
      ref_Facts_l8 nf nx law n f k here0 g6 g2 nf law fl out here0 (tr law f (nd n (here0.getD k 0)).toNat (decide (here0.getD k 0 < (n : Int)))) 0 = g6 law fl out here' ((k : Int) + 1) := by
  have hn8 := hL.few
  have hmx : (16 : Nat) ≤ maxLen := by decide
  have hxm : here0.getD k 0 ∈ here0 := by rw [getD_el _ hk]; exact List.getElem_mem hk
  generalize hxd : here0.getD k 0 = x at hxm
  obtain ⟨x0, x1, hR⟩ := hH.ok x hxm
  obtain ⟨d0, d1⟩ := nd_in x0 x1
  have hth := hN.thin (nd n x).toNat
  have hl0 := hH.len
  obtain ⟨fu', s, ⟨s1, s2, s3, s4, s5, s6, s7⟩, e⟩ := loop_inv (n := ((nx.getD (nd n x).toNat []).length : Int)) (F := fun fu t (s : LawT × List Int × List Int × List Int × Bool) => ref_Facts_l8 nf nx law n f k here0 g6 g2 fu s.1 s.2.1 s.2.2.1 s.2.2.2.1 s.2.2.2.2 t)
    (fun t s => s.1 = law ∧ s.2.1 = fl ∧ s.2.2.1 = out ∧ s.2.2.2.2 = tr law f (nd n x).toNat (decide (x < (n : Int))) ∧ HJ law nx fs f n s.2.2.2.1 ∧ (∃ ext, s.2.2.2.1 = here0 ++ ext) ∧ ∀ k : Int, 0 ≤ k → k < t → enc n ((nx.getD (nd n x).toNat []).getD k.toNat 0) (tr law f (nd n x).toNat (decide (x < (n : Int)))) ∈ s.2.2.2.1) (fun fu t s t0 t1 hI => by
      obtain ⟨lw, fi, ou, here, is'⟩ := s
      obtain ⟨i1, i2, i3, i4, i5, i6, i7⟩ := hI
      simp only at i1 i2 i3 i4 i5 i6 i7
      subst i1 i2 i3
      have hjm := getD_mem (d := 0) t0 t1
      obtain ⟨j0, j1⟩ := hN.good _ _ hjm
      have hln := i5.len
      have hw : IntKind.i64.wrap (t + 1) = t + 1 := wrap_nn (by omega) (by omega)
      have hx := enc_px (law := lw) (nx := nx) (n := n) j0 j1 (RP.step hR hjm)
      have hb : Nat.ble (here.length + 1) lim = true := ble_ok (by omega)
      rw [← i4] at hx i7 ⊢
      have hstep : ref_Facts_l8 nf nx lw n f k here0 g6 g2 (fu + 1) lw fi ou here is' t = ref_Facts_l8 nf nx lw n f k here0 g6 g2 fu lw fi ou (push here (enc n ((nx.getD (nd n x).toNat []).getD t.toNat 0) is')) is' (t + 1) := by
        rw [ref_Facts_l8, ref_Facts_b8, Int.toNat_natCast, hxd, tmod_nd x0 x1, inb_ok t0 t1, hw]
        simp only [t1, decide_true, cond_true]
        unfold push enc
        generalize (nx.getD (nd n x).toNat []).getD t.toNat 0 = j at j0 j1
        cases is' with
        | true =>
          simp only [cond_true, if_true]
          rw [fact_has_F _ _ (by omega) (by omega)]
          by_cases hm : j ∈ here
          · simp only [hm, decide_true, Option.bind_some, Bool.not_true, cond_false, if_true]
          · simp only [hm, decide_false, Option.bind_some, Bool.not_false, cond_true, if_false, bimp, List.isEmpty_cons, Bool.true_or, List.length_cons, List.length_nil, Nat.zero_add, hb, Bool.and_self]
        | false =>
          have hwn : IntKind.i64.wrap ((n : Int) + j) = (n : Int) + j := wrap_nn (by omega) (by omega)
          simp only [cond_false, if_false, Bool.false_eq_true, hwn]
          rw [fact_has_F _ _ (by omega) (by omega)]
          by_cases hm : (n : Int) + j ∈ here
          · simp only [hm, decide_true, Option.bind_some, Bool.not_true, cond_false, if_true]
          · simp only [hm, decide_false, Option.bind_some, Bool.not_false, cond_true, if_false, bimp, List.isEmpty_cons, Bool.true_or, List.length_cons, List.length_nil, Nat.zero_add, hb, Bool.and_self]
      obtain ⟨ext, he⟩ := push_pre here (enc n ((nx.getD (nd n x).toNat []).getD t.toNat 0) is')
      refine ⟨(lw, fi, ou, push here (enc n ((nx.getD (nd n x).toNat []).getD t.toNat 0) is'), is'), by simp only; exact hstep, rfl, rfl, rfl, rfl, push_hj i5 hx, ?_, fun k' k0 k1 => ?_⟩
      · obtain ⟨e0, h0⟩ := i6
        exact ⟨e0 ++ ext, by simp only; rw [he, h0, List.append_assoc]⟩
      · by_cases hk' : k' < t
        · simp only
          rw [he, List.mem_append]
          exact .inl (i7 k' k0 hk')
        · have : k' = t := by omega
          subst this
          exact push_mem) nf 0 (law, fl, out, here0, tr law f (nd n x).toNat (decide (x < (n : Int)))) (by omega) (by omega) (by omega) ⟨rfl, rfl, rfl, rfl, hH, ⟨[], by simp⟩, fun k' k0 k1 => by omega⟩
  refine ⟨s.2.2.2.1, s5, s6, fun j hj => ?_, ?_⟩
  · obtain ⟨k', hk', rfl⟩ := List.mem_iff_getElem.1 hj
    have := s7 k' (by omega) (by omega)
    rw [Int.toNat_natCast, getD_el _ hk'] at this
    exact this
  · simp only at e
    rw [e, ref_Facts_l8, ref_Facts_b8, Int.toNat_natCast, hxd, tmod_nd x0 x1, s1, s2, s3, wrap_nn (x := (k : Int) + 1) (by omega) (by omega)]
    simp only [Int.lt_irrefl, decide_false, cond_false]

theorem facts_l6 (hL : LawK law n) (hN : NxK nx n) {f : Nat} (hf : 200 ≤ nf) {fl out : List Int} {g2 : List (List Int) → LawT → List Int → Int → List Int → Int → Option (List Int × Unit)} :
    ∀ (fu k : Nat) (here : List Int), HJ law nx fs f n here → k ≤ here.length → (∀ i, i < k → ClX law nx f n here (here.getD i 0)) → 2 * n + 2 ≤ k + fu →
    ∃ here', HJ law nx fs f n here' ∧ (∀ x ∈ here, x ∈ here') ∧ (∀ x ∈ here', ClX law nx f n here' x) ∧ ref_Facts_l6 nf nx law n f g2 fu law fl out here k = ref_Facts_l10 nf nx law n f g2 nf law fl out here' 0
  | 0, k, here, hH, hk, _, hfu => by have := hH.len; omega
  | fu + 1, k, here, hH, hk, hC, hfu => by
    have hn8 := hL.few
    have hnp := hL.pos
    by_cases hlt : k < here.length
    · obtain ⟨here', a, ⟨ext, b⟩, c, d⟩ := facts_l8 (nf := nf) hL hN hf hlt hH (fl := fl) (out := out) (g6 := fun law5 first4 out3 here2 k' => ref_Facts_l6 nf nx law n f g2 fu law5 first4 out3 here2 k') (g2 := g2)
      have hpre : ∀ i, i < here.length → here'.getD i 0 = here.getD i 0 := fun i hi => by
        rw [b, List.getD_eq_getElem?_getD, List.getElem?_append_left hi, ← List.getD_eq_getElem?_getD]
      obtain ⟨h2, a2, b2, c2, d2⟩ := facts_l6 hL hN hf (fl := fl) (out := out) (g2 := g2) fu (k + 1) here' a (by rw [b, List.length_append]; omega) (fun i hi => by
        by_cases hik : i < k
        · intro j hj
          rw [hpre i (by omega)] at hj ⊢
          rw [b, List.mem_append]
          exact .inl (hC i hik j hj)
        · have : i = k := by omega
          rw [hpre i (by omega), this]
          exact c) (by omega)
      refine ⟨h2, a2, fun x hx => b2 x (by rw [b, List.mem_append]; exact .inl hx), c2, ?_⟩
      rw [← d2, ← show ((k : Int) + 1) = ((k + 1 : Nat) : Int) by omega, ← d]
      obtain ⟨x0, x1, hR⟩ := hH.ok _ (by rw [getD_el _ hlt]; exact List.getElem_mem hlt : here.getD k 0 ∈ here)
      obtain ⟨d0, d1⟩ := nd_in x0 x1
      have hne : ((n : Int) != 0) = true := bne_t (by omega)
      rw [ref_Facts_l6, ref_Facts_b6, Int.toNat_natCast, inb_ok (by omega : (0 : Int) ≤ (k : Int)) (by omega : (k : Int) < (here.length : Int)), tmod_nd x0 x1, hne]
      rw [inb_ok d0 (by rw [hL.l2]; exact d1), inb_ok d0 (by rw [hL.l1]; exact d1), inb_ok d0 (by rw [hN.len]; exact d1)]
      rw [bit_F nf (hL.en _).1 (by omega : (0 : Int) ≤ (f : Int)), bit_F nf (hL.mks _).1 (by omega : (0 : Int) ≤ (f : Int)), Int.toNat_natCast]
      simp only [show (k : Int) < (here.length : Int) by omega, decide_true, cond_true, Option.bind_some]
      unfold tr
      cases bt (law.2.2.2.1.getD (nd n (here.getD k 0)).toNat 0) f <;> cases bt (law.2.2.1.getD (nd n (here.getD k 0)).toNat 0) f <;> simp
    · have hkl : k = here.length := by omega
      refine ⟨here, hH, fun x hx => hx, fun x hx => ?_, ?_⟩
      · obtain ⟨i, hi, rfl⟩ := List.mem_iff_getElem.1 hx
        have := hC i (by omega)
        rw [getD_el _ hi] at this
        exact this
      · rw [ref_Facts_l6, ref_Facts_b6, hkl]
        simp only [Int.lt_irrefl, decide_false, cond_false]

theorem search_iff (hN : NxK nx n) (hfs : ∀ i, fs i → i < n) {f : Nat} {here fl : List Int} (hfl : ∀ i, fs i → (i : Int) ∈ fl) (hH : HJ law nx fs f n here) (h1 : ∀ x ∈ fl, enc n x (bt law.2.2.2.2.1 f) ∈ here) (h2 : ∀ x ∈ here, ClX law nx f n here x) :
    ∀ {i : Nat} {b : Bool}, i < n → (enc n i b ∈ here ↔ RP law nx fs f i b) := by
  have dec : ∀ {i : Nat} {b : Bool}, i < n → nd n (enc n i b) = (i : Int) ∧ decide (enc n i b < (n : Int)) = b := by
    intro i b hi
    unfold nd enc
    cases b with
    | true => rw [if_pos rfl, if_pos (by omega), decide_eq_true (by omega)]; exact ⟨rfl, rfl⟩
    | false =>
      simp only [Bool.false_eq_true, if_false]
      rw [if_neg (by omega), decide_eq_false (by omega)]; exact ⟨by omega, rfl⟩
  have hcom : ∀ {i : Nat} {b : Bool}, RP law nx fs f i b → i < n ∧ enc n i b ∈ here := by
    intro i b h
    induction h with
    | here h => exact ⟨hfs _ h, h1 _ (hfl _ h)⟩
    | @step i b j h hj ih =>
      obtain ⟨a, c⟩ := ih
      have := h2 _ c
      unfold ClX at this
      rw [(dec (b := b) a).1, (dec (b := b) a).2, Int.toNat_natCast] at this
      obtain ⟨j0, j1⟩ := hN.good _ _ hj
      refine ⟨by omega, ?_⟩
      rw [show ((j.toNat : Nat) : Int) = j by omega]
      exact this j hj
  intro i b hi
  refine ⟨fun h => ?_, fun h => (hcom h).2⟩
  have := (hH.ok _ h).2.2
  rw [(dec hi).1, (dec hi).2, Int.toNat_natCast] at this
  exact this

def hit (law : LawT) (n : Nat) (here : List Int) (i : Int) : Bool := if law.2.1 = true then !decide ((n : Int) + i ∈ here) else decide (i ∈ here)
theorem facts_l10 (hL : LawK law n) {f : Nat} (h8 : f < 8) (hf : 200 ≤ nf) {fl out here : List Int} (hh : here.length ≤ 16) (ho : out.length = n) {g2 : List (List Int) → LawT → List Int → Int → List Int → Int → Option (List Int × Unit)} :
    ∃ out', out'.length = n ∧ (∀ i : Nat, i < n → out'.getD i 0 = if hit law n here i = true then or32 (out.getD i 0) (shlI .u32 1 f) else out.getD i 0) ∧ ref_Facts_l10 nf nx law n f g2 nf law fl out here 0 = g2 nx law fl n out' ((f : Int) + 1) := by
  have hn8 := hL.few
  have hmx : (16 : Nat) ≤ maxLen := by decide
  have hu : IntKind.u64.wrap (f : Int) = (f : Int) := Go.IntWalk.u64_in _ ⟨by omega, by omega⟩
  obtain ⟨fu', s, ⟨s1, s2, s3, s4, s5⟩, e⟩ := loop_inv (n := (n : Int)) (F := fun fu t (s : LawT × List Int × List Int × List Int) => ref_Facts_l10 nf nx law n f g2 fu s.1 s.2.1 s.2.2.1 s.2.2.2 t)
    (fun t s => s.1 = law ∧ s.2.1 = fl ∧ s.2.2.2 = here ∧ s.2.2.1.length = n ∧ ∀ i : Nat, i < n → s.2.2.1.getD i 0 = if (i : Int) < t then (if hit law n here i = true then or32 (out.getD i 0) (shlI .u32 1 f) else out.getD i 0) else out.getD i 0) (fun fu t s t0 t1 hI => by
      obtain ⟨lw, fi, ou, he⟩ := s
      obtain ⟨i1, i2, i3, i4, i5⟩ := hI
      simp only at i1 i2 i3 i4 i5
      subst i1 i2 i3
      have hw : IntKind.i64.wrap (t + 1) = t + 1 := wrap_nn (by omega) (by omega)
      have hwn : IntKind.i64.wrap ((n : Int) + t) = (n : Int) + t := wrap_nn (by omega) (by omega)
      have htl : t < (ou.length : Int) := by omega
      have hgt : ou.getD t.toNat 0 = out.getD t.toNat 0 := by rw [i5 t.toNat (by omega), if_neg (by omega)]
      have hstep : ref_Facts_l10 nf nx lw n f g2 (fu + 1) lw fi ou he t = ref_Facts_l10 nf nx lw n f g2 fu lw fi (if hit lw n he t = true then ou.set t.toNat (or32 (out.getD t.toNat 0) (shlI .u32 1 f)) else ou) he (t + 1) := by
        rw [ref_Facts_l10, ref_Facts_b10, hw, hwn, hu, inb_ok t0 htl, hgt, fact_has_F _ _ (by omega) (by omega), fact_has_F _ _ (by omega) (by omega)]
        simp only [t1, decide_true, cond_true, Option.bind_some, Int.natCast_nonneg, f_or]
        unfold hit
        cases hA : lw.2.1 with
        | true => simp only [cond_true, if_true, Bool.not_true, cond_false]; cases decide ((n : Int) + t ∈ he) <;> rfl
        | false => simp only [cond_false, if_false, Bool.false_eq_true, Bool.not_false, cond_true]; cases decide (t ∈ he) <;> rfl
      refine ⟨(lw, fi, _, he), by simp only; exact hstep, rfl, rfl, rfl, ?_, fun i hi => ?_⟩
      · simp only
        split
        · rw [List.length_set]; exact i4
        · exact i4
      · simp only
        by_cases hit' : i = t.toNat
        · have hti : (i : Int) = t := by omega
          rw [if_pos (by omega : (i : Int) < t + 1), hti]
          split
          · rw [getD_upd (by omega), if_pos hit', hit']
          · rw [hit']; exact hgt
        · have hgen : (if hit lw n he t = true then ou.set t.toNat (or32 (out.getD t.toNat 0) (shlI .u32 1 f)) else ou).getD i 0 = ou.getD i 0 := by
            split
            · rw [getD_upd (by omega), if_neg hit']
            · rfl
          rw [hgen, i5 i hi]
          by_cases hlt : (i : Int) < t
          · rw [if_pos hlt, if_pos (by omega : (i : Int) < t + 1)]
          · rw [if_neg hlt, if_neg (by omega : ¬ (i : Int) < t + 1)]) nf 0 (law, fl, out, here) (by omega) (by omega) (by omega) ⟨rfl, rfl, rfl, ho, fun i hi => by rw [if_neg (by omega)]⟩
  refine ⟨s.2.2.1, s4, fun i hi => by rw [s5 i hi, if_pos (by omega)], ?_⟩
  simp only at e
  rw [e, ref_Facts_l10, ref_Facts_b10, s1, s2, wrap_nn (x := (f : Int) + 1) (by omega) (by omega)]
  simp only [Int.lt_irrefl, decide_false, cond_false]

def FP (law : LawT) (nx : List (List Int)) (fs : Nat → Prop) (g i : Nat) : Prop := if law.2.1 = true then ¬ RP law nx fs g i false else RP law nx fs g i true
theorem facts_l2 (hL : LawK law n) (hN : NxK nx n) (hfs : ∀ i, fs i → i < n) (hf : 200 ≤ nf) {fl : List Int} (h1 : ∀ x ∈ fl, 0 ≤ x ∧ x < (n : Int) ∧ fs x.toNat) (h2 : ∀ i, fs i → (i : Int) ∈ fl) (hfn : fl.length ≤ 8) :
    ∃ out, ref_Facts_l2 nf law nf nx law fl n (List.replicate n 0) 0 = some (out, ()) ∧ out.length = n ∧ ∀ i : Nat, i < n → B8 (out.getD i 0) ∧ ∀ g, g < 8 → (bt (out.getD i 0) g = true ↔ FP law nx fs g i) := by
  have hn8 := hL.few
  obtain ⟨fu', s, ⟨s1, s2, s3, s4, s5, s6⟩, e⟩ := loop_inv (n := 8) (F := fun fu t (s : List (List Int) × LawT × List Int × Int × List Int) => ref_Facts_l2 nf law fu s.1 s.2.1 s.2.2.1 s.2.2.2.1 s.2.2.2.2 t)
    (fun t s => s.1 = nx ∧ s.2.1 = law ∧ s.2.2.1 = fl ∧ s.2.2.2.1 = (n : Int) ∧ s.2.2.2.2.length = n ∧ ∀ i : Nat, i < n → B8 (s.2.2.2.2.getD i 0) ∧ ∀ g : Nat, bt (s.2.2.2.2.getD i 0) g = true ↔ (g : Int) < t ∧ FP law nx fs g i) (fun fu t s t0 t1 hI => by
      obtain ⟨a, lw, fi, m, ou⟩ := s
      obtain ⟨i1, i2, i3, i4, i5, i6⟩ := hI
      simp only at i1 i2 i3 i4 i5 i6
      subst i1 i2 i3 i4
      obtain ⟨f, rfl⟩ : ∃ f : Nat, t = (f : Int) := ⟨t.toNat, by omega⟩
      have hf8 : f < 8 := by omega
      obtain ⟨here, a1, a2, a3⟩ := facts_l4 (nx := a) (fs := fs) hL hf8 hf (fl := fi) (out := ou) h1 hfn (g2 := fun next2 law3 first2 n' out f => ref_Facts_l2 nf lw fu next2 law3 first2 n' out f)
      obtain ⟨here', b1, b2, b3, b4⟩ := facts_l6 hL hN hf (fl := fi) (out := ou) (g2 := fun next2 law3 first2 n' out f => ref_Facts_l2 nf lw fu next2 law3 first2 n' out f) nf 0 here a1 (by omega) (fun i hi => by omega) (by omega)
      have hsr := @search_iff n a lw fs hN hfs f here' fi h2 b1 (fun x hx => b2 _ (a2 x hx)) b3
      obtain ⟨out', c1, c2, c3⟩ := facts_l10 (nx := a) hL hf8 hf (fl := fi) (out := ou) (here := here') (by have := b1.len; omega) i5 (g2 := fun next2 law3 first2 n' out f => ref_Facts_l2 nf lw fu next2 law3 first2 n' out f)
      have hhit : ∀ i : Nat, i < n → (hit lw n here' i = true ↔ FP lw a fs f i) := by
        intro i hi
        have hT := hsr (b := true) hi
        have hF := hsr (b := false) hi
        unfold enc at hT hF
        rw [if_pos rfl] at hT
        rw [if_neg (by simp)] at hF
        unfold hit FP
        cases lw.2.1 with
        | true => rw [if_pos rfl, if_pos rfl, ← hF]; simp
        | false => rw [if_neg (by simp), if_neg (by simp), ← hT]; simp
      refine ⟨(a, lw, fi, (n : Int), out'), ?_, rfl, rfl, rfl, rfl, c1, fun i hi => ?_⟩
      · simp only
        rw [ref_Facts_l2, ref_Facts_b2]
        simp only [t1, decide_true, cond_true]
        rw [a3]
        have b4' := b4
        rw [show ((0 : Nat) : Int) = 0 from rfl] at b4'
        rw [b4', c3]
      · simp only
        obtain ⟨p1, p2⟩ := i6 i hi
        have h1b : B8 (shlI .u32 1 (f : Int)) := ⟨one_w (by omega) (by omega), fun k hk => by rw [one_bt (by omega) (by omega), Int.toNat_natCast]; simp; omega⟩
        rw [c2 i hi]
        by_cases hq : hit lw n here' i = true
        · rw [if_pos hq]
          refine ⟨p1.or h1b, fun g => ?_⟩
          rw [or32_bt p1.1 h1b.1, one_bt (by omega) (by omega), Int.toNat_natCast, Bool.or_eq_true, p2, decide_eq_true_eq]
          constructor
          · rintro (h | rfl)
            · exact ⟨by omega, h.2⟩
            · exact ⟨by omega, (hhit i hi).1 hq⟩
          · rintro ⟨h, h'⟩
            by_cases hg : g = f
            · exact .inr hg
            · exact .inl ⟨by omega, h'⟩
        · rw [if_neg hq]
          refine ⟨p1, fun g => ?_⟩
          rw [p2]
          constructor
          · rintro ⟨h, h'⟩; exact ⟨by omega, h'⟩
          · rintro ⟨h, h'⟩
            refine ⟨?_, h'⟩
            by_cases hg : g = f
            · subst hg; exact absurd ((hhit i hi).2 h') hq
            · omega) nf 0 (nx, law, fl, (n : Int), List.replicate n 0) (by omega) (by omega) (by omega) ⟨rfl, rfl, rfl, rfl, by simp, fun i hi => by
        have hz : (List.replicate n (0 : Int)).getD i 0 = 0 := by simp [List.getD, hi]
        simp only
        rw [hz]
        exact ⟨b8_zero, fun g => ⟨fun h => (by rw [bt_zero] at h; cases h), fun h => absurd h.1 (by omega)⟩⟩⟩
  refine ⟨s.2.2.2.2, ?_, s5, fun i hi => ⟨(s6 i hi).1, fun g hg => ?_⟩⟩
  · simp only at e
    rw [e, ref_Facts_l2, ref_Facts_b2]
    simp only [Int.lt_irrefl, decide_false, cond_false]
  · rw [(s6 i hi).2]
    exact ⟨fun h => h.2, fun h => ⟨by omega, h⟩⟩

theorem facts_F (hl : lawC next law = 0) (h0 : ∀ x ∈ law.2.2.1 ++ law.2.2.2.1 ++ [law.2.2.2.2.1], 0 ≤ x) (hf : 200 ≤ nf) :
    ∃ out, ref_Facts_f nf next law = some (out, ()) ∧ out.length = next.length ∧ ∀ i : Nat, i < next.length → B8 (out.getD i 0) ∧ ∀ g, g < 8 → (bt (out.getD i 0) g = true ↔ FP law (nxOf law next) (fsOf law next) g i) := by
  obtain ⟨hW, l1, l2, hs⟩ := lawC_ok hl
  have hL := lawK_of hl h0
  have h8 := hW.few
  have hp := hW.pos
  have hlim : ((next.length : Int) ≤ ((lim : Nat) : Int)) := by unfold lim; omega
  simp only [ref_Facts_f, ref_Facts_p]
  cases hB : law.1 with
  | false =>
    have e1 : nxOf law next = next := by unfold nxOf; rw [hB]; rfl
    have e2 : fsOf law next = fun i => i = 0 := by funext i; unfold fsOf; rw [hB]; simp
    have hN := nxK_of (law := law) hW
    rw [e1] at hN ⊢
    rw [e2]
    obtain ⟨out, a, b, c⟩ := facts_l2 (nf := nf) (fs := fun i => i = 0) hL hN (fun i hi => by have hi : i = 0 := hi; omega) hf (fl := [0]) (fun x hx => by rw [List.mem_singleton] at hx; subst hx; exact ⟨by omega, by omega, rfl⟩) (fun i hi => by have hi : i = 0 := hi; subst hi; simp) (by simp)
    refine ⟨out, ?_, b, c⟩
    simp only [cond_false, Int.natCast_nonneg, Int.le_refl, hlim, decide_true, Bool.and_self, cond_true, Int.toNat_natCast]
    exact a
  | true =>
    have e1 : nxOf law next = turnL next := by unfold nxOf; rw [hB]; rfl
    have e2 : fsOf law next = fun i => i < next.length ∧ next.getD i [] = [] := by funext i; unfold fsOf; rw [hB]; simp
    obtain ⟨fu', s, ⟨s1, s2, s3⟩, e⟩ := loop_inv (n := (next.length : Int)) (F := fun fu t (s : LawT × List Int) => ref_Facts_l0 nf next law fu s.1 s.2 t) (fun t s => s.1 = law ∧ (s.2.length : Int) ≤ t ∧ ∀ x : Int, x ∈ s.2 ↔ (0 ≤ x ∧ x < t) ∧ next.getD x.toNat [] = []) (fun fu t s t0 t1 hI => by
      obtain ⟨lw, fi⟩ := s
      obtain ⟨i1, i2, i3⟩ := hI
      simp only at i1 i2 i3
      subst i1
      have hw1 : IntKind.i64.wrap (t + 1) = t + 1 := wrap_nn (by omega) (by omega)
      by_cases hnil : next.getD t.toNat [] = []
      · have hb : Nat.ble (fi.length + 1) lim = true := ble_ok (by omega)
        refine ⟨(lw, fi ++ [t]), ?_, rfl, by simp only [List.length_append, List.length_singleton]; omega, fun x => ?_⟩
        · simp only
          rw [ref_Facts_l0, ref_Facts_b0, inb_ok t0 t1, hw1, hnil]
          simp only [t1, decide_true, cond_true, List.length_nil, bimp, List.isEmpty_cons, Bool.not_false, Bool.true_or, List.length_cons, Nat.zero_add, hb, Bool.and_self]
          rfl
        · simp only [List.mem_append, List.mem_singleton, i3]
          constructor
          · rintro (⟨a, b⟩ | rfl)
            · exact ⟨by omega, b⟩
            · exact ⟨by omega, hnil⟩
          · rintro ⟨a, b⟩
            by_cases h : x < t
            · exact .inl ⟨⟨a.1, h⟩, b⟩
            · exact .inr (by omega)
      · refine ⟨(lw, fi), ?_, rfl, by simp only; omega, fun x => ?_⟩
        · simp only
          have hl0 : ((next.getD t.toNat []).length : Int) ≠ 0 := fun h => hnil (List.length_eq_zero_iff.1 (by omega))
          rw [ref_Facts_l0, ref_Facts_b0, inb_ok t0 t1, hw1, beq_f hl0]
          simp only [t1, decide_true, cond_true, cond_false]
        · simp only [i3]
          constructor
          · rintro ⟨a, b⟩; exact ⟨by omega, b⟩
          · rintro ⟨a, b⟩
            refine ⟨⟨a.1, ?_⟩, b⟩
            by_cases h : x < t
            · exact h
            · exfalso
              have : x = t := by omega
              rw [this] at b; exact hnil b) nf 0 (law, []) (by omega) (by omega) (by omega) ⟨rfl, by simp, fun x => ⟨fun h => (by cases h), fun h => absurd h.1.2 (by omega)⟩⟩
    obtain ⟨lw, fi⟩ := s
    simp only at s1 s2 s3 e
    subst s1
    obtain ⟨T, t1, t2, t3⟩ := turned_F (nf := nf) hW (by omega)
    have hmem : ∀ (i : Nat) (x : Int), x ∈ T.getD i [] ↔ x ∈ (turnL next).getD i [] := by
      intro i x
      by_cases hi : i < next.length
      · rw [t3 i hi, rowT_mem, turnL, turnTo_mem hW]
      · have e1 : T.getD i [] = [] := by simp [List.getD, t2, hi]
        have hlT : (turnL next).length = next.length := (turnTo_tok hW next.length).len
        have e2 : (turnL next).getD i [] = [] := by simp [List.getD, hlT, hi]
        rw [e1, e2]
    have hN : NxK T next.length := by
      refine ⟨t2, fun i => ?_, fun i j hj => ?_⟩
      · by_cases hi : i < next.length
        · rw [t3 i hi]; exact Nat.le_trans (rowT_len _ _) (by omega)
        · have e1 : T.getD i [] = [] := by simp [List.getD, t2, hi]
          rw [e1]; simp
      · have := nxK_of (law := lw) hW
        rw [e1] at this
        exact this.good i j ((hmem i j).1 hj)
    obtain ⟨out, a, b, c⟩ := facts_l2 (nf := nf) (fs := fsOf lw next) hL hN (fun i hi => by rw [e2] at hi; exact hi.1) hf (fl := fi) (fun x hx => by
      have := (s3 x).1 hx
      refine ⟨this.1.1, this.1.2, ?_⟩
      rw [e2]; exact ⟨by omega, this.2⟩) (fun i hi => by
      rw [e2] at hi
      have hi : i < next.length ∧ next.getD i [] = [] := hi
      rw [s3, Int.toNat_natCast]
      exact ⟨⟨by omega, by omega⟩, hi.2⟩) (by omega)
    refine ⟨out, ?_, b, fun i hi => ⟨(c i hi).1, fun g hg => ?_⟩⟩
    · rw [cond_true, e, ref_Facts_l0, ref_Facts_b0, t1]
      simp only [Int.lt_irrefl, decide_false, cond_false, Option.bind_some, t2, Int.natCast_nonneg, Int.le_refl, hlim, decide_true, Bool.and_self, cond_true, Int.toNat_natCast]
      exact a
    · rw [(c i hi).2 g hg]
      have hc : ∀ b, RP lw T (fsOf lw next) g i b ↔ RP lw (nxOf lw next) (fsOf lw next) g i b := fun b => by
        rw [e1]
        exact ⟨RP.congr fun i x h => (hmem i x).1 h, RP.congr fun i x h => (hmem i x).2 h⟩
      unfold FP
      rw [hc, hc]

theorem words_F {a : List Int} (ha : a.length ≤ 8) (hf : 100 ≤ nf) : ref_Words_f nf a a = some (true, ()) := by
  simp only [ref_Words_f, ref_Words_p, bne_self_eq_false, cond_false]
  obtain ⟨fu', s, _, e⟩ := loop_inv (n := (a.length : Int)) (F := fun fu t (_ : Unit) => ref_Words_l0 nf a a fu t) (fun _ _ => True) (fun fu t s t0 t1 _ => by
    refine ⟨(), ?_, trivial⟩
    rw [ref_Words_l0, ref_Words_b0, inb_ok t0 t1, wrap_nn (x := t + 1) (by omega) (by omega), bne_self_eq_false]
    simp only [t1, decide_true, cond_true, cond_false]) nf 0 () (by omega) (by omega) (by omega) trivial
  rw [e, ref_Words_l0, ref_Words_b0]
  simp only [Int.lt_irrefl, decide_false, cond_false]

theorem factSolves_aux (h0 : ∀ x ∈ law.2.2.1 ++ law.2.2.2.1 ++ [law.2.2.2.2.1], 0 ≤ x) (hf : 300 ≤ nf) : law_FactSolves_f nf next law = some (true, ()) := by
  simp only [law_FactSolves_f, law_FactSolves_p]
  by_cases hl : lawC next law = 0
  · obtain ⟨so, a1, a2, a3, a4⟩ := solve_F (nf := nf) hl h0 (by omega)
    obtain ⟨out, b1, b2, b3⟩ := facts_F (nf := nf) hl h0 (by omega)
    have h8 := (lawC_ok hl).1.few
    have heq : so = out := List.ext_getElem (by rw [a2, b2]) fun i h1 h2 => by
      obtain ⟨c1, c2⟩ := b3 i (by omega)
      have hx : so.getD i 0 = out.getD i 0 := b8_ext (a3 i) c1 fun g hg => by
        have h4 := a4 i g (by omega) hg
        have h5 := c2 g hg
        unfold FP at h5
        rw [Bool.eq_iff_iff, h5]
        cases hA : law.2.1 with
        | true =>
          rw [hA] at h4
          have h4 : bt (so.getD i 0) g = false ↔ RP law (nxOf law next) (fsOf law next) g i false := h4
          rw [if_pos rfl, ← h4]
          cases bt (so.getD i 0) g <;> simp
        | false =>
          rw [hA] at h4
          rw [if_neg (by simp)]
          exact h4
      rw [getD_el _ h1, getD_el _ h2] at hx
      exact hx
    rw [a1, lawCheck_F (by omega) law, hl]
    simp only [Option.bind_some, bne_self_eq_false, cond_false, beq_self_eq_true, cond_true]
    rw [b1, ← heq]
    simp only [Option.bind_some]
    rw [words_F (by omega) (by omega)]
    rfl
  · have e : fact_Solve_f nf next law = some ([], lawC next law, ()) := by
      simp only [fact_Solve_f, fact_Solve_p]
      rw [fwrong_F (by omega) law]
      simp only [Option.bind_some, bne_t hl, cond_true]
    rw [e, lawCheck_F (by omega) law]
    simp only [Option.bind_some, bne_t hl, cond_true, beq_self_eq_true]
    rfl

theorem factSolves_law (x : denPs (lawPs [.sl (.sl (.int .i64)), .pair (.bool) (.pair (.bool) (.pair (.sl (.int .u32)) (.pair (.sl (.int .u32)) (.pair (.int .u32) (.unit)))))])) (h : wfPs [.sl (.sl (.int .i64)), .pair (.bool) (.pair (.bool) (.pair (.sl (.int .u32)) (.pair (.sl (.int .u32)) (.pair (.int .u32) (.unit)))))] x) : ∃ n, law_FactSolves_F n x = some (true, ()) := by
  obtain ⟨next, law, _⟩ := x
  obtain ⟨_, ⟨_, _, ⟨_, m2⟩, ⟨_, e2⟩, s2, _⟩, _⟩ := h
  refine ⟨300, factSolves_aux (fun x hx => ?_) (Nat.le_refl _)⟩
  have e0 : IntKind.u32.min = 0 := by decide
  have hm : ∀ (l : List Int), (∀ i, i < List.length l → wfD (.int .u32) (List.getD l i (dflt _))) → ∀ x ∈ l, 0 ≤ x := by
    intro l h x hx
    obtain ⟨i, hi, rfl⟩ := List.mem_iff_getElem.1 hx
    have h1 := h i hi
    have e : List.getD l i (dflt (.int .u32)) = l[i] := by simp [List.getD, hi]
    rw [e] at h1
    have h2 : IntKind.u32.min ≤ l[i] := h1.1
    rwa [e0] at h2
  rw [List.mem_append, List.mem_append, List.mem_singleton] at hx
  rcases hx with (hx | hx) | rfl
  · exact hm _ m2 x hx
  · exact hm _ e2 x hx
  · have : IntKind.u32.min ≤ law.2.2.2.2.1 := s2.1
    rwa [e0] at this
end Go.Proofs.Ytoglkjmdloppcaa
