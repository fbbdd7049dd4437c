/- The circles are moved, one by one. -/
import Derived.Test.YtmndifhjmbiodaaSwapVals
namespace Go.Proofs.Ytmndifhjmbiodaa
open Go Go.Ab S

theorem order_l2 {nf n : Nat} {f : Int → Int} (h8 : n ≤ 8) (hn : 20 ≤ nf) (r4 : List Int × List Int × Unit) (g0 : List Mv → List Int × List Int × Unit → Int → Option (List Mv × Int × Unit)) {t : Nat} (ht : t < n) {F : List Int} (h : RestC n f t F) (hh : Head n f t) (u : List Int × Unit) {out : List Mv} (ho : OrdC n f t out) (hlen : out.length + left F ≤ 100) :
    ∃ (G : List Int) (out' : List Mv), RestC n f ((t : Int) + 1) G ∧ OrdC n f ((t : Int) + 1) out' ∧ out'.length + left G = out.length + left F + 1 ∧
      swap_Order_l2 nf n t r4 g0 nf (out ++ [((n : Int), (t : Int), ())]) t (F, u) = g0 out' (G, u) (IntKind.i64.wrap ((t : Int) + 1)) := by
  obtain ⟨p0, p1, p2⟩ := hh.1.back
  obtain ⟨p, hp, hb, hl⟩ := back_least p0 p1 p2
  have hin := hh.1.inn
  have hpn := back_short hin hp hb hl
  have hab : Above n f t t := hh
  obtain ⟨fu', q, ⟨q1, q2, q3, q4, q5, q6, q7, q8, q9, q10⟩, e⟩ := loop_inv (n := (p - 1 : Nat)) (F := fun fu _ (q : List Mv × Int × List Int × List Int × Unit) => swap_Order_l2 nf n t r4 g0 fu q.1 q.2.1 q.2.2)
    (fun k q => q.2.1 = it f k.toNat t ∧ q.2.2.1.length = n ∧ q.2.2.2 = u ∧ (∀ c : Nat, c < n → (∃ m, m < k.toNat ∧ (c : Int) = it f m t) → q.2.2.1.getD c 0 = c) ∧ (∀ c : Nat, c < n → ¬ (∃ m, m < k.toNat ∧ (c : Int) = it f m t) → q.2.2.1.getD c 0 = F.getD c 0) ∧
      (∀ m ∈ q.1, 0 ≤ m.1 ∧ m.1 ≤ n ∧ 0 ≤ m.2.1 ∧ m.2.1 ≤ n) ∧ vals q.1 id n = t ∧ (∀ c : Nat, c < n → (∃ m, m < k.toNat ∧ (c : Int) = it f m t) → vals q.1 id c = f c) ∧ (∀ c : Nat, c < n → ¬ (∃ m, m < k.toNat ∧ (c : Int) = it f m t) → vals q.1 id c = vals out id c) ∧
      q.1.length + left q.2.2.1 = out.length + left F + 1) (fun fu k q h0 hk hI => by
      obtain ⟨i1, i2, i3, i4, i5, i6, i7, i8, i9, i10⟩ := hI
      have hi := hin k.toNat
      have hi2 := hin (k.toNat + 1)
      have hq := hi
      rw [← i1] at hq
      have hnv : ∀ m, m < k.toNat → it f k.toNat t ≠ it f m t := fun m hm e => it_dist hb hl hm (by omega) e.symm
      have hnv2 : ¬ ∃ m, m < k.toNat ∧ it f (k.toNat + 1) t = it f m t := fun ⟨m, hm, e⟩ => it_dist hb hl (show m < k.toNat + 1 by omega) (by omega) e.symm
      have hg : q.2.2.1.getD q.2.1.toNat 0 = f q.2.1 := by
        rw [i5 q.2.1.toNat (by omega) ?_]
        · have := h.yes q.2.1.toNat (by omega) (by rw [show ((q.2.1.toNat : Nat) : Int) = q.2.1 by omega, i1]; exact hab.shifts _)
          rwa [show ((q.2.1.toNat : Nat) : Int) = q.2.1 by omega] at this
        · rintro ⟨m, hm, e⟩
          rw [show ((q.2.1.toNat : Nat) : Int) = q.2.1 by omega, i1] at e
          exact hnv m hm e
      have hmv := hh.1.move k.toNat
      rw [← i1] at hmv
      have hf1 : f q.2.1 = it f (k.toNat + 1) t := by rw [it_succ, ← i1]
      have hne : f q.2.1 ≠ t := by rw [hf1]; exact hl _ (by omega) (by omega)
      have hvf : vals q.1 id (f q.2.1) = f q.2.1 := by
        have h1 := i9 (f q.2.1).toNat (by omega) (by rw [show (((f q.2.1).toNat : Nat) : Int) = f q.2.1 by omega, hf1]; exact hnv2)
        rw [show (((f q.2.1).toNat : Nat) : Int) = f q.2.1 by omega] at h1
        rw [h1]
        have h2 := ho.yes (f q.2.1).toNat (by omega) (by rw [show (((f q.2.1).toNat : Nat) : Int) = f q.2.1 by omega, hf1]; exact hab.shifts _)
        rwa [show (((f q.2.1).toNat : Nat) : Int) = f q.2.1 by omega] at h2
      have hls : left q.2.2.1 = left (q.2.2.1.set q.2.1.toNat q.2.1) + 1 := by
        have := left_set (G := q.2.2.1) (i := q.2.1.toNat) (by omega) (by rw [hg]; omega)
        rwa [show ((q.2.1.toNat : Nat) : Int) = q.2.1 by omega] at this
      have hble : (q.1.length + [(q.2.1, f q.2.1, ())].length).ble lim = true := ble_ok (by simp; omega)
      refine ⟨(q.1 ++ [(q.2.1, f q.2.1, ())], f q.2.1, q.2.2.1.set q.2.1.toNat q.2.1, q.2.2.2), ?_, ?_, by simpa using i2, i3, fun c hc hm => ?_, fun c hc hm => ?_, fun m hm => ?_, ?_, fun c hc hm => ?_, fun c hc hm => ?_, ?_⟩
      · rw [swap_Order_l2, swap_Order_b2]
        rw [inb_ok (n := List.length q.2.2.1) hq.1 (by omega), hg, bne_t hne, hble]
        simp [bimp]
      · rw [show (k + 1).toNat = k.toNat + 1 by omega]; exact hf1
      · show (q.2.2.1.set q.2.1.toNat q.2.1).getD c 0 = c
        rw [getD_upd (by omega)]
        split
        · omega
        · rename_i hne
          obtain ⟨m, m1, m2⟩ := hm
          refine i4 c hc ⟨m, ?_, m2⟩
          have : m ≠ k.toNat := fun e => by subst e; rw [← i1] at m2; omega
          omega
      · show (q.2.2.1.set q.2.1.toNat q.2.1).getD c 0 = F.getD c 0
        rw [getD_upd (by omega), if_neg (fun e => hm ⟨k.toNat, by omega, by rw [← i1]; omega⟩)]
        exact i5 c hc fun ⟨m, m1, m2⟩ => hm ⟨m, by omega, m2⟩
      · rcases List.mem_append.1 hm with h1 | h1
        · exact i6 m h1
        · rw [List.mem_singleton] at h1
          subst h1
          exact ⟨hq.1, by show q.2.1 ≤ n; omega, by show 0 ≤ f q.2.1; omega, by show f q.2.1 ≤ n; omega⟩
      · show vals (q.1 ++ [(q.2.1, f q.2.1, ())]) id n = t
        rw [vals_app, if_neg (show ¬ (n : Int) = q.2.1 by omega)]; exact i7
      · show vals (q.1 ++ [(q.2.1, f q.2.1, ())]) id c = f c
        rw [vals_app]
        split
        · rename_i hcq
          have hcq : (c : Int) = q.2.1 := hcq
          show vals q.1 id (f q.2.1) = f c
          rw [hvf, hcq]
        · rename_i hne
          have hne : ¬ (c : Int) = q.2.1 := hne
          obtain ⟨m, m1, m2⟩ := hm
          refine i8 c hc ⟨m, ?_, m2⟩
          have : m ≠ k.toNat := fun e => by subst e; rw [← i1] at m2; omega
          omega
      · show vals (q.1 ++ [(q.2.1, f q.2.1, ())]) id c = vals out id c
        rw [vals_app, if_neg (fun e => hm ⟨k.toNat, by omega, by rw [← i1]; exact e⟩)]
        exact i9 c hc fun ⟨m, m1, m2⟩ => hm ⟨m, by omega, m2⟩
      · show (q.1 ++ [(q.2.1, f q.2.1, ())]).length + left (q.2.2.1.set q.2.1.toNat q.2.1) = _
        simp; omega) nf 0 (out ++ [((n : Int), (t : Int), ())], t, F, u) (by omega) (by omega) (by omega)
    ⟨rfl, h.len, rfl, fun c hc hm => by obtain ⟨m, m1, _⟩ := hm; simp at m1, fun c hc hm => rfl, fun m hm => by
      rcases List.mem_append.1 hm with h1 | h1
      · exact ho.ins m h1
      · rw [List.mem_singleton] at h1
        subst h1
        exact ⟨by omega, by simp, by simp, by show (t : Int) ≤ n; omega⟩, by
      show vals (out ++ [((n : Int), (t : Int), ())]) id n = t
      rw [vals_app, if_pos rfl]
      exact ho.yes t ht hab, fun c hc hm => by obtain ⟨m, m1, _⟩ := hm; simp at m1, fun c hc hm => by
      show vals (out ++ [((n : Int), (t : Int), ())]) id c = vals out id c
      rw [vals_app, if_neg (show ¬ (c : Int) = (n : Int) by omega)], by simp; omega⟩
  rw [Int.toNat_natCast] at q1 q4 q5 q8 q9
  have hi := hin (p - 1)
  have hq := hi
  rw [← q1] at hq
  have hf1 : f q.2.1 = t := by rw [q1, ← it_succ f (p - 1), show p - 1 + 1 = p by omega, hb]
  have hnv : ¬ ∃ m, m < p - 1 ∧ q.2.1 = it f m t := fun ⟨m, hm, e⟩ => it_dist hb hl hm (by omega) (by rw [← e, q1])
  have hg : q.2.2.1.getD q.2.1.toNat 0 = t := by
    rw [q5 q.2.1.toNat (by omega) (by rw [show ((q.2.1.toNat : Nat) : Int) = q.2.1 by omega]; exact hnv)]
    have := h.yes q.2.1.toNat (by omega) (by rw [show ((q.2.1.toNat : Nat) : Int) = q.2.1 by omega, q1]; exact hab.shifts _)
    rw [this, show ((q.2.1.toNat : Nat) : Int) = q.2.1 by omega, hf1]
  have hmv := hh.1.move (p - 1)
  rw [← q1, hf1] at hmv
  have hls : left q.2.2.1 = left (q.2.2.1.set q.2.1.toNat q.2.1) + 1 := by
    have := left_set (G := q.2.2.1) (i := q.2.1.toNat) (by omega) (by rw [hg]; omega)
    rwa [show ((q.2.1.toNat : Nat) : Int) = q.2.1 by omega] at this
  have hble : (q.1.length + [(q.2.1, (n : Int), ())].length).ble lim = true := ble_ok (by simp; omega)
  have vis : ∀ c : Int, (∃ m, m < p ∧ c = it f m t) ↔ c = q.2.1 ∨ ∃ m, m < p - 1 ∧ c = it f m t := fun c => by
    constructor
    · rintro ⟨m, m1, m2⟩
      by_cases hm : m = p - 1
      · subst hm; exact .inl (by rw [q1]; exact m2)
      · exact .inr ⟨m, by omega, m2⟩
    · rintro (h1 | ⟨m, m1, m2⟩)
      · exact ⟨p - 1, by omega, by rw [← q1]; exact h1⟩
      · exact ⟨m, by omega, m2⟩
  have hrest : RestC n f ((t : Int) + 1) (q.2.2.1.set q.2.1.toNat q.2.1) := h.off hh hp hb (by simpa using q2) (fun c hc hm => by
      rw [getD_upd (by omega)]
      split
      · omega
      · rename_i hne
        rcases (vis c).1 hm with h1 | h1
        · omega
        · exact q4 c hc h1) (fun c hc hm => by
      rw [getD_upd (by omega), if_neg (fun e => hm ((vis c).2 (.inl (by omega))))]
      exact q5 c hc fun h1 => hm ((vis c).2 (.inr h1)))
  have hval : ∀ c : Nat, c < n → vals (q.1 ++ [(q.2.1, (n : Int), ())]) id c = if (c : Int) = q.2.1 then (t : Int) else vals q.1 id c := fun c hc => by
    rw [vals_app]
    split
    · exact q7
    · rfl
  refine ⟨q.2.2.1.set q.2.1.toNat q.2.1, q.1 ++ [(q.2.1, (n : Int), ())], hrest, ⟨fun m hm => ?_, fun c hc ha => ?_, fun c hc ha => ?_⟩, ?_, ?_⟩
  · rcases List.mem_append.1 hm with h1 | h1
    · exact q6 m h1
    · rw [List.mem_singleton] at h1
      subst h1
      exact ⟨hq.1, by show q.2.1 ≤ n; omega, by simp, by simp⟩
  · have hn2 := Above.next.1 ha
    have hoff : ¬ ∃ m, m < p ∧ (c : Int) = it f m t := by
      rintro ⟨m, _, e⟩
      obtain ⟨k, hk⟩ := it_ret hp hb m
      rw [← e] at hk
      exact hn2.2 k hk
    rw [hval c hc, if_neg (fun e => hoff ((vis c).2 (.inl e))), q9 c hc fun h1 => hoff ((vis c).2 (.inr h1))]
    exact ho.yes c hc hn2.1
  · rw [hval c hc]
    by_cases hon : ∃ m, m < p ∧ (c : Int) = it f m t
    · split
      · rename_i hcq
        rw [hcq, hf1]
      · rename_i hne
        rcases (vis c).1 hon with h1 | h1
        · exact absurd h1 hne
        · exact q8 c hc h1
    · rw [if_neg (fun e => hon ((vis c).2 (.inl e))), q9 c hc fun h1 => hon ((vis c).2 (.inr h1))]
      refine ho.no c hc fun h2 => ha (Above.next.2 ⟨h2, fun m hm => hon ?_⟩)
      obtain ⟨k, hk⟩ := (h2.on hm).2
      exact ⟨k % p, Nat.mod_lt _ hp, by rw [hk, it_mod hp hb k]⟩
  · simp; omega
  · rw [show swap_Order_l2 nf n t r4 g0 nf (out ++ [((n : Int), (t : Int), ())]) t (F, u) = _ from e, swap_Order_l2, swap_Order_b2]
    rw [inb_ok (n := List.length q.2.2.1) hq.1 (by omega), hg, bne_self_eq_false, hble]
    rw [← q3]
    simp [bimp]

theorem order_l0 {nf n K : Nat} {f : Int → Int} (h8 : n ≤ 8) (hn : 20 ≤ nf) (hK : K ≤ 20) {F : List Int} (h : RestC n f 0 F) (u : List Int × Unit) {out : List Mv} (ho : OrdC n f 0 out) (hk : out.length + left F = K) :
    ∃ out', OrdC n f n out' ∧ out'.length = K + heads n f n ∧ swap_Order_l0 nf n (F, u) nf out (F, u) 0 = some (out', 0, ()) := by
  have hlen := h.len
  obtain ⟨fu', q, ⟨q1, q2, q3, q4⟩, e⟩ := loop_inv (n := n) (F := fun fu t (q : List Mv × List Int × List Int × Unit) => swap_Order_l0 nf n (F, u) fu q.1 q.2 t)
    (fun t q => q.1.length + left q.2.1 = K + heads n f t.toNat ∧ RestC n f t q.2.1 ∧ q.2.2 = u ∧ OrdC n f t q.1) (fun fu t q h0 ht hI => by
      obtain ⟨i1, i2, i3, i4⟩ := hI
      obtain ⟨t, rfl⟩ : ∃ k : Nat, t = (k : Int) := ⟨t.toNat, by omega⟩
      have hcn := heads_n n f t
      rw [Int.toNat_natCast] at i1
      have e1 : ((t : Int) + 1).toNat = t + 1 := by omega
      have hl2 := i2.len
      have hst : swap_Order_l0 nf n (F, u) (fu + 1) q.1 q.2 t = swap_Order_b0 nf (fun _ p1 _ v0 v1 v2 => swap_Order_l2 nf n p1 (F, u) (fun out t16 t28 => swap_Order_l0 nf n (F, u) fu out t16 t28) nf v0 v1 v2) n (F, u) (swap_Order_l0 nf n (F, u) fu) q.1 q.2 t := rfl
      have hble : (q.1.length + [((n : Int), (t : Int), ())].length).ble lim = true := ble_ok (by simp; omega)
      unfold swap_Order_b0 at hst
      simp only [hlen, ht, decide_true, cond_true, inb_ok (n := List.length q.2.1) h0 (by omega), Int.toNat_natCast, wrap_step h0 ht (Nat.le_trans h8 (by decide)), hble, bimp] at hst
      by_cases he : q.2.1.getD t 0 = t
      · rw [he, beq_self_eq_true, cond_true] at hst
        obtain ⟨h1, h2⟩ := i2.skip (by omega) he
        have hab : ∀ c : Int, Above n f ((t : Int) + 1) c ↔ Above n f t c := fun c => by
          rw [Above.next]
          exact ⟨fun h => h.1, fun h => ⟨h, fun m hm => h1 (h.on hm).1⟩⟩
        exact ⟨q, hst, by rw [e1, heads_no h1]; exact i1, h2, i3, i4.ins, fun c hc ha => i4.yes c hc ((hab c).1 ha), fun c hc ha => i4.no c hc fun h2 => ha ((hab c).2 h2)⟩
      · rw [beq_f he, cond_false] at hst
        have hh := i2.head (by omega) he
        obtain ⟨G, out', g1, g2, g3, g4⟩ := order_l2 (nf := nf) h8 hn (F, u) (fun out t16 t28 => swap_Order_l0 nf n (F, u) fu out t16 t28) (show t < n by omega) i2 hh q.2.2 i4 (by omega)
        rw [wrap_step h0 ht (Nat.le_trans h8 (by decide))] at g4
        refine ⟨(out', G, q.2.2), ?_, by rw [e1, heads_yes hh]; show out'.length + left G = _; omega, g1, i3, g2⟩
        rw [hst]
        simpa using g4) nf 0 (out, F, u) (by omega) (by omega) (by omega) ⟨by simpa [heads, cnt] using hk, h, rfl, ho⟩
  have hz := left_zero q2
  rw [Int.toNat_natCast] at q1
  refine ⟨q.1, q4, by omega, ?_⟩
  rw [show swap_Order_l0 nf n (F, u) nf out (F, u) 0 = _ from e, swap_Order_l0, swap_Order_b0]
  simp only [hlen, Int.lt_irrefl, decide_false, cond_false]
end Go.Proofs.Ytmndifhjmbiodaa
