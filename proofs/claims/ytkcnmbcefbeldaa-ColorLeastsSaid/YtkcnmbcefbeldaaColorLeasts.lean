/- The first coloring with the fewest numbers. -/
import Derived.Test.YtkcnmbcefbeldaaClash
import Derived.Test.YtkcnmbcefbeldaaAbLaw
namespace Go.Ab

theorem nodup_sub_len : ∀ (l r : List Int), l.Nodup → (∀ x ∈ l, x ∈ r) → l.length ≤ r.length
  | [], r, _, _ => Nat.zero_le _
  | a :: l, r, hn, h => by
    obtain ⟨h1, h2⟩ := List.nodup_cons.1 hn
    have hm : a ∈ r := h a (by simp)
    have := nodup_sub_len l (r.erase a) h2 fun x hx => (List.mem_erase_of_ne (fun e => h1 (by rw [← e]; exact hx))).2 (h x (by simp [hx]))
    rw [List.length_erase_of_mem hm] at this
    have := List.length_pos_of_mem hm
    simp; omega
theorem freshC (l : List Int) : ∃ c : Nat, c ≤ l.length ∧ (c : Int) ∉ l := Classical.byContradiction fun hno => by
  have hn : ((List.range (l.length + 1)).map Int.ofNat).Nodup := by
    rw [List.nodup_iff_pairwise_ne, List.pairwise_map]
    exact (List.nodup_iff_pairwise_ne.1 List.nodup_range).imp fun h he => h (Int.ofNat.inj he)
  have := nodup_sub_len _ l hn fun x hx => by
    obtain ⟨c, hc, rfl⟩ := List.mem_map.1 hx
    have := List.mem_range.1 hc
    exact Classical.byContradiction fun h => hno ⟨c, by omega, h⟩
  simp at this
  omega

/-- may the next thing have number c? -/
def okAt (cl : Int → Int → Bool) (out : List Int) (c : Int) : Bool := chk (fun j => !(out.getD j.toNat 0 == c && cl j out.length)) out.length 0
/-- number by number -/
def tryC (g : List Int → List Int) (ok : Int → Bool) (out : List Int) : Nat → Int → List Int
  | 0, _ => []
  | m + 1, c => bif ok c && !(g (out ++ [c])).isEmpty then g (out ++ [c]) else tryC g ok out m (c + 1)
/-- the first coloring that goes on with out; none: [] -/
def srch (n : Nat) (cl : Int → Int → Bool) (k : Int) : Nat → List Int → List Int
  | 0, out => out
  | d + 1, out => tryC (srch n cl k d) (okAt cl out) out k.toNat 0

theorem tryC_some {g : List Int → List Int} {ok : Int → Bool} {out : List Int} : ∀ {m : Nat} {t c : Int}, t ≤ c → c < t + m → ok c = true → g (out ++ [c]) ≠ [] → tryC g ok out m t ≠ []
  | 0, t, c, a, b, _, _ => by omega
  | m + 1, t, c, a, b, h1, h2 => by
    simp only [tryC]
    by_cases ht : (ok t && !(g (out ++ [t])).isEmpty) = true
    · rw [ht, cond_true]
      rw [Bool.and_eq_true] at ht
      intro he; rw [he] at ht; simp at ht
    · rw [Bool.not_eq_true] at ht
      rw [ht, cond_false]
      refine tryC_some (c := c) ?_ (by omega) h1 h2
      by_cases htc : t = c
      · subst htc
        rw [h1, Bool.true_and] at ht
        exfalso
        cases hq : g (out ++ [t]) with
        | nil => exact h2 hq
        | cons x r => rw [hq] at ht; simp at ht
      · omega

theorem srch_some {n : Nat} {cl : Int → Int → Bool} {k : Int} (hk : (n : Int) ≤ k) (hn : 1 ≤ n) : ∀ (d : Nat) (out : List Int), out.length + d = n → srch n cl k d out ≠ []
  | 0, out, h => by
    simp only [srch]
    intro he; rw [he] at h; simp at h; omega
  | d + 1, out, h => by
    obtain ⟨c, c1, c2⟩ := freshC out
    simp only [srch]
    refine tryC_some (c := (c : Int)) (by omega) (by omega) ?_ (srch_some hk hn d _ (by simp; omega))
    unfold okAt
    rw [chk_iff]
    intro i i0 i1
    have hm := getD_mem (l := out) (t := i) (d := 0) i0 (by omega)
    rw [beq_f (fun e => c2 (by rw [← e]; exact hm))]; rfl
end Go.Ab
namespace Go.Proofs.Ytkcnmbcefbeldaa
open Go Go.Ab S

variable {nf : Nat} {pairs : List (Int × Int × Unit)} {n : Nat}

theorem cints_F (a : List Int) (hl : a.length ≤ 20) (hf : 40 ≤ nf) : ref_Ints_f nf a a = some (true, ()) := by
  have key := loop_chk (n := (a.length : Int)) (F := fun fu t => ref_Ints_l0 nf a a fu t) (yes := some (true, ())) (no := some (false, ())) (fun _ => true) (fun fu t h0 ht => by
    rw [ref_Ints_l0, ref_Ints_b0, inb_ok h0 ht, wrap_step h0 ht (Nat.le_trans hl (by decide))]
    simp only [ht, decide_true, cond_true, bne_self_eq_false, cond_false]) (fun fu => by
    rw [ref_Ints_l0, ref_Ints_b0]
    simp only [Int.lt_irrefl, decide_false, cond_false]) nf 0 (by omega) (by omega) (by omega)
  simp only [ref_Ints_f, ref_Ints_p, bne_self_eq_false, cond_false]
  rw [key, chk_iff.2 fun _ _ _ => rfl]; rfl

/-- the numbers that are tried one by one -/
theorem fill_l2 {w : List Int} (hw : WithOK n pairs w) (h8 : n ≤ 8) (hn : 40 ≤ nf) {k : Int} {out : List Int} (hlen : out.length < n) {c : Int} (g0 : List Int → Int → Option (List Int × Bool × Unit)) (self : _) :
    color_fill_l2 nf self w k out c out g0 nf out true 0 = bif okAt (clashB pairs) out c then (Option.bind (self (w, out ++ [c], k, ())) fun r => bif r.2.1 then some (r.1, true, ()) else g0 out (IntKind.i64.wrap (c + 1))) else g0 out (IntKind.i64.wrap (c + 1)) := by
  obtain ⟨hw1, hw2⟩ := hw
  have hwl : w.length = n := by omega
  obtain ⟨w1, w2⟩ := hw2 out.length (by omega) (by omega)
  obtain ⟨fu', q, ⟨q1, q2⟩, e⟩ := loop_inv (n := (out.length : Int)) (F := fun fu t (q : List Int × Bool) => color_fill_l2 nf self w k out c out g0 fu q.1 q.2 t)
    (fun t q => q.1 = out ∧ q.2 = chk (fun j => !(out.getD j.toNat 0 == c && clashB pairs j out.length)) t.toNat 0) (fun fu t q h0 ht hI => by
      obtain ⟨i1, i2⟩ := hI
      have hst : color_fill_l2 nf self w k out c out g0 (fu + 1) q.1 q.2 t = color_fill_b2 nf self w k out c out g0 (color_fill_l2 nf self w k out c out g0 fu) q.1 q.2 t := rfl
      have hbb := shr_and_beq0 w1 h0 (by omega)
      simp only [and32] at hbb
      have hcb : bt (w.getD out.length 0) t.toNat = clashB pairs t out.length := by
        have := w2 t.toNat
        rw [Int.toNat_natCast] at this
        rw [this, clashB_symm, show ((t.toNat : Nat) : Int) = t by omega]
      rw [Int.toNat_natCast] at hbb
      have hnx : chk (fun j => !(out.getD j.toNat 0 == c && clashB pairs j out.length)) (t + 1).toNat 0 = (q.2 && !(out.getD t.toNat 0 == c && clashB pairs t out.length)) := by
        rw [i2, Bool.eq_iff_iff, Bool.and_eq_true, chk_iff, chk_iff]
        constructor
        · intro h; exact ⟨fun i a b => h i a (by omega), h t h0 (by omega)⟩
        · rintro ⟨h1, h2⟩ i a b
          by_cases hit : i = t
          · subst hit; exact h2
          · exact h1 i a (by omega)
      unfold color_fill_b2 at hst
      rw [i1] at hst
      simp only [ht, decide_true, cond_true, inb_ok h0 ht, wrap_step h0 ht (Nat.le_trans (show out.length ≤ 8 by omega) (by decide)), h0, inb_ok (n := w.length) (t := (out.length : Int)) (by omega) (by omega), Int.toNat_natCast, hbb, hcb] at hst
      refine ⟨(out, q.2 && !(out.getD t.toNat 0 == c && clashB pairs t out.length)), ?_, rfl, hnx.symm⟩
      rw [i1, hst]
      cases hq : q.2 with
      | false => simp
      | true =>
        by_cases he : out.getD t.toNat 0 = c
        · rw [he, bne_self_eq_false, beq_self_eq_true]; simp
        · rw [bne_t he, beq_f he]; simp) nf 0 (out, true) (by omega) (by omega) (by omega) ⟨rfl, rfl⟩
  rw [Int.toNat_natCast] at q2
  rw [show color_fill_l2 nf self w k out c out g0 nf out true 0 = _ from e, color_fill_l2, q1, q2]
  unfold color_fill_b2 okAt
  have e1 : List.take ((out.length : Int) - (((0 : Nat)) : Int)).toNat (List.drop 0 out) = out := by
    rw [List.drop_zero, show ((out.length : Int) - ((0 : Nat) : Int)).toNat = out.length by omega, List.take_length]
  have e1' : List.take ((out.length : Int) - 0).toNat (List.drop 0 out) = out := e1
  have hble : (out.length + [c].length).ble lim = true := ble_ok (by simp; omega)
  have e2 : (out ++ [c]).isEmpty = false := by cases out <;> rfl
  simp only [Int.lt_irrefl, decide_false, cond_false, e1, e1', hble, e2, bimp, Option.isSome_some, Bool.not_false, cond_true, Int.le_refl, decide_true, show ((0 : Nat) : Int) = 0 from rfl, show (0 : Int) ≤ (out.length : Int) by omega, Bool.and_self, List.isEmpty_cons, Bool.not_true, Bool.true_and, Bool.or_true, Bool.or_false, Bool.true_or]
  cases chk (fun j => !(out.getD j.toNat 0 == c && clashB pairs j out.length)) out.length 0 <;> rfl

theorem fill_F {w : List Int} (hw : WithOK n pairs w) (h8 : n ≤ 8) (hn1 : 1 ≤ n) {k : Int} (hk0 : 0 ≤ k) (hk : k ≤ 8) : ∀ (d nf : Nat) (out : List Int), out.length + d = n → 40 + d < nf → color_fill_F nf (w, out, k, ()) = some (srch n (clashB pairs) k d out, !(srch n (clashB pairs) k d out).isEmpty, ())
  | d, 0, out, h, hf => by omega
  | 0, nf + 1, out, h, hf => by
    have hwl : w.length = n := by have := hw.1; omega
    rw [color_fill_F, color_fill_f, color_fill_p]
    simp only [srch, hwl, show out.length = n by omega, beq_self_eq_true, cond_true]
    cases hq : out with
    | nil => rw [hq] at h; simp at h; omega
    | cons x r => rfl
  | d + 1, nf + 1, out, h, hf => by
    have hwl : w.length = n := by have := hw.1; omega
    have ih := fun c : Int => fill_F hw h8 hn1 hk0 hk d nf (out ++ [c]) (by simp; omega) (by omega)
    rw [color_fill_F, color_fill_f, color_fill_p]
    simp only [hwl, beq_f (show ¬ (out.length : Int) = (n : Int) by omega), cond_false, srch]
    have key : ∀ (m fu : Nat) (c : Int), 0 ≤ c → c + m = k → m < fu → color_fill_l0 nf (color_fill_F nf) w k out fu out c = some (tryC (srch n (clashB pairs) k d) (okAt (clashB pairs) out) out m c, !(tryC (srch n (clashB pairs) k d) (okAt (clashB pairs) out) out m c).isEmpty, ()) := by
      intro m
      induction m with
      | zero =>
        intro fu c c0 hc hfu
        obtain ⟨fu', rfl⟩ : ∃ j, fu = j + 1 := ⟨fu - 1, by omega⟩
        rw [color_fill_l0, color_fill_b0, show decide (c < k) = false by rw [decide_eq_false_iff_not]; omega]
        rfl
      | succ m ihm =>
        intro fu c c0 hc hfu
        obtain ⟨fu', rfl⟩ : ∃ j, fu = j + 1 := ⟨fu - 1, by omega⟩
        have hw1 : IntKind.i64.wrap (c + 1) = c + 1 := Go.IntWalk.i64_in _ (by omega)
        rw [color_fill_l0, color_fill_b0, show decide (c < k) = true by rw [decide_eq_true_eq]; omega, cond_true, fill_l2 hw h8 (by omega) (by omega), ih c, hw1, ihm fu' (c + 1) (by omega) (by omega) (by omega)]
        simp only [Option.bind_some, tryC]
        cases okAt (clashB pairs) out c with
        | false => rfl
        | true =>
          cases hq : srch n (clashB pairs) k d (out ++ [c]) with
          | nil => simp
          | cons x r => simp
    exact key k.toNat nf 0 (by omega) (by omega) (by omega)

theorem colored_l2 (h28 : pairs.length ≤ 28) (h8 : n ≤ 8) (hn : 300 ≤ nf) {k : Int} {out : List Int} (hlen : out.length < n) {c : Int} (g0 : List Int → Int → Option (List Int × Unit)) (self : _) :
    ref_Colored_l2 nf self n pairs k c g0 nf out true 0 = bif okAt (clashB pairs) out c then (Option.bind (self ((n : Int), pairs, k, out ++ [c], ())) fun r => bif !List.isEmpty r.1 then some (r.1, ()) else g0 out (IntKind.i64.wrap (c + 1))) else g0 out (IntKind.i64.wrap (c + 1)) := by
  obtain ⟨fu', q, ⟨q1, q2⟩, e⟩ := loop_inv (n := (out.length : Int)) (F := fun fu t (q : List Int × Bool) => ref_Colored_l2 nf self n pairs k c g0 fu q.1 q.2 t)
    (fun t q => q.1 = out ∧ q.2 = chk (fun j => !(out.getD j.toNat 0 == c && clashB pairs j out.length)) t.toNat 0) (fun fu t q h0 ht hI => by
      obtain ⟨i1, i2⟩ := hI
      have hst : ref_Colored_l2 nf self n pairs k c g0 (fu + 1) q.1 q.2 t = ref_Colored_b2 nf self n pairs k c g0 (ref_Colored_l2 nf self n pairs k c g0 fu) q.1 q.2 t := rfl
      have hnx : chk (fun j => !(out.getD j.toNat 0 == c && clashB pairs j out.length)) (t + 1).toNat 0 = (q.2 && !(out.getD t.toNat 0 == c && clashB pairs t out.length)) := by
        rw [i2, Bool.eq_iff_iff, Bool.and_eq_true, chk_iff, chk_iff]
        constructor
        · intro h; exact ⟨fun i a b => h i a (by omega), h t h0 (by omega)⟩
        · rintro ⟨h1, h2⟩ i a b
          by_cases hit : i = t
          · subst hit; exact h2
          · exact h1 i a (by omega)
      unfold ref_Colored_b2 at hst
      rw [i1] at hst
      simp only [ht, decide_true, cond_true, inb_ok h0 ht, wrap_step h0 ht (Nat.le_trans (show out.length ≤ 8 by omega) (by decide)), clash_F h28 hn, Option.bind_some] at hst
      refine ⟨(out, q.2 && !(out.getD t.toNat 0 == c && clashB pairs t out.length)), ?_, rfl, hnx.symm⟩
      rw [i1, hst]
      by_cases he : out.getD t.toNat 0 = c
      · rw [he, beq_self_eq_true, cond_true]
        cases clashB pairs t out.length <;> simp
      · rw [beq_f he]; simp) nf 0 (out, true) (by omega) (by omega) (by omega) ⟨rfl, rfl⟩
  rw [Int.toNat_natCast] at q2
  rw [show ref_Colored_l2 nf self n pairs k c g0 nf out true 0 = _ from e, ref_Colored_l2, q1, q2]
  unfold ref_Colored_b2 okAt
  have hble : (0 + out.length).ble lim = true := ble_ok (by omega)
  have hble2 : (out.length + [c].length).ble lim = true := ble_ok (by simp; omega)
  have e2 : (out ++ [c]).isEmpty = false := by cases out <;> rfl
  simp only [Int.lt_irrefl, decide_false, cond_false, List.length_nil, List.nil_append, hble, hble2, e2, bimp, Bool.and_self, Bool.not_false, Bool.true_or, Bool.and_true, cond_true]

theorem colored_F (h28 : pairs.length ≤ 28) (h8 : n ≤ 8) (hn1 : 1 ≤ n) {k : Int} (hk0 : 0 ≤ k) (hk : k ≤ 8) : ∀ (d nf : Nat) (out : List Int), out.length + d = n → 300 + d < nf → ref_Colored_F nf ((n : Int), pairs, k, out, ()) = some (srch n (clashB pairs) k d out, ())
  | d, 0, out, h, hf => by omega
  | 0, nf + 1, out, h, hf => by
    rw [ref_Colored_F, ref_Colored_f, ref_Colored_p]
    simp only [srch, show out.length = n by omega, beq_self_eq_true, cond_true]
  | d + 1, nf + 1, out, h, hf => by
    have ih := fun c : Int => colored_F h28 h8 hn1 hk0 hk d nf (out ++ [c]) (by simp; omega) (by omega)
    rw [ref_Colored_F, ref_Colored_f, ref_Colored_p]
    simp only [beq_f (show ¬ (out.length : Int) = (n : Int) by omega), cond_false, srch]
    have key : ∀ (m fu : Nat) (c : Int), 0 ≤ c → c + m = k → m < fu → ref_Colored_l0 nf (ref_Colored_F nf) n pairs k fu out c = some (tryC (srch n (clashB pairs) k d) (okAt (clashB pairs) out) out m c, ()) := by
      intro m
      induction m with
      | zero =>
        intro fu c c0 hc hfu
        obtain ⟨fu', rfl⟩ : ∃ j, fu = j + 1 := ⟨fu - 1, by omega⟩
        rw [ref_Colored_l0, ref_Colored_b0, show decide (c < k) = false by rw [decide_eq_false_iff_not]; omega]
        rfl
      | succ m ihm =>
        intro fu c c0 hc hfu
        obtain ⟨fu', rfl⟩ : ∃ j, fu = j + 1 := ⟨fu - 1, by omega⟩
        have hw1 : IntKind.i64.wrap (c + 1) = c + 1 := Go.IntWalk.i64_in _ (by omega)
        rw [ref_Colored_l0, ref_Colored_b0, show decide (c < k) = true by rw [decide_eq_true_eq]; omega, cond_true, colored_l2 h28 h8 (by omega) (by omega), ih c, hw1, ihm fu' (c + 1) (by omega) (by omega) (by omega)]
        simp only [Option.bind_some, tryC]
        cases okAt (clashB pairs) out c with
        | false => rfl
        | true =>
          cases hq : srch n (clashB pairs) k d (out ++ [c]) with
          | nil => simp
          | cons x r => simp
    exact key k.toNat nf 0 (by omega) (by omega) (by omega)

theorem tryC_len {g : List Int → List Int} {ok : Int → Bool} {out : List Int} (N : Nat) (hg : ∀ c, (g (out ++ [c])).length ≤ N) : ∀ (m : Nat) (t : Int), (tryC g ok out m t).length ≤ N
  | 0, t => by simp [tryC]
  | m + 1, t => by
    simp only [tryC]
    cases (ok t && !(g (out ++ [t])).isEmpty) with
    | true => exact hg t
    | false => exact tryC_len N hg m (t + 1)
theorem srch_len {cl : Int → Int → Bool} {k : Int} : ∀ (d : Nat) (out : List Int), out.length + d = n → (srch n cl k d out).length ≤ n
  | 0, out, h => by simp only [srch]; omega
  | d + 1, out, h => by
    simp only [srch]
    exact tryC_len n (fun c => srch_len d _ (by simp; omega)) _ _

/-- the fewest numbers with which there is a coloring -/
theorem fewest (p : Nat → Prop) : ∀ (m k : Nat), p (k + m) → ∃ K, k ≤ K ∧ K ≤ k + m ∧ p K ∧ ∀ j, k ≤ j → j < K → ¬ p j
  | 0, k, h => ⟨k, Nat.le_refl _, Nat.le_refl _, h, fun j a b => by omega⟩
  | m + 1, k, h => by
    by_cases hp : p k
    · exact ⟨k, Nat.le_refl _, by omega, hp, fun j a b => by omega⟩
    · obtain ⟨K, h1, h2, h3, h4⟩ := fewest p m (k + 1) (by rwa [show k + 1 + m = k + (m + 1) by omega])
      refine ⟨K, by omega, by omega, h3, fun j a b => ?_⟩
      by_cases hj : j = k
      · subst hj; exact hp
      · exact h4 j (by omega) b

theorem colorLeasts_main (hn : 400 ≤ nf) (n : Int) (pairs : List (Int × Int × Unit)) : law_ColorLeasts_f nf n pairs = some (true, ()) := by
  obtain ⟨w, w1, w2, w3⟩ := clashes_F (n := n) (pairs := pairs) (nf := nf) (by omega)
  simp only [law_ColorLeasts_f, law_ColorLeasts_p, color_Least_f, color_Least_p, w3, Option.bind_some, ref_ClashCheck_F (n := n) (pairs := pairs) (nf := nf) (by omega)]
  by_cases hc : clashCode n pairs = 0
  · have hw := w1 hc
    have hok := clashCode_ok hc
    obtain ⟨c1, c2, c3⟩ := (⟨hok.pos, hok.few, hok.len⟩ : 1 ≤ n ∧ n ≤ 8 ∧ pairs.length ≤ 28)
    obtain ⟨n, rfl⟩ : ∃ m : Nat, n = (m : Int) := ⟨n.toNat, by omega⟩
    obtain ⟨K, k1, k2, k3, k4⟩ := fewest (fun K => srch n (clashB pairs) (K : Int) n [] ≠ []) (n - 1) 1 (srch_some (by omega) (by omega) n [] (by simp))
    have hlen := srch_len (n := n) (cl := clashB pairs) (k := (K : Int)) n [] (by simp)
    have hno : ∀ t : Int, 1 ≤ t → t < K → srch n (clashB pairs) t n [] = [] := fun t a b => by
      have := k4 t.toNat (by omega) (by omega)
      rw [show ((t.toNat : Nat) : Int) = t by omega] at this
      exact Classical.byContradiction this
    have hfill := fun (t : Int) (a : 1 ≤ t) (b : t ≤ K) => fill_F hw (show n ≤ 8 by omega) (by omega) (show 0 ≤ t by omega) (by omega) n nf [] (by simp) (by omega)
    have hcol := fun (t : Int) (a : 1 ≤ t) (b : t ≤ K) => colored_F c3 (show n ≤ 8 by omega) (by omega) (show 0 ≤ t by omega) (by omega) n nf [] (by simp) (by omega)
    have hne : (srch n (clashB pairs) (K : Int) n []).isEmpty = false := by
      cases hq : srch n (clashB pairs) (K : Int) n [] with
      | nil => exact absurd hq k3
      | cons x r => rfl
    obtain ⟨fu1, q, ⟨_, rfl⟩, e1⟩ := loop_inv (n := (K : Int)) (F := fun fu t (q : List Int) => color_Least_l0 nf fu q t) (fun t q => 1 ≤ t ∧ q = w) (fun fu t q h0 ht hI => ⟨q, by
      obtain ⟨h1, rfl⟩ := hI
      have hw1 : IntKind.i64.wrap (t + 1) = t + 1 := Go.IntWalk.i64_in _ (by omega)
      rw [color_Least_l0, color_Least_b0, hfill t h1 (by omega), hno t h1 ht, hw1]
      rfl, by omega, hI.2⟩) nf 1 w (by omega) (by omega) (by omega) ⟨by omega, rfl⟩
    have hL : color_Least_l0 nf nf q 1 = some (srch n (clashB pairs) (K : Int) n [], 0, ()) := by
      rw [show color_Least_l0 nf nf q 1 = _ from e1, color_Least_l0, color_Least_b0, hfill K (by omega) (by omega), hne]
      rfl
    rw [hc]
    simp only [bne_self_eq_false, cond_false]
    rw [hL]
    simp only [Option.bind_some, bne_self_eq_false, cond_false]
    obtain ⟨fu2, q2, ⟨_, r1, r2⟩, e2⟩ := loop_inv (n := (K : Int)) (F := fun fu t (q : List Int × List Int) => law_ColorLeasts_l0 nf n pairs (srch n (clashB pairs) (K : Int) n [], 0, ()) (fu + 1) q.1 q.2 t) (fun t q => 1 ≤ t ∧ q.1 = srch n (clashB pairs) (K : Int) n [] ∧ q.2 = []) (fun fu t q h0 ht hI => ⟨q, by
      obtain ⟨h1, h2, h3⟩ := hI
      have hw1 : IntKind.i64.wrap (t + 1) = t + 1 := Go.IntWalk.i64_in _ (by omega)
      rw [law_ColorLeasts_l0, law_ColorLeasts_b0, hcol t h1 (by omega), hno t h1 ht, hw1, h3]
      rfl, by omega, hI.2⟩) (nf - 1) 1 (srch n (clashB pairs) (K : Int) n [], []) (by omega) (by omega) (by omega) ⟨by omega, rfl, rfl⟩
    rw [show nf - 1 + 1 = nf by omega] at e2
    rw [show law_ColorLeasts_l0 nf n pairs (srch n (clashB pairs) (K : Int) n [], 0, ()) nf (srch n (clashB pairs) (K : Int) n []) [] 1 = _ from e2, law_ColorLeasts_l0, law_ColorLeasts_b0, r2, hcol K (by omega) (by omega), r1]
    simp only [List.isEmpty_nil, cond_true, Option.bind_some]
    rw [law_ColorLeasts_l0, law_ColorLeasts_b0, hne, cints_F _ (by omega) (by omega)]
    rfl
  · rw [w2 hc]
    simp only [bne_t hc, cond_true, beq_self_eq_true, Option.bind_some]
    rfl

theorem colorLeasts_law (x : denPs (lawPs [.int .i64, .sl (.pair (.int .i64) (.pair (.int .i64) .unit))])) (_ : wfPs [.int .i64, .sl (.pair (.int .i64) (.pair (.int .i64) .unit))] x) : ∃ n, law_ColorLeasts_F n x = some (true, ()) := by
  obtain ⟨n, l, _⟩ := x
  exact ⟨400, colorLeasts_main (by omega) n l⟩
end Go.Proofs.Ytkcnmbcefbeldaa
