/- Which variables are live at a place: by all places to which one comes. -/
import Derived.Test.YtokjogplnoeicaaShort
import Derived.Test.YtokjogplnoeicaaBits
namespace Go.Proofs.Ytokjogplnoeicaa
open Go Go.Ab S

variable {nf : Nat} {n want v : Int} {p : List Blk}

abbrev Spot := Int × Int × Unit
abbrev S0 : Step6 := (0, 0, 0, 0, 0, ())
def blk (p : List Blk) (i : Int) : Blk := p.getD i.toNat B0
def codeLen (p : List Blk) (i : Int) : Int := ((blk p i).1.length : Int)
def stp (p : List Blk) (x : Spot) : Step6 := (blk p x.1).1.getD x.2.1.toNat S0
/-- what a step uses -/
def rd (s : Step6) : List Int := if s.1 = 1 then [] else if s.1 = 2 then [s.2.2.2.2.1] else [s.2.2.1, s.2.2.2.1]
def Hit (p : List Blk) (want v : Int) (x : Spot) : Prop := (x.2.1 < codeLen p x.1 ∧ v ∈ rd (stp p x)) ∨ (¬ x.2.1 < codeLen p x.1 ∧ ((blk p x.1).2.1 = v ∨ ((blk p x.1).2.1 = -1 ∧ (blk p x.1).2.2.1 = -1 ∧ bt want v.toNat = true)))
def succ (p : List Blk) (v : Int) (x : Spot) : List Spot := if x.2.1 < codeLen p x.1 then (if (stp p x).2.1 ≠ v then [(x.1, x.2.1 + 1, ())] else []) else (nextOf (blk p x.1)).map fun j => (j, 0, ())
inductive LiveP (p : List Blk) (want v : Int) : Spot → Prop
  | hit {x : Spot} : Hit p want v x → LiveP p want v x
  | step {x y : Spot} : y ∈ succ p v x → LiveP p want v y → LiveP p want v x

/-- a place of the program -/
def Place (p : List Blk) (x : Spot) : Prop := (0 ≤ x.1 ∧ x.1 < (p.length : Int)) ∧ 0 ≤ x.2.1 ∧ x.2.1 ≤ codeLen p x.1

theorem blk_mem {i : Int} (h0 : 0 ≤ i) (h1 : i < (p.length : Int)) : blk p i ∈ p := getD_mem h0 h1
theorem nextOf_in {b : Blk} {m : Int} (hb : blockCode n m b = 0) : ∀ j ∈ nextOf b, 0 ≤ j ∧ j < m := by
  obtain ⟨_, b1, b2, b3, b4⟩ := blockCode_ok hb
  intro j hj
  unfold nextOf at hj
  rcases List.mem_append.1 hj with h | h
  · split at h
    · rename_i hc
      simp only [List.mem_singleton] at h
      subst h
      rcases b3 with b3 | b3
      · exact b3
      · omega
    · cases h
  · split at h
    · rename_i hc
      simp only [List.mem_singleton] at h
      subst h
      exact b4 hc.1
    · cases h
theorem succ_place (hp : Good n p) {x : Spot} (hx : Place p x) : ∀ y ∈ succ p v x, Place p y := by
  intro y hy
  unfold succ at hy
  split at hy
  · rename_i hc
    split at hy
    · simp only [List.mem_singleton] at hy
      subst hy
      exact ⟨hx.1, by have := hx.2.1; show 0 ≤ x.2.1 + 1; omega, by show x.2.1 + 1 ≤ codeLen p x.1; omega⟩
    · cases hy
  · obtain ⟨j, hj, rfl⟩ := List.mem_map.1 hy
    have := nextOf_in (hp.ok _ (blk_mem hx.1.1 hx.1.2)) j hj
    exact ⟨this, Int.le_refl _, by simp [codeLen]⟩

theorem rd_in {s : Step6} (hs : stepCode n n s = 0) : ∀ j ∈ rd s, 0 ≤ j ∧ j < n := by
  obtain ⟨op, to, a, b, k, u⟩ := s
  obtain ⟨o1, o6, c1, c2, c4, c3⟩ := stepCode_ok hs
  intro j hj
  unfold rd at hj
  split at hj
  · cases hj
  · rename_i h1
    simp only at h1
    split at hj
    · rename_i h2
      simp only [List.mem_singleton] at hj
      subst hj
      exact c2 h2
    · rename_i h2
      simp only at h2
      obtain ⟨a0, a1, b0, b1⟩ := c3 (by omega)
      simp only [List.mem_cons, List.not_mem_nil, or_false] at hj
      rcases hj with rfl | rfl
      · exact ⟨a0, a1⟩
      · exact ⟨b0, b1⟩
theorem u64_in' {x : Int} (h0 : 0 ≤ x) (h1 : x < 6) : IntKind.u64.wrap x = x := wrap_u64 h0 (by omega)

theorem reads_F (hn6 : n ≤ 6) {s : Step6} (hs : stepCode n n s = 0) : ∃ w, ref_Reads_f nf s = some (w, ()) ∧ W32 w ∧ ∀ i : Nat, bt w i = decide ((i : Int) ∈ rd s) := by
  have hr := rd_in hs
  obtain ⟨op, to, a, b, k, u⟩ := s
  simp only [ref_Reads_f, ref_Reads_p]
  unfold rd at hr ⊢
  simp only at hr ⊢
  by_cases h1 : op = 1
  · rw [if_pos h1]
    exact ⟨0, by simp [h1], W32_zero, fun i => by rw [bt_zero]; simp⟩
  · rw [if_neg h1] at hr ⊢
    by_cases h2 : op = 2
    · rw [if_pos h2] at hr ⊢
      obtain ⟨k0, k1⟩ := hr k (by simp)
      refine ⟨shlI .u32 1 k, ?_, one_w k0 (by omega), fun i => ?_⟩
      · rw [u64_in' k0 (by omega)]; simp [h2, k0]
      · rw [one_bt k0 (by omega)]
        have : (i = k.toNat) ↔ ((i : Int) ∈ [k]) := by simp only [List.mem_singleton]; omega
        exact decide_eq_decide.2 this
    · rw [if_neg h2] at hr ⊢
      obtain ⟨a0, a1⟩ := hr a (by simp)
      obtain ⟨b0, b1⟩ := hr b (by simp)
      refine ⟨or32 (shlI .u32 1 a) (shlI .u32 1 b), ?_, or32_w _ _, fun i => ?_⟩
      · rw [u64_in' a0 (by omega), u64_in' b0 (by omega)]
        simp only [beq_f h1, beq_f h2, cond_false, a0, b0, decide_true, cond_true]
        rfl
      · rw [or32_bt (one_w a0 (by omega)) (one_w b0 (by omega)), one_bt a0 (by omega), one_bt b0 (by omega), ← Bool.decide_or]
        have : (i = a.toNat ∨ i = b.toNat) ↔ ((i : Int) ∈ [a, b]) := by simp only [List.mem_cons, List.not_mem_nil, or_false]; omega
        exact decide_eq_decide.2 this

/-! the list of places -/
def addS (l : List Spot) (x : Spot) : List Spot := if x ∈ l then l else l ++ [x]
theorem addS_mem {l : List Spot} {x y : Spot} : y ∈ addS l x ↔ y ∈ l ∨ y = x := by
  unfold addS
  split
  · rename_i h
    exact ⟨.inl, fun h' => h'.elim id fun e => e ▸ h⟩
  · simp
theorem addS_pre (l : List Spot) (x : Spot) : ∃ r, addS l x = l ++ r := by
  unfold addS
  split
  · exact ⟨[], by simp⟩
  · exact ⟨[x], rfl⟩
theorem addS_nodup {l : List Spot} {x : Spot} (h : l.Nodup) : (addS l x).Nodup := by
  unfold addS
  split
  · exact h
  · rename_i hx
    rw [List.nodup_append]
    exact ⟨h, by simp, fun a ha b hb e => by simp only [List.mem_singleton] at hb; subst hb; exact hx (e ▸ ha)⟩
theorem adds_mem {y : Spot} : ∀ {l s : List Spot}, y ∈ l.foldl addS s ↔ y ∈ s ∨ y ∈ l
  | [], s => by simp
  | x :: l, s => by rw [List.foldl_cons, adds_mem, addS_mem]; simp only [List.mem_cons]; exact or_assoc
theorem adds_pre : ∀ (l s : List Spot), ∃ r, l.foldl addS s = s ++ r
  | [], s => ⟨[], by simp⟩
  | x :: l, s => by
    obtain ⟨r, hr⟩ := addS_pre s x
    obtain ⟨r', hr'⟩ := adds_pre l (addS s x)
    exact ⟨r ++ r', by rw [List.foldl_cons, hr', hr, List.append_assoc]⟩
theorem adds_nodup : ∀ (l : List Spot) {s : List Spot}, s.Nodup → (l.foldl addS s).Nodup
  | [], _, h => h
  | x :: l, _, h => adds_nodup l (addS_nodup h)

structure SpotsOK (p : List Blk) (l : List Spot) : Prop where
  once : l.Nodup
  place : ∀ x ∈ l, Place p x
theorem SpotsOK.len (hp : Good n p) {l : List Spot} (h : SpotsOK p l) : l.length ≤ 168 := by
  have h8 := hp.p8
  have hlen : ∀ x ∈ l, (0 ≤ x.1 ∧ x.1 < 8) ∧ 0 ≤ x.2.1 ∧ x.2.1 ≤ 20 := fun x hx => by
    obtain ⟨h1, h2, h3⟩ := h.place x hx
    have := hp.short _ (blk_mem h1.1 h1.2)
    unfold codeLen at h3
    exact ⟨⟨h1.1, by omega⟩, h2, by omega⟩
  have h1 : (l.map fun x : Spot => x.1 * 21 + x.2.1).Nodup := by
    refine List.Pairwise.map _ (S := fun a b => a ≠ b) ?_ (List.Pairwise.imp_of_mem (R := (· ≠ ·)) (S := fun a b => (a.1 * 21 + a.2.1) ≠ (b.1 * 21 + b.2.1)) ?_ h.once) |> id
    · intro a b hab; exact hab
    · intro a b ha hb hab e
      have qa := hlen a ha
      have qb := hlen b hb
      refine hab ?_
      obtain ⟨a1, a2, u⟩ := a
      obtain ⟨b1, b2, u'⟩ := b
      simp only at e qa qb
      have : a1 = b1 := by omega
      subst this
      have : a2 = b2 := by omega
      subst this
      rfl
  have h2 := nodup_fit 168 (l.map fun x : Spot => x.1 * 21 + x.2.1) h1 fun y hy => by
    obtain ⟨x, hx, rfl⟩ := List.mem_map.1 hy
    have := hlen x hx
    omega
  simpa using h2

theorem comes_F (l : List Spot) (x : Spot) (hl : l.length ≤ 300) (hf : 310 ≤ nf) : ref_comes_f nf l x = some (addS l x, ()) := by
  have key := loop_first (n := (l.length : Int)) (F := fun fu t => ref_comes_l0 nf x l fu l x t) (hit := fun _ => some (l, ())) (miss := some (l ++ [x], ())) (fun t => decide (x = l.getD t.toNat (0, 0, ()))) (fun fu t h0 ht => by
    rw [ref_comes_l0, ref_comes_b0, inb_ok h0 ht, wrap_nn (x := t + 1) (by omega) (by omega)]
    simp only [ht, decide_true, cond_true]
    have : (x.1 == (l.getD t.toNat (0, 0, ())).1 && (x.2.1 == (l.getD t.toNat (0, 0, ())).2.1 && true)) = decide (x = l.getD t.toNat (0, 0, ())) := by
      generalize l.getD t.toNat (0, 0, ()) = y
      obtain ⟨x1, x2, u⟩ := x
      obtain ⟨y1, y2, u'⟩ := y
      by_cases e1 : x1 = y1
      · by_cases e2 : x2 = y2
        · subst e1 e2; simp
        · simp [e2, beq_f e2]
      · simp [e1, beq_f e1]
    rw [this]) (fun fu => by
    have hb : Nat.ble (l.length + 1) lim = true := ble_ok (by omega)
    rw [ref_comes_l0, ref_comes_b0]
    simp only [Int.lt_irrefl, decide_false, cond_false, bimp, List.isEmpty_cons, Bool.not_false, Bool.true_and, List.length_cons, List.length_nil, Nat.zero_add, hb, cond_true]) nf 0 (by omega) (by omega) (by omega)
  simp only [ref_comes_f, ref_comes_p]
  rw [key, show ((l.length : Int) - 0).toNat = l.length by omega]
  unfold addS
  cases hq : findFrom (fun t => decide (x = l.getD t.toNat (0, 0, ()))) l.length 0 with
  | none =>
    have := findFrom_none hq
    rw [if_neg]
    intro hx
    obtain ⟨i, hi, rfl⟩ := List.mem_iff_getElem.1 hx
    have h1 := this i (by omega) (by omega)
    rw [Int.toNat_natCast] at h1
    simp [List.getD, hi] at h1
  | some i =>
    obtain ⟨a, b, c⟩ := findFrom_some hq
    have hx : x ∈ l := by
      rw [decide_eq_true_eq] at c
      rw [c]; exact getD_mem a (by omega)
    rw [if_pos hx]

/-- where the search stands -/
structure Search (p : List Blk) (want v : Int) (st : Spot) (here : List Spot) (k : Nat) : Prop where
  ok : SpotsOK p here
  has : st ∈ here
  from' : ∀ x ∈ here, LiveP p want v x → LiveP p want v st
  done : ∀ t, t < k → ∀ x, here[t]? = some x → ¬ Hit p want v x ∧ ∀ y ∈ succ p v x, y ∈ here

theorem Search.none {st : Spot} {here : List Spot} {k : Nat} (h : Search p want v st here k) (hk : here.length ≤ k) : ¬ LiveP p want v st := by
  have key : ∀ x, LiveP p want v x → x ∈ here → False := by
    intro x hx
    induction hx with
    | hit hh =>
      intro hm
      obtain ⟨t, ht, e⟩ := List.mem_iff_getElem.1 hm
      exact (h.done t (by omega) _ (by rw [List.getElem?_eq_getElem ht, e])).1 hh
    | step hy _ ih =>
      intro hm
      obtain ⟨t, ht, e⟩ := List.mem_iff_getElem.1 hm
      exact ih ((h.done t (by omega) _ (by rw [List.getElem?_eq_getElem ht, e])).2 _ hy)
  exact fun hl => key st hl h.has
theorem Search.next (hp : Good n p) {st : Spot} {here : List Spot} {k : Nat} (h : Search p want v st here k) (hk : k < here.length) (hh : ¬ Hit p want v here[k]) : Search p want v st ((succ p v here[k]).foldl addS here) (k + 1) := by
  have hm : here[k] ∈ here := List.getElem_mem hk
  obtain ⟨r, hr⟩ := adds_pre (succ p v here[k]) here
  refine ⟨⟨adds_nodup _ h.ok.once, fun x hx => ?_⟩, adds_mem.2 (.inl h.has), fun x hx hl => ?_, fun t ht x hx => ?_⟩
  · rcases adds_mem.1 hx with h1 | h1
    · exact h.ok.place x h1
    · exact succ_place hp (h.ok.place _ hm) x h1
  · rcases adds_mem.1 hx with h1 | h1
    · exact h.from' x h1 hl
    · exact h.from' _ hm (.step h1 hl)
  · have hx' : here[t]? = some x := by
      rw [hr] at hx
      rwa [List.getElem?_append_left (by omega)] at hx
    by_cases htk : t < k
    · obtain ⟨h1, h2⟩ := h.done t htk x hx'
      exact ⟨h1, fun y hy => adds_mem.2 (.inl (h2 y hy))⟩
    · have : t = k := by omega
      subst this
      rw [List.getElem?_eq_getElem hk] at hx'
      cases hx'
      exact ⟨hh, fun y hy => adds_mem.2 (.inr hy)⟩

theorem live_l2 (hn : 400 ≤ nf) {k : Int} {h0 : List Spot} {g0 : List Spot → Int → Option (Bool × Unit)} {T : List (List Int)} : ∀ (rest don : List Int) (here : List Spot) (fu : Nat), (don ++ rest).length ≤ 2 → rest.length < fu → here.length + rest.length ≤ 300 →
    ref_Live_l2 nf p want v k h0 g0 fu here T (don ++ rest) ((don ++ rest).length : Int) (don.length : Int) = g0 ((rest.map fun j => ((j, 0, ()) : Spot)).foldl addS here) (IntKind.i64.wrap (k + 1))
  | _, _, _, 0, _, h, _ => by omega
  | [], don, here, fu + 1, _, _, _ => by
    rw [ref_Live_l2, ref_Live_b2]
    simp
  | j :: rest, don, here, fu + 1, hl, hf, hh => by
    have ih := live_l2 hn (k := k) (h0 := h0) (g0 := g0) (T := T) rest (don ++ [j]) (addS here (j, 0, ())) fu (by rw [List.append_assoc]; exact hl) (by simp only [List.length_cons] at hf; omega) (by
      obtain ⟨r, hr⟩ := addS_pre here (j, 0, ())
      have : (addS here (j, 0, ())).length ≤ here.length + 1 := by unfold addS; split <;> simp
      simp only [List.length_cons] at hh; omega)
    rw [List.append_assoc] at ih
    have hlt : (don.length : Int) < ((don ++ j :: rest).length : Int) := by simp; omega
    have hg : (don ++ j :: rest).getD ((don.length : Int)).toNat 0 = j := by simp [List.getD]
    rw [ref_Live_l2, ref_Live_b2, inb_ok (by omega) hlt, hg, comes_F _ _ (by omega) (by omega), wrap_nn (x := (don.length : Int) + 1) (by omega) (by simp only [List.length_append, List.length_cons] at hl; omega)]
    simp only [hlt, decide_true, cond_true, Option.bind_some, List.map_cons, List.foldl_cons]
    rw [← ih]
    simp

theorem live_l0 (hp : Good n p) (hw : W32 want) (hv0 : 0 ≤ v) (hn : 400 ≤ nf) {st : Spot} : ∀ (fu : Nat) (here : List Spot) (k : Nat), Search p want v st here k → k ≤ here.length → 170 ≤ fu + k → ∃ b, ref_Live_l0 nf p want v fu here k = some (b, ()) ∧ (b = true ↔ LiveP p want v st)
  | 0, here, k, hS, hk, hf => by
    have := hS.ok.len hp
    omega
  | fu + 1, here, k, hS, hk, hf => by
    have hlen := hS.ok.len hp
    rw [ref_Live_l0, ref_Live_b0]
    by_cases hlt : k < here.length
    · have hlt' : (k : Int) < (here.length : Int) := by omega
      have hg : here.getD ((k : Int)).toNat (0, 0, ()) = here[k] := by simp [List.getD, hlt]
      have hm : here[k] ∈ here := List.getElem_mem hlt
      obtain ⟨⟨p0, p1⟩, s0, s1⟩ := hS.ok.place _ hm
      have hwk : IntKind.i64.wrap ((k : Int) + 1) = ((k + 1 : Nat) : Int) := by rw [wrap_nn (by omega) (by omega)]; simp
      have hb := blk_mem p0 p1
      have hok := hp.ok _ hb
      obtain ⟨hsg, q1, q2, q3, q4⟩ := blockCode_ok hok
      have hsh := hp.short _ hb
      simp only [hlt', decide_true, cond_true, inb_ok (Int.natCast_nonneg k) hlt', hg, inb_ok p0 p1]
      have hB : p.getD (Int.toNat here[k].1) ([], 0, 0, 0, ()) = blk p here[k].1 := rfl
      rw [hB]
      have hgo : ∀ (hh : ¬ Hit p want v here[k]), ∃ b, ref_Live_l0 nf p want v fu ((succ p v here[k]).foldl addS here) ((k + 1 : Nat) : Int) = some (b, ()) ∧ (b = true ↔ LiveP p want v st) := fun hh => by
        obtain ⟨r, hr⟩ := adds_pre (succ p v here[k]) here
        exact live_l0 hp hw hv0 hn fu _ (k + 1) (hS.next hp hlt hh) (by rw [hr]; simp; omega) (by omega)
      by_cases hc : here[k].2.1 < codeLen p here[k].1
      · have hc' : here[k].2.1 < ((blk p here[k].1).1.length : Int) := hc
        have hst := stepsGo_all hsg _ (getD_mem (d := S0) s0 hc')
        obtain ⟨w, w1, w2, w3⟩ := reads_F (nf := nf) hp.n6 hst
        simp only [hc', decide_true, cond_true, inb_ok s0 hc']
        rw [show ref_Reads_f nf (List.getD (blk p here[k].1).1 (Int.toNat here[k].2.1) (0, 0, 0, 0, 0, ())) = some (w, ()) from w1, Option.bind_some, bit_F nf w2 hv0, Option.bind_some, w3]
        have hvn : ((v.toNat : Nat) : Int) = v := by omega
        rw [hvn]
        by_cases hr : v ∈ rd (stp p here[k])
        · have hr' : v ∈ rd (List.getD (blk p here[k].1).1 here[k].2.1.toNat S0) := hr
          simp only [hr', decide_true, cond_true]
          exact ⟨true, rfl, by simp; exact hS.from' _ hm (.hit (.inl ⟨hc, hr⟩))⟩
        · have hr' : ¬ v ∈ rd (List.getD (blk p here[k].1).1 here[k].2.1.toNat S0) := hr
          simp only [hr', decide_false, cond_false]
          have hh : ¬ Hit p want v here[k] := fun h => h.elim (fun h => hr h.2) (fun h => h.1 hc)
          have hws : IntKind.i64.wrap (here[k].2.1 + 1) = here[k].2.1 + 1 := wrap_nn (by omega) (by omega)
          have hS0 : List.getD (blk p here[k].1).1 (Int.toNat here[k].2.1) (0, 0, 0, 0, 0, ()) = stp p here[k] := rfl
          rw [hS0]
          have hgo := hgo hh
          unfold succ at hgo
          rw [if_pos hc] at hgo
          by_cases ht : (stp p here[k]).2.1 = v
          · rw [if_neg (fun h => h ht)] at hgo
            simp only [ht, bne_self_eq_false, cond_false, hwk]
            exact hgo
          · rw [if_pos ht] at hgo
            rw [bne_t ht, cond_true, hws, comes_F _ _ (by omega) (by omega), Option.bind_some, hwk]
            exact hgo
      · have hc' : ¬ here[k].2.1 < ((blk p here[k].1).1.length : Int) := hc
        simp only [hc', decide_false, cond_false]
        have hnx := nexts_F (nf := nf) hp.p8 (by omega) (fun b hb => by
          obtain ⟨_, a1, _, a3, _⟩ := blockCode_ok (hp.ok b hb)
          exact ⟨a1, a3.imp (fun h => h.1) (fun h => h.1)⟩)
        have hinx : inb here[k].1 (p.map nextOf).length = true := inb_ok p0 (by simpa using p1)
        have hgn : List.getD (p.map nextOf) here[k].1.toNat [] = nextOf (blk p here[k].1) := by
          have : here[k].1.toNat < p.length := by omega
          simp [List.getD, blk, this]
        have h2 : (nextOf (blk p here[k].1)).length ≤ 2 := by
          unfold nextOf
          rw [List.length_append]
          have a1 : (if (blk p here[k].1).2.2.1 ≥ 0 then [(blk p here[k].1).2.2.1] else []).length ≤ 1 := by split <;> simp
          have a2 : (if (blk p here[k].1).2.1 ≥ 0 ∧ (blk p here[k].1).2.2.2.1 ≠ (blk p here[k].1).2.2.1 then [(blk p here[k].1).2.2.2.1] else []).length ≤ 1 := by split <;> simp
          omega
        have hl2 := live_l2 (nf := nf) (p := p) (want := want) (v := v) hn (k := (k : Int)) (h0 := here) (g0 := fun here k' => ref_Live_l0 nf p want v fu here k') (T := p.map nextOf) (nextOf (blk p here[k].1)) [] here nf (by simpa using h2) (by omega) (by omega)
        simp only [List.nil_append, List.length_nil] at hl2
        rw [show ((0 : Nat) : Int) = 0 from rfl, hwk] at hl2
        by_cases t1 : (blk p here[k].1).2.1 = v
        · simp only [t1, beq_self_eq_true, cond_true]
          exact ⟨true, rfl, by simp; exact hS.from' _ hm (.hit (.inr ⟨hc, .inl t1⟩))⟩
        · rw [beq_f t1, cond_false]
          by_cases t2 : (blk p here[k].1).2.1 = -1 ∧ (blk p here[k].1).2.2.1 = -1
          · rw [t2.1, t2.2]
            simp only [beq_self_eq_true, cond_true]
            rw [bit_F nf hw hv0, Option.bind_some]
            cases hbw : bt want v.toNat with
            | true =>
              simp only [cond_true]
              exact ⟨true, rfl, by simp; exact hS.from' _ hm (.hit (.inr ⟨hc, .inr ⟨t2.1, t2.2, hbw⟩⟩))⟩
            | false =>
              have hh : ¬ Hit p want v here[k] := fun h => h.elim (fun h => hc h.1) (fun h => h.2.elim t1 fun h => by rw [hbw] at h; cases h.2.2)
              simp only [cond_false, hnx, Option.bind_some, hinx, cond_true, hgn]
              rw [hl2]
              have hgo := hgo hh
              unfold succ at hgo
              rw [if_neg hc] at hgo
              exact hgo
          · have hh : ¬ Hit p want v here[k] := fun h => h.elim (fun h => hc h.1) (fun h => h.2.elim t1 fun h => t2 ⟨h.1, h.2.1⟩)
            have hgo := hgo hh
            unfold succ at hgo
            rw [if_neg hc] at hgo
            by_cases t3 : (blk p here[k].1).2.1 = -1
            · have t4 : ¬ (blk p here[k].1).2.2.1 = -1 := fun h => t2 ⟨t3, h⟩
              simp only [t3, beq_self_eq_true, cond_true, beq_f t4, cond_false, hnx, Option.bind_some, hinx, hgn]
              rw [hl2]
              exact hgo
            · simp only [beq_f t3, cond_false, hnx, Option.bind_some, hinx, cond_true, hgn]
              rw [hl2]
              exact hgo
    · have : k = here.length := by omega
      subst this
      simp only [Int.lt_irrefl, decide_false, cond_false]
      exact ⟨false, rfl, by simp; exact hS.none (Nat.le_refl _)⟩

theorem rlive_F (hp : Good n p) (hw : W32 want) (hv0 : 0 ≤ v) (hn : 400 ≤ nf) {st : Spot} (hs : Place p st) : ∃ b, ref_Live_f nf p want v st = some (b, ()) ∧ (b = true ↔ LiveP p want v st) := by
  simp only [ref_Live_f, ref_Live_p]
  exact live_l0 hp hw hv0 hn nf [st] 0 ⟨⟨by simp, fun x hx => by simp only [List.mem_singleton] at hx; subst hx; exact hs⟩, by simp, fun x hx hl => by simp only [List.mem_singleton] at hx; subst hx; exact hl, fun t ht => by omega⟩ (by simp) (by omega)
end Go.Proofs.Ytokjogplnoeicaa
